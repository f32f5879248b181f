/-
  Contract of DreamWord, the program's.
-/
import Derived.Test.YtageojkepoejiaaDream
import Derived.Test.YtageojkepoejiaaWordLaw
import Derived.Test.YtageojkepoejiaaSortC
import Derived.Test.YtageojkepoejiaaBuG1
import Derived.Test.YtageojkepoejiaaStepI
namespace Go.Proofs.Ytageojkepoejiaa
open Go.RowKit Go.Shelf Go.Sort

set_option maxRecDepth 100000 in
set_option maxHeartbeats 800000 in
theorem byCells_laid (a b c d : Int) (w : World) (ha : Low a) (hb : Low b) (hc : Low c) (hd : Low d) :
    Calls Try.prog 54 #[.agg #[.int .i64 a, .int .i64 b], .agg #[.int .i64 c, .int .i64 d]] w fun e w' => e = .returned (.int .i64 (cellCmp (a, b) (c, d))) ∧ Laid w w' := by
  obtain ⟨a1, a2⟩ := ha
  obtain ⟨b1, b2⟩ := hb
  obtain ⟨c1, c2⟩ := hc
  obtain ⟨d1, d2⟩ := hd
  have hB := Lib.hid (((Laid.refl w).alloc (.cells #[.int .i64 a, .int .i64 b] 60)).alloc (.cells #[.int .i64 c, .int .i64 d] 60))
  by_cases h1 : a = c
  · have e1 : (a != c) = false := by simp [h1]
    have Hr := Lib.hid (show cellCmp (a, b) (c, d) = b - d by unfold cellCmp; rw [if_pos h1])
    clear h1
    go_enter Try.func54, Try.ntmps54
    go_wp2
    go_ret
    exact ⟨ret_int Hr.out.symm, hB.out⟩
  · have e1 : (a != c) = true := by simp [h1]
    have Hr := Lib.hid (show cellCmp (a, b) (c, d) = a - c by unfold cellCmp; rw [if_neg h1])
    clear h1
    go_enter Try.func54, Try.ntmps54
    go_wp2
    go_ret
    exact ⟨ret_int Hr.out.symm, hB.out⟩

def wordCmp (x y : LowP) : Int := cellCmp (turned x.1) (turned y.1)
theorem wordCmp_lt (x y : LowP) : ltOf wordCmp x y = cellLess (turned x.1) (turned y.1) := cellCmp_less _ _
theorem wordCmp_swo : SWO (ltOf wordCmp) where
  irrefl x := by rw [wordCmp_lt, cellLess_no]; omega
  trans x y z h1 h2 := by rw [wordCmp_lt, cellLess_iff] at *; omega
  ntrans x y z h1 h2 := by rw [wordCmp_lt, cellLess_no] at *; omega
theorem wordCmp_one (x y : LowP) (h1 : ltOf wordCmp x y = false) (h2 : ltOf wordCmp y x = false) : x = y := by
  rw [wordCmp_lt, cellLess_no] at *
  unfold turned at *
  simp only at h1 h2
  exact Subtype.ext (Prod.ext (by omega) (by omega))
theorem wordCmp_le (x y : LowP) : wordLe x.1 y.1 = !(ltOf wordCmp) y x := by rw [wordCmp_lt]; rfl

def dreamWord (n : Int) (xs : List (Int × Int)) : List Int := if isDream n xs = true then wordOf xs else []
theorem dreamWord_no {n : Int} {xs : List (Int × Int)} (h : isDream n xs = false) : dreamWord n xs = [] := by rw [dreamWord, if_neg (by rw [h]; simp)]
theorem dreamWord_ok {n : Int} {xs : List (Int × Int)} (h : isDream n xs = true) : dreamWord n xs = wordOf xs := by rw [dreamWord, if_pos h]
theorem dreamWord_length (n : Int) (xs : List (Int × Int)) : (dreamWord n xs).length ≤ 15 := by
  cases h : isDream n xs
  · rw [dreamWord_no h]; simp
  · rw [dreamWord_ok h, wordOf, List.length_map, (wordCells_perm xs).length_eq]
    exact dream_short (dream_all h).1.2 (dream_all h).2

end Go.Proofs.Ytageojkepoejiaa
