/-
  Contracts of DreamWord, the program's and the reference's.
-/
import Derived.Test.YtnjfbgdighaiiaaDream2
import Derived.Test.YtnjfbgdighaiiaaWordLaw
import Derived.Test.YtnjfbgdighaiiaaSortC
import Derived.Test.YtnjfbgdighaiiaaCloneC
namespace Go.Proofs.Ytnjfbgdighaiiaa
open Go.RowKit Go.Shelf Go.Sort

set_option maxRecDepth 100000 in
set_option maxHeartbeats 800000 in
theorem byCells_laid (a b c d : Int) (w : World) (ha : Low a) (hb : Low b) (hc : Low c) (hd : Low d) :
    Calls Try.prog 98 #[.agg #[.int .i64 a, .int .i64 b], .agg #[.int .i64 c, .int .i64 d]] w fun e w' => e = .returned (.int .i64 (cellCmp (a, b) (c, d))) ∧ Laid w w' := by
  obtain ⟨a1, a2⟩ := ha
  obtain ⟨b1, b2⟩ := hb
  obtain ⟨c1, c2⟩ := hc
  obtain ⟨d1, d2⟩ := hd
  have hB := Lib.hid (((Laid.refl w).alloc (.cells #[.int .i64 a, .int .i64 b] 44)).alloc (.cells #[.int .i64 c, .int .i64 d] 44))
  by_cases h1 : a = c
  · have e1 : (a != c) = false := by simp [h1]
    have Hr := Lib.hid (show cellCmp (a, b) (c, d) = b - d by unfold cellCmp; rw [if_pos h1])
    clear h1
    go_enter Try.func98, Try.ntmps98
    go_wp2
    go_ret
    exact ⟨ret_int Hr.out.symm, hB.out⟩
  · have e1 : (a != c) = true := by simp [h1]
    have Hr := Lib.hid (show cellCmp (a, b) (c, d) = a - c by unfold cellCmp; rw [if_neg h1])
    clear h1
    go_enter Try.func98, Try.ntmps98
    go_wp2
    go_ret
    exact ⟨ret_int Hr.out.symm, hB.out⟩

def wordCmp (x y : LowP) : Int := cellCmp (turned x.1) (turned y.1)
theorem wordCmp_lt (x y : LowP) : ltOf wordCmp x y = cellLess (turned x.1) (turned y.1) := cellCmp_less _ _
theorem wordCmp_swo : SWO (ltOf wordCmp) where
  irrefl x := by rw [wordCmp_lt, cellLess_no]; omega
  trans x y z h1 h2 := by rw [wordCmp_lt, cellLess_iff] at *; omega
  ntrans x y z h1 h2 := by rw [wordCmp_lt, cellLess_no] at *; omega
theorem wordCmp_one (x y : LowP) (h1 : ltOf wordCmp x y = false) (h2 : ltOf wordCmp y x = false) : x = y := by
  rw [wordCmp_lt, cellLess_no] at *
  unfold turned at *
  simp only at h1 h2
  exact Subtype.ext (Prod.ext (by omega) (by omega))
theorem wordCmp_le (x y : LowP) : wordLe x.1 y.1 = !(ltOf wordCmp) y x := by rw [wordCmp_lt]; rfl

set_option maxRecDepth 100000 in
set_option maxHeartbeats 800000 in
theorem wordCmp_laid (x y : LowP) (w : World) :
    Calls Try.prog 97 #[.agg (encP x).toArray, .agg (encP y).toArray] w fun e w' => e = .returned (.int .i64 (wordCmp x y)) ∧ Laid w w' := by
  obtain ⟨⟨a, b⟩, ⟨a1, a2⟩, b1, b2⟩ := x
  obtain ⟨⟨c, d⟩, ⟨c1, c2⟩, d1, d2⟩ := y
  simp only at a1 a2 b1 b2 c1 c2 d1 d2
  have hB := Lib.hid (((Laid.refl w).alloc (.cells #[.int .i64 a, .int .i64 b] 44)).alloc (.cells #[.int .i64 c, .int .i64 d] 44))
  unfold encP wordCmp turned
  simp only
  generalize hr : cellCmp (a, -b) (c, -d) = r
  have Hr := Lib.hid hr; clear hr
  go_enter Try.func97, Try.ntmps97
  go_wp2_with fail
  refine (byCells_laid a (-b) c (-d) _ (by unfold Low; omega) (by unfold Low; omega) (by unfold Low; omega) (by unfold Low; omega)).mono ?_
  rintro e w2 ⟨rfl, hl⟩
  rw [Hr.out]
  have hB2 := hB.out.trans hl
  go_wp2
  go_ret
  exact ⟨rfl, hB2⟩

def dreamWord (n : Int) (xs : List (Int × Int)) : List Int := if isDream n xs = true then wordOf xs else []
theorem dreamWord_no {n : Int} {xs : List (Int × Int)} (h : isDream n xs = false) : dreamWord n xs = [] := by rw [dreamWord, if_neg (by rw [h]; simp)]
theorem dreamWord_ok {n : Int} {xs : List (Int × Int)} (h : isDream n xs = true) : dreamWord n xs = wordOf xs := by rw [dreamWord, if_pos h]
theorem dreamWord_length (n : Int) (xs : List (Int × Int)) : (dreamWord n xs).length ≤ 15 := by
  cases h : isDream n xs
  · rw [dreamWord_no h]; simp
  · rw [dreamWord_ok h, wordOf, List.length_map, (wordCells_perm xs).length_eq]
    exact dream_short (dream_all h).1.2 (dream_all h).2

set_option maxRecDepth 100000 in
set_option maxHeartbeats 1600000 in
theorem specDW_any (N : Int) (a : Option Addr) (n c : Nat) (xs : List (Int × Int)) (w : World) (hl : -9223372036854775808 ≤ N) (hu : N ≤ 9223372036854775807) (hr : RC w a xs) (hn : xs.length = n) (hb : n ≤ 1048576) (_hs : Short_C xs) :
    Calls Try.prog 39 #[.int .i64 N, .slice a n c] w fun e w' => ∃ a' n' c' r, e = .returned (.tuple #[.slice a' n' c', .bool r]) ∧ OwI w' w.heap.size w'.heap.size a' n' c' (dreamWord N xs) ∧ Hid (r = isDream N xs) ∧ Below w.heap.size w w' := by
  have Hn := Lib.hid hn; clear hn
  cases hd : isDream N xs
  · have Hd := Lib.hid hd
    have Hw := Lib.hid (dreamWord_no hd); clear hd
    go_enter Try.func39, Try.ntmps39
    go_wp2_with fail
    refine (is (specDream_any N _ _ _ xs _ hl hu hr Hn.out hb) Hd.out).mono ?_
    rintro e w1 ⟨rfl, hb1⟩
    go_wp2
    go_ret2
    exact ⟨_, _, _, _, rfl, by rw [Hw.out]; exact OwI.nil, rfl, hb1⟩
  · have Hd := Lib.hid hd
    have Hw := Lib.hid (dreamWord_ok hd)
    have Hlow := Lib.hid (dream_low hd); clear hd
    go_enter Try.func39, Try.ntmps39
    go_wp2_with fail
    refine (is (specDream_any N _ _ _ xs _ hl hu hr Hn.out hb) Hd.out).mono ?_
    rintro e w1 ⟨rfl, hb1⟩
    have hr1 := hr.below hb1
    go_wp2_with fail
    refine (l3Word_any _ _ _ xs _ hr1 Hn.out hb Hlow.out).mono ?_
    rintro e w2 ⟨a', n', c', rfl, ho, hb2⟩
    have hB2 := hb1.trans (hb2.mono hb1.size)
    have ho2 := ho.mono (B' := w.heap.size) (S' := w2.heap.size) hb1.size (Nat.le_refl _)
    go_wp2
    go_ret2
    exact ⟨_, _, _, _, rfl, by rw [Hw.out]; exact ho2, rfl, hB2⟩

set_option maxRecDepth 100000 in
set_option maxHeartbeats 1600000 in
theorem implDW_any (N : Int) (a : Option Addr) (n c : Nat) (xs : List (Int × Int)) (w : World) (hl : -9223372036854775808 ≤ N) (hu : N ≤ 9223372036854775807) (hr : RC w a xs) (hn : xs.length = n) (hb : n ≤ 1048576) (_hs : Short_C xs) :
    Calls Try.prog 41 #[.int .i64 N, .slice a n c] w fun e w' => ∃ a' n' c' r, e = .returned (.tuple #[.slice a' n' c', .bool r]) ∧ OwI w' w.heap.size w'.heap.size a' n' c' (dreamWord N xs) ∧ Hid (r = isDream N xs) ∧ Below w.heap.size w w' := by
  have Hn := Lib.hid hn; clear hn
  cases hd : isDream N xs
  · have Hd := Lib.hid hd
    have Hw := Lib.hid (dreamWord_no hd); clear hd
    go_enter Try.func41, Try.ntmps41
    go_wp2_with fail
    refine (is (implDream_any N _ _ _ xs _ hl hu hr Hn.out hb) Hd.out).mono ?_
    rintro e w1 ⟨rfl, hb1⟩
    go_wp2
    go_ret2
    exact ⟨_, _, _, _, rfl, by rw [Hw.out]; exact OwI.nil, rfl, hb1⟩
  have Hd := Lib.hid hd
  have Hw := Lib.hid (dreamWord_ok hd)
  have hlow := dream_low hd
  have Hlow := Lib.hid (show ∀ p ∈ xs, Low p.1 ∧ Low p.2 from fun p hp => by obtain ⟨k, hk⟩ := List.getElem?_of_mem hp; exact hlow k p hk)
  have Hsort := Lib.hid (word_sorted hd)
  clear hd hlow
  go_enter Try.func41, Try.ntmps41
  go_wp2_with fail
  refine (is (implDream_any N _ _ _ xs _ hl hu hr Hn.out hb) Hd.out).mono ?_
  rintro e w1 ⟨rfl, hb1⟩
  have hr1 := hr.below hb1
  go_wp2_with fail
  refine (cloneC_any _ _ _ xs _ hr1 Hn.out hb).mono ?_
  rintro e w2 ⟨al, cl, rfl, hol, hb2⟩
  have hB2 := hb1.trans (hb2.mono hb1.size)
  have hz1 := hb1.size
  have hz2 := hb2.size
  clear hr1
  go_wp2_with fail
  refine (sortC_any wordCmp wordCmp_swo wordCmp_one wordLe wordCmp_le 97 (fun args w => by kernel_rfl) wordCmp_laid _ _ _ _ _ xs _ hol Hlow.out hb).mono ?_
  rintro e w3 ⟨rfl, hos, hon⟩
  rw [Hsort.out] at hos
  have hB3 := hon.below hB2 hz1 (Nat.le_trans hz1 hz2)
  have hz3 := hon.size
  have hrs := hos.rd
  have hln := Lib.hid hos.len
  have Hlow2 := Lib.hid (show ∀ p ∈ wordCells xs, Low p.1 ∧ Low p.2 from fun p hp => Hlow.out p ((wordCells_perm xs).mem_iff.1 hp))
  clear hol hos hon hb1 hb2 hB2
  have h1 : OwI (w3.alloc (.cells #[] 3)) w3.heap.size (w3.alloc (.cells #[] 3)).heap.size (some ⟨w3.heap.size, 0, none⟩) 0 0 [] := OwI.mk (World.ownsRow_made _ #[] 0 (Nat.le_refl _) (Nat.zero_le _) rfl)
  have hB0 : Below w3.heap.size w3 (w3.alloc (.cells #[] 3)) := (Below.refl _ _).alloc (Nat.le_refl _) _
  go_wp2
  go_loopw [7, 21] (fun ov kv wr => Hid (∃ (k : Nat) (a' : Option Addr) (c' : Nat), k ≤ n ∧ kv = .int .i64 k ∧ ov = .slice a' k c' ∧ OwI wr w3.heap.size wr.heap.size a' k c' (((wordCells xs).map csum).take k)) ∧ Below w3.heap.size w3 wr) (fun _ k _ => n - (intOf k).toNat)
  case atStart => exact ⟨⟨0, _, _, Nat.zero_le _, rfl, rfl, h1⟩, hB0⟩
  case round =>
    clear h1 hB0
    obtain ⟨HV, hB⟩ := hrel
    obtain ⟨wo, rfl⟩ : ∃ wo : World, wo = wr := ⟨_, rfl⟩
    obtain ⟨k, a1, c1, hk, rfl, rfl, ho⟩ := HV.out
    clear HV
    have hbs := hB.size
    by_cases hlt : k < n
    · obtain ⟨b, off, rfl, hcell⟩ := (hrs.below hB).at (k := k) (by rw [hln.out]; exact hlt)
      obtain ⟨x, y, hx⟩ := pair_at hln.out hlt
      obtain ⟨hc1, hc2⟩ := hcell _ _ hx
      clear hcell
      simp only at hc1 hc2
      obtain ⟨⟨l1, l2⟩, l3, l4⟩ := Hlow2.out _ (List.mem_of_getElem? hx)
      simp only at l1 l2 l3 l4
      have Hstep := Lib.hid (show ((wordCells xs).map csum).take k ++ [x + y] = ((wordCells xs).map csum).take (k + 1) by rw [List.take_add_one, List.getElem?_map, hx]; rfl)
      clear hx
      have hBc : Below wo.heap.size wo (wo.alloc (.cells #[.int .i64 x, .int .i64 y] 44)) := (Below.refl _ _).alloc (Nat.le_refl _) _
      have HO := Lib.hid (ho.below hBc)
      have hB1 := hB.trans (hBc.mono hbs)
      have hs1 : w3.heap.size ≤ (wo.alloc (.cells #[.int .i64 x, .int .i64 y] 44)).heap.size := hB1.size
      clear ho
      have q1 : (k : Int) < (n : Int) := by omega
      go_wp2_with (first | (at_builtin; go_loud (refine wpList_pushIs (by rfl) (by rfl) _ _ (by rfl) HO.out (by rfl) (by rfl) (by simp) (by omega) hs1 ?_)))
      intro a3 c3 w4 ho3 hg3
      have hB4 := below_grown hB1 hg3.grown hs1 HO.out.1.lo
      rw [Hstep.out] at ho3
      have HO3 := Lib.hid ho3
      clear ho3 HO hg3 hB1 hBc
      go_wp2
      go_roundw
      case rel => exact ⟨⟨k + 1, _, _, by omega, by go_num, rfl, HO3.out⟩, hB4⟩
      case measure => simp [intOf]; omega
    · obtain rfl : k = n := by omega
      rw [List.take_of_length_le (by rw [List.length_map, hln.out]; exact Nat.le_refl _)] at ho
      have HO := Lib.hid (ho.mono (B' := w.heap.size) (S' := wo.heap.size) hB3.size (Nat.le_refl _))
      have hB5 := hB3.trans (hB.mono hB3.size)
      clear ho
      go_wp2
      go_ret2
      exact ⟨_, _, _, _, rfl, by rw [Hw.out]; exact HO.out, rfl, hB5⟩
end Go.Proofs.Ytnjfbgdighaiiaa
