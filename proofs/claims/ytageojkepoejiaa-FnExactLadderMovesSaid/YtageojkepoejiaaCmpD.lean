/-
  Contracts of byDreams and slices.CompareFunc at cells.
-/
import Derived.Test.YtageojkepoejiaaL3Before
import Derived.Test.YtageojkepoejiaaDreamWI
namespace Go.Proofs.Ytageojkepoejiaa
open Go.RowKit Go.Shelf Go.Sort

theorem Laid.below {w w' : World} (h : Laid w w') : Below w.heap.size w w' := by
  obtain ⟨q, os, rfl⟩ := h
  refine (Drew.below (Drew.drewN w q) w.heap.size).trans ?_
  have hz : (w.drewN q).heap.size = w.heap.size := rfl
  exact ⟨rfl, rfl, rfl, by simp [grow], fun k hk => by simp [grow, Array.getElem?_append, hk]⟩
def LowL (xs : List (Int × Int)) : Prop := ∀ p ∈ xs, Low p.1 ∧ Low p.2
theorem cmpD_skip : ∀ {xs ys : List (Int × Int)} {k : Nat}, SameTo xs ys k → k ≤ xs.length → k ≤ ys.length → cmpD xs ys = cmpD (xs.drop k) (ys.drop k)
  | xs, ys, 0, _, _, _ => by rw [List.drop_zero, List.drop_zero]
  | [], _, k + 1, _, h, _ => by simp at h
  | _ :: _, [], k + 1, _, _, h => by simp at h
  | x :: xs, y :: ys, k + 1, h, h1, h2 => by
    have e : x = y := by have := h 0 (by omega); simpa using this
    have h' : SameTo xs ys k := fun j hj => by have := h (j + 1) (by omega); simpa using this
    rw [cmpD, if_pos (cellCmp_zero.2 e), List.drop_succ_cons, List.drop_succ_cons]
    exact cmpD_skip h' (by simpa using h1) (by simpa using h2)
theorem cmpD_at {xs ys : List (Int × Int)} {k : Nat} {x y : Int × Int} (h : SameTo xs ys k) (hx : xs[k]? = some x) (hy : ys[k]? = some y) (hne : cellCmp x y ≠ 0) : cmpD xs ys = cellCmp x y := by
  obtain ⟨h1, e1⟩ := List.getElem?_eq_some_iff.1 hx
  obtain ⟨h2, e2⟩ := List.getElem?_eq_some_iff.1 hy
  rw [cmpD_skip h (by omega) (by omega), List.drop_eq_getElem_cons h1, List.drop_eq_getElem_cons h2, cmpD, e1, e2, if_neg hne]
theorem cmpD_over {xs ys : List (Int × Int)} {n m : Nat} (hn : xs.length = n) (hm : ys.length = m) (h : SameTo xs ys m) (hl : m < n) : cmpD xs ys = 1 := by
  rw [cmpD_skip h (by omega) (by omega), List.drop_of_length_le (l := ys) (by omega), List.drop_eq_getElem_cons (by omega), cmpD]
theorem cmpD_end {xs ys : List (Int × Int)} {n m : Nat} (hn : xs.length = n) (hm : ys.length = m) (h : SameTo xs ys n) (hl : n ≤ m) : cmpD xs ys = if n < m then -1 else 0 := by
  rw [cmpD_skip h (by omega) (by omega), List.drop_of_length_le (l := xs) (by omega)]
  by_cases h1 : n < m
  · rw [if_pos h1, List.drop_eq_getElem_cons (by omega), cmpD]
  · rw [if_neg h1, List.drop_of_length_le (by omega), cmpD]

set_option maxRecDepth 100000 in
set_option maxHeartbeats 1600000 in
theorem compareC_any (a b : Option Addr) (n c m d : Nat) (xs ys : List (Int × Int)) (w : World) (hr : RC w a xs) (hs : RC w b ys) (hn : xs.length = n) (hm : ys.length = m) (hb : n ≤ 1048576) (_hb2 : m ≤ 1048576) (hl1 : LowL xs) (hl2 : LowL ys) :
    Calls Try.prog 127 #[.slice a n c, .slice b m d, .func (.func 54) #[] #[]] w fun e w' => e = .returned (.int .i64 (cmpD xs ys)) ∧ Laid w w' := by
  have Hn := Lib.hid hn; clear hn
  have Hm := Lib.hid hm; clear hm
  have HL1 := Lib.hid hl1; clear hl1
  have HL2 := Lib.hid hl2; clear hl2
  go_enter Try.func127, Try.ntmps127
  go_wp2
  go_loopw [13] (fun iv wr => Hid (∃ k : Nat, k ≤ n ∧ k ≤ m ∧ iv = .int .i64 k ∧ SameTo xs ys k) ∧ Laid w wr) (fun iv _ => n - (intOf iv).toNat)
  case atStart => exact ⟨⟨0, Nat.zero_le _, Nat.zero_le _, rfl, fun j hj => by omega⟩, Laid.refl _⟩
  case round =>
    obtain ⟨HV, hd⟩ := hrel
    obtain ⟨wo, rfl⟩ : ∃ wo : World, wo = wr := ⟨_, rfl⟩
    obtain ⟨k, hkn, hkm, rfl, hsame⟩ := HV.out
    clear HV
    have Hsame := Lib.hid hsame
    clear hsame
    have hBo := Laid.below hd
    by_cases hlt : k < n
    · have q1 : (k : Int) < (n : Int) := by omega
      by_cases hlm : k < m
      · have q2 : (k : Int) < (m : Int) := by omega
        obtain ⟨b1, off, rfl, hcell⟩ := (hr.below hBo).at (k := k) (by rw [Hn.out]; exact hlt)
        obtain ⟨b2, off2, rfl, hcell2⟩ := (hs.below hBo).at (k := k) (by rw [Hm.out]; exact hlm)
        obtain ⟨u, v, hx⟩ := pair_at Hn.out hlt
        obtain ⟨p, q, hy⟩ := pair_at Hm.out hlm
        obtain ⟨hc1, hc2⟩ := hcell _ _ hx
        obtain ⟨hc3, hc4⟩ := hcell2 _ _ hy
        simp only at hc1 hc2 hc3 hc4
        have HU := Lib.hid (HL1.out _ (List.mem_of_getElem? hx))
        have HP := Lib.hid (HL2.out _ (List.mem_of_getElem? hy))
        have Hx := Lib.hid hx
        have Hy := Lib.hid hy
        have hBW : Below wo.heap.size wo (wo.alloc (.cells #[.int .i64 u, .int .i64 v] 60)) := (Below.refl _ _).alloc (Nat.le_refl _) _
        have z3 : (wo.alloc (.cells #[.int .i64 u, .int .i64 v] 60)).cell? ⟨b2, off2 + k * 2, none⟩ = some (.int .i64 p) := by rw [hBW.cell (World.block_lt_of_cell? _ _ hc3)]; exact hc3
        have z4 : (wo.alloc (.cells #[.int .i64 u, .int .i64 v] 60)).cell? ⟨b2, off2 + k * 2 + 1, none⟩ = some (.int .i64 q) := by rw [hBW.cell (World.block_lt_of_cell? _ _ hc4)]; exact hc4
        clear hcell hcell2 hx hy hBW
        obtain ⟨r, hr0⟩ : ∃ r, cellCmp (u, v) (p, q) = r := ⟨_, rfl⟩
        have Hr := Lib.hid hr0
        have hA := Lib.hid (((Laid.refl wo).alloc (.cells #[.int .i64 u, .int .i64 v] 60)).alloc (.cells #[.int .i64 p, .int .i64 q] 60))
        by_cases hz : r = 0
        · have Hnx := Lib.hid (Hsame.out.succ Hx.out (by rw [Hy.out, cellCmp_zero.1 (hr0.trans hz)]))
          subst hz
          clear hr0
          go_wp2_with fail
          refine (isInt (byCells_laid u v p q _ HU.out.1 HU.out.2 HP.out.1 HP.out.2) Hr.out).mono ?_
          rintro e w3 ⟨rfl, hl3⟩
          have hd3 := (hd.trans hA.out).trans hl3
          go_wp2
          go_roundw
          case rel => exact ⟨⟨k + 1, by omega, by omega, by go_num, Hnx.out⟩, hd3⟩
          case measure => simp [intOf]; omega
        · have Hfin := Lib.hid (show cmpD xs ys = r by rw [cmpD_at Hsame.out Hx.out Hy.out (by rw [hr0]; exact hz), hr0])
          have e1 : (r != 0) = true := by simpa using hz
          clear hr0 hz
          go_wp2_with fail
          refine (isInt (byCells_laid u v p q _ HU.out.1 HU.out.2 HP.out.1 HP.out.2) Hr.out).mono ?_
          rintro e w3 ⟨rfl, hl3⟩
          have hd3 := (hd.trans hA.out).trans hl3
          go_wp2
          go_ret
          exact ⟨ret_int Hfin.out.symm, hd3⟩
      · have q2 : ¬ (k : Int) < (m : Int) := by omega
        have q3 : (m : Int) ≤ (k : Int) := by omega
        obtain ⟨b1, off, rfl, hcell⟩ := (hr.below hBo).at (k := k) (by rw [Hn.out]; exact hlt)
        obtain ⟨u, v, hx⟩ := pair_at Hn.out hlt
        obtain ⟨hc1, hc2⟩ := hcell _ _ hx
        simp only at hc1 hc2
        have Hfin := Lib.hid (show cmpD xs ys = 1 from cmpD_over Hn.out Hm.out (by rw [show m = k by omega]; exact Hsame.out) (by omega))
        have hA := Lib.hid ((Laid.refl wo).alloc (.cells #[.int .i64 u, .int .i64 v] 60))
        have hd3 := hd.trans hA.out
        clear hcell hx
        go_wp2
        go_ret
        exact ⟨ret_int Hfin.out.symm, hd3⟩
    · obtain rfl : k = n := by omega
      have he := cmpD_end Hn.out Hm.out Hsame.out hkm
      by_cases hl : k < m
      · rw [if_pos hl] at he
        have q2 : (k : Int) < (m : Int) := by omega
        have He := Lib.hid he
        clear he
        go_wp2
        go_ret
        exact ⟨ret_int He.out.symm, hd⟩
      · rw [if_neg hl] at he
        have q2 : ¬ (k : Int) < (m : Int) := by omega
        have He := Lib.hid he
        clear he
        go_wp2
        go_ret
        exact ⟨ret_int He.out.symm, hd⟩
set_option maxRecDepth 100000 in
set_option maxHeartbeats 1600000 in
theorem byDreams_any (a b : Option Addr) (n c m d : Nat) (xs ys : List (Int × Int)) (w : World) (hr : RC w a xs) (hs : RC w b ys) (hn : xs.length = n) (hm : ys.length = m) (hb : n ≤ 1048576) (hb2 : m ≤ 1048576) (hl1 : LowL xs) (hl2 : LowL ys) :
    Calls Try.prog 95 #[.slice a n c, .slice b m d] w fun e w' => e = .returned (.int .i64 (cmpD xs ys)) ∧ Laid w w' := by
  have Hn := Lib.hid hn; clear hn
  have Hm := Lib.hid hm; clear hm
  have HL1 := Lib.hid hl1; clear hl1
  have HL2 := Lib.hid hl2; clear hl2
  obtain ⟨r, hr0⟩ : ∃ r, cmpD xs ys = r := ⟨_, rfl⟩
  have Hr := Lib.hid hr0
  rw [hr0]
  clear hr0
  go_enter Try.func95, Try.ntmps95
  go_wp2_with fail
  refine (isInt (compareC_any _ _ _ _ _ _ xs ys _ hr hs Hn.out Hm.out hb hb2 HL1.out HL2.out) Hr.out).mono ?_
  rintro e w3 ⟨rfl, hl3⟩
  go_wp2
  go_ret
  exact ⟨rfl, hl3⟩
end Go.Proofs.Ytageojkepoejiaa
