/-
  Contracts of PartsOk, the program's and the reference's.
-/
import Derived.Test.YtleehkgfoicmdaaKP5
import Derived.Test.YtleehkgfoicmdaaShape
import Derived.Test.YtleehkgfoicmdaaLess
namespace Go.Proofs.Ytleehkgfoicmdaa
open Go.RowKit

def partOf (xs : List (List Int × Int)) (k : Nat) : List Int × Int := xs.getD k ([], 0)
def partAt (xs : List (List Int × Int)) (k : Nat) : Bool := isShape (partOf xs k).1 && decide ((partOf xs k).2 ≠ 0) && (k == 0 || less (partOf xs (k - 1)).1 (partOf xs k).1)
def partsOk (xs : List (List Int × Int)) : Bool := (List.range xs.length).all (partAt xs)
theorem partOf_at {xs : List (List Int × Int)} {k : Nat} {p : List Int × Int} (h : xs[k]? = some p) : partOf xs k = p := by simp [partOf, h]
theorem partAt_shape {xs : List (List Int × Int)} {k : Nat} {s : List Int} {c : Int} (h : xs[k]? = some (s, c)) (h1 : isShape s = false) : partAt xs k = false := by
  simp [partAt, partOf_at h, h1]
theorem partAt_zero {xs : List (List Int × Int)} {k : Nat} {s : List Int} {c : Int} (h : xs[k]? = some (s, c)) (h1 : c = 0) : partAt xs k = false := by
  simp [partAt, partOf_at h, h1]
theorem partAt_rise {xs : List (List Int × Int)} {k : Nat} {s t : List Int} {c d : Int} (h : xs[k]? = some (s, c)) (hy : xs[k - 1]? = some (t, d)) (h0 : k ≠ 0) (h1 : less t s = false) : partAt xs k = false := by
  simp [partAt, partOf_at h, partOf_at hy, h1, h0]
theorem partAt_first {xs : List (List Int × Int)} {s : List Int} {c : Int} (h : xs[0]? = some (s, c)) (h1 : isShape s = true) (h2 : c ≠ 0) : partAt xs 0 = true := by
  simp [partAt, partOf_at h, h1, h2]
theorem partAt_next {xs : List (List Int × Int)} {k : Nat} {s t : List Int} {c d : Int} (h : xs[k]? = some (s, c)) (hy : xs[k - 1]? = some (t, d)) (h1 : isShape s = true) (h2 : c ≠ 0) (h3 : less t s = true) : partAt xs k = true := by
  simp [partAt, partOf_at h, partOf_at hy, h1, h2, h3]
theorem partsOk_false {xs : List (List Int × Int)} {k : Nat} (hk : k < xs.length) (h : partAt xs k = false) : partsOk xs = false := by
  unfold partsOk
  rw [List.all_eq_false]
  exact ⟨k, by simpa using hk, by simp [h]⟩
theorem partsOk_true {xs : List (List Int × Int)} (h : ∀ j, j < xs.length → partAt xs j = true) : partsOk xs = true := by
  unfold partsOk
  rw [List.all_eq_true]; intro j hj; exact h j (by simpa using hj)
theorem partsOk_next {xs : List (List Int × Int)} {k : Nat} (h : ∀ j, j < k → partAt xs j = true) (h1 : partAt xs k = true) : ∀ j, j < k + 1 → partAt xs j = true := by
  intro j hj
  rcases Nat.lt_or_ge j k with h2 | h2
  · exact h j h2
  · obtain rfl : j = k := by omega
    exact h1

theorem RP.drew {w w' : World} {a : Option Addr} {xs : List (List Int × Int)} (h : RP w a xs) (d : Drew w w') : RP w' a xs := h.below (d.below _)
set_option maxRecDepth 100000 in
set_option maxHeartbeats 1600000 in
theorem specPartsOk_any (a : Option Addr) (n c : Nat) (xs : List (List Int × Int)) (w : World) (hr : RP w a xs) (hn : xs.length = n) (hb : n ≤ 1048576) (hsh : Short_P xs) :
    Calls Try.prog 46 #[.slice a n c] w fun e w' => e = .returned (.bool (partsOk xs)) ∧ Drew w w' := by
  have Hn := Lib.hid hn; clear hn
  have HSh := Lib.hid hsh; clear hsh
  go_enter Try.func46, Try.ntmps46
  go_wp2
  go_loopw [3] (fun i wr => ∃ k : Nat, k ≤ n ∧ i = .int .i64 k ∧ Hid (∀ j, j < k → partAt xs j = true) ∧ Drew w wr) (fun i _ => n - (intOf i).toNat)
  case atStart => exact ⟨0, Nat.zero_le _, rfl, by intro j hj; omega, Drew.refl _⟩
  case round =>
    obtain ⟨k, hk, rfl, HA, hd⟩ := hrel
    by_cases hlt : k < n
    · obtain ⟨b, off, rfl, hcell⟩ := (hr.drew hd).at (k := k) (by rw [Hn.out]; exact hlt)
      obtain ⟨s, x, hx⟩ := part_at Hn.out hlt
      obtain ⟨a1, c1, hc1, hc2, hri⟩ := hcell k _ hx
      have hsl : s.length ≤ 1048576 := HSh.out (s, x) (List.mem_of_getElem? hx)
      simp only at hc1 hc2 hri
      have hlast : k ≠ 0 → ∃ t d a2 c2, xs[k-1]? = some (t, d) ∧ wr.cell? ⟨b, off + (k-1) * 2, none⟩ = some (.slice a2 t.length c2) ∧ RI wr a2 t ∧ t.length ≤ 1048576 := by
        intro h0
        obtain ⟨t, d, ht⟩ := part_at (k := k - 1) Hn.out (by omega)
        obtain ⟨a2, c2, e1, e2, e3⟩ := hcell (k - 1) _ ht
        exact ⟨t, d, a2, c2, ht, e1, e3, HSh.out (t, d) (List.mem_of_getElem? ht)⟩
      clear hcell
      have Hx := Lib.hid hx; clear hx
      obtain ⟨l, hl⟩ : ∃ l, s.length = l := ⟨_, rfl⟩
      rw [hl] at hc1 hsl
      have Hl := Lib.hid hl; clear hl
      have q1 : (k : Int) < (n : Int) := by omega
      cases hS : isShape s
      · clear hlast
        have HS := Lib.hid hS; clear hS
        go_wp2
        go_quiet ((go_at_call 19; exact quiet (is (specIsShape_any _ _ _ s _ (hri.drew (Drew.drewN _ _)) Hl.out (by omega)) HS.out)))
        go_wp2
        go_ret
        exact ⟨ret_bool (partsOk_false (k := k) (by rw [Hn.out]; exact hlt) (partAt_shape Hx.out HS.out)).symm, hd.trans (Drew.drewN _ _)⟩
      · have HS := Lib.hid hS; clear hS
        by_cases h0 : x = 0
        · clear hlast
          have e0 : (x == 0) = true := by simp [h0]
          have H0 := Lib.hid h0; clear h0
          go_wp2
          go_quiet ((go_at_call 19; exact quiet (is (specIsShape_any _ _ _ s _ (hri.drew (Drew.drewN _ _)) Hl.out (by omega)) HS.out)))
          go_wp2
          go_ret
          exact ⟨ret_bool (partsOk_false (k := k) (by rw [Hn.out]; exact hlt) (partAt_zero Hx.out H0.out)).symm, hd.trans (Drew.drewN _ _)⟩
        · have e0 : (x == 0) = false := by simp [h0]
          have H0 := Lib.hid h0; clear h0
          by_cases hk0 : k = 0
          · clear hlast
            subst hk0
            rw [Nat.zero_mul, Nat.add_zero] at hc1 hc2
            have g0 : decide ((0 : Int) < 0) = false := by decide
            go_wp2
            go_quiet ((go_at_call 19; exact quiet (is (specIsShape_any _ _ _ s _ (hri.drew (Drew.drewN _ _)) Hl.out (by omega)) HS.out)))
            go_wp2
            go_roundw
            case rel => exact ⟨1, by omega, rfl, partsOk_next HA.out (partAt_first Hx.out HS.out H0.out), hd.trans (Drew.drewN _ _)⟩
            case measure => simp [intOf]; omega
          · obtain ⟨t, d, a2, c2, ht, hc3, hri2, htl⟩ := hlast hk0
            clear hlast
            have Ht := Lib.hid ht; clear ht
            obtain ⟨l2, hl2⟩ : ∃ l, t.length = l := ⟨_, rfl⟩
            rw [hl2] at hc3 htl
            have Hl2 := Lib.hid hl2; clear hl2
            have g0 : 0 < k := by omega
            have g1 : (0 : Int) ≤ (k : Int) - 1 := by omega
            have g2 : (k : Int) - 1 < (n : Int) := by omega
            have g3 : IntKind.i64.wrap ((k : Int) - 1) = (k : Int) - 1 := IntWalk.i64_in _ (by omega)
            have g4 : ((k : Int) - 1).toNat = k - 1 := by omega
            cases hL : less t s
            · have HL := Lib.hid hL; clear hL
              go_wp2
              go_quiet ((first | (go_at_call 19; exact quiet (is (specIsShape_any _ _ _ s _ (hri.drew (Drew.drewN _ _)) Hl.out (by omega)) HS.out)) | (go_at_call 82; exact quiet (is (l1Less_any _ _ _ _ _ _ t s _ (hri2.drew (Drew.drewN _ _)) (hri.drew (Drew.drewN _ _)) Hl2.out Hl.out (by omega) (by omega)) HL.out))))
              clear g3 g4
              go_wp2
              go_ret
              exact ⟨ret_bool (partsOk_false (k := k) (by rw [Hn.out]; exact hlt) (partAt_rise Hx.out Ht.out hk0 HL.out)).symm, hd.trans (Drew.drewN _ _)⟩
            · have HL := Lib.hid hL; clear hL
              go_wp2
              go_quiet ((first | (go_at_call 19; exact quiet (is (specIsShape_any _ _ _ s _ (hri.drew (Drew.drewN _ _)) Hl.out (by omega)) HS.out)) | (go_at_call 82; exact quiet (is (l1Less_any _ _ _ _ _ _ t s _ (hri2.drew (Drew.drewN _ _)) (hri.drew (Drew.drewN _ _)) Hl2.out Hl.out (by omega) (by omega)) HL.out))))
              clear g3 g4
              go_wp2
              go_roundw
              case rel => exact ⟨k + 1, by omega, by go_num, partsOk_next HA.out (partAt_next Hx.out Ht.out HS.out H0.out HL.out), hd.trans (Drew.drewN _ _)⟩
              case measure => simp [intOf]; omega
    · obtain rfl : k = n := by omega
      go_wp2
      go_ret
      exact ⟨ret_bool (partsOk_true (by rw [Hn.out]; exact HA.out)).symm, hd⟩
set_option maxRecDepth 100000 in
set_option maxHeartbeats 1600000 in
theorem implPartsOk_any (a : Option Addr) (n c : Nat) (xs : List (List Int × Int)) (w : World) (hr : RP w a xs) (hn : xs.length = n) (hb : n ≤ 1048576) (hsh : Short_P xs) :
    Calls Try.prog 48 #[.slice a n c] w fun e w' => e = .returned (.bool (partsOk xs)) ∧ Below w.heap.size w w' := by
  have Hn := Lib.hid hn; clear hn
  have HSh := Lib.hid hsh; clear hsh
  go_enter Try.func48, Try.ntmps48
  go_wp2
  go_loopw [7] (fun i wr => ∃ k : Nat, k ≤ n ∧ i = .int .i64 k ∧ Hid (∀ j, j < k → partAt xs j = true) ∧ Below w.heap.size w wr) (fun i _ => n - (intOf i).toNat)
  case atStart => exact ⟨0, Nat.zero_le _, rfl, by intro j hj; omega, Below.refl _ _⟩
  case round =>
    obtain ⟨k, hk, rfl, HA, hd⟩ := hrel
    by_cases hlt : k < n
    · obtain ⟨b, off, rfl, hcell⟩ := (hr.below hd).at (k := k) (by rw [Hn.out]; exact hlt)
      obtain ⟨s, x, hx⟩ := part_at Hn.out hlt
      obtain ⟨a1, c1, hc1, hc2, hri⟩ := hcell k _ hx
      have hsl : s.length ≤ 1048576 := HSh.out (s, x) (List.mem_of_getElem? hx)
      simp only at hc1 hc2 hri
      have hlast : k ≠ 0 → ∃ t d a2 c2, xs[k-1]? = some (t, d) ∧ wr.cell? ⟨b, off + (k-1) * 2, none⟩ = some (.slice a2 t.length c2) ∧ RI wr a2 t ∧ t.length ≤ 1048576 := by
        intro h0
        obtain ⟨t, d, ht⟩ := part_at (k := k - 1) Hn.out (by omega)
        obtain ⟨a2, c2, e1, e2, e3⟩ := hcell (k - 1) _ ht
        exact ⟨t, d, a2, c2, ht, e1, e3, HSh.out (t, d) (List.mem_of_getElem? ht)⟩
      clear hcell
      have Hx := Lib.hid hx; clear hx
      obtain ⟨l, hl⟩ : ∃ l, s.length = l := ⟨_, rfl⟩
      rw [hl] at hc1 hsl
      have Hl := Lib.hid hl; clear hl
      have q1 : (k : Int) < (n : Int) := by omega
      obtain ⟨W, hW⟩ : ∃ W, wr.alloc (.cells #[.slice a1 l c1, .int .i64 x] 71) = W := ⟨_, rfl⟩
      have hBW : Below wr.heap.size wr W := by rw [← hW]; exact (Below.refl _ _).alloc (Nat.le_refl _) _
      have hdW := hd.trans (hBW.mono hd.size)
      have g0 : W.heap[wr.heap.size]? = some (.cells #[.slice a1 l c1, .int .i64 x] 71) := by rw [← hW]; exact heap_alloc_new wr _
      have p0 : W.cell? ⟨wr.heap.size, 0, none⟩ = some (.slice a1 l c1) := by rw [cell_of_row W _ 0 _ _ (0, 0) g0]; rfl
      have p1 : W.cell? ⟨wr.heap.size, 1, none⟩ = some (.int .i64 x) := by rw [cell_of_row W _ 1 _ _ (0, 0) g0]; rfl
      have hriW := hri.below hBW
      clear g0
      cases hS : isShape s
      · clear hlast
        have HS := Lib.hid hS; clear hS
        go_wp2
        go_quiet ((go_at_call 21; exact quiet (is (implIsShape_any _ _ _ s _ (hriW.drew (Drew.drewN _ _)) Hl.out (by omega)) HS.out)))
        go_wp2
        go_ret
        exact ⟨ret_bool (partsOk_false (k := k) (by rw [Hn.out]; exact hlt) (partAt_shape Hx.out HS.out)).symm, hdW.trans (Drew.below (Drew.drewN _ _) _)⟩
      · have HS := Lib.hid hS; clear hS
        by_cases h0 : x = 0
        · clear hlast
          have e0 : (x == 0) = true := by simp [h0]
          have H0 := Lib.hid h0; clear h0
          go_wp2
          go_quiet ((go_at_call 21; exact quiet (is (implIsShape_any _ _ _ s _ (hriW.drew (Drew.drewN _ _)) Hl.out (by omega)) HS.out)))
          go_wp2
          go_ret
          exact ⟨ret_bool (partsOk_false (k := k) (by rw [Hn.out]; exact hlt) (partAt_zero Hx.out H0.out)).symm, hdW.trans (Drew.below (Drew.drewN _ _) _)⟩
        · have e0 : (x == 0) = false := by simp [h0]
          have H0 := Lib.hid h0; clear h0
          by_cases hk0 : k = 0
          · clear hlast
            subst hk0
            rw [Nat.zero_mul, Nat.add_zero] at hc1 hc2
            have g0 : decide ((0 : Int) < 0) = false := by decide
            go_wp2
            go_quiet ((go_at_call 21; exact quiet (is (implIsShape_any _ _ _ s _ (hriW.drew (Drew.drewN _ _)) Hl.out (by omega)) HS.out)))
            go_wp2
            go_roundw
            case rel => exact ⟨1, by omega, rfl, partsOk_next HA.out (partAt_first Hx.out HS.out H0.out), hdW.trans (Drew.below (Drew.drewN _ _) _)⟩
            case measure => simp [intOf]; omega
          · obtain ⟨t, d, a2, c2, ht, hc3, hri2, htl⟩ := hlast hk0
            clear hlast
            have Ht := Lib.hid ht; clear ht
            obtain ⟨l2, hl2⟩ : ∃ l, t.length = l := ⟨_, rfl⟩
            rw [hl2] at hc3 htl
            have Hl2 := Lib.hid hl2; clear hl2
            have hc4 : W.cell? ⟨b, off + (k-1) * 2, none⟩ = some (.slice a2 l2 c2) := by rw [hBW.cell (World.block_lt_of_cell? wr _ hc3)]; exact hc3
            clear hc3
            have g0 : 0 < k := by omega
            have g1 : (0 : Int) ≤ (k : Int) - 1 := by omega
            have g2 : (k : Int) - 1 < (n : Int) := by omega
            have g3 : IntKind.i64.wrap ((k : Int) - 1) = (k : Int) - 1 := IntWalk.i64_in _ (by omega)
            have g4 : ((k : Int) - 1).toNat = k - 1 := by omega
            cases hL : less t s
            · have HL := Lib.hid hL; clear hL
              obtain ⟨o, ho⟩ : ∃ o, order t s = o := ⟨_, rfl⟩
              have HO := Lib.hid ho
              have ho2 : decide (0 ≤ o) = !(less t s) := by rw [less_order, ho]; by_cases h : o < 0 <;> simp [h] <;> omega
              rw [HL.out] at ho2
              simp only [Bool.not_false] at ho2
              clear ho
              go_wp2
              go_quiet ((first | (go_at_call 21; exact quiet (is (implIsShape_any _ _ _ s _ (hriW.drew (Drew.drewN _ _)) Hl.out (by omega)) HS.out)) | (go_at_call 84; exact quiet ((isInt (compare_any _ _ _ _ _ _ t s _ ((hri2.below hBW).drew (Drew.drewN _ _)) (hriW.drew (Drew.drewN _ _)) Hl2.out Hl.out (by omega) (by omega)) HO.out).mono fun _ _ ⟨he, hw⟩ => ⟨he, hw ▸ Drew.refl _⟩))))
              clear g3 g4
              go_wp2
              go_ret
              exact ⟨ret_bool (partsOk_false (k := k) (by rw [Hn.out]; exact hlt) (partAt_rise Hx.out Ht.out hk0 HL.out)).symm, hdW.trans (Drew.below (Drew.drewN _ _) _)⟩
            · have HL := Lib.hid hL; clear hL
              obtain ⟨o, ho⟩ : ∃ o, order t s = o := ⟨_, rfl⟩
              have HO := Lib.hid ho
              have ho2 : decide (0 ≤ o) = !(less t s) := by rw [less_order, ho]; by_cases h : o < 0 <;> simp [h] <;> omega
              rw [HL.out] at ho2
              simp only [Bool.not_true] at ho2
              clear ho
              go_wp2
              go_quiet ((first | (go_at_call 21; exact quiet (is (implIsShape_any _ _ _ s _ (hriW.drew (Drew.drewN _ _)) Hl.out (by omega)) HS.out)) | (go_at_call 84; exact quiet ((isInt (compare_any _ _ _ _ _ _ t s _ ((hri2.below hBW).drew (Drew.drewN _ _)) (hriW.drew (Drew.drewN _ _)) Hl2.out Hl.out (by omega) (by omega)) HO.out).mono fun _ _ ⟨he, hw⟩ => ⟨he, hw ▸ Drew.refl _⟩))))
              clear g3 g4
              go_wp2
              go_roundw
              case rel => exact ⟨k + 1, by omega, by go_num, partsOk_next HA.out (partAt_next Hx.out Ht.out HS.out H0.out HL.out), hdW.trans (Drew.below (Drew.drewN _ _) _)⟩
              case measure => simp [intOf]; omega
    · obtain rfl : k = n := by omega
      go_wp2
      go_ret
      exact ⟨ret_bool (partsOk_true (by rw [Hn.out]; exact HA.out)).symm, hd⟩
theorem parts_spec (a : Option Addr) (n c : Nat) (xs : List (List Int × Int)) (w : World) (hr : RP w a xs) (hn : xs.length = n) (hb : n ≤ 1048576) (hsh : Short_P xs) :
    Calls Try.prog 46 #[.slice a n c] w fun e w' => ∃ b, e = .returned (.bool b) ∧ Hid (b = partsOk xs) ∧ Below w.heap.size w w' :=
  (specPartsOk_any a n c xs w hr hn hb hsh).mono fun _ _ ⟨he, hd⟩ => ⟨_, he, rfl, hd.below _⟩
theorem parts_impl (a : Option Addr) (n c : Nat) (xs : List (List Int × Int)) (w : World) (hr : RP w a xs) (hn : xs.length = n) (hb : n ≤ 1048576) (hsh : Short_P xs) :
    Calls Try.prog 48 #[.slice a n c] w fun e w' => ∃ b, e = .returned (.bool b) ∧ Hid (b = partsOk xs) ∧ Below w.heap.size w w' :=
  (implPartsOk_any a n c xs w hr hn hb hsh).mono fun _ _ ⟨he, hd⟩ => ⟨_, he, rfl, hd⟩
end Go.Proofs.Ytleehkgfoicmdaa
