/-
  Contracts of IsPerm, the program's and the reference's.
-/
import Derived.Test.YtnjfbgdighaiiaaL1In
namespace Go.Proofs.Ytnjfbgdighaiiaa
open Go.RowKit

def permAt (xs : List Int) (k : Nat) : Bool :=
  decide (0 ≤ xs.getD k 0) && decide (xs.getD k 0 < xs.length) && !((xs.take k).contains (xs.getD k 0))
def isPerm (xs : List Int) : Bool := decide (1 ≤ xs.length) && decide (xs.length ≤ 7) && (List.range xs.length).all (permAt xs)

theorem isPerm_false {xs : List Int} {k : Nat} (hk : k < xs.length) (h : permAt xs k = false) : isPerm xs = false := by
  simp only [isPerm, Bool.and_eq_false_iff]
  right
  rw [List.all_eq_false]
  exact ⟨k, by simpa using hk, by simp [h]⟩
theorem isPerm_true {xs : List Int} (h1 : 1 ≤ xs.length) (h2 : xs.length ≤ 7) (h : ∀ j, j < xs.length → permAt xs j = true) : isPerm xs = true := by
  have : (List.range xs.length).all (permAt xs) = true := by
    rw [List.all_eq_true]; intro j hj; exact h j (by simpa using hj)
  simp [isPerm, this, h1, h2]
theorem perm_len {xs : List Int} (h : isPerm xs = true) : 1 ≤ xs.length ∧ xs.length ≤ 7 := by
  simp [isPerm] at h; exact ⟨by omega, h.1.2⟩
theorem perm_at {xs : List Int} (h : isPerm xs = true) {k : Nat} {x : Int} (hx : xs[k]? = some x) : 0 ≤ x ∧ x < xs.length := by
  have hk := (List.getElem?_eq_some_iff.1 hx).1
  simp only [isPerm, Bool.and_eq_true, List.all_eq_true] at h
  have := h.2 k (by simpa using hk)
  simp only [permAt, getD_of hx, Bool.and_eq_true, decide_eq_true_eq] at this
  exact this.1

set_option maxHeartbeats 400000 in
theorem l1Has_any (a : Option Addr) (n c : Nat) (xs : List Int) (x : Int) (w : World) (hr : RI w a xs) (hn : xs.length = n) (hb : n ≤ 17592186044416) :
    Calls Try.prog 130 #[.slice a n c, .int .i64 x] w fun e w' => e = .returned (.bool (xs.contains x)) ∧ Drew w w' := by
  have Hn := Lib.hid hn; clear hn
  go_enter Try.func130, Try.ntmps130
  go_wp2
  go_loop [5] (fun i => ∃ k : Nat, k ≤ n ∧ i = .int .i64 k ∧ Hid ((xs.take k).contains x = false)) (fun i => n - (intOf i).toNat)
  case atStart => exact ⟨0, Nat.zero_le _, rfl, by exact rfl⟩
  case round =>
    obtain ⟨k, hk, rfl, HA⟩ := hrel
    by_cases hlt : k < n
    · obtain ⟨b, off, rfl, hcell⟩ := hr.at (k := k) (by rw [Hn.out]; exact hlt)
      obtain ⟨y, hy⟩ := some_at Hn.out hlt
      have hc := hcell k y hy
      have Hy := Lib.hid hy; clear hy
      clear hcell
      by_cases h1 : y = x
      · have hb1 : (y == x) = true := by simp [h1]
        go_wp2
        go_ret
        exact ⟨ret_bool (by have := List.mem_of_getElem? Hy.out; rw [h1] at this; simp [this]), Drew.refl _⟩
      · have hb1 : (y == x) = false := by simp [h1]
        go_wp2
        go_round
        case rel => exact ⟨k + 1, by omega, by go_num, by
          rw [List.take_add_one, Hy.out]
          have := HA.out
          simp only [List.contains_eq_mem, decide_eq_false_iff_not] at this
          simp [this]
          intro h; exact h1 h.symm⟩
        case measure => simp [intOf]; omega
    · obtain rfl : k = n := by omega
      go_wp2
      go_ret
      exact ⟨ret_bool (by have := HA.out; rw [List.take_of_length_le (by rw [Hn.out]; omega)] at this; rw [← this]; simp), Drew.refl _⟩

set_option maxRecDepth 100000 in
set_option maxHeartbeats 1600000 in
theorem specIsPerm_any (a : Option Addr) (n c : Nat) (xs : List Int) (w : World) (hr : RI w a xs) (hn : xs.length = n) (hb : n ≤ 17592186044416) (hcap : n ≤ c) :
    Calls Try.prog 66 #[.slice a n c] w fun e w' => e = .returned (.bool (isPerm xs)) ∧ Drew w w' := by
  have Hn := Lib.hid hn; clear hn
  by_cases hsz : 1 ≤ n ∧ n ≤ 7
  · go_enter Try.func66, Try.ntmps66
    go_wp2_with fail
    refine (l1In_yes _ _ _ _ (by omega)).mono ?_
    rintro e w1 ⟨rfl, hd0⟩
    go_wp2
    go_loopw [3] (fun i wr => ∃ k : Nat, k ≤ n ∧ i = .int .i64 k ∧ Hid (∀ j, j < k → permAt xs j = true) ∧ Drew w wr) (fun i _ => n - (intOf i).toNat)
    case atStart => exact ⟨0, Nat.zero_le _, rfl, by intro j hj; omega, hd0⟩
    case round =>
      clear hd0
      obtain ⟨k, hk, rfl, HA, hd⟩ := hrel
      by_cases hlt : k < n
      · have hrw := hr.drew hd
        obtain ⟨b, off, rfl, hcell⟩ := hrw.at (k := k) (by rw [Hn.out]; exact hlt)
        obtain ⟨x, hx⟩ := some_at Hn.out hlt
        have hc := hcell k x hx
        have Hx := Lib.hid hx; clear hx
        have hrt : RI wr (some ⟨b, off, none⟩) (xs.take k) := .inr ⟨b, off, rfl, fun j y hy => hcell j y (by
          rw [List.getElem?_take] at hy; split at hy
          · exact hy
          · cases hy)⟩
        clear hcell
        have hltI : (k : Int) < (n : Int) := by omega
        have q1 : IntKind.i64.wrap ((n : Int) - 1) = (n : Int) - 1 := IntWalk.i64_in _ (by omega)
        have hkc : k ≤ c := by omega
        by_cases h1 : x < 0 ∨ (n : Int) - 1 < x
        · go_wp2
          go_quiet ((go_at_call 72; exact quiet (l1In_no _ _ _ _ (by omega))))
          go_wp2
          go_ret
          exact ⟨ret_bool (isPerm_false (k := k) (by rw [Hn.out]; exact hlt) (by rw [permAt, getD_of Hx.out, Hn.out]; simp; omega)).symm, hd.trans (Drew.drewN _ _)⟩
        · have hin : 0 ≤ x ∧ x ≤ (n : Int) - 1 := by omega
          clear h1
          cases hm : (xs.take k).contains x
          · go_wp2
            go_quiet ((first | (go_at_call 72; exact quiet (l1In_yes _ _ _ _ hin)) | (go_at_call 130; exact quiet (is (l1Has_any _ k _ (xs.take k) x _ (hrt.drew (Drew.drewN _ _)) (by rw [List.length_take, Hn.out]; omega) (by omega)) hm))))
            go_wp2
            go_roundw
            case rel => exact ⟨k + 1, by omega, by go_num, by
              intro j hj
              rcases Nat.lt_or_ge j k with h | h
              · exact HA.out j h
              · obtain rfl : j = k := by omega
                rw [permAt, getD_of Hx.out, Hn.out, hm]; simp; omega, hd.trans (Drew.drewN _ _)⟩
            case measure => simp [intOf]; omega
          · go_wp2
            go_quiet ((first | (go_at_call 72; exact quiet (l1In_yes _ _ _ _ hin)) | (go_at_call 130; exact quiet (is (l1Has_any _ k _ (xs.take k) x _ (hrt.drew (Drew.drewN _ _)) (by rw [List.length_take, Hn.out]; omega) (by omega)) hm))))
            go_wp2
            go_ret
            exact ⟨ret_bool (isPerm_false (k := k) (by rw [Hn.out]; exact hlt) (by rw [permAt, getD_of Hx.out, hm]; simp)).symm, hd.trans (Drew.drewN _ _)⟩
      · obtain rfl : k = n := by omega
        go_wp2
        go_ret
        exact ⟨ret_bool (isPerm_true (by rw [Hn.out]; omega) (by rw [Hn.out]; omega) (by rw [Hn.out]; exact HA.out)).symm, hd⟩
  · go_enter Try.func66, Try.ntmps66
    go_wp2_with fail
    refine (l1In_no _ _ _ _ (by omega)).mono ?_
    rintro e w1 ⟨rfl, hd0⟩
    go_wp2
    go_ret
    exact ⟨ret_bool (by rw [isPerm, Hn.out]; symm; simp; omega), hd0⟩

/-- the seven marks: which of 0 .. 6 are among the numbers -/
def met (l : List Int) : List Value := (List.range 7).map fun (j : Nat) => Value.bool (l.contains (j : Int))
theorem met_length (l : List Int) : (met l).length = 7 := by simp [met]
theorem met_at (l : List Int) {m : Nat} (h : m < 7) : (met l)[m]? = some (.bool (l.contains (m : Int))) := by simp [met, h]
theorem met_snoc (l : List Int) {m : Nat} (h : m < 7) : (met l).set m (.bool true) = met (l ++ [(m : Int)]) := by
  apply List.ext_getElem?
  intro i
  rw [List.getElem?_set, met_length]
  by_cases hi : m = i
  · subst hi
    rw [if_pos rfl, if_pos h, met_at _ h]
    simp
  · rw [if_neg hi]
    by_cases h7 : i < 7
    · rw [met_at _ h7, met_at _ h7]
      have : ((i : Int) == (m : Int)) = false := by simp; omega
      simp [List.mem_append]
      omega
    · rw [List.getElem?_eq_none (by rw [met_length]; omega), List.getElem?_eq_none (by rw [met_length]; omega)]
theorem met_made (w : World) (T : Nat) : (w.alloc (.cells #[.bool false, .bool false, .bool false, .bool false, .bool false, .bool false, .bool false] T)).ownsRow w.heap.size T 1 (.slice (some ⟨w.heap.size, 0, none⟩) 7 7) 7 (met []) :=
  ⟨by rw [met_length], .inr ⟨w.heap.size, 7, _, rfl, Nat.le_refl _, heap_alloc_new w _, Nat.le_refl _, by unfold maxLen; omega, rfl, rfl⟩⟩

set_option maxRecDepth 100000 in
set_option maxHeartbeats 1600000 in
theorem implIsPerm_any (a : Option Addr) (n c : Nat) (xs : List Int) (w : World) (hr : RI w a xs) (hn : xs.length = n) (hb : n ≤ 17592186044416) :
    Calls Try.prog 68 #[.slice a n c] w fun e w' => e = .returned (.bool (isPerm xs)) ∧ Below w.heap.size w w' := by
  have Hn := Lib.hid hn; clear hn
  by_cases h1 : n < 1
  · go_enter Try.func68, Try.ntmps68
    go_wp2
    go_ret
    exact ⟨ret_bool (by rw [isPerm, Hn.out]; symm; simp; omega), Below.refl _ _⟩
  by_cases h7 : 7 < n
  · go_enter Try.func68, Try.ntmps68
    go_wp2
    go_ret
    exact ⟨ret_bool (by rw [isPerm, Hn.out]; symm; simp; omega), Below.refl _ _⟩
  have hm0 := met_made w 119
  have hB0 := (Below.refl w.heap.size w).alloc (Nat.le_refl _) (.cells #[.bool false, .bool false, .bool false, .bool false, .bool false, .bool false, .bool false] 119)
  go_enter Try.func68, Try.ntmps68
  go_wp2
  go_loopw [17] (fun i wr => ∃ k : Nat, k ≤ n ∧ i = .int .i64 k ∧ Hid (∀ j, j < k → permAt xs j = true) ∧ Hid (wr.ownsRow w.heap.size 119 1 (.slice (some ⟨w.heap.size, 0, none⟩) 7 7) 7 (met (xs.take k))) ∧ Below w.heap.size w wr) (fun i _ => n - (intOf i).toNat)
  case atStart => exact ⟨0, Nat.zero_le _, rfl, by intro j hj; omega, Lib.hid hm0, hB0⟩
  case round =>
    clear hm0 hB0
    obtain ⟨k, hk, rfl, HA, HM, hB⟩ := hrel
    by_cases hlt : k < n
    · have hrw := hr.below hB
      obtain ⟨b, off, rfl, hcell⟩ := hrw.at (k := k) (by rw [Hn.out]; exact hlt)
      obtain ⟨x, hx⟩ := some_at Hn.out hlt
      have hc := hcell k x hx
      have Hx := Lib.hid hx; clear hx
      clear hcell hrw
      by_cases h1 : x < 0
      · go_wp2
        go_ret
        exact ⟨ret_bool (isPerm_false (k := k) (by rw [Hn.out]; exact hlt) (by rw [permAt, getD_of Hx.out, Hn.out]; simp; omega)).symm, hB⟩
      by_cases h2 : (n : Int) ≤ x
      · go_wp2
        go_ret
        exact ⟨ret_bool (isPerm_false (k := k) (by rw [Hn.out]; exact hlt) (by rw [permAt, getD_of Hx.out, Hn.out]; simp; omega)).symm, hB⟩
      obtain ⟨m, rfl⟩ : ∃ m : Nat, x = (m : Int) := ⟨x.toNat, by omega⟩
      have hm7 : m < 7 := by omega
      have hcm := HM.out.cellAt m (by omega)
      have hfm := HM.out.frozenAt m
      rw [met_at _ hm7] at hcm
      cases hm : (xs.take k).contains (m : Int)
      · rw [hm] at hcm
        have Hm := Lib.hid hm; clear hm
        go_wp2
        go_roundw
        case rel =>
          have hs := HM.out.stored m (.bool true)
          rw [met_snoc _ hm7] at hs
          exact ⟨k + 1, by omega, by go_num, by
              intro j hj
              rcases Nat.lt_or_ge j k with h | h
              · exact HA.out j h
              · obtain rfl : j = k := by omega
                rw [permAt, getD_of Hx.out, Hn.out, Hm.out]; simp; omega, Lib.hid (by rw [List.take_add_one, Hx.out]; exact hs.1), hB.grown hs.2 (by have := hB.size; omega) (by intro k hk; simp at hk; omega)⟩
        case measure => simp [intOf]; omega
      · rw [hm] at hcm
        have Hm := Lib.hid hm; clear hm
        go_wp2
        go_ret
        exact ⟨ret_bool (isPerm_false (k := k) (by rw [Hn.out]; exact hlt) (by rw [permAt, getD_of Hx.out, Hm.out]; simp)).symm, hB⟩
    · obtain rfl : k = n := by omega
      go_wp2
      go_ret
      exact ⟨ret_bool (isPerm_true (by rw [Hn.out]; omega) (by rw [Hn.out]; omega) (by rw [Hn.out]; exact HA.out)).symm, hB⟩
end Go.Proofs.Ytnjfbgdighaiiaa
