/-
  Contracts of IsShape, the program's and the reference's.
-/
import Derived.Test.YtpjkhkoecgjjbaaL1In
namespace Go.Proofs.Ytpjkhkoecgjjbaa
open Go.RowKit

def shapeAt (xs : List Int) (k : Nat) : Bool :=
  decide (1 ≤ xs.getD k 0) && decide (xs.getD k 0 ≤ 16) && (k == 0 || decide (xs.getD k 0 ≤ xs.getD (k-1) 0))
def isShape (xs : List Int) : Bool := decide (xs.length ≤ 16) && (List.range xs.length).all (shapeAt xs)

theorem shapeAt_zero {xs : List Int} {x : Int} (h : xs[0]? = some x) (h1 : ¬ x < 1) (h2 : ¬ 16 < x) : shapeAt xs 0 = true := by
  unfold shapeAt; rw [getD_of h]; simp; omega
theorem shapeAt_next {xs : List Int} {k : Nat} {x y : Int} (h : xs[k]? = some x) (hy : xs[k-1]? = some y) (h1 : ¬ x < 1) (h2 : ¬ 16 < x) (h4 : ¬ y < x) : shapeAt xs k = true := by
  unfold shapeAt; rw [getD_of h, getD_of hy]; simp; omega
theorem shapeAt_low {xs : List Int} {k : Nat} {x : Int} (h : xs[k]? = some x) (h1 : x < 1) : shapeAt xs k = false := by
  unfold shapeAt; rw [getD_of h]; simp; omega
theorem shapeAt_high {xs : List Int} {k : Nat} {x : Int} (h : xs[k]? = some x) (h1 : 16 < x) : shapeAt xs k = false := by
  unfold shapeAt; rw [getD_of h]; simp; omega
theorem shapeAt_rise {xs : List Int} {k : Nat} {x y : Int} (h : xs[k]? = some x) (hy : xs[k-1]? = some y) (h3 : k ≠ 0) (h4 : y < x) : shapeAt xs k = false := by
  unfold shapeAt; rw [getD_of h, getD_of hy]; simp; omega

theorem isShape_false {xs : List Int} {k : Nat} (hk : k < xs.length) (h : shapeAt xs k = false) : isShape xs = false := by
  simp only [isShape, Bool.and_eq_false_iff]
  right
  rw [List.all_eq_false]
  exact ⟨k, by simpa using hk, by simp [h]⟩


theorem isShape_true {xs : List Int} (h : ∀ j, j < xs.length → shapeAt xs j = true) : isShape xs = decide (xs.length ≤ 16) := by
  have : (List.range xs.length).all (shapeAt xs) = true := by
    rw [List.all_eq_true]; intro j hj; exact h j (by simpa using hj)
  simp [isShape, this]

set_option maxHeartbeats 400000 in
theorem implIsShape_any (a : Option Addr) (n c : Nat) (xs : List Int) (w : World) (hr : RI w a xs) (hn : xs.length = n) (hb : n ≤ 9223372036854775807) :
    Calls Try.prog 29 #[.slice a n c] w fun e w' => e = .returned (.bool (isShape xs)) ∧ Drew w w' := by
  have Hn := Lib.hid hn; clear hn
  go_enter Try.func29, Try.ntmps29
  go_wp2
  go_loop [7] (fun i => ∃ k : Nat, k ≤ n ∧ i = .int .i64 k ∧ Hid (∀ j, j < k → shapeAt xs j = true)) (fun i => n - (intOf i).toNat)
  case atStart => exact ⟨0, Nat.zero_le _, rfl, by intro j hj; omega⟩
  case round =>
    obtain ⟨k, hk, rfl, HA⟩ := hrel
    by_cases hlt : k < n
    · obtain ⟨b, off, rfl, hcell⟩ := hr.at (k := k) (by rw [Hn.out]; exact hlt)
      obtain ⟨x, hx⟩ : ∃ x, xs[k]? = some x := ⟨xs[k]'(by rw [Hn.out]; exact hlt), by simp⟩
      have hc := hcell k x hx
      have Hx := Lib.hid hx; clear hx
      have hlast : k ≠ 0 → ∃ y, xs[k-1]? = some y ∧ w.cell? ⟨b, off + (k - 1), none⟩ = some (.int .i64 y) := by
        intro h0
        have : k - 1 < xs.length := by rw [Hn.out]; omega
        exact ⟨xs[k-1], by simp, hcell _ _ (by simp)⟩
      clear hcell
      by_cases h1 : x < 1
      · clear hlast
        go_wp2
        go_ret
        exact ⟨ret_bool (isShape_false (k := k) (by rw [Hn.out]; exact hlt) (by first | exact shapeAt_low Hx.out h1 | exact shapeAt_high Hx.out h2)).symm, Drew.refl _⟩
      · by_cases h2 : 16 < x
        · clear hlast
          go_wp2
          go_ret
          exact ⟨ret_bool (isShape_false (k := k) (by rw [Hn.out]; exact hlt) (by first | exact shapeAt_low Hx.out h1 | exact shapeAt_high Hx.out h2)).symm, Drew.refl _⟩
        · by_cases h3 : k = 0
          · subst h3
            clear hlast
            rw [Nat.add_zero] at hc
            go_wp2
            go_round
            case rel => exact ⟨1, by omega, rfl, by intro j hj; obtain rfl : j = 0 := (by omega); exact shapeAt_zero Hx.out h1 h2⟩
            case measure => simp [intOf]; omega
          · obtain ⟨y, hy, hcy⟩ := hlast h3
            clear hlast
            have Hy := Lib.hid hy; clear hy
            have hk0 : (0 : Int) < (k : Int) := by omega
            by_cases h4 : y < x
            · go_wp2
              go_ret
              exact ⟨ret_bool (isShape_false (k := k) (by rw [Hn.out]; exact hlt) (shapeAt_rise Hx.out Hy.out h3 h4)).symm, Drew.refl _⟩
            · go_wp2
              go_round
              case rel => exact ⟨k + 1, by omega, by go_num, by
                intro j hj
                rcases Nat.lt_or_ge j k with h | h
                · exact HA.out j h
                · obtain rfl : j = k := by omega
                  exact shapeAt_next Hx.out Hy.out h1 h2 h4⟩
              case measure => simp [intOf]; omega
    · go_wp2
      go_ret
      exact ⟨ret_bool (by rw [isShape_true (by intro j hj; exact HA.out j (by rw [Hn.out] at hj; omega)), Hn.out]; simp; omega), Drew.refl _⟩
set_option maxHeartbeats 400000 in
theorem specIsShape_any (a : Option Addr) (n c : Nat) (xs : List Int) (w : World) (hr : RI w a xs) (hn : xs.length = n) (hb : n ≤ 9223372036854775807) :
    Calls Try.prog 15 #[.slice a n c] w fun e w' => e = .returned (.bool (isShape xs)) ∧ Drew w w' := by
  have Hn := Lib.hid hn; clear hn
  by_cases hbig : 16 < n
  · go_enter Try.func15, Try.ntmps15
    go_wp2
    go_ret
    exact ⟨ret_bool (by rw [isShape, Hn.out]; simp; omega), Drew.refl _⟩
  · go_enter Try.func15, Try.ntmps15
    go_wp2
    go_loopw [3] (fun i wr => ∃ k : Nat, k ≤ n ∧ i = .int .i64 k ∧ Hid (∀ j, j < k → shapeAt xs j = true) ∧ Drew w wr) (fun i _ => n - (intOf i).toNat)
    case atStart => exact ⟨0, Nat.zero_le _, rfl, by intro j hj; omega, Drew.refl _⟩
    case round =>
      obtain ⟨k, hk, rfl, HA, hd⟩ := hrel
      by_cases hlt : k < n
      · obtain ⟨b, off, rfl, hcell⟩ := (hr.drew hd).at (k := k) (by rw [Hn.out]; exact hlt)
        obtain ⟨x, hx⟩ : ∃ x, xs[k]? = some x := ⟨xs[k]'(by rw [Hn.out]; exact hlt), by simp⟩
        have hc := hcell k x hx
        have Hx := Lib.hid hx; clear hx
        have hlast : k ≠ 0 → ∃ y, xs[k-1]? = some y ∧ wr.cell? ⟨b, off + (k - 1), none⟩ = some (.int .i64 y) := by
          intro h0
          have : k - 1 < xs.length := by rw [Hn.out]; omega
          exact ⟨xs[k-1], by simp, hcell _ _ (by simp)⟩
        clear hcell
        have hltI : (k : Int) < (n : Int) := by omega
        by_cases h1 : x < 1 ∨ 16 < x
        · clear hlast
          go_wp2
          go_quiet ((go_at_call 17; exact quiet (l1In_no _ _ _ _ (by omega))))
          go_wp2
          go_ret
          exact ⟨ret_bool (isShape_false (k := k) (by rw [Hn.out]; exact hlt) (by rcases h1 with h | h <;> first | exact shapeAt_low Hx.out h | exact shapeAt_high Hx.out h)).symm, hd.trans (Drew.drewN _ _)⟩
        · by_cases h3 : k = 0
          · subst h3
            clear hlast
            rw [Nat.add_zero] at hc
            go_wp2
            go_quiet ((go_at_call 17; exact quiet (l1In_yes _ _ _ _ (by omega))))
            go_wp2
            go_roundw
            case rel => exact ⟨1, by omega, rfl, by intro j hj; obtain rfl : j = 0 := (by omega); exact shapeAt_zero Hx.out (by omega) (by omega), hd.trans (Drew.drewN _ _)⟩
            case measure => simp [intOf]; omega
          · obtain ⟨y, hy, hcy⟩ := hlast h3
            clear hlast
            have Hy := Lib.hid hy; clear hy
            have hk0 : 0 < k := by omega
            have q1 : (0 : Int) ≤ (k : Int) - 1 := by omega
            have q2 : (k : Int) - 1 < (n : Int) := by omega
            have q3 : IntKind.i64.wrap ((k : Int) - 1) = (k : Int) - 1 := IntWalk.i64_in _ (by omega)
            have q4 : ((k : Int) - 1).toNat = k - 1 := by omega
            by_cases h4 : y < x
            · have hin : 1 ≤ x ∧ x ≤ 16 := by omega
              go_wp2
              go_quiet ((go_at_call 17; exact quiet (l1In_yes _ _ _ _ hin)))
              clear q3 q4
              go_wp2
              go_ret
              exact ⟨ret_bool (isShape_false (k := k) (by rw [Hn.out]; exact hlt) (shapeAt_rise Hx.out Hy.out h3 h4)).symm, hd.trans (Drew.drewN _ _)⟩
            · have hin : 1 ≤ x ∧ x ≤ 16 := by omega
              go_wp2
              go_quiet ((go_at_call 17; exact quiet (l1In_yes _ _ _ _ hin)))
              clear q3 q4
              go_wp2
              go_roundw
              case rel => exact ⟨k + 1, by omega, by go_num, by
                intro j hj
                rcases Nat.lt_or_ge j k with h | h
                · exact HA.out j h
                · obtain rfl : j = k := by omega
                  exact shapeAt_next Hx.out Hy.out (by omega) (by omega) (by omega), hd.trans (Drew.drewN _ _)⟩
              case measure => simp [intOf]; omega
      · go_wp2
        go_ret
        exact ⟨ret_bool (by rw [isShape_true (by intro j hj; exact HA.out j (by rw [Hn.out] at hj; omega)), Hn.out]; simp; omega), hd⟩
theorem shape_bd {xs : List Int} (h : isShape xs = true) : xs.length ≤ 16 := by simp [isShape] at h; exact h.1
end Go.Proofs.Ytpjkhkoecgjjbaa
