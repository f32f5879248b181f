/-
  Contracts of small functions on slices of integers.
-/
import Derived.Test.YtleehkgfoicmdaaRows
import Derived.WalkKit
import Derived.WalkSpells
import Derived.WalkLawsBesides
import Derived.Deep.QuietTactic
import Derived.BigQuiet
import Derived.Lib.Hide
namespace Go.Proofs.Ytleehkgfoicmdaa
open Go.RowKit

/-- the slice at address a reads as xs -/
def RI (w : World) (a : Option Addr) (xs : List Int) : Prop :=
  xs = [] ∨ ∃ b off, a = some ⟨b, off, none⟩ ∧ ∀ k x, xs[k]? = some x → w.cell? ⟨b, off + k, none⟩ = some (.int .i64 x)

theorem ret_bool {a b : Bool} (h : a = b) : Ending.returned (.bool a) = .returned (.bool b) := by rw [h]
theorem ret_int {k : IntKind} {a b : Int} (h : a = b) : Ending.returned (.int k a) = .returned (.int k b) := by rw [h]

theorem RI.at {w : World} {a : Option Addr} {xs : List Int} (h : RI w a xs) {k : Nat} (hk : k < xs.length) :
    ∃ b off, a = some ⟨b, off, none⟩ ∧ ∀ k x, xs[k]? = some x → w.cell? ⟨b, off + k, none⟩ = some (.int .i64 x) := by
  rcases h with rfl | h
  · simp at hk
  · exact h

/-- the world has moved on by draws alone -/
def Drew (w w' : World) : Prop := ∃ m, w' = w.drewN m
theorem Drew.refl (w : World) : Drew w w := ⟨0, rfl⟩
theorem Drew.drewN (w : World) (n : Nat) : Drew w (w.drewN n) := ⟨n, rfl⟩
theorem Drew.trans {a b c : World} (h : Drew a b) (k : Drew b c) : Drew a c := by
  obtain ⟨m, rfl⟩ := h; obtain ⟨n, rfl⟩ := k; exact ⟨m + n, World.drewN_drewN ..⟩
theorem Drew.cell {w w' : World} (h : Drew w w') (p : Addr) : w'.cell? p = w.cell? p := by obtain ⟨m, rfl⟩ := h; simp
theorem Drew.below {w w' : World} (h : Drew w w') (B : Nat) : Below B w w' := by obtain ⟨m, rfl⟩ := h; exact ⟨rfl, rfl, rfl, Nat.le_refl _, fun _ _ => rfl⟩
theorem RI.drew {w w' : World} {a : Option Addr} {xs : List Int} (h : RI w a xs) (d : Drew w w') : RI w' a xs := by
  rcases h with h | ⟨b, off, ha, hc⟩
  · exact .inl h
  · exact .inr ⟨b, off, ha, fun k x hx => by rw [d.cell]; exact hc k x hx⟩
/-- a callee's contract, met inside a region that is walked quietly -/
theorem quiet {P : Program} {f : FuncId} {args : Array Value} {w : World} {n : Nat} {v : Value}
    (h : Calls P f args (w.drewN n) fun e w' => e = .returned v ∧ Drew (w.drewN n) w') : Calls P f args (w.drewN n) fun e w'' => e = .returned v ∧ ∃ m, w'' = w.drewN m :=
  h.mono fun _ _ ⟨he, hd⟩ => ⟨he, (Drew.drewN w n).trans hd⟩

set_option maxHeartbeats 400000 in
theorem l1In_any (n lo hi : Int) (w : World) :
    Calls Try.prog 68 #[.int .i64 n, .int .i64 lo, .int .i64 hi] w fun e w' => e = .returned (.bool (decide (lo ≤ n) && decide (n ≤ hi))) ∧ Drew w w' := by
  by_cases h1 : lo ≤ n <;> by_cases h2 : n ≤ hi
  all_goals
    go_enter Try.func68, Try.ntmps68
    go_wp2
    go_ret
    exact ⟨by simp [h1, h2], Drew.refl _⟩

def shapeAt (xs : List Int) (k : Nat) : Bool :=
  decide (1 ≤ xs.getD k 0) && decide (xs.getD k 0 ≤ 16) && (k == 0 || decide (xs.getD k 0 ≤ xs.getD (k-1) 0))
def isShape (xs : List Int) : Bool := decide (xs.length ≤ 16) && (List.range xs.length).all (shapeAt xs)

theorem getD_of {xs : List Int} {k : Nat} {x : Int} (h : xs[k]? = some x) : xs.getD k 0 = x := by rw [List.getD_eq_getElem?_getD, h]; rfl
theorem shapeAt_zero {xs : List Int} {x : Int} (h : xs[0]? = some x) (h1 : ¬ x < 1) (h2 : ¬ 16 < x) : shapeAt xs 0 = true := by
  unfold shapeAt; rw [getD_of h]; simp; omega
theorem shapeAt_next {xs : List Int} {k : Nat} {x y : Int} (h : xs[k]? = some x) (hy : xs[k-1]? = some y) (h1 : ¬ x < 1) (h2 : ¬ 16 < x) (h4 : ¬ y < x) : shapeAt xs k = true := by
  unfold shapeAt; rw [getD_of h, getD_of hy]; simp; omega
theorem shapeAt_low {xs : List Int} {k : Nat} {x : Int} (h : xs[k]? = some x) (h1 : x < 1) : shapeAt xs k = false := by
  unfold shapeAt; rw [getD_of h]; simp; omega
theorem shapeAt_high {xs : List Int} {k : Nat} {x : Int} (h : xs[k]? = some x) (h1 : 16 < x) : shapeAt xs k = false := by
  unfold shapeAt; rw [getD_of h]; simp; omega
theorem shapeAt_rise {xs : List Int} {k : Nat} {x y : Int} (h : xs[k]? = some x) (hy : xs[k-1]? = some y) (h3 : k ≠ 0) (h4 : y < x) : shapeAt xs k = false := by
  unfold shapeAt; rw [getD_of h, getD_of hy]; simp; omega

theorem isShape_false {xs : List Int} {k : Nat} (hk : k < xs.length) (h : shapeAt xs k = false) : isShape xs = false := by
  simp only [isShape, Bool.and_eq_false_iff]
  right
  rw [List.all_eq_false]
  exact ⟨k, by simpa using hk, by simp [h]⟩


theorem isShape_true {xs : List Int} (h : ∀ j, j < xs.length → shapeAt xs j = true) : isShape xs = decide (xs.length ≤ 16) := by
  have : (List.range xs.length).all (shapeAt xs) = true := by
    rw [List.all_eq_true]; intro j hj; exact h j (by simpa using hj)
  simp [isShape, this]

set_option maxHeartbeats 400000 in
theorem implIsShape_any (a : Option Addr) (n c : Nat) (xs : List Int) (w : World) (hr : RI w a xs) (hn : xs.length = n) (hb : n ≤ 9223372036854775807) :
    Calls Try.prog 21 #[.slice a n c] w fun e w' => e = .returned (.bool (isShape xs)) ∧ Drew w w' := by
  have Hn := Lib.hid hn; clear hn
  go_enter Try.func21, Try.ntmps21
  go_wp2
  go_loop [7] (fun i => ∃ k : Nat, k ≤ n ∧ i = .int .i64 k ∧ Hid (∀ j, j < k → shapeAt xs j = true)) (fun i => n - (intOf i).toNat)
  case atStart => exact ⟨0, Nat.zero_le _, rfl, by intro j hj; omega⟩
  case round =>
    obtain ⟨k, hk, rfl, HA⟩ := hrel
    by_cases hlt : k < n
    · obtain ⟨b, off, rfl, hcell⟩ := hr.at (k := k) (by rw [Hn.out]; exact hlt)
      obtain ⟨x, hx⟩ : ∃ x, xs[k]? = some x := ⟨xs[k]'(by rw [Hn.out]; exact hlt), by simp⟩
      have hc := hcell k x hx
      have Hx := Lib.hid hx; clear hx
      have hlast : k ≠ 0 → ∃ y, xs[k-1]? = some y ∧ w.cell? ⟨b, off + (k - 1), none⟩ = some (.int .i64 y) := by
        intro h0
        have : k - 1 < xs.length := by rw [Hn.out]; omega
        exact ⟨xs[k-1], by simp, hcell _ _ (by simp)⟩
      clear hcell
      by_cases h1 : x < 1
      · clear hlast
        go_wp2
        go_ret
        exact ⟨ret_bool (isShape_false (k := k) (by rw [Hn.out]; exact hlt) (by first | exact shapeAt_low Hx.out h1 | exact shapeAt_high Hx.out h2)).symm, Drew.refl _⟩
      · by_cases h2 : 16 < x
        · clear hlast
          go_wp2
          go_ret
          exact ⟨ret_bool (isShape_false (k := k) (by rw [Hn.out]; exact hlt) (by first | exact shapeAt_low Hx.out h1 | exact shapeAt_high Hx.out h2)).symm, Drew.refl _⟩
        · by_cases h3 : k = 0
          · subst h3
            clear hlast
            rw [Nat.add_zero] at hc
            go_wp2
            go_round
            case rel => exact ⟨1, by omega, rfl, by intro j hj; obtain rfl : j = 0 := (by omega); exact shapeAt_zero Hx.out h1 h2⟩
            case measure => simp [intOf]; omega
          · obtain ⟨y, hy, hcy⟩ := hlast h3
            clear hlast
            have Hy := Lib.hid hy; clear hy
            have hk0 : (0 : Int) < (k : Int) := by omega
            by_cases h4 : y < x
            · go_wp2
              go_ret
              exact ⟨ret_bool (isShape_false (k := k) (by rw [Hn.out]; exact hlt) (shapeAt_rise Hx.out Hy.out h3 h4)).symm, Drew.refl _⟩
            · go_wp2
              go_round
              case rel => exact ⟨k + 1, by omega, by go_num, by
                intro j hj
                rcases Nat.lt_or_ge j k with h | h
                · exact HA.out j h
                · obtain rfl : j = k := by omega
                  exact shapeAt_next Hx.out Hy.out h1 h2 h4⟩
              case measure => simp [intOf]; omega
    · go_wp2
      go_ret
      exact ⟨ret_bool (by rw [isShape_true (by intro j hj; exact HA.out j (by rw [Hn.out] at hj; omega)), Hn.out]; simp; omega), Drew.refl _⟩
end Go.Proofs.Ytleehkgfoicmdaa
