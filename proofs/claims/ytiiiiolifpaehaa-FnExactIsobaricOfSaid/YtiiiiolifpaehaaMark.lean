/-
  Contracts of markIntS and heldIntS.
-/
import Derived.Test.YtiiiiolifpaehaaMem
namespace Go.Proofs.Ytiiiiolifpaehaa
open Go.RowKit

/-- k, k + 1, .. -/
def iota (k : Int) (n : Nat) : List Int := (List.range n).map fun (i : Nat) => k + (i : Int)
theorem iota_length (k : Int) (n : Nat) : (iota k n).length = n := by simp [iota]
theorem iota_at {k : Int} {n j : Nat} (h : j < n) : (iota k n)[j]? = some (k + (j : Int)) := by simp [iota, h]
def marked (xs : List Int) (k : Int) (j : Nat) : List Int := iota k j ++ xs.drop j
theorem marked_length {xs : List Int} {k : Int} {n j : Nat} (h : xs.length = n) (hj : j ≤ n) : (marked xs k j).length = n := by simp [marked, iota_length]; omega
theorem marked_zero (xs : List Int) (k : Int) : marked xs k 0 = xs := by simp [marked, iota]
theorem marked_all {xs : List Int} {k : Int} {n : Nat} (h : xs.length = n) : marked xs k n = iota k n := by simp [marked, ← h]
theorem marked_succ {xs : List Int} {k : Int} {n j : Nat} (h : xs.length = n) (hj : j < n) : (marked xs k j).set j (k + (j : Int)) = marked xs k (j + 1) := by
  subst h
  apply List.ext_getElem?
  intro i
  rw [List.getElem?_set]
  by_cases hi : j = i
  · subst hi
    rw [if_pos rfl, if_pos (by rw [marked_length rfl (by omega)]; exact hj)]
    unfold marked
    rw [List.getElem?_append_left (by simp [iota_length]), iota_at (by omega)]
  · rw [if_neg hi]
    unfold marked
    rw [List.getElem?_append, List.getElem?_append, iota_length, iota_length]
    by_cases h1 : i < j
    · rw [if_pos h1, if_pos (by omega), iota_at h1, iota_at (by omega)]
    · rw [if_neg h1, if_neg (by omega), List.getElem?_drop, List.getElem?_drop]
      congr 1
      omega

theorem OI.cons {w : World} {B : Nat} {a : Option Addr} {n c : Nat} {xs : List Int} (h : OS w B a n c xs) {j : Nat} (hj : j < n) :
    ∃ g, a = some ⟨g, 0, none⟩ ∧ B ≤ g ∧ (∃ x, xs[j]? = some x ∧ w.cell? ⟨g, j, none⟩ = some (.int .i64 x)) ∧ w.frozen? ⟨g, j, none⟩ = false := by
  obtain ⟨rfl, h⟩ := h
  have h' := h
  rcases h.2 with ⟨_, h2⟩ | ⟨g, cap, cur, hv, hb, _⟩
  · omega
  · simp only [Value.slice.injEq] at hv
    obtain ⟨rfl, _, rfl⟩ := hv
    obtain ⟨x, hx⟩ := some_at rfl hj
    exact ⟨g, rfl, hb, ⟨x, hx, by rw [h'.cellAt j (by omega)]; simp [ints, hx]⟩, h'.frozenAt j⟩
theorem OS.store {w : World} {B : Nat} {g : Nat} {n c : Nat} {xs : List Int} (h : OS w B (some ⟨g, 0, none⟩) n c xs) (j : Nat) (x : Int) :
    OS (w.setCell ⟨g, j, none⟩ (.int .i64 x)) B (some ⟨g, 0, none⟩) n c (xs.set j x) ∧ w.grownBy (w.setCell ⟨g, j, none⟩ (.int .i64 x)) (some g) := by
  obtain ⟨rfl, h⟩ := h
  have := h.stored j (.int .i64 x)
  refine ⟨⟨by simp, ?_⟩, this.2⟩
  unfold OI
  rw [List.length_set]
  have h1 := this.1
  simpa [ints] using h1

set_option maxHeartbeats 400000 in
theorem markIntS_any (B : Nat) (a : Option Addr) (n c : Nat) (xs : List Int) (k : Int) (w : World) (ho : OS w B a n c xs) (hk0 : 0 ≤ k) (hk : k ≤ 17592186044416) (hb : n ≤ 17592186044416) :
    Calls Try.prog 24 #[.slice a n c, .int .i64 k] w fun e w' => e = .returned (.int .i64 (k + n)) ∧ OS w' B a n c (iota k n) ∧ w.grownBy w' (Value.slice a n c).ownBlock := by
  go_enter Try.func24, Try.ntmps24
  go_wp2
  go_loopw [1, 5] (fun kk i wr => ∃ j : Nat, j ≤ n ∧ i = .int .i64 j ∧ kk = .int .i64 (k + j) ∧ OS wr B a n c (marked xs k j) ∧ w.grownBy wr (Value.slice a n c).ownBlock) (fun _ i _ => n - (intOf i).toNat)
  case atStart => exact ⟨0, Nat.zero_le _, rfl, by simp, by rw [marked_zero]; exact ho, ⟨rfl, rfl, rfl, Nat.le_refl _, fun _ _ _ => rfl⟩⟩
  case round =>
    obtain ⟨j, hj, rfl, rfl, hr, hg⟩ := hrel
    by_cases hlt : j < n
    · obtain ⟨g, rfl, hB, ⟨x, hx, hc⟩, hf⟩ := OI.cons hr hlt
      clear hx
      go_wp2
      go_roundw
      case rel =>
        have hs := hr.store j (k + j)
        rw [marked_succ ho.1 hlt] at hs
        exact ⟨j + 1, by omega, by go_num, by go_num, hs.1, grownBy.trans hg hs.2⟩
      case measure => simp [intOf]; omega
    · obtain rfl : j = n := by omega
      go_wp2
      go_ret
      rw [marked_all ho.1] at hr
      exact ⟨rfl, hr, hg⟩

theorem markI_any (B S : Nat) (a : Option Addr) (n c : Nat) (xs : List Int) (k : Int) (w : World) (ho : OwI w B S a n c xs) (hk0 : 0 ≤ k) (hk : k ≤ 17592186044416) (hb : n ≤ 17592186044416) :
    Calls Try.prog 24 #[.slice a n c, .int .i64 k] w fun e w' => e = .returned (.int .i64 (k + n)) ∧ OwI w' B S a n c (iota k n) ∧ Only B S w w' :=
  (markIntS_any B a n c xs k w ho.1 hk0 hk hb).mono fun _ _ ⟨he, h1, h2⟩ => ⟨he, ⟨h1, ho.2⟩, Only.of_grown h2 ho.1.lo ho.2⟩

set_option maxHeartbeats 400000 in
theorem heldIntS_any (a : Option Addr) (n c : Nat) (k : Int) (w : World) (hr : RI w a (iota k n)) (hk0 : 0 ≤ k) (hk : k ≤ 17592186044416) (hb : n ≤ 17592186044416) :
    Calls Try.prog 42 #[.slice a n c, .int .i64 k] w fun e w' => e = .returned (.int .i64 (k + n)) ∧ Drew w w' := by
  go_enter Try.func42, Try.ntmps42
  go_wp2
  go_loop [1, 5] (fun kk i => ∃ j : Nat, j ≤ n ∧ i = .int .i64 j ∧ kk = .int .i64 (k + j)) (fun _ i => n - (intOf i).toNat)
  case atStart => exact ⟨0, Nat.zero_le _, rfl, by simp⟩
  case round =>
    obtain ⟨j, hj, rfl, rfl⟩ := hrel
    by_cases hlt : j < n
    · obtain ⟨b, off, rfl, hcell⟩ := hr.at (k := j) (by rw [iota_length]; exact hlt)
      have hc := hcell j _ (iota_at hlt)
      clear hcell
      have hne : ((k + (j : Int)) != (k + (j : Int))) = false := by simp
      go_wp2
      go_round
      case rel => exact ⟨j + 1, by omega, by go_num, by go_num⟩
      case measure => simp [intOf]; omega
    · obtain rfl : j = n := by omega
      go_wp2
      go_ret
      exact ⟨rfl, Drew.refl _⟩
end Go.Proofs.Ytiiiiolifpaehaa
