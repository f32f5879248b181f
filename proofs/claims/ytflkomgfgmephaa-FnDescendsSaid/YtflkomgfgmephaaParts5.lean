/-
  A check over the 120 permutations of 5 in ten parts. Plain.
-/
import Derived.Test.YtflkomgfgmephaaBuH3
namespace Go.Proofs.Ytflkomgfgmephaa

theorem all_parts {α : Type} (p : α → Bool) (m : Nat) : ∀ (k : Nat) (l : List α), l.length ≤ m * k → (∀ j, j < k → ((l.drop (m * j)).take m).all p = true) → l.all p = true
  | 0, l, hl, _ => by
    have : l = [] := List.length_eq_zero_iff.1 (by simpa using hl)
    subst this
    rfl
  | k + 1, l, hl, h => by
    have e : l = l.take m ++ l.drop m := (List.take_append_drop m l).symm
    rw [e, List.all_append, Bool.and_eq_true]
    refine ⟨by have := h 0 (by omega); simpa using this, all_parts p m k (l.drop m) (by rw [List.length_drop]; rw [Nat.mul_succ] at hl; omega) fun j hj => ?_⟩
    have := h (j + 1) (by omega)
    rw [List.drop_drop, show m + m * j = m * (j + 1) by rw [Nat.mul_succ]; omega]
    exact this
theorem perms5_len : (perms 5).length = 120 := by kernel_rfl
end Go.Proofs.Ytflkomgfgmephaa
