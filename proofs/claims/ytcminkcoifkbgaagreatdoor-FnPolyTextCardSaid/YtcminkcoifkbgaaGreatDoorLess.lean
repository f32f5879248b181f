/-
  Contracts of l1Less, slices.Compare and cmp.Compare: the order of lists of integers.
-/
import Derived.Test.YtcminkcoifkbgaaGreatDoorBuA
namespace Go.Proofs.YtcminkcoifkbgaaGreatDoor
open Go.RowKit

/-- the order of lists: by the first place at which they differ, else by length -/
def less : List Int → List Int → Bool
  | [], [] => false
  | [], _ :: _ => true
  | _ :: _, [] => false
  | x :: xs, y :: ys => if x = y then less xs ys else decide (x < y)
/-- -1, 0, 1 -/
def order : List Int → List Int → Int
  | [], [] => 0
  | [], _ :: _ => -1
  | _ :: _, [] => 1
  | x :: xs, y :: ys => if x = y then order xs ys else if x < y then -1 else 1
theorem less_order (xs : List Int) : ∀ ys, less xs ys = decide (order xs ys < 0) := by
  induction xs with
  | nil => intro ys; cases ys <;> simp [less, order]
  | cons x xs ih =>
    intro ys
    cases ys with
    | nil => simp [less, order]
    | cons y ys =>
      by_cases h : x = y
      · subst h
        simp [less, order, ih ys]
      · by_cases h2 : x < y
        · simp [less, order, h, h2]
        · simp [less, order, h, h2]
/-- alike on the first k -/
theorem less_drop {xs ys : List Int} : ∀ {k : Nat}, (∀ j, j < k → xs[j]? = ys[j]?) → k ≤ xs.length → k ≤ ys.length → less xs ys = less (xs.drop k) (ys.drop k) ∧ order xs ys = order (xs.drop k) (ys.drop k) := by
  induction xs generalizing ys with
  | nil => intro k _ h2 _; obtain rfl : k = 0 := (by simpa using h2); exact ⟨rfl, rfl⟩
  | cons x xs ih =>
    intro k h h2 h3
    rcases k with _ | k
    · exact ⟨rfl, rfl⟩
    · cases ys with
      | nil => simp at h3
      | cons y ys =>
        have h0 := h 0 (by omega)
        obtain rfl : x = y := by simpa using h0
        have := ih (ys := ys) (k := k) (fun j hj => by have := h (j + 1) (by omega); simpa using this) (by simpa using h2) (by simpa using h3)
        simp only [less, order, if_true, List.drop_succ_cons]
        exact this
theorem drop_cons {xs : List Int} {k : Nat} {x : Int} (h : xs[k]? = some x) : ∃ t, xs.drop k = x :: t := ⟨_, by rw [List.drop_eq_getElem_cons (List.getElem?_eq_some_iff.1 h).1, (List.getElem?_eq_some_iff.1 h).2]⟩

def cmpInt (x y : Int) : Int := if x = y then 0 else if x < y then -1 else 1
end Go.Proofs.YtcminkcoifkbgaaGreatDoor
