/-
  Contracts of IsPerm, the program's and the reference's.
-/
import Derived.Test.YtpjkhkoecgjjbaaL1In
namespace Go.Proofs.Ytpjkhkoecgjjbaa
open Go.RowKit

def permAt (xs : List Int) (k : Nat) : Bool :=
  decide (0 ≤ xs.getD k 0) && decide (xs.getD k 0 < xs.length) && !((xs.take k).contains (xs.getD k 0))
def isPerm (xs : List Int) : Bool := decide (1 ≤ xs.length) && decide (xs.length ≤ 7) && (List.range xs.length).all (permAt xs)

theorem isPerm_false {xs : List Int} {k : Nat} (hk : k < xs.length) (h : permAt xs k = false) : isPerm xs = false := by
  simp only [isPerm, Bool.and_eq_false_iff]
  right
  rw [List.all_eq_false]
  exact ⟨k, by simpa using hk, by simp [h]⟩
theorem isPerm_true {xs : List Int} (h1 : 1 ≤ xs.length) (h2 : xs.length ≤ 7) (h : ∀ j, j < xs.length → permAt xs j = true) : isPerm xs = true := by
  have : (List.range xs.length).all (permAt xs) = true := by
    rw [List.all_eq_true]; intro j hj; exact h j (by simpa using hj)
  simp [isPerm, this, h1, h2]
theorem perm_len {xs : List Int} (h : isPerm xs = true) : 1 ≤ xs.length ∧ xs.length ≤ 7 := by
  simp [isPerm] at h; exact ⟨by omega, h.1.2⟩
theorem perm_at {xs : List Int} (h : isPerm xs = true) {k : Nat} {x : Int} (hx : xs[k]? = some x) : 0 ≤ x ∧ x < xs.length := by
  have hk := (List.getElem?_eq_some_iff.1 hx).1
  simp only [isPerm, Bool.and_eq_true, List.all_eq_true] at h
  have := h.2 k (by simpa using hk)
  simp only [permAt, getD_of hx, Bool.and_eq_true, decide_eq_true_eq] at this
  exact this.1

/-- the seven marks: which of 0 .. 6 are among the numbers -/
def met (l : List Int) : List Value := (List.range 7).map fun (j : Nat) => Value.bool (l.contains (j : Int))
theorem met_length (l : List Int) : (met l).length = 7 := by simp [met]
theorem met_at (l : List Int) {m : Nat} (h : m < 7) : (met l)[m]? = some (.bool (l.contains (m : Int))) := by simp [met, h]
theorem met_snoc (l : List Int) {m : Nat} (h : m < 7) : (met l).set m (.bool true) = met (l ++ [(m : Int)]) := by
  apply List.ext_getElem?
  intro i
  rw [List.getElem?_set, met_length]
  by_cases hi : m = i
  · subst hi
    rw [if_pos rfl, if_pos h, met_at _ h]
    simp
  · rw [if_neg hi]
    by_cases h7 : i < 7
    · rw [met_at _ h7, met_at _ h7]
      have : ((i : Int) == (m : Int)) = false := by simp; omega
      simp [List.mem_append]
      omega
    · rw [List.getElem?_eq_none (by rw [met_length]; omega), List.getElem?_eq_none (by rw [met_length]; omega)]
theorem met_made (w : World) (T : Nat) : (w.alloc (.cells #[.bool false, .bool false, .bool false, .bool false, .bool false, .bool false, .bool false] T)).ownsRow w.heap.size T 1 (.slice (some ⟨w.heap.size, 0, none⟩) 7 7) 7 (met []) :=
  ⟨by rw [met_length], .inr ⟨w.heap.size, 7, _, rfl, Nat.le_refl _, heap_alloc_new w _, Nat.le_refl _, by unfold maxLen; omega, rfl, rfl⟩⟩

end Go.Proofs.Ytpjkhkoecgjjbaa
