/-
  Letters and words.
-/
import Derived.Test.YtflkomgfgmephaaBuI3
import Derived.Test.YtflkomgfgmephaaBuA
import Derived.RegionTactic
import Derived.ChangeAlike
namespace Go.Proofs.Ytflkomgfgmephaa
open Go.RowKit

def letter (n x : Int) : Bool := decide (0 ≤ x) && decide (x ≤ n - 2)
def isWord (n : Int) (xs : List Int) : Bool := decide (1 ≤ n) && decide (n ≤ 7) && decide (xs.length ≤ 60) && xs.all (letter n)
theorem letter_yes {n x : Int} (h : 0 ≤ x ∧ x ≤ n - 2) : letter n x = true := by unfold letter; simp; omega
theorem letter_no {n x : Int} (h : x < 0 ∨ n - 2 < x) : letter n x = false := by unfold letter; simp; omega
theorem isWord_size {n : Int} {xs : List Int} (h : n < 1 ∨ 7 < n) : isWord n xs = false := by unfold isWord; simp; omega
theorem isWord_long {n : Int} {xs : List Int} (h : 60 < xs.length) : isWord n xs = false := by unfold isWord; simp; omega
theorem isWord_bad {n : Int} {xs : List Int} {k : Nat} {x : Int} (hx : xs[k]? = some x) (h : letter n x = false) : isWord n xs = false := by
  have : xs.all (letter n) = false := by
    rw [List.all_eq_false]
    exact ⟨x, List.mem_of_getElem? hx, by simp [h]⟩
  unfold isWord; rw [this]; simp
theorem isWord_ok {n : Int} {xs : List Int} (h : ∀ (j : Nat) (z : Int), j < xs.length → xs[j]? = some z → letter n z = true) : isWord n xs = (decide (1 ≤ n) && decide (n ≤ 7) && decide (xs.length ≤ 60)) := by
  have : xs.all (letter n) = true := by
    rw [List.all_eq_true]
    intro z hz
    obtain ⟨j, hj⟩ := List.mem_iff_getElem?.1 hz
    exact h j z (List.getElem?_eq_some_iff.1 hj).1 hj
  unfold isWord; rw [this]; simp
theorem isWord_bd {n : Int} {xs : List Int} (h : isWord n xs = true) : 1 ≤ n ∧ n ≤ 7 ∧ xs.length ≤ 60 ∧ ∀ (k : Nat) (x : Int), xs[k]? = some x → 0 ≤ x ∧ x ≤ n - 2 := by
  simp only [isWord, Bool.and_eq_true, decide_eq_true_eq, List.all_eq_true] at h
  refine ⟨h.1.1.1, h.1.1.2, h.1.2, fun k x hx => ?_⟩
  have := h.2 x (List.mem_of_getElem? hx)
  simp only [letter, Bool.and_eq_true, decide_eq_true_eq] at this
  exact this
end Go.Proofs.Ytflkomgfgmephaa
