/-
  The fillings of a shape, row by row, in the order of both searches. Plain.
-/
import Derived.Test.YtpjkhkoecgjjbaaShape
namespace Go.Proofs.Ytpjkhkoecgjjbaa
open Go.RowKit

def rowAt (t : List (List Int)) (i : Nat) : List Int := t.getD i []
def lastT (t : List (List Int)) : List Int := rowAt t (t.length - 1)
/-- the least number that may stand in the next place of the last row -/
def lowT (t : List (List Int)) : Int :=
  let l := if 0 < (lastT t).length then (lastT t).getD ((lastT t).length - 1) 0 else 0
  if 1 < t.length then max l ((rowAt t (t.length - 2)).getD (lastT t).length 0 + 1) else l
def fullT (shape : List Int) (t : List (List Int)) : Bool := t.length == 0 || decide (((lastT t).length : Int) = shape.getD (t.length - 1) 0)
def putT (t : List (List Int)) (x : Int) : List (List Int) := t.set (t.length - 1) (lastT t ++ [x])
def numsOf (lo n : Int) : List Int := (List.range (n - lo).toNat).map fun (i : Nat) => lo + (i : Int)
def tabs (shape : List Int) (n : Int) : Nat → List (List Int) → List (List (List Int))
  | 0, _ => []
  | f + 1, t => if fullT shape t = true then (if t.length = shape.length then [t] else tabs shape n f (t ++ [[]])) else (numsOf (lowT t) n).flatMap fun x => tabs shape n f (putT t x)
structure TOk (shape : List Int) (t : List (List Int)) : Prop where
  len : t.length ≤ shape.length
  full : ∀ i, i + 1 < t.length → ((rowAt t i).length : Int) = shape.getD i 0
  last : 0 < t.length → ((lastT t).length : Int) ≤ shape.getD (t.length - 1) 0
  low : ∀ row ∈ t, ∀ x ∈ row, 0 ≤ x ∧ x ≤ 7
/-- what is known of a shape -/
structure ShOk (shape : List Int) : Prop where
  few : shape.length ≤ 16
  pos : ∀ i, i < shape.length → 1 ≤ shape.getD i 0 ∧ shape.getD i 0 ≤ 16
  fall : ∀ i, i + 1 < shape.length → shape.getD (i + 1) 0 ≤ shape.getD i 0
theorem shOk_of {xs : List Int} (h : isShape xs = true) : ShOk xs := by
  unfold isShape at h
  simp only [Bool.and_eq_true, decide_eq_true_eq, List.all_eq_true, List.mem_range] at h
  refine ⟨h.1, fun i hi => ?_, fun i hi => ?_⟩
  · have h1 := h.2 i hi
    unfold shapeAt at h1
    simp only [Bool.and_eq_true, decide_eq_true_eq] at h1
    exact h1.1
  · have h1 := h.2 (i + 1) hi
    unfold shapeAt at h1
    simp only [Bool.and_eq_true, Bool.or_eq_true, decide_eq_true_eq] at h1
    rcases h1.2 with h2 | h2
    · simp at h2
    · exact h2
theorem TOk.nil (shape : List Int) : TOk shape [] := ⟨by simp, by simp, by simp, by simp⟩
theorem rowAt_some {t : List (List Int)} {i : Nat} (h : i < t.length) : t[i]? = some (rowAt t i) := by
  unfold rowAt
  rw [List.getD_eq_getElem?_getD, List.getElem?_eq_getElem h]
  rfl
theorem rowAt_mem {t : List (List Int)} {i : Nat} (h : i < t.length) : rowAt t i ∈ t := List.mem_of_getElem? (rowAt_some h)
theorem lastT_low {shape : List Int} {t : List (List Int)} (h : TOk shape t) : ∀ x ∈ lastT t, 0 ≤ x ∧ x ≤ 7 := fun x hx => by
  rcases Nat.eq_zero_or_pos t.length with h0 | h0
  · have : t = [] := List.eq_nil_of_length_eq_zero h0
    subst this
    simp [lastT, rowAt] at hx
  · exact h.low _ (rowAt_mem (i := t.length - 1) (by omega)) x hx
theorem getD_low {row : List Int} (h : ∀ x ∈ row, 0 ≤ x ∧ x ≤ 7) (i : Nat) : 0 ≤ row.getD i 0 ∧ row.getD i 0 ≤ 7 := by
  rw [List.getD_eq_getElem?_getD]
  cases hx : row[i]? with
  | none => simp
  | some x => exact h x (List.mem_of_getElem? hx)
theorem lowT_range {shape : List Int} {t : List (List Int)} (h : TOk shape t) : 0 ≤ lowT t ∧ lowT t ≤ 8 := by
  have h1 := getD_low (lastT_low h) ((lastT t).length - 1)
  unfold lowT
  simp only
  split
  · have h2 : 0 ≤ (rowAt t (t.length - 2)).getD (lastT t).length 0 ∧ (rowAt t (t.length - 2)).getD (lastT t).length 0 ≤ 7 := getD_low (h.low _ (rowAt_mem (by omega))) _
    split <;> omega
  · split <;> omega
theorem TOk.row {shape : List Int} {t : List (List Int)} (h : TOk shape t) (hs : ShOk shape) (hf : fullT shape t = true) (hl : t.length ≠ shape.length) : TOk shape (t ++ [[]]) := by
  have hlen := h.len
  unfold fullT at hf
  simp only [Bool.or_eq_true, beq_iff_eq, decide_eq_true_eq] at hf
  have hr : ∀ i, i < t.length → rowAt (t ++ [[]]) i = rowAt t i := fun i hi => by
    unfold rowAt
    rw [List.getD_eq_getElem?_getD, List.getD_eq_getElem?_getD, List.getElem?_append_left hi]
  refine ⟨by rw [List.length_append]; simp; omega, fun i hi => ?_, fun _ => ?_, fun row hrow x hx => ?_⟩
  · rw [List.length_append] at hi
    simp at hi
    rw [hr i (by omega)]
    rcases Nat.lt_or_ge (i + 1) t.length with h1 | h1
    · exact h.full i h1
    · obtain rfl : i = t.length - 1 := by omega
      rcases hf with h2 | h2
      · omega
      · exact h2
  · have e : lastT (t ++ [[]]) = [] := by
      unfold lastT rowAt
      rw [List.length_append, List.getD_eq_getElem?_getD]
      simp
    have e3 : (t ++ [[]]).length - 1 = t.length := by simp
    rw [e, e3]
    have := hs.pos t.length (by omega)
    show (0 : Int) ≤ _
    omega
  · rcases List.mem_append.1 hrow with h1 | h1
    · exact h.low row h1 x hx
    · rw [List.mem_singleton] at h1
      subst h1
      cases hx
theorem putT_length (t : List (List Int)) (x : Int) : (putT t x).length = t.length := by simp [putT]
theorem TOk.put {shape : List Int} {t : List (List Int)} {x : Int} (h : TOk shape t) (h0 : 0 < t.length) (hf : fullT shape t = false) (hx : 0 ≤ x ∧ x ≤ 7) : TOk shape (putT t x) := by
  unfold fullT at hf
  simp only [Bool.or_eq_false_iff, beq_eq_false_iff_ne, decide_eq_false_iff_not] at hf
  have hl := h.last h0
  have e1 : ∀ i, i + 1 < t.length → rowAt (putT t x) i = rowAt t i := fun i hi => by
    unfold rowAt putT
    rw [List.getD_eq_getElem?_getD, List.getD_eq_getElem?_getD, List.getElem?_set_ne (by omega)]
  have e2 : lastT (putT t x) = lastT t ++ [x] := by
    unfold lastT
    rw [putT_length]
    unfold rowAt putT
    rw [List.getD_eq_getElem?_getD, List.getElem?_set_self (by omega)]
    rfl
  refine ⟨by rw [putT_length]; exact h.len, fun i hi => ?_, fun _ => ?_, fun row hrow y hy => ?_⟩
  · rw [putT_length] at hi
    rw [e1 i hi]
    exact h.full i hi
  · rw [e2, putT_length, List.length_append]
    show (((lastT t).length + 1 : Nat) : Int) ≤ _
    omega
  · unfold putT at hrow
    rcases List.mem_or_eq_of_mem_set hrow with h1 | h1
    · exact h.low row h1 y hy
    · subst h1
      rcases List.mem_append.1 hy with h2 | h2
      · exact lastT_low h y h2
      · rw [List.mem_singleton] at h2
        subst h2
        exact hx
/-- how many steps are left at most -/
def leftT (shape : List Int) (t : List (List Int)) : Nat := (shape.length - t.length) * 17 + (16 - (lastT t).length)
theorem leftT_row {shape : List Int} {t : List (List Int)} (h : t.length < shape.length) (_hl : (lastT t).length ≤ 16) : leftT shape (t ++ [[]]) < leftT shape t := by
  have e : lastT (t ++ [[]]) = [] := by
    unfold lastT rowAt
    rw [List.length_append, List.getD_eq_getElem?_getD]
    simp
  unfold leftT
  rw [e, List.length_append]
  simp
  obtain ⟨k, hk⟩ : ∃ k, shape.length - t.length = k + 1 := ⟨shape.length - t.length - 1, by omega⟩
  rw [hk, show shape.length - (t.length + 1) = k by omega]
  omega
theorem leftT_put {shape : List Int} {t : List (List Int)} {x : Int} (h0 : 0 < t.length) (hl : (lastT t).length < 16) : leftT shape (putT t x) < leftT shape t := by
  have e2 : lastT (putT t x) = lastT t ++ [x] := by
    unfold lastT
    rw [putT_length]
    unfold rowAt putT
    rw [List.getD_eq_getElem?_getD, List.getElem?_set_self (by omega)]
    rfl
  unfold leftT
  rw [e2, putT_length, List.length_append]
  simp
  omega
end Go.Proofs.Ytpjkhkoecgjjbaa
