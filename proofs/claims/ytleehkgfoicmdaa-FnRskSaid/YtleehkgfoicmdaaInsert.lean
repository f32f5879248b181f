/-
  Contracts of l4Insert and l4Grown: a number inserted into a tableau, a number put behind a row.
-/
import Derived.Test.YtleehkgfoicmdaaCopy
namespace Go.Proofs.Ytleehkgfoicmdaa
open Go.RowKit

/-- where the first number above x lies in a row, or the row's length -/
def bump (row : List Int) (x : Int) : Nat := row.findIdx fun y => decide (x < y)
theorem bump_at {row : List Int} {x y : Int} {k : Nat} (h : ∀ j z, j < k → row[j]? = some z → z ≤ x) (hy : row[k]? = some y) (hxy : x < y) : bump row x = k := by
  unfold bump
  have hk := (List.getElem?_eq_some_iff.1 hy).1
  rw [List.findIdx_eq hk]
  have e : row[k] = y := (List.getElem?_eq_some_iff.1 hy).2
  refine ⟨by rw [e]; simpa using hxy, fun j hj => ?_⟩
  have := h j row[j] hj (by simp)
  simp; omega
theorem bump_end {row : List Int} {x : Int} (h : ∀ j z, j < row.length → row[j]? = some z → z ≤ x) : bump row x = row.length := by
  unfold bump
  rw [List.findIdx_eq_length]
  intro z hz
  obtain ⟨j, hj, rfl⟩ := List.mem_iff_getElem.1 hz
  have := h j row[j] hj (by simp)
  simp; omega
theorem bump_le (row : List Int) (x : Int) : bump row x ≤ row.length := List.findIdx_le_length

def insTab : List (List Int) → Int → List (List Int) × Nat
  | [], x => ([[x]], 0)
  | row :: rest, x =>
    if bump row x = row.length then ((row ++ [x]) :: rest, 0)
    else (row.set (bump row x) x :: (insTab rest (row.getD (bump row x) 0)).1, (insTab rest (row.getD (bump row x) 0)).2 + 1)
theorem insTab_end {row : List Int} {rest : List (List Int)} {x : Int} (h : bump row x = row.length) : insTab (row :: rest) x = ((row ++ [x]) :: rest, 0) := by rw [insTab, if_pos h]
theorem insTab_go {row : List Int} {rest : List (List Int)} {x y : Int} {k : Nat} (h : bump row x = k) (hy : row[k]? = some y) : insTab (row :: rest) x = (row.set k x :: (insTab rest y).1, (insTab rest y).2 + 1) := by
  have hk := (List.getElem?_eq_some_iff.1 hy).1
  rw [insTab, if_neg (by omega), h, getD_of hy]
theorem insTab_sz (t : List (List Int)) : ∀ x, sz_II (insTab t x).1 = sz_II t + 1 := by
  induction t with
  | nil => intro x; simp [insTab, sz_II]
  | cons row rest ih =>
    intro x
    rw [insTab]
    split
    · simp only [sz_II, List.length_append, List.length_singleton]; omega
    · have := ih (row.getD (bump row x) 0)
      simp only [sz_II, List.length_set] at this ⊢; omega
theorem insTab_len (t : List (List Int)) : ∀ x, (insTab t x).2 ≤ t.length ∧ (insTab t x).1.length = if (insTab t x).2 = t.length then t.length + 1 else t.length := by
  induction t with
  | nil => intro x; simp [insTab]
  | cons row rest ih =>
    intro x
    rw [insTab]
    split
    · simp
    · have := ih (row.getD (bump row x) 0)
      simp only [List.length_cons]
      refine ⟨by omega, ?_⟩
      rw [this.2]
      split <;> split <;> omega
/-- the insertion is as far as row i: the rows before are done, x' is to be inserted into the others -/
structure InsAt (xss : List (List Int)) (x : Int) (i : Nat) (x' : Int) (yss : List (List Int)) : Prop where
  rest : yss.drop i = xss.drop i
  tab : yss.take i ++ (insTab (xss.drop i) x').1 = (insTab xss x).1
  row : i + (insTab (xss.drop i) x').2 = (insTab xss x).2
theorem InsAt.start (xss : List (List Int)) (x : Int) : InsAt xss x 0 x xss := ⟨rfl, rfl, by simp⟩
theorem drop_get {α : Type} {xs ys : List α} {i : Nat} (h : ys.drop i = xs.drop i) : ys[i]? = xs[i]? := by
  have := congrArg (·[0]?) h
  simpa using this
theorem InsAt.next {xss yss : List (List Int)} {x x' y : Int} {i k : Nat} {r : List Int} (h : InsAt xss x i x' yss) (hr : xss[i]? = some r) (hb : bump r x' = k) (hy : r[k]? = some y) : InsAt xss x (i + 1) y (yss.set i (r.set k x')) := by
  have hyr : yss[i]? = some r := by rw [drop_get h.rest]; exact hr
  have hi := (List.getElem?_eq_some_iff.1 hyr).1
  have e := drop_at hr
  have e2 : yss.drop (i + 1) = xss.drop (i + 1) := by
    have h1 := h.rest
    rw [drop_at hyr, e] at h1
    exact (List.cons.inj h1).2
  have h3 := h.tab
  have h4 := h.row
  rw [e, insTab_go hb hy] at h3 h4
  refine ⟨?_, ?_, ?_⟩
  · rw [List.drop_set_of_lt (by omega), e2]
  · rw [take_at (x := r.set k x') (by rw [List.getElem?_set, if_pos rfl, if_pos hi]), List.take_set_of_le (Nat.le_refl _), List.append_assoc]
    exact h3
  · omega
theorem InsAt.done {xss yss : List (List Int)} {x x' : Int} {i : Nat} {r : List Int} (h : InsAt xss x i x' yss) (hr : xss[i]? = some r) (hb : bump r x' = r.length) : yss.set i (r ++ [x']) = (insTab xss x).1 ∧ (insTab xss x).2 = i := by
  have hyr : yss[i]? = some r := by rw [drop_get h.rest]; exact hr
  have hi := (List.getElem?_eq_some_iff.1 hyr).1
  have e := drop_at hr
  have h1 := h.rest
  have h3 := h.tab
  have h4 := h.row
  rw [e, insTab_end hb] at h3 h4
  rw [drop_at hyr, e] at h1
  have e2 := (List.cons.inj h1).2
  refine ⟨?_, by omega⟩
  rw [← h3, List.set_eq_take_append_cons_drop, if_pos hi, e2]
theorem InsAt.last {xss yss : List (List Int)} {x x' : Int} {n : Nat} (h : InsAt xss x n x' yss) (hn : xss.length = n) (hm : yss.length = n) : yss ++ [[x']] = (insTab xss x).1 ∧ (insTab xss x).2 = n := by
  have h3 := h.tab
  have h4 := h.row
  rw [List.drop_of_length_le (by omega), insTab] at h3 h4
  rw [List.take_of_length_le (by omega)] at h3
  exact ⟨h3, by simpa using h4.symm⟩
end Go.Proofs.Ytleehkgfoicmdaa
