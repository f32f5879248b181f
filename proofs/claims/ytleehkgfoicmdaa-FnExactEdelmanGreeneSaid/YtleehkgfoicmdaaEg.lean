/-
  Edelman's insertion: plain.
-/
import Derived.Test.YtleehkgfoicmdaaInserted
import Derived.Test.YtleehkgfoicmdaaPerm
namespace Go.Proofs.Ytleehkgfoicmdaa
open Go.RowKit

def egTab : List (List Int) → Int → List (List Int) × Nat
  | [], x => ([[x]], 0)
  | row :: rest, x =>
    if bump row x = row.length then ((row ++ [x]) :: rest, 0)
    else if row.getD (bump row x) 0 = x + 1 ∧ x ∈ row then (row :: (egTab rest (x + 1)).1, (egTab rest (x + 1)).2 + 1)
    else (row.set (bump row x) x :: (egTab rest (row.getD (bump row x) 0)).1, (egTab rest (row.getD (bump row x) 0)).2 + 1)
theorem egTab_end {row : List Int} {rest : List (List Int)} {x : Int} (h : bump row x = row.length) : egTab (row :: rest) x = ((row ++ [x]) :: rest, 0) := by rw [egTab, if_pos h]
theorem egTab_skip {row : List Int} {rest : List (List Int)} {x : Int} {k : Nat} (h : bump row x = k) (hy : row[k]? = some (x + 1)) (hm : x ∈ row) : egTab (row :: rest) x = (row :: (egTab rest (x + 1)).1, (egTab rest (x + 1)).2 + 1) := by
  have hk := (List.getElem?_eq_some_iff.1 hy).1
  rw [egTab, if_neg (by omega), h, getD_of hy, if_pos ⟨rfl, hm⟩]
theorem egTab_go {row : List Int} {rest : List (List Int)} {x y : Int} {k : Nat} (h : bump row x = k) (hy : row[k]? = some y) (hn : ¬ (y = x + 1 ∧ x ∈ row)) : egTab (row :: rest) x = (row.set k x :: (egTab rest y).1, (egTab rest y).2 + 1) := by
  have hk := (List.getElem?_eq_some_iff.1 hy).1
  rw [egTab, if_neg (by omega), h, getD_of hy, if_neg hn]
theorem egTab_sz (t : List (List Int)) : ∀ x, sz_II (egTab t x).1 = sz_II t + 1 := by
  induction t with
  | nil => intro x; simp [egTab, sz_II]
  | cons row rest ih =>
    intro x
    rw [egTab]
    split
    · simp only [sz_II, List.length_append, List.length_singleton]; omega
    · split
      · have := ih (x + 1)
        simp only [sz_II] at this ⊢; omega
      · have := ih (row.getD (bump row x) 0)
        simp only [sz_II, List.length_set] at this ⊢; omega
theorem egTab_len (t : List (List Int)) : ∀ x, (egTab t x).2 ≤ t.length ∧ (egTab t x).1.length = if (egTab t x).2 = t.length then t.length + 1 else t.length := by
  induction t with
  | nil => intro x; simp [egTab]
  | cons row rest ih =>
    intro x
    rw [egTab]
    split
    · simp
    · split
      · have := ih (x + 1)
        simp only [List.length_cons]
        refine ⟨by omega, ?_⟩
        rw [this.2]
        split <;> split <;> omega
      · have := ih (row.getD (bump row x) 0)
        simp only [List.length_cons]
        refine ⟨by omega, ?_⟩
        rw [this.2]
        split <;> split <;> omega

/-- a row whose numbers do not fall -/
def Rising (row : List Int) : Prop := row.Pairwise (· ≤ ·)
theorem rising_le {row : List Int} (h : Rising row) {i j : Nat} {x y : Int} (hx : row[i]? = some x) (hy : row[j]? = some y) (hij : i ≤ j) : x ≤ y := by
  rcases Nat.lt_or_eq_of_le hij with h1 | rfl
  · obtain ⟨hi, rfl⟩ := List.getElem?_eq_some_iff.1 hx
    obtain ⟨hj, rfl⟩ := List.getElem?_eq_some_iff.1 hy
    exact List.pairwise_iff_getElem.1 h i j hi hj h1
  · rw [hx] at hy; exact Int.le_of_eq (Option.some.inj hy)
theorem bump_spec {row : List Int} {x : Int} {k : Nat} (h : bump row x = k) : (∀ j z, j < k → row[j]? = some z → z ≤ x) ∧ (∀ y, row[k]? = some y → x < y) := by
  subst h
  constructor
  · intro j z hj hz
    have := List.not_of_lt_findIdx (p := fun y => decide (x < y)) (xs := row) hj
    obtain ⟨hj', rfl⟩ := List.getElem?_eq_some_iff.1 hz
    simpa using this
  · intro y hy
    obtain ⟨hk, rfl⟩ := List.getElem?_eq_some_iff.1 hy
    have := List.findIdx_getElem (p := fun y => decide (x < y)) (xs := row) (w := hk)
    exact of_decide_eq_true this
/-- on a rising row both tests are one -/
theorem eg_test {row : List Int} (h : Rising row) {x : Int} (_hm : x ∈ row) (hm1 : x + 1 ∈ row) : row[bump row x]? = some (x + 1) := by
  obtain ⟨i, hi⟩ := List.mem_iff_getElem?.1 hm1
  obtain ⟨h1, h2⟩ := bump_spec (row := row) (x := x) rfl
  have hle : bump row x ≤ i := by
    apply Nat.le_of_not_lt; intro hlt
    have := h1 i _ hlt hi; omega
  have hib := (List.getElem?_eq_some_iff.1 hi).1
  obtain ⟨y, hy⟩ := some_at (xs := row) rfl (show bump row x < row.length by omega)
  have := h2 y hy
  have := rising_le h hy hi hle
  rw [hy]; congr 1; omega
theorem rising_end {row : List Int} (h : Rising row) {x : Int} (hb : bump row x = row.length) : Rising (row ++ [x]) := by
  obtain ⟨h1, _⟩ := bump_spec hb
  unfold Rising
  rw [List.pairwise_append]
  refine ⟨h, by simp, fun z hz y hy => ?_⟩
  obtain ⟨j, hj⟩ := List.mem_iff_getElem?.1 hz
  simp at hy; subst hy
  exact h1 j z (List.getElem?_eq_some_iff.1 hj).1 hj
theorem rising_set {row : List Int} (h : Rising row) {x y : Int} {k : Nat} (hb : bump row x = k) (hy : row[k]? = some y) : Rising (row.set k x) := by
  obtain ⟨h1, h2⟩ := bump_spec hb
  have hxy := h2 y hy
  unfold Rising
  rw [List.pairwise_iff_getElem]
  intro i j hi hj hij
  simp only [List.length_set] at hi hj
  rw [List.getElem_set, List.getElem_set]
  have hgi : row[i]? = some row[i] := List.getElem?_eq_getElem hi
  have hgj : row[j]? = some row[j] := List.getElem?_eq_getElem hj
  by_cases e1 : k = i
  · subst e1
    rw [if_pos rfl, if_neg (by omega)]
    have := rising_le h hy hgj (by omega)
    omega
  · rw [if_neg e1]
    by_cases e2 : k = j
    · subst e2
      rw [if_pos rfl]
      exact h1 i _ hij hgi
    · rw [if_neg e2]
      exact rising_le h hgi hgj (by omega)
def AllRising (t : List (List Int)) : Prop := ∀ row ∈ t, Rising row
theorem eg_rising (t : List (List Int)) : ∀ x, AllRising t → AllRising (egTab t x).1 := by
  induction t with
  | nil => intro x _ row hr; simp [egTab] at hr; subst hr; simp [Rising]
  | cons r0 rest ih =>
    intro x h
    have h0 := h r0 (by simp)
    have hrest : AllRising rest := fun r hr => h r (by simp [hr])
    rw [egTab]
    split
    · rename_i hb
      intro row hr
      simp only [List.mem_cons] at hr
      rcases hr with rfl | hr
      · exact rising_end h0 hb
      · exact hrest row hr
    · rename_i hb
      split
      · intro row hr
        simp only [List.mem_cons] at hr
        rcases hr with rfl | hr
        · exact h0
        · exact ih _ hrest row hr
      · intro row hr
        simp only [List.mem_cons] at hr
        rcases hr with rfl | hr
        · have := bump_le r0 x
          obtain ⟨y, hy⟩ := some_at (xs := r0) rfl (show bump r0 x < r0.length by omega)
          exact rising_set h0 rfl hy
        · exact ih _ hrest row hr
/-- the insertion is as far as row i: the rows before are done, x' is to be inserted into the others -/
structure EgAt (xss : List (List Int)) (x : Int) (i : Nat) (x' : Int) (yss : List (List Int)) : Prop where
  rest : yss.drop i = xss.drop i
  tab : yss.take i ++ (egTab (xss.drop i) x').1 = (egTab xss x).1
  row : i + (egTab (xss.drop i) x').2 = (egTab xss x).2
theorem EgAt.start (xss : List (List Int)) (x : Int) : EgAt xss x 0 x xss := ⟨rfl, rfl, by simp⟩
theorem EgAt.next {xss yss : List (List Int)} {x x' y : Int} {i k : Nat} {r : List Int} (h : EgAt xss x i x' yss) (hr : xss[i]? = some r) (hb : bump r x' = k) (hy : r[k]? = some y) (hn : ¬ (y = x' + 1 ∧ x' ∈ r)) : EgAt xss x (i + 1) y (yss.set i (r.set k x')) := by
  have hyr : yss[i]? = some r := by rw [drop_get h.rest]; exact hr
  have hi := (List.getElem?_eq_some_iff.1 hyr).1
  have e := drop_at hr
  have e2 : yss.drop (i + 1) = xss.drop (i + 1) := by
    have h1 := h.rest
    rw [drop_at hyr, e] at h1
    exact (List.cons.inj h1).2
  have h3 := h.tab
  have h4 := h.row
  rw [e, egTab_go hb hy hn] at h3 h4
  refine ⟨?_, ?_, ?_⟩
  · rw [List.drop_set_of_lt (by omega), e2]
  · rw [take_at (x := r.set k x') (by rw [List.getElem?_set, if_pos rfl, if_pos hi]), List.take_set_of_le (Nat.le_refl _), List.append_assoc]
    exact h3
  · omega
theorem EgAt.done {xss yss : List (List Int)} {x x' : Int} {i : Nat} {r : List Int} (h : EgAt xss x i x' yss) (hr : xss[i]? = some r) (hb : bump r x' = r.length) : yss.set i (r ++ [x']) = (egTab xss x).1 ∧ (egTab xss x).2 = i := by
  have hyr : yss[i]? = some r := by rw [drop_get h.rest]; exact hr
  have hi := (List.getElem?_eq_some_iff.1 hyr).1
  have e := drop_at hr
  have h1 := h.rest
  have h3 := h.tab
  have h4 := h.row
  rw [e, egTab_end hb] at h3 h4
  rw [drop_at hyr, e] at h1
  have e2 := (List.cons.inj h1).2
  refine ⟨?_, by omega⟩
  rw [← h3, List.set_eq_take_append_cons_drop, if_pos hi, e2]
theorem EgAt.last {xss yss : List (List Int)} {x x' : Int} {n : Nat} (h : EgAt xss x n x' yss) (hn : xss.length = n) (hm : yss.length = n) : yss ++ [[x']] = (egTab xss x).1 ∧ (egTab xss x).2 = n := by
  have h3 := h.tab
  have h4 := h.row
  rw [List.drop_of_length_le (by omega), egTab] at h3 h4
  rw [List.take_of_length_le (by omega)] at h3
  exact ⟨h3, by simpa using h4.symm⟩
theorem EgAt.skip {xss yss : List (List Int)} {x x' : Int} {i k : Nat} {r : List Int} (h : EgAt xss x i x' yss) (hr : xss[i]? = some r) (hb : bump r x' = k) (hy : r[k]? = some (x' + 1)) (hm : x' ∈ r) : EgAt xss x (i + 1) (x' + 1) yss := by
  have hyr : yss[i]? = some r := by rw [drop_get h.rest]; exact hr
  have hi := (List.getElem?_eq_some_iff.1 hyr).1
  have e := drop_at hr
  have e2 : yss.drop (i + 1) = xss.drop (i + 1) := by
    have h1 := h.rest
    rw [drop_at hyr, e] at h1
    exact (List.cons.inj h1).2
  have h3 := h.tab
  have h4 := h.row
  rw [e, egTab_skip hb hy hm] at h3 h4
  refine ⟨e2, ?_, by omega⟩
  rw [take_at hyr, List.append_assoc]
  exact h3
def AllSmall (t : List (List Int)) : Prop := ∀ row ∈ t, ∀ z ∈ row, -1048576 ≤ z ∧ z ≤ 1048576
theorem eg_small (t : List (List Int)) : ∀ x, AllSmall t → -1048576 ≤ x ∧ x ≤ 1048576 → AllSmall (egTab t x).1 := by
  induction t with
  | nil => intro x _ hx row hr z hz; simp [egTab] at hr; subst hr; simp at hz; subst hz; exact hx
  | cons r0 rest ih =>
    intro x h hx
    have h0 := h r0 (by simp)
    have hrest : AllSmall rest := fun r hr => h r (by simp [hr])
    rw [egTab]
    split
    · intro row hr
      simp only [List.mem_cons] at hr
      rcases hr with rfl | hr
      · intro z hz
        simp only [List.mem_append, List.mem_singleton] at hz
        rcases hz with hz | rfl
        · exact h0 z hz
        · exact hx
      · exact hrest row hr
    · rename_i hb
      have := bump_le r0 x
      obtain ⟨y, hy⟩ := some_at (xs := r0) rfl (show bump r0 x < r0.length by omega)
      have hyb := h0 y (List.mem_of_getElem? hy)
      rw [getD_of hy]
      split
      · rename_i hc
        intro row hr
        simp only [List.mem_cons] at hr
        rcases hr with rfl | hr
        · exact h0
        · exact ih _ hrest (by rw [← hc.1]; exact hyb) row hr
      · intro row hr
        simp only [List.mem_cons] at hr
        rcases hr with rfl | hr
        · intro z hz
          rcases List.mem_or_eq_of_mem_set hz with hz | rfl
          · exact h0 z hz
          · exact hx
        · exact ih _ hrest hyb row hr
end Go.Proofs.Ytleehkgfoicmdaa
