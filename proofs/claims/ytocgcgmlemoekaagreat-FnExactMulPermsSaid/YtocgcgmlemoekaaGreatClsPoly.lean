/-
  ClassesPoly, both.
-/
import Derived.Test.YtocgcgmlemoekaaGreatClassesOk2
import Derived.Test.YtocgcgmlemoekaaGreatKey
import Derived.Test.YtocgcgmlemoekaaGreatBuE
import Derived.Test.YtocgcgmlemoekaaGreatKK
import Derived.Deep.RegionHeld3
namespace Go.Proofs.YtocgcgmlemoekaaGreat
open Go.RowKit Go.MapKept

/-- the Schubert polynomial of a permutation -/
def schOf (p : List Int) : Mons := schM (p.take (trimLen p p.length)) (trimLen p p.length)
def clsTo (xs : List (List Int × Int)) : Nat → Mons
  | 0 => []
  | k + 1 => plusM (clsTo xs k) (partOf xs k).2 (schOf (partOf xs k).1)
def clsM (xs : List (List Int × Int)) : Mons := clsTo xs xs.length
def clsT (xs : List (List Int × Int)) : List (List Int × Int) := if classesOk xs = true then closedT (clsM xs) else []
def clsOk (xs : List (List Int × Int)) : Bool := classesOk xs && polyOk (termsM (clsM xs))
theorem cls_no {xs : List (List Int × Int)} (h : classesOk xs = false) : clsT xs = [] ∧ clsOk xs = false := by
  unfold clsT clsOk
  rw [h]
  exact ⟨rfl, rfl⟩
theorem cls_yes {xs : List (List Int × Int)} (h : classesOk xs = true) : clsT xs = closedT (clsM xs) ∧ clsOk xs = polyOk (termsM (clsM xs)) := by
  unfold clsT clsOk
  rw [h]
  exact ⟨if_pos rfl, rfl⟩
theorem clsT_cases (xs : List (List Int × Int)) : clsT xs = [] ∨ ∃ F, clsT xs = closedT F := by
  unfold clsT
  split
  · exact .inr ⟨_, rfl⟩
  · exact .inl rfl
theorem clsT_len (xs : List (List Int × Int)) : (clsT xs).length ≤ 1048576 := by
  rcases clsT_cases xs with e | ⟨F, e⟩
  · rw [e]; exact Nat.zero_le _
  · rw [e]; have := closedT_len F; omega
theorem clsT_sz (xs : List (List Int × Int)) : sz_T (clsT xs) ≤ 1099511627776 := by
  rcases clsT_cases xs with e | ⟨F, e⟩
  · rw [e]; exact Nat.zero_le _
  · rw [e, sz_T_sevens closedT_each]; have := closedT_len F; omega
theorem clsT_short (xs : List (List Int × Int)) : ∀ p ∈ clsT xs, p.1.length ≤ 1048576 := by
  rcases clsT_cases xs with e | ⟨F, e⟩
  · rw [e]; simp
  · rw [e]; intro p hp; rw [closedT_each p hp]; omega
theorem B7.nil : B7 [] := fun p hp => by cases hp
theorem B7.plus {F G : Mons} {c : Int} (h : B7 F) (h' : B7 G) : B7 (plusM F c G) := fun p hp => by
  rcases List.mem_append.1 hp with hp | hp
  · exact h p hp
  · obtain ⟨q, hq, rfl⟩ := List.mem_map.1 hp
    exact h' q hq
theorem schOf_b7 {p : List Int} (h : p.length ≤ 7) : B7 (schOf p) := by
  have := trimLen_le p p.length
  exact sch_b7 _ (by omega) (by rw [List.length_take]; omega)
theorem classes_each {xs : List (List Int × Int)} (h : classesOk xs = true) {k : Nat} {p : List Int × Int} (hx : xs[k]? = some p) : isPerm p.1 = true ∧ p.1.length ≤ 7 := by
  unfold classesOk at h
  simp only [Bool.and_eq_true, decide_eq_true_eq, List.all_eq_true, List.mem_range] at h
  have h1 := h.2 k (lt_of_some hx)
  unfold classAt isClass at h1
  rw [partOf_at hx] at h1
  simp only [Bool.and_eq_true] at h1
  exact ⟨h1.1.1.1.1, ((isPerm_iff _).1 h1.1.1.1.1).2.1⟩
theorem clsTo_b7 {xs : List (List Int × Int)} (h : classesOk xs = true) : ∀ k, k ≤ xs.length → B7 (clsTo xs k) := by
  intro k
  induction k with
  | zero => intro _; exact B7.nil
  | succ k ih =>
    intro hk
    obtain ⟨p, hp⟩ := some_of (show k < xs.length by omega)
    refine (ih (by omega)).plus ?_
    rw [partOf_at hp]
    exact schOf_b7 (classes_each h hp).2
theorem classes_len {xs : List (List Int × Int)} (h : classesOk xs = true) : xs.length ≤ 100 := by
  unfold classesOk at h
  simp only [Bool.and_eq_true, decide_eq_true_eq] at h
  exact h.1

end Go.Proofs.YtocgcgmlemoekaaGreat
