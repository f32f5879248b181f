/-
  Permutations stay permutations; contracts of l1Length, LengthOf.
-/
import Derived.Test.YtblhndkaikelaaaSwap
import Derived.Test.YtblhndkaikelaaaIdent
import Derived.Test.YtblhndkaikelaaaCode
import Derived.Test.YtblhndkaikelaaaSumL
namespace Go.Proofs.Ytblhndkaikelaaa
open Go.RowKit

theorem isPerm_iff (xs : List Int) : isPerm xs = true ↔ 1 ≤ xs.length ∧ xs.length ≤ 7 ∧ (∀ x ∈ xs, 0 ≤ x ∧ x < xs.length) ∧ xs.Nodup := by
  constructor
  · intro h
    have hl := perm_len h
    refine ⟨hl.1, hl.2, fun x hx => ?_, ?_⟩
    · obtain ⟨i, hi⟩ := List.mem_iff_getElem?.1 hx
      exact perm_at h hi
    · rw [List.nodup_iff_pairwise_ne, List.pairwise_iff_getElem]
      intro i j hi hj hij e
      simp only [isPerm, Bool.and_eq_true, List.all_eq_true] at h
      have := h.2 j (by simpa using hj)
      have hxj : xs[j]? = some xs[j] := List.getElem?_eq_getElem hj
      simp only [permAt, getD_of hxj, Bool.and_eq_true, Bool.not_eq_true'] at this
      have h3 := this.2
      rw [List.contains_eq_mem, decide_eq_false_iff_not] at h3
      refine h3 (List.mem_iff_getElem?.2 ⟨i, ?_⟩)
      rw [List.getElem?_take, if_pos hij, ← e, List.getElem?_eq_getElem hi]
  · rintro ⟨h1, h2, h3, h4⟩
    refine isPerm_true h1 h2 (fun j hj => ?_)
    have hxj : xs[j]? = some xs[j] := List.getElem?_eq_getElem hj
    have hb := h3 xs[j] (List.getElem_mem hj)
    have hnm : ¬ xs[j] ∈ xs.take j := by
      intro hm
      obtain ⟨i, hi⟩ := List.mem_iff_getElem?.1 hm
      rw [List.getElem?_take] at hi
      split at hi
      · rename_i hij
        obtain ⟨hi', e⟩ := List.getElem?_eq_some_iff.1 hi
        rw [List.nodup_iff_pairwise_ne, List.pairwise_iff_getElem] at h4
        exact h4 i j hi' hj hij e
      · cases hi
    simp only [permAt, getD_of hxj, List.contains_eq_mem, hnm]
    simp; omega
theorem swp_perm {xs : List Int} {i j : Nat} (hi : i < xs.length) (hj : j < xs.length) : (swp xs i j).Perm xs := by
  rw [swp_at (List.getElem?_eq_getElem hi) (List.getElem?_eq_getElem hj)]
  exact List.set_set_perm hi hj
theorem isPerm_swp {xs : List Int} {i j : Nat} (h : isPerm xs = true) (hi : i < xs.length) (hj : j < xs.length) : isPerm (swp xs i j) = true := by
  rw [isPerm_iff] at h ⊢
  have hp := swp_perm hi hj
  rw [hp.length_eq]
  exact ⟨h.1, h.2.1, fun x hx => h.2.2.1 x (hp.mem_iff.1 hx), hp.nodup_iff.2 h.2.2.2⟩
theorem isPerm_ident {n : Nat} (h : 1 ≤ n ∧ n ≤ 7) : isPerm (ident n) = true := by
  obtain ⟨h1, h2⟩ := h
  have : n = 1 ∨ n = 2 ∨ n = 3 ∨ n = 4 ∨ n = 5 ∨ n = 6 ∨ n = 7 := by omega
  rcases this with rfl | rfl | rfl | rfl | rfl | rfl | rfl <;> decide
theorem code_nat {xs : List Int} {i : Nat} {x : Int} (h : (code xs)[i]? = some x) : 0 ≤ x ∧ x ≤ (xs.length : Nat) := by
  have hi := (List.getElem?_eq_some_iff.1 h).1
  rw [code_length] at hi
  rw [code_at rfl hi] at h
  obtain rfl := Option.some.inj h
  have := cnt_le xs i (xs.length - 1 - i)
  omega
theorem small_code {xs : List Int} (h : xs.length ≤ 1000) : Small (code xs) := by
  intro x hx
  obtain ⟨i, hi⟩ := List.mem_iff_getElem?.1 hx
  have := code_nat hi
  omega

end Go.Proofs.Ytblhndkaikelaaa
