/-
  What FnDescends asks of a permutation of at most 5. Plain.
-/
import Derived.Test.YtflkomgfgmephaaDescP
import Derived.Test.YtflkomgfgmephaaDegree
namespace Go.Proofs.Ytflkomgfgmephaa
open Go.RowKit

theorem wsum_gone : ∀ (n : Nat) (l : Mons), l.length ≤ n → (∀ k, raw l k = 0) → ∀ v, wsum l v = 0 := by
  intro n
  induction n with
  | zero =>
    intro l hl _ v
    have : l = [] := List.length_eq_zero_iff.1 (by omega)
    subst this
    rfl
  | succ n ih =>
    intro l hl h v
    cases l with
    | nil => rfl
    | cons p l =>
      rw [wsum_split (p :: l) p.1 v, h p.1, Int.zero_mul, Int.zero_add]
      refine ih _ ?_ ?_ v
      · have e : less1 (p :: l) p.1 = less1 l p.1 := by simp [less1]
        rw [e]
        have := less1_length l p.1
        simp only [List.length_cons] at hl
        omega
      · intro k
        rw [raw_less1]
        split
        · rfl
        · exact h k
structure DescFacts (n : Nat) (u : List Int) : Prop where
  su : OKp (SM u)
  deg : ∀ t ∈ termsM (SM u), sumI t.1 = sumI (code u)
  some : (termsM (SM u)).length ≠ 0
  emb : SM (grow1 u) = SM u
  embp : isPerm (grow1 u) = true
  div : ∀ k, k + 1 < n → OKp (dividedM k (SM u))
  down : ∀ k, k + 1 < n → u.getD (k + 1) 0 < u.getD k 0 → Same (dividedM k (SM u)) (SM (swp u k (k + 1))) ∧ OKp (SM (swp u k (k + 1))) ∧ isPerm (swp u k (k + 1)) = true
  up : ∀ k, k + 1 < n → ¬ u.getD (k + 1) 0 < u.getD k 0 → Same (dividedM k (SM u)) []
theorem sumI_digs (k : Int) : sumI (digs k) = degK k := by
  have e : digs k = [dig k 0, dig k 1, dig k 2, dig k 3, dig k 4, dig k 5, dig k 6] := rfl
  rw [e]
  simp only [sumI_cons, sumI_nil]
  unfold degK
  omega
theorem none_length {F : Mons} (h : Same F []) : (termsM F).length = 0 := by
  rw [termsM_eqv h.eqv]
  simp [termsM, canon, keysOf, uniq]
theorem descFacts {n : Nat} {u : List Int} (h1 : 1 ≤ n) (h5 : n ≤ 5) (hu : u ∈ perms n) : DescFacts n u := by
  have h := dsChk_of h1 h5 hu
  obtain ⟨hul, hup⟩ := perms_ok hu h1 h5
  unfold dsChk at h
  simp only [Bool.and_eq_true, decide_eq_true_eq] at h
  obtain ⟨⟨⟨⟨⟨⟨a1, a2⟩, a3⟩, a4⟩, a5⟩, a6⟩, a7⟩ := h
  obtain ⟨c1, c2⟩ := smallL_of a1
  have hsu := SM_okp (u := u) (by omega) c1 c2
  have hat : ∀ k, k + 1 < n → dsAt u k = true := fun k hk => List.all_eq_true.1 a7 k (by rw [List.mem_range]; omega)
  have hdn : ∀ k, k + 1 < n → u.getD (k + 1) 0 < u.getD k 0 → Same (dividedM k (SM u)) (SM (swp u k (k + 1))) ∧ OKp (SM (swp u k (k + 1))) ∧ isPerm (swp u k (k + 1)) = true := fun k hk hlt => by
    have h2 := hat k hk
    unfold dsAt at h2
    rw [if_pos hlt] at h2
    simp only [Bool.and_eq_true, decide_eq_true_eq] at h2
    obtain ⟨d1, d2⟩ := smallL_of h2.2
    exact ⟨(SMg_same u).symm.divided.trans ((same_of_gath h2.1).trans (SMg_same _)), SM_okp (by rw [swp_length]; omega) d1 d2, isPerm_swp hup (by omega) (by omega)⟩
  have hup' : ∀ k, k + 1 < n → ¬ u.getD (k + 1) 0 < u.getD k 0 → Same (dividedM k (SM u)) [] := fun k hk hlt => by
    have h2 := hat k hk
    unfold dsAt at h2
    rw [if_neg hlt, decide_eq_true_eq] at h2
    exact (SMg_same u).symm.divided.trans ((gath_same _).symm.trans (by rw [h2]; exact Same.refl _))
  have hbd : ∀ k, k + 1 < n → Bd 24 (dividedM k (SM u)) := fun k hk => ((SM_bd (by omega)).divided (by omega)).mono (by decide)
  refine ⟨hsu, fun t ht => ?_, fun h0 => ?_, ?_, a6, fun k hk => ?_, hdn, hup'⟩
  · obtain ⟨k, hk⟩ := List.getElem?_of_mem ht
    obtain ⟨p, hp, rfl⟩ := termsM_at hk
    rw [← canon_eqv (SMg_same u).eqv] at hp
    obtain ⟨q, hq, e⟩ := mem_canon (List.mem_of_getElem? hp)
    have := List.all_eq_true.1 a2 q hq
    rw [decide_eq_true_eq, e] at this
    show sumI (digs p.1) = _
    rw [sumI_digs, this]
  · apply a3
    have e1 : canon (SMg u) = [] := by
      rw [canon_eqv (SMg_same u).eqv]
      unfold termsM at h0
      rw [List.length_map] at h0
      exact List.eq_nil_of_length_eq_zero h0
    have e2 : ∀ k, raw (SMg u) k = 0 := fun k => by
      have h3 := canon_self (SMg u) k
      rw [e1] at h3
      have h4 := raw_nrm (SMg u) k
      unfold coef at h3
      rw [wrap_self (a := raw (SMg u) k) (by omega)] at h3
      rw [← h3]
      simp [raw, wsum, wrap_zero]
    exact wsum_gone _ _ (Nat.le_refl _) e2 _
  · unfold SM
    rw [a4, grow1_length, hul, a5]
  · rcases Decidable.em (u.getD (k + 1) 0 < u.getD k 0) with hlt | hlt
    · obtain ⟨e1, e2, _⟩ := hdn k hk hlt
      exact ⟨hbd k hk, by rw [termsM_eqv e1.eqv]; exact e2.ok⟩
    · exact (GoodM.same (GoodM.nil) (hup' k hk hlt) (hbd k hk)).okp (by decide) (by decide)
end Go.Proofs.Ytflkomgfgmephaa
