/-
  Polynomials within the limits: few terms, small exponents, small coefficients. Plain.
-/
import Derived.Test.YtomejjbkakpoiaaGreatBuE11
namespace Go.Proofs.YtomejjbkakpoiaaGreat
open Go.RowKit

theorem canon_len_eqv {F G : Mons} (h : Eqv F G) : (canon F).length = (canon G).length := by rw [canon_eqv h]
theorem canon_length (F : Mons) : (canon F).length = (keysOf F).length := by simp [canon]
theorem raw_app (F G : Mons) (k : Int) : raw (F ++ G) k = raw F k + raw G k := wsum_append F G _
theorem coef_app_zero {F G : Mons} {k : Int} (h1 : coef F k = 0) (h2 : coef G k = 0) : coef (F ++ G) k = 0 := by
  unfold coef at *
  rw [raw_app, ← wrap_addl, ← wrap_addr, h1, h2]
  exact wrap_zero
theorem canon_len_append (F G : Mons) : (canon (F ++ G)).length ≤ (canon F).length + (canon G).length := by
  rw [canon_length, canon_length, canon_length, ← List.length_append]
  refine (keysOf_nodup (F ++ G)).length_le_of_subset fun k hk => ?_
  rw [mem_keysOf] at hk
  rw [List.mem_append, mem_keysOf, mem_keysOf]
  rcases Decidable.em (coef F k = 0) with h1 | h1
  · rcases Decidable.em (coef G k = 0) with h2 | h2
    · exact absurd (coef_app_zero h1 h2) hk
    · exact .inr h2
  · exact .inl h1
theorem wsum_scale (c : Int) (F : Mons) (v : Int → Int) : wsum (scaleM c F) v = c * wsum F v := by
  induction F with
  | nil => simp [scaleM, wsum]
  | cons p F ih =>
    have e : scaleM c (p :: F) = (p.1, c * p.2) :: scaleM c F := rfl
    rw [e, wsum, ih, wsum, Int.mul_add, Int.mul_assoc]
theorem coef_scale_zero {F : Mons} {c k : Int} (h : coef F k = 0) : coef (scaleM c F) k = 0 := by
  unfold coef raw at *
  rw [wsum_scale, ← wrap_mul, h, Int.mul_zero]
  exact wrap_zero
theorem canon_len_scale (c : Int) (F : Mons) : (canon (scaleM c F)).length ≤ (canon F).length := by
  rw [canon_length, canon_length]
  refine (keysOf_nodup (scaleM c F)).length_le_of_subset fun k hk => ?_
  rw [mem_keysOf] at hk ⊢
  exact fun h => hk (coef_scale_zero h)
structure GoodM (n C : Nat) (F : Mons) : Prop where
  bd : Bd 24 F
  few : (canon F).length ≤ n
  low : ∀ k, -(C : Int) ≤ raw F k ∧ raw F k ≤ C
theorem GoodM.mono {n C m D : Nat} {F : Mons} (h : GoodM n C F) (hn : n ≤ m) (hC : C ≤ D) : GoodM m D F :=
  ⟨h.bd, Nat.le_trans h.few hn, fun k => by have := h.low k; omega⟩
theorem GoodM.nil : GoodM 0 0 [] := ⟨fun p hp => (by cases hp), by simp [canon, keysOf, uniq], fun k => by simp [raw, wsum]⟩
theorem GoodM.append {n C m D : Nat} {F G : Mons} (h : GoodM n C F) (h' : GoodM m D G) : GoodM (n + m) (C + D) (F ++ G) :=
  ⟨h.bd.append h'.bd, Nat.le_trans (canon_len_append F G) (Nat.add_le_add h.few h'.few), fun k => by
    have := h.low k
    have := h'.low k
    rw [raw_app]
    omega⟩
theorem mul_range {a b : Int} {C D : Nat} (ha : -(C : Int) ≤ a ∧ a ≤ C) (hb : -(D : Int) ≤ b ∧ b ≤ D) : -((C * D : Nat) : Int) ≤ a * b ∧ a * b ≤ ((C * D : Nat) : Int) := by
  have h1 : a.natAbs ≤ C := by omega
  have h2 : b.natAbs ≤ D := by omega
  have h3 : (a * b).natAbs ≤ C * D := by rw [Int.natAbs_mul]; exact Nat.mul_le_mul h1 h2
  omega
theorem GoodM.scale {n C D : Nat} {F : Mons} (h : GoodM n C F) {c : Int} (hc : -(D : Int) ≤ c ∧ c ≤ D) : GoodM n (D * C) (scaleM c F) :=
  ⟨h.bd.scale, Nat.le_trans (canon_len_scale c F) h.few, fun k => by
    unfold raw
    rw [wsum_scale]
    exact mul_range hc (h.low k)⟩
theorem GoodM.plus {n C m D E : Nat} {F G : Mons} (h : GoodM n C F) (h' : GoodM m D G) {c : Int} (hc : -(E : Int) ≤ c ∧ c ≤ E) : GoodM (n + m) (C + E * D) (plusM F c G) := h.append (h'.scale hc)
theorem GoodM.canon {n C : Nat} {F : Mons} (h : GoodM n C F) (hC : C ≤ 1000000) : GoodM n C (canon F) :=
  ⟨h.bd.canon, by rw [canon_len_eqv (canon_self F)]; exact h.few, fun k => by
    have e : raw (Go.Proofs.YtomejjbkakpoiaaGreat.canon F) k = coef F k := by
      unfold Go.Proofs.YtomejjbkakpoiaaGreat.canon
      rw [raw_map (keysOf_nodup F)]
      split
      · rfl
      · rename_i hk
        rw [mem_keysOf] at hk
        exact (Decidable.not_not.1 hk).symm
    rw [e]
    have := h.low k
    unfold coef
    rw [wrap_self (by omega)]
    exact this⟩
theorem termsM_at {F : Mons} {k : Nat} {t : List Int × Int} (h : (termsM F)[k]? = some t) : ∃ p, (canon F)[k]? = some p ∧ t = term p := by
  unfold termsM at h
  rw [List.getElem?_map] at h
  cases hp : (canon F)[k]? with
  | none => rw [hp] at h; cases h
  | some p => rw [hp] at h; exact ⟨p, rfl, by simpa using h.symm⟩
theorem GoodM.ok {F : Mons} (h : GoodM 600 1000000 F) : polyOk (termsM F) = true := by
  unfold polyOk
  rw [Bool.and_eq_true, decide_eq_true_eq, List.all_eq_true]
  refine ⟨by unfold termsM; rw [List.length_map]; exact h.few, fun k hk => ?_⟩
  rw [List.mem_range] at hk
  obtain ⟨t, ht⟩ : ∃ t, (termsM F)[k]? = some t := ⟨_, List.getElem?_eq_getElem hk⟩
  obtain ⟨p, hp, rfl⟩ := termsM_at ht
  have hb := h.bd.canon p (List.mem_of_getElem? hp)
  obtain ⟨hc1, hc2⟩ := canon_mem.1 (List.mem_of_getElem? hp)
  have hl := h.low p.1
  have hc3 : p.2 = raw F p.1 := by rw [hc2]; unfold coef; rw [wrap_self (by omega)]
  unfold termAt
  rw [termOf_at ht, Bool.and_eq_true, Bool.and_eq_true]
  refine ⟨⟨?_, ?_⟩, ?_⟩
  · unfold headOk coefOk term
    simp only [digs_length, Bool.and_eq_true, decide_eq_true_eq]
    exact ⟨trivial, hc1, by omega, by omega⟩
  · rw [List.all_eq_true]
    intro x hx
    unfold term digs at hx
    simp only [List.mem_map, List.mem_range] at hx
    obtain ⟨i, hi, rfl⟩ := hx
    have h1 := hb.2 i hi
    have h2 := dig_range p.1 i
    unfold small
    rw [decide_eq_true_eq]
    omega
  · cases k with
    | zero => rfl
    | succ k =>
      obtain ⟨t', ht'⟩ : ∃ t, (termsM F)[k]? = some t := ⟨_, List.getElem?_eq_getElem (by omega)⟩
      obtain ⟨q, hq, rfl⟩ := termsM_at ht'
      have hb' := h.bd.canon q (List.mem_of_getElem? hq)
      rw [Nat.add_sub_cancel, termOf_at ht']
      unfold term
      simp only
      rw [keyL_digs hb.1, keyL_digs hb'.1]
      obtain ⟨hk1, e1⟩ := List.getElem?_eq_some_iff.1 hp
      obtain ⟨hk2, e2⟩ := List.getElem?_eq_some_iff.1 hq
      have := List.pairwise_iff_getElem.1 (canon_sorted F) k (k + 1) hk2 hk1 (by omega)
      rw [e1, e2] at this
      simp [this]
theorem monsOf_terms {F : Mons} (h : Bd 24 F) : monsOf (termsM F) = canon F := by
  unfold monsOf termsM
  rw [List.map_map]
  conv => rhs; rw [← List.map_id (canon F)]
  refine List.map_congr_left fun p hp => ?_
  have := (h.canon p hp).1
  simp only [Function.comp, term, id]
  rw [keyL_digs this]
/-- a polynomial within the limits -/
structure OKp (F : Mons) : Prop where
  bd : Bd 24 F
  ok : polyOk (termsM F) = true
theorem GoodM.okp {F : Mons} {n C : Nat} (h : GoodM n C F) (hn : n ≤ 600) (hC : C ≤ 1000000) : OKp F := ⟨h.bd, (h.mono hn hC).ok⟩
theorem OKp.len {F : Mons} (h : OKp F) : (termsM F).length ≤ 600 := polyOk_len h.ok
theorem termsM_eqv {F G : Mons} (h : Eqv F G) : termsM F = termsM G := by unfold termsM; rw [canon_eqv h]
theorem termsM_op {op : Mons → Mons} (hop : ∀ {F G : Mons}, Eqv F G → Eqv (op F) (op G)) {F : Mons} (h : OKp F) : termsM (op (monsOf (termsM F))) = termsM (op F) := by
  rw [monsOf_terms h.bd]
  exact termsM_eqv (hop (canon_self F))
theorem closedT_op {op : Mons → Mons} (hop : ∀ {F G : Mons}, Eqv F G → Eqv (op F) (op G)) {F : Mons} (h : OKp F) (hR : OKp (op F)) : closedT (op (monsOf (termsM F))) = termsM (op F) := by
  have e := termsM_op (fun h => hop h) h
  rw [closedT_ok (by rw [e]; exact hR.ok), e]
end Go.Proofs.YtomejjbkakpoiaaGreat
