/-
  Polynomials within the limits: few terms, small exponents, small coefficients. Plain.
  One polynomial in two lists, to the last coefficient; lists gathered by hand; sums of sizes of coefficients. Plain.
  Operators that are sums over the monomials: known at single monomials, known at all polynomials. Plain.
-/
import Derived.Test.YtcminkcoifkbgaaGreatDoorPolyOpen
namespace Go.Proofs.YtcminkcoifkbgaaGreatDoor
open Go.RowKit

theorem canon_len_eqv {F G : Mons} (h : Eqv F G) : (canon F).length = (canon G).length := by rw [canon_eqv h]
theorem canon_length (F : Mons) : (canon F).length = (keysOf F).length := by simp [canon]
theorem raw_app (F G : Mons) (k : Int) : raw (F ++ G) k = raw F k + raw G k := wsum_append F G _
theorem coef_app_zero {F G : Mons} {k : Int} (h1 : coef F k = 0) (h2 : coef G k = 0) : coef (F ++ G) k = 0 := by
  unfold coef at *
  rw [raw_app, ← wrap_addl, ← wrap_addr, h1, h2]
  exact wrap_zero
theorem canon_len_append (F G : Mons) : (canon (F ++ G)).length ≤ (canon F).length + (canon G).length := by
  rw [canon_length, canon_length, canon_length, ← List.length_append]
  refine (keysOf_nodup (F ++ G)).length_le_of_subset fun k hk => ?_
  rw [mem_keysOf] at hk
  rw [List.mem_append, mem_keysOf, mem_keysOf]
  rcases Decidable.em (coef F k = 0) with h1 | h1
  · rcases Decidable.em (coef G k = 0) with h2 | h2
    · exact absurd (coef_app_zero h1 h2) hk
    · exact .inr h2
  · exact .inl h1
theorem wsum_scale (c : Int) (F : Mons) (v : Int → Int) : wsum (scaleM c F) v = c * wsum F v := by
  induction F with
  | nil => simp [scaleM, wsum]
  | cons p F ih =>
    have e : scaleM c (p :: F) = (p.1, c * p.2) :: scaleM c F := rfl
    rw [e, wsum, ih, wsum, Int.mul_add, Int.mul_assoc]
theorem coef_scale_zero {F : Mons} {c k : Int} (h : coef F k = 0) : coef (scaleM c F) k = 0 := by
  unfold coef raw at *
  rw [wsum_scale, ← wrap_mul, h, Int.mul_zero]
  exact wrap_zero
theorem canon_len_scale (c : Int) (F : Mons) : (canon (scaleM c F)).length ≤ (canon F).length := by
  rw [canon_length, canon_length]
  refine (keysOf_nodup (scaleM c F)).length_le_of_subset fun k hk => ?_
  rw [mem_keysOf] at hk ⊢
  exact fun h => hk (coef_scale_zero h)
structure GoodM (n C : Nat) (F : Mons) : Prop where
  bd : Bd 24 F
  few : (canon F).length ≤ n
  low : ∀ k, -(C : Int) ≤ raw F k ∧ raw F k ≤ C
theorem GoodM.mono {n C m D : Nat} {F : Mons} (h : GoodM n C F) (hn : n ≤ m) (hC : C ≤ D) : GoodM m D F :=
  ⟨h.bd, Nat.le_trans h.few hn, fun k => by have := h.low k; omega⟩
theorem GoodM.nil : GoodM 0 0 [] := ⟨fun p hp => (by cases hp), by simp [canon, keysOf, uniq], fun k => by simp [raw, wsum]⟩
theorem GoodM.append {n C m D : Nat} {F G : Mons} (h : GoodM n C F) (h' : GoodM m D G) : GoodM (n + m) (C + D) (F ++ G) :=
  ⟨h.bd.append h'.bd, Nat.le_trans (canon_len_append F G) (Nat.add_le_add h.few h'.few), fun k => by
    have := h.low k
    have := h'.low k
    rw [raw_app]
    omega⟩
theorem mul_range {a b : Int} {C D : Nat} (ha : -(C : Int) ≤ a ∧ a ≤ C) (hb : -(D : Int) ≤ b ∧ b ≤ D) : -((C * D : Nat) : Int) ≤ a * b ∧ a * b ≤ ((C * D : Nat) : Int) := by
  have h1 : a.natAbs ≤ C := by omega
  have h2 : b.natAbs ≤ D := by omega
  have h3 : (a * b).natAbs ≤ C * D := by rw [Int.natAbs_mul]; exact Nat.mul_le_mul h1 h2
  omega
theorem GoodM.scale {n C D : Nat} {F : Mons} (h : GoodM n C F) {c : Int} (hc : -(D : Int) ≤ c ∧ c ≤ D) : GoodM n (D * C) (scaleM c F) :=
  ⟨h.bd.scale, Nat.le_trans (canon_len_scale c F) h.few, fun k => by
    unfold raw
    rw [wsum_scale]
    exact mul_range hc (h.low k)⟩
theorem GoodM.plus {n C m D E : Nat} {F G : Mons} (h : GoodM n C F) (h' : GoodM m D G) {c : Int} (hc : -(E : Int) ≤ c ∧ c ≤ E) : GoodM (n + m) (C + E * D) (plusM F c G) := h.append (h'.scale hc)
theorem GoodM.canon {n C : Nat} {F : Mons} (h : GoodM n C F) (hC : C ≤ 1000000) : GoodM n C (canon F) :=
  ⟨h.bd.canon, by rw [canon_len_eqv (canon_self F)]; exact h.few, fun k => by
    have e : raw (Go.Proofs.YtcminkcoifkbgaaGreatDoor.canon F) k = coef F k := by
      unfold Go.Proofs.YtcminkcoifkbgaaGreatDoor.canon
      rw [raw_map (keysOf_nodup F)]
      split
      · rfl
      · rename_i hk
        rw [mem_keysOf] at hk
        exact (Decidable.not_not.1 hk).symm
    rw [e]
    have := h.low k
    unfold coef
    rw [wrap_self (by omega)]
    exact this⟩
theorem termsM_at {F : Mons} {k : Nat} {t : List Int × Int} (h : (termsM F)[k]? = some t) : ∃ p, (canon F)[k]? = some p ∧ t = term p := by
  unfold termsM at h
  rw [List.getElem?_map] at h
  cases hp : (canon F)[k]? with
  | none => rw [hp] at h; cases h
  | some p => rw [hp] at h; exact ⟨p, rfl, by simpa using h.symm⟩
theorem GoodM.ok {F : Mons} (h : GoodM 600 1000000 F) : polyOk (termsM F) = true := by
  unfold polyOk
  rw [Bool.and_eq_true, decide_eq_true_eq, List.all_eq_true]
  refine ⟨by unfold termsM; rw [List.length_map]; exact h.few, fun k hk => ?_⟩
  rw [List.mem_range] at hk
  obtain ⟨t, ht⟩ : ∃ t, (termsM F)[k]? = some t := ⟨_, List.getElem?_eq_getElem hk⟩
  obtain ⟨p, hp, rfl⟩ := termsM_at ht
  have hb := h.bd.canon p (List.mem_of_getElem? hp)
  obtain ⟨hc1, hc2⟩ := canon_mem.1 (List.mem_of_getElem? hp)
  have hl := h.low p.1
  have hc3 : p.2 = raw F p.1 := by rw [hc2]; unfold coef; rw [wrap_self (by omega)]
  unfold termAt
  rw [termOf_at ht, Bool.and_eq_true, Bool.and_eq_true]
  refine ⟨⟨?_, ?_⟩, ?_⟩
  · unfold headOk coefOk term
    simp only [digs_length, Bool.and_eq_true, decide_eq_true_eq]
    exact ⟨trivial, hc1, by omega, by omega⟩
  · rw [List.all_eq_true]
    intro x hx
    unfold term digs at hx
    simp only [List.mem_map, List.mem_range] at hx
    obtain ⟨i, hi, rfl⟩ := hx
    have h1 := hb.2 i hi
    have h2 := dig_range p.1 i
    unfold small
    rw [decide_eq_true_eq]
    omega
  · cases k with
    | zero => rfl
    | succ k =>
      obtain ⟨t', ht'⟩ : ∃ t, (termsM F)[k]? = some t := ⟨_, List.getElem?_eq_getElem (by omega)⟩
      obtain ⟨q, hq, rfl⟩ := termsM_at ht'
      have hb' := h.bd.canon q (List.mem_of_getElem? hq)
      rw [Nat.add_sub_cancel, termOf_at ht']
      unfold term
      simp only
      rw [keyL_digs hb.1, keyL_digs hb'.1]
      obtain ⟨hk1, e1⟩ := List.getElem?_eq_some_iff.1 hp
      obtain ⟨hk2, e2⟩ := List.getElem?_eq_some_iff.1 hq
      have := List.pairwise_iff_getElem.1 (canon_sorted F) k (k + 1) hk2 hk1 (by omega)
      rw [e1, e2] at this
      simp [this]
theorem monsOf_terms {F : Mons} (h : Bd 24 F) : monsOf (termsM F) = canon F := by
  unfold monsOf termsM
  rw [List.map_map]
  conv => rhs; rw [← List.map_id (canon F)]
  refine List.map_congr_left fun p hp => ?_
  have := (h.canon p hp).1
  simp only [Function.comp, term, id]
  rw [keyL_digs this]
/-- a polynomial within the limits -/
structure OKp (F : Mons) : Prop where
  bd : Bd 24 F
  ok : polyOk (termsM F) = true
theorem GoodM.okp {F : Mons} {n C : Nat} (h : GoodM n C F) (hn : n ≤ 600) (hC : C ≤ 1000000) : OKp F := ⟨h.bd, (h.mono hn hC).ok⟩
theorem OKp.len {F : Mons} (h : OKp F) : (termsM F).length ≤ 600 := polyOk_len h.ok
theorem termsM_eqv {F G : Mons} (h : Eqv F G) : termsM F = termsM G := by unfold termsM; rw [canon_eqv h]
theorem termsM_op {op : Mons → Mons} (hop : ∀ {F G : Mons}, Eqv F G → Eqv (op F) (op G)) {F : Mons} (h : OKp F) : termsM (op (monsOf (termsM F))) = termsM (op F) := by
  rw [monsOf_terms h.bd]
  exact termsM_eqv (hop (canon_self F))
theorem closedT_op {op : Mons → Mons} (hop : ∀ {F G : Mons}, Eqv F G → Eqv (op F) (op G)) {F : Mons} (h : OKp F) (hR : OKp (op F)) : closedT (op (monsOf (termsM F))) = termsM (op F) := by
  have e := termsM_op (fun h => hop h) h
  rw [closedT_ok (by rw [e]; exact hR.ok), e]
end Go.Proofs.YtcminkcoifkbgaaGreatDoor

namespace Go.Proofs.YtcminkcoifkbgaaGreatDoor
open Go.RowKit

def Same (F G : Mons) : Prop := ∀ v, wsum F v = wsum G v
theorem Same.refl (F : Mons) : Same F F := fun _ => rfl
theorem Same.symm {F G : Mons} (h : Same F G) : Same G F := fun v => (h v).symm
theorem Same.trans {F G H : Mons} (h : Same F G) (k : Same G H) : Same F H := fun v => (h v).trans (k v)
theorem Same.eqv {F G : Mons} (h : Same F G) : Eqv F G := Eqv.of_wsum fun v => by rw [h v, Int.sub_self]; exact Int.dvd_zero _
theorem Same.raw {F G : Mons} (h : Same F G) (k : Int) : raw F k = raw G k := h _
theorem Same.append {F G F' G' : Mons} (h : Same F G) (k : Same F' G') : Same (F ++ F') (G ++ G') := fun v => by rw [wsum_append, wsum_append, h v, k v]
theorem Same.flatMap {f : Int × Int → Mons} (hf : Lin f) {F G : Mons} (h : Same F G) : Same (F.flatMap f) (G.flatMap f) := by
  obtain ⟨A, hA⟩ := hf.flat
  exact fun v => by rw [hA, hA]; exact h _
theorem Same.divided {i : Nat} {F G : Mons} (h : Same F G) : Same (dividedM i F) (dividedM i G) := h.flatMap (lin_dd i)
theorem Same.scale {c : Int} {F G : Mons} (h : Same F G) : Same (scaleM c F) (scaleM c G) := fun v => by rw [wsum_scale, wsum_scale, h v]
theorem Same.plus {c : Int} {F G F' G' : Mons} (h : Same F G) (k : Same F' G') : Same (plusM F c F') (plusM G c G') := h.append k.scale
theorem wsum_keys (g : Int → Int) (F : Mons) (v : Int → Int) : wsum (F.map fun p => (g p.1, p.2)) v = wsum F fun k => v (g k) := by
  induction F with
  | nil => rfl
  | cons p F ih => rw [List.map_cons, wsum, ih, wsum]
theorem Same.keys (g : Int → Int) {F G : Mons} (h : Same F G) : Same (F.map fun p => (g p.1, p.2)) (G.map fun p => (g p.1, p.2)) := fun v => by rw [wsum_keys, wsum_keys]; exact h _
theorem Same.raised {i : Nat} {F G : Mons} (h : Same F G) : Same (raisedM i F) (raisedM i G) := h.keys fun k => k + unit i
theorem Same.swap {i : Nat} {F G : Mons} (h : Same F G) : Same (swapM i F) (swapM i G) := h.keys (swapK i)
theorem Same.times {F G F' G' : Mons} (h : Same F G) (k : Same F' G') : Same (timesM F F') (timesM G G') := fun v => by
  rw [wsum_times, wsum_times, h]
  congr 1
  funext j
  exact k _
theorem Same.dem {i : Nat} {F G : Mons} (h : Same F G) : Same (demM i F) (demM i G) := h.raised.divided
theorem Same.iso {i : Nat} {F G : Mons} (h : Same F G) : Same (isoM i F) (isoM i G) := (h.plus h.raised).divided

/-! gathered, the greatest key first -/
def insM (k c : Int) : Mons → Mons
  | [] => if c = 0 then [] else [(k, c)]
  | (j, d) :: l => if k = j then (if c + d = 0 then l else (j, c + d) :: l) else if j < k then (if c = 0 then (j, d) :: l else (k, c) :: (j, d) :: l) else (j, d) :: insM k c l
theorem insM_sum (k c : Int) (v : Int → Int) : ∀ l : Mons, wsum (insM k c l) v = c * v k + wsum l v
  | [] => by
    unfold insM
    split
    · rename_i h; simp [h, wsum]
    · simp [wsum]
  | (j, d) :: l => by
    unfold insM
    split
    · rename_i h
      subst h
      split
      · rename_i h0
        rw [wsum]
        have : c * v k + (d * v k + wsum l v) = (c + d) * v k + wsum l v := by rw [Int.add_mul]; omega
        rw [this, h0]; simp
      · rw [wsum, wsum]
        simp only
        rw [Int.add_mul]; omega
    · split
      · split
        · rename_i h0; rw [h0]; simp
        · rw [wsum]
      · rw [wsum, insM_sum k c v l, wsum]; omega
def gath (F : Mons) : Mons := F.foldr (fun p l => insM p.1 p.2 l) []
theorem gath_same (F : Mons) : Same (gath F) F := fun v => by
  induction F with
  | nil => rfl
  | cons p F ih =>
    have e : gath (p :: F) = insM p.1 p.2 (gath F) := rfl
    rw [e, insM_sum, ih, wsum]
theorem same_of_gath {F G : Mons} (h : gath F = gath G) : Same F G := (gath_same F).symm.trans (by rw [h]; exact gath_same G)
theorem insM_keys {k c : Int} : ∀ {l : Mons} {p : Int × Int}, p ∈ insM k c l → p.1 = k ∨ ∃ q ∈ l, q.1 = p.1
  | [], p, h => by
    unfold insM at h
    split at h
    · cases h
    · left; simp at h; rw [h]
  | (j, d) :: l, p, h => by
    unfold insM at h
    split at h
    · split at h
      · exact .inr ⟨p, List.mem_cons_of_mem _ h, rfl⟩
      · rcases List.mem_cons.1 h with rfl | h
        · exact .inr ⟨(j, d), List.mem_cons_self, rfl⟩
        · exact .inr ⟨p, List.mem_cons_of_mem _ h, rfl⟩
    · split at h
      · split at h
        · exact .inr ⟨p, h, rfl⟩
        · rcases List.mem_cons.1 h with rfl | h
          · exact .inl rfl
          · exact .inr ⟨p, h, rfl⟩
      · rcases List.mem_cons.1 h with rfl | h
        · exact .inr ⟨(j, d), List.mem_cons_self, rfl⟩
        · rcases insM_keys h with h | ⟨q, hq, e⟩
          · exact .inl h
          · exact .inr ⟨q, List.mem_cons_of_mem _ hq, e⟩
theorem gath_keys : ∀ {F : Mons} {p : Int × Int}, p ∈ gath F → ∃ q ∈ F, q.1 = p.1
  | [], p, h => by cases h
  | r :: F, p, h => by
    rcases insM_keys (show p ∈ insM r.1 r.2 (gath F) from h) with h | ⟨q, hq, e⟩
    · exact ⟨r, List.mem_cons_self, h.symm⟩
    · obtain ⟨s, hs, e2⟩ := gath_keys hq
      exact ⟨s, List.mem_cons_of_mem _ hs, by rw [e2, e]⟩
theorem Bd.gath {B : Int} {F : Mons} (h : Bd B F) : Bd B (gath F) := h.keys fun _ hp => gath_keys hp

/-! sizes -/
def nrm (F : Mons) : Nat := F.foldr (fun p n => p.2.natAbs + n) 0
theorem raw_nrm (F : Mons) (k : Int) : -(nrm F : Int) ≤ raw F k ∧ raw F k ≤ nrm F := by
  unfold raw
  induction F with
  | nil => simp [wsum, nrm]
  | cons p F ih =>
    have e : nrm (p :: F) = p.2.natAbs + nrm F := rfl
    rw [e, wsum]
    have h : p.2 * hit k p.1 = p.2 ∨ p.2 * hit k p.1 = 0 := by
      unfold hit
      split
      · left; simp
      · right; simp
    rcases h with h | h <;> rw [h] <;> omega
theorem canon_len_le (F : Mons) : (canon F).length ≤ F.length := by
  have e : F.length = (F.map fun p => p.1).length := (List.length_map _).symm
  rw [canon_length, e]
  refine (keysOf_nodup F).length_le_of_subset fun k hk => ?_
  rw [mem_keysOf] at hk
  rcases Decidable.em (k ∈ F.map fun p => p.1) with h1 | h1
  · exact h1
  · exact absurd (coef_miss fun p hp e => h1 (List.mem_map.2 ⟨p, hp, e⟩)) hk
theorem GoodM.list {F : Mons} (h : Bd 24 F) : GoodM F.length (nrm F) F := ⟨h, canon_len_le F, raw_nrm F⟩
theorem GoodM.same {n C : Nat} {F G : Mons} (h : GoodM n C G) (e : Same F G) (hb : Bd 24 F) : GoodM n C F :=
  ⟨hb, by rw [canon_len_eqv e.eqv]; exact h.few, fun k => by rw [e.raw]; exact h.low k⟩
theorem GoodM.of_list {F G : Mons} (h : Same F G) (hb : Bd 24 F) {n C : Nat} (hn : G.length ≤ n) (hC : nrm G ≤ C) : GoodM n C F :=
  ⟨hb, by rw [canon_len_eqv h.eqv]; exact Nat.le_trans (canon_len_le G) hn, fun k => by rw [h.raw]; have := raw_nrm G k; omega⟩
def degK (k : Int) : Int := dig k 0 + dig k 1 + dig k 2 + dig k 3 + dig k 4 + dig k 5 + dig k 6
end Go.Proofs.YtcminkcoifkbgaaGreatDoor

namespace Go.Proofs.YtcminkcoifkbgaaGreatDoor
open Go.RowKit

def LinOp (X : Mons → Mons) : Prop := ∃ A : Int → (Int → Int) → Int, ∀ F v, wsum (X F) v = wsum F fun k => A k v
theorem LinOp.id : LinOp fun F => F := ⟨fun k v => v k, fun _ _ => rfl⟩
theorem LinOp.comp {X Y : Mons → Mons} (h : LinOp X) (k : LinOp Y) : LinOp fun F => X (Y F) := by
  obtain ⟨A, hA⟩ := h
  obtain ⟨B, hB⟩ := k
  exact ⟨fun k v => B k fun j => A j v, fun F v => by rw [hA, hB]⟩
theorem LinOp.divided (i : Nat) : LinOp (dividedM i) := (lin_dd i).flat
theorem LinOp.keys (g : Int → Int) : LinOp fun F => F.map fun p => (g p.1, p.2) := ⟨fun k v => v (g k), fun F v => wsum_keys g F v⟩
theorem wsum_plus (F G : Mons) (f g : Int → Int) (c : Int) (h : ∀ k, f k = g k) : wsum F f + c * wsum G g = wsum F f + c * wsum G f := by
  have : f = g := funext h
  rw [this]
theorem wsum_lin (F : Mons) (c : Int) (f g : Int → Int) : wsum F f + c * wsum F g = wsum F fun k => f k + c * g k := by
  induction F with
  | nil => simp [wsum]
  | cons p F ih =>
    rw [wsum, wsum, wsum, ← ih, Int.mul_add, Int.mul_add]
    have : p.2 * (c * g p.1) = c * (p.2 * g p.1) := by rw [← Int.mul_assoc, ← Int.mul_assoc, Int.mul_comm p.2 c]
    rw [this]
    omega
theorem LinOp.plus {X Y : Mons → Mons} (h : LinOp X) (k : LinOp Y) (c : Int) : LinOp fun F => plusM (X F) c (Y F) := by
  obtain ⟨A, hA⟩ := h
  obtain ⟨B, hB⟩ := k
  refine ⟨fun k v => A k v + c * B k v, fun F v => ?_⟩
  show wsum (X F ++ scaleM c (Y F)) v = _
  rw [wsum_append, wsum_scale, hA, hB, wsum_lin]
theorem LinOp.raised (i : Nat) : LinOp (raisedM i) := LinOp.keys fun k => k + unit i
theorem LinOp.dem (i : Nat) : LinOp (demM i) := (LinOp.divided i).comp (LinOp.raised i)
theorem LinOp.iso (i : Nat) : LinOp (isoM i) := (LinOp.divided i).comp (LinOp.plus LinOp.id (LinOp.raised (i + 1)) (-1))
theorem LinOp.swap (i : Nat) : LinOp (swapM i) := LinOp.keys (swapK i)
theorem LinOp.atom (i : Nat) : LinOp (atomM i) := (LinOp.dem i).plus LinOp.id (-1)
theorem LinOp.at {X : Mons → Mons} (h : LinOp X) (F : Mons) (v : Int → Int) : wsum (X F) v = wsum F fun k => wsum (X [(k, 1)]) v := by
  obtain ⟨A, hA⟩ := h
  rw [hA]
  congr 1
  funext k
  rw [hA]
  simp [wsum]
theorem wsum_congr {F : Mons} {f g : Int → Int} (h : ∀ p ∈ F, f p.1 = g p.1) : wsum F f = wsum F g := by
  induction F with
  | nil => rfl
  | cons p F ih => rw [wsum, wsum, h p List.mem_cons_self, ih fun q hq => h q (List.mem_cons_of_mem _ hq)]
theorem LinOp.ext {X Y : Mons → Mons} (h : LinOp X) (k : LinOp Y) {F : Mons} (e : ∀ p ∈ F, Same (X [(p.1, 1)]) (Y [(p.1, 1)])) : Same (X F) (Y F) := fun v => by
  rw [h.at, k.at]
  exact wsum_congr fun p hp => e p hp v
theorem LinOp.nil {X : Mons → Mons} (h : LinOp X) : Same (X []) [] := fun v => by rw [h.at]; rfl
theorem LinOp.cons {X : Mons → Mons} (h : LinOp X) (p : Int × Int) (F : Mons) : Same (X (p :: F)) (scaleM p.2 (X [(p.1, 1)]) ++ X F) := fun v => by
  rw [wsum_append, wsum_scale, h.at, wsum, ← h.at]
theorem LinOp.good {X : Mons → Mons} (h : LinOp X) {n C D : Nat} : ∀ {F : Mons}, (∀ p ∈ F, GoodM n C (X [(p.1, 1)]) ∧ p.2.natAbs ≤ D) → ∃ G, Same (X F) G ∧ GoodM (F.length * n) (F.length * (D * C)) G
  | [], _ => ⟨[], h.nil, by simpa using GoodM.nil⟩
  | p :: F, hF => by
    obtain ⟨G, h1, h2⟩ := LinOp.good h (F := F) fun q hq => hF q (List.mem_cons_of_mem _ hq)
    obtain ⟨h3, h4⟩ := hF p List.mem_cons_self
    refine ⟨scaleM p.2 (X [(p.1, 1)]) ++ G, (h.cons p F).trans ((Same.refl _).append h1), ?_⟩
    have := (h3.scale (c := p.2) (D := D) (by omega)).append h2
    exact this.mono (by rw [List.length_cons, Nat.add_mul]; omega) (by rw [List.length_cons, Nat.add_mul]; omega)
theorem LinOp.goodM {X : Mons → Mons} (h : LinOp X) {n C D : Nat} {F : Mons} (hF : ∀ p ∈ F, GoodM n C (X [(p.1, 1)]) ∧ p.2.natAbs ≤ D) (hb : Bd 24 (X F)) : GoodM (F.length * n) (F.length * (D * C)) (X F) := by
  obtain ⟨G, h1, h2⟩ := h.good hF
  exact h2.same h1 hb

/-! keys shifted by i places, with other digits ahead and behind -/
/-- hi is added above the first m digits -/
def Hi (m : Nat) (hi : Int) : Prop := ∀ (j : Nat) (k : Int), j < m → dig (k + hi) j = dig k j
theorem Hi.three (h : Int) : Hi 3 (2097152 * h) := fun j k hj => by
  have hc : j = 0 ∨ j = 1 ∨ j = 2 := by omega
  rcases hc with rfl | rfl | rfl
  · rw [dig0, dig0]; omega
  · rw [dig1, dig1]; omega
  · rw [dig2, dig2]; omega
theorem Hi.four (h : Int) : Hi 4 (268435456 * h) := fun j k hj => by
  have hc : j = 0 ∨ j = 1 ∨ j = 2 ∨ j = 3 := by omega
  rcases hc with rfl | rfl | rfl | rfl
  · rw [dig0, dig0]; omega
  · rw [dig1, dig1]; omega
  · rw [dig2, dig2]; omega
  · rw [dig3, dig3]; omega
def tK (i : Nat) (low hi : Int) (k : Int) : Int := low + unit i * (k + hi)
def tM (i : Nat) (low hi : Int) (F : Mons) : Mons := F.map fun p => (tK i low hi p.1, p.2)
theorem unit_add (i j : Nat) : unit (i + j) = unit i * unit j := Int.pow_add ..
theorem unit_pos (i : Nat) : 0 < unit i := Int.pow_pos (by decide)
theorem tK_dig {i m : Nat} {low hi : Int} (hh : Hi m hi) (h0 : 0 ≤ low) (h1 : low < unit i) (k : Int) {j : Nat} (hj : j < m) : dig (tK i low hi k) (i + j) = dig k j := by
  have e1 : dig (tK i low hi k) (i + j) = dig (k + hi) j := by
    unfold dig tK
    have hu : (128 : Int) ^ (i + j) = unit i * 128 ^ j := Int.pow_add ..
    rw [hu, ← Int.ediv_ediv_of_nonneg (Int.le_of_lt (unit_pos i)), Int.add_mul_ediv_left _ _ (Int.ne_of_gt (unit_pos i)), Int.ediv_eq_zero_of_lt h0 h1, Int.zero_add]
  rw [e1, hh j k hj]
theorem tK_put {i m : Nat} {low hi : Int} (hh : Hi m hi) (h0 : 0 ≤ low) (h1 : low < unit i) (k : Int) {j : Nat} (hj : j + 1 < m) (x y : Int) : put2 (tK i low hi k) (i + j) x y = tK i low hi (put2 k j x y) := by
  unfold put2
  rw [tK_dig hh h0 h1 k (by omega), show i + j + 1 = i + (j + 1) by omega, tK_dig hh h0 h1 k (by omega), unit_add, unit_add]
  unfold tK
  generalize unit i = u
  generalize unit j = a
  generalize unit (j + 1) = b
  generalize dig k j = p
  generalize dig k (j + 1) = q
  have e : ∀ z w : Int, z * (u * w) = u * (z * w) := fun z w => by rw [← Int.mul_assoc, ← Int.mul_assoc, Int.mul_comm z u]
  rw [e, e, e, e]
  rw [Int.mul_add, Int.mul_add, Int.mul_add, Int.mul_add, Int.mul_sub, Int.mul_sub]
  omega
theorem tM_divided {i m : Nat} {low hi : Int} (hh : Hi m hi) (h0 : 0 ≤ low) (h1 : low < unit i) {j : Nat} (hj : j + 1 < m) (F : Mons) : dividedM (i + j) (tM i low hi F) = tM i low hi (dividedM j F) := by
  unfold dividedM tM
  rw [List.flatMap_map, List.map_flatMap]
  congr 1
  funext p
  unfold dd
  rw [List.map_map]
  have e1 := tK_dig hh h0 h1 p.1 (j := j) (by omega)
  have e2 := tK_dig hh h0 h1 p.1 (j := j + 1) (by omega)
  rw [← Nat.add_assoc] at e2
  have ek : ddKeys (i + j) (tK i low hi p.1) = (ddKeys j p.1).map (tK i low hi) := by
    unfold ddKeys
    rw [e1, e2, List.map_map]
    refine List.map_congr_left fun t _ => ?_
    simp only [Function.comp]
    rw [tK_put hh h0 h1 _ hj]
  have es : sg (i + j) (tK i low hi p.1) = sg j p.1 := by
    unfold sg
    rw [e1, e2]
  show (ddKeys (i + j) (tK i low hi p.1)).map (fun k => (k, sg (i + j) (tK i low hi p.1) * p.2)) = _
  rw [ek, es, List.map_map]
  rfl
theorem tM_raised {i : Nat} {low hi : Int} (j : Nat) (F : Mons) : raisedM (i + j) (tM i low hi F) = tM i low hi (raisedM j F) := by
  unfold raisedM tM
  rw [List.map_map, List.map_map]
  refine List.map_congr_left fun p _ => ?_
  simp only [Function.comp, Prod.mk.injEq, and_true]
  rw [unit_add]
  unfold tK
  rw [show p.1 + unit j + hi = (p.1 + hi) + unit j by omega, Int.mul_add (unit i) (p.1 + hi)]
  omega
theorem tM_plus {i : Nat} {low hi c : Int} (F G : Mons) : plusM (tM i low hi F) c (tM i low hi G) = tM i low hi (plusM F c G) := by
  unfold plusM tM scaleM
  rw [List.map_append, List.map_map, List.map_map]
  rfl
theorem tM_swap {i m : Nat} {low hi : Int} (hh : Hi m hi) (h0 : 0 ≤ low) (h1 : low < unit i) {j : Nat} (hj : j + 1 < m) (F : Mons) : swapM (i + j) (tM i low hi F) = tM i low hi (swapM j F) := by
  unfold swapM tM
  rw [List.map_map, List.map_map]
  refine List.map_congr_left fun p _ => ?_
  simp only [Function.comp, Prod.mk.injEq, and_true]
  unfold swapK
  have e1 := tK_dig hh h0 h1 p.1 (j := j) (by omega)
  have e2 := tK_dig hh h0 h1 p.1 (j := j + 1) (by omega)
  rw [← Nat.add_assoc] at e2
  rw [e1, e2, tK_put hh h0 h1 _ hj]
theorem tM_dem {i m : Nat} {low hi : Int} (hh : Hi m hi) (h0 : 0 ≤ low) (h1 : low < unit i) {j : Nat} (hj : j + 1 < m) (F : Mons) : demM (i + j) (tM i low hi F) = tM i low hi (demM j F) := by
  unfold demM
  rw [tM_raised, tM_divided hh h0 h1 hj]
theorem tM_iso {i m : Nat} {low hi : Int} (hh : Hi m hi) (h0 : 0 ≤ low) (h1 : low < unit i) {j : Nat} (hj : j + 1 < m) (F : Mons) : isoM (i + j) (tM i low hi F) = tM i low hi (isoM j F) := by
  unfold isoM
  rw [Nat.add_assoc, tM_raised, tM_plus, tM_divided hh h0 h1 hj]
theorem Same.shift {i : Nat} {low hi : Int} {F G : Mons} (h : Same F G) : Same (tM i low hi F) (tM i low hi G) := h.keys _
theorem key_parts (i : Nat) (k κ B : Int) (h : ∃ q, κ + B * q = k / unit i) : ∃ low q, 0 ≤ low ∧ low < unit i ∧ k = tK i low (B * q) κ := by
  obtain ⟨q, e⟩ := h
  have hu := unit_pos i
  refine ⟨k % unit i, q, Int.emod_nonneg _ (Int.ne_of_gt hu), Int.emod_lt_of_pos _ hu, ?_⟩
  unfold tK
  rw [e]
  have := Int.emod_add_mul_ediv k (unit i)
  omega
theorem dig_at (k : Int) (i j : Nat) : dig k (i + j) = dig (k / unit i) j := by
  unfold dig
  have hp : (128 : Int) ^ (i + j) = unit i * 128 ^ j := Int.pow_add ..
  rw [hp, Int.ediv_ediv_of_nonneg (Int.le_of_lt (unit_pos i))]
/-- four, three, two digits from place i on -/
def four (i : Nat) (k : Int) : Int := dig k i + 128 * dig k (i + 1) + 16384 * dig k (i + 2) + 2097152 * dig k (i + 3)
def three (i : Nat) (k : Int) : Int := dig k i + 128 * dig k (i + 1) + 16384 * dig k (i + 2)
theorem key_four (i : Nat) (k : Int) : ∃ low q, 0 ≤ low ∧ low < unit i ∧ k = tK i low (268435456 * q) (four i k) := key_parts i k _ _ ⟨k / unit i / 268435456, by
  unfold four
  have d0 := dig_at k i 0
  rw [Nat.add_zero] at d0
  rw [d0, dig_at, dig_at, dig_at, dig0, dig1, dig2, dig3]
  generalize k / unit i = q
  omega⟩
theorem key_three (i : Nat) (k : Int) : ∃ low q, 0 ≤ low ∧ low < unit i ∧ k = tK i low (2097152 * q) (three i k) := key_parts i k _ _ ⟨k / unit i / 2097152, by
  unfold three
  have d0 := dig_at k i 0
  rw [Nat.add_zero] at d0
  rw [d0, dig_at, dig_at, dig0, dig1, dig2]
  generalize k / unit i = q
  omega⟩
/-- the first m digits (three or four) from place i on -/
def part (m : Nat) (i : Nat) (k : Int) : Int := if m = 3 then three i k else four i k
theorem key_part (m : Nat) (i : Nat) (k : Int) (hm : m = 3 ∨ m = 4) : ∃ low hi, 0 ≤ low ∧ low < unit i ∧ Hi m hi ∧ k = tK i low hi (part m i k) := by
  rcases hm with rfl | rfl
  · obtain ⟨low, q, h0, h1, e⟩ := key_three i k
    exact ⟨low, _, h0, h1, Hi.three q, e⟩
  · obtain ⟨low, q, h0, h1, e⟩ := key_four i k
    exact ⟨low, _, h0, h1, Hi.four q, e⟩
end Go.Proofs.YtcminkcoifkbgaaGreatDoor
