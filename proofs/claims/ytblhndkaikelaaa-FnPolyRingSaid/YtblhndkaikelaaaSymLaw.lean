/-
  Symmetric polynomials and divided differences, at drawn polynomials. Plain.
-/
import Derived.Test.YtblhndkaikelaaaLeibLaw
namespace Go.Proofs.Ytblhndkaikelaaa
open Go.RowKit

/-! exactly equal out of equal modulo 2^64, where all is small -/
theorem wsum_nought : ∀ (n : Nat) (l : Mons), l.length ≤ n → (∀ k, raw l k = 0) → ∀ v, wsum l v = 0 := by
  intro n
  induction n with
  | zero =>
    intro l hl _ v
    have : l = [] := List.length_eq_zero_iff.1 (by omega)
    subst this
    rfl
  | succ n ih =>
    intro l hl h v
    cases l with
    | nil => rfl
    | cons p l =>
      rw [wsum_split (p :: l) p.1 v, h p.1, Int.zero_mul, Int.zero_add]
      refine ih _ ?_ ?_ v
      · have e : less1 (p :: l) p.1 = less1 l p.1 := by simp [less1]
        rw [e]
        have := less1_length l p.1
        simp only [List.length_cons] at hl
        omega
      · intro k
        rw [raw_less1]
        split
        · rfl
        · exact h k
theorem same_of_raw {F G : Mons} (h : ∀ k, raw F k = raw G k) : Same F G := fun v => by
  have h1 : ∀ k, raw (F ++ negs G) k = 0 := fun k => by
    have := h k
    unfold raw at *
    rw [wsum_append, wsum_negs]
    omega
  have := wsum_nought _ _ (Nat.le_refl _) h1 v
  rw [wsum_append, wsum_negs] at this
  omega
theorem same_of_eqv {F G : Mons} (h : Eqv F G) (hF : nrm F ≤ 1000000) (hG : nrm G ≤ 1000000) : Same F G := same_of_raw fun k => by
  have h1 := h k
  have h2 := raw_nrm F k
  have h3 := raw_nrm G k
  unfold coef at h1
  rw [wrap_self (by omega), wrap_self (by omega)] at h1
  exact h1
theorem term_inj {p q : Int × Int} (hp : inK p.1) (hq : inK q.1) (h : term p = term q) : p = q := by
  unfold term at h
  simp only [Prod.mk.injEq] at h
  exact Prod.ext (digs_inj hp hq h.1) h.2
theorem map_inj {l m : Mons} (hl : ∀ p ∈ l, inK p.1) (hm : ∀ p ∈ m, inK p.1) (h : l.map term = m.map term) : l = m := by
  induction l generalizing m with
  | nil =>
    cases m with
    | nil => rfl
    | cons q m => simp at h
  | cons p l ih =>
    cases m with
    | nil => simp at h
    | cons q m =>
      simp only [List.map_cons, List.cons.injEq] at h
      rw [term_inj (hl p List.mem_cons_self) (hm q List.mem_cons_self) h.1, ih (fun r hr => hl r (List.mem_cons_of_mem _ hr)) (fun r hr => hm r (List.mem_cons_of_mem _ hr)) h.2]
theorem eqv_of_terms {F G : Mons} (hF : Bd 24 F) (hG : Bd 24 G) (h : termsM F = termsM G) : Eqv F G := by
  have := map_inj (fun p hp => (hF.canon p hp).1) (fun p hp => (hG.canon p hp).1) h
  exact (canon_self F).symm.trans (by rw [this]; exact canon_self G)
/-! two digits -/
theorem Hi.two (h : Int) : Hi 2 (16384 * h) := fun j k hj => by
  have hc : j = 0 ∨ j = 1 := by omega
  rcases hc with rfl | rfl
  · rw [dig0, dig0]; omega
  · rw [dig1, dig1]; omega
theorem key_twoP (i : Nat) (k : Int) : ∃ low hi, 0 ≤ low ∧ low < unit i ∧ Hi 2 hi ∧ k = tK i low hi (two i k) := by
  obtain ⟨low, q, h0, h1, e⟩ := key_parts i k (two i k) 16384 ⟨k / unit i / 16384, by
    unfold two
    have d0 := dig_at k i 0
    rw [Nat.add_zero] at d0
    rw [d0, dig_at, dig0, dig1]
    generalize k / unit i = q
    omega⟩
  exact ⟨low, _, h0, h1, Hi.two q, e⟩
theorem tK_sM (i : Nat) (low hi : Int) (F : Mons) : tM i low hi F = sM i (low + unit i * hi) F := by
  unfold tM sM tK
  refine List.map_congr_left fun p _ => ?_
  rw [Int.mul_add]
  simp only [Prod.mk.injEq, and_true]
  omega
/-- an operator at place i that is one at place 0, shifted -/
def Shifts (i : Nat) (X Y : Mons → Mons) : Prop := ∀ low hi F, 0 ≤ low → low < unit i → Hi 2 hi → X (tM i low hi F) = tM i low hi (Y F)
theorem sh_div (i : Nat) : Shifts i (dividedM i) (dividedM 0) := fun _ _ F h0 h1 hh => tM_divided hh h0 h1 (j := 0) (by omega) F
theorem sh_dem (i : Nat) : Shifts i (demM i) (demM 0) := fun _ _ F h0 h1 hh => tM_dem hh h0 h1 (j := 0) (by omega) F
theorem sh_swap (i : Nat) : Shifts i (swapM i) (swapM 0) := fun _ _ F h0 h1 hh => tM_swap hh h0 h1 (j := 0) (by omega) F
theorem sh_raised (i j : Nat) : Shifts i (raisedM (i + j)) (raisedM j) := fun _ _ F _ _ _ => tM_raised j F
theorem sh_id (i : Nat) : Shifts i (fun F => F) (fun F => F) := fun _ _ _ _ _ _ => rfl
theorem Shifts.comp {i : Nat} {X Y X' Y' : Mons → Mons} (h : Shifts i X Y) (k : Shifts i X' Y') : Shifts i (fun F => X (X' F)) (fun F => Y (Y' F)) := fun low hi F h0 h1 hh => by
  show X (X' (tM i low hi F)) = _
  rw [k low hi F h0 h1 hh, h low hi _ h0 h1 hh]
theorem Shifts.plus {i : Nat} {X Y X' Y' : Mons → Mons} (h : Shifts i X Y) (k : Shifts i X' Y') (c : Int) : Shifts i (fun F => plusM (X F) c (X' F)) (fun F => plusM (Y F) c (Y' F)) := fun low hi F h0 h1 hh => by
  show plusM (X (tM i low hi F)) c (X' (tM i low hi F)) = _
  rw [h low hi F h0 h1 hh, k low hi F h0 h1 hh, tM_plus]
theorem Shifts.scale {i : Nat} {X Y : Mons → Mons} (h : Shifts i X Y) (c : Int) : Shifts i (fun F => scaleM c (X F)) (fun F => scaleM c (Y F)) := fun low hi F h0 h1 hh => by
  show scaleM c (X (tM i low hi F)) = _
  rw [h low hi F h0 h1 hh]
  unfold scaleM tM
  rw [List.map_map, List.map_map]
  rfl
/-- two operators that agree at the keys of two digits agree at polynomials of degree at most 6 -/
theorem agree {i : Nat} (hi3 : i ≤ 3) {X Y X0 Y0 : Mons → Mons} (hX : LinOp X) (hY : LinOp Y) (sX : Shifts i X X0) (sY : Shifts i Y Y0) (h : ∀ a, a ≤ 6 → ∀ κ ∈ keys2 a, gath (X0 [(κ, 1)]) = gath (Y0 [(κ, 1)]))
    {F : Mons} (hF : ∀ p ∈ F, inK p.1 ∧ degK p.1 ≤ 6) : Same (X F) (Y F) := hX.ext hY fun p hp => by
  obtain ⟨a, ha, hm⟩ := two_mem (i := i) hi3 (hF p hp).2
  obtain ⟨low, hi, h0, h1, hh, hk⟩ := key_twoP i p.1
  have e : [(p.1, (1 : Int))] = tM i low hi [(two i p.1, 1)] := by rw [tM, List.map_cons, List.map_nil, ← hk]
  rw [e, sX low hi _ h0 h1 hh, sY low hi _ h0 h1 hh]
  exact (same_of_gath (h a ha _ hm)).shift
/-! by the kernel -/
def symChk (κ : Int) : Bool := decide (gath (swapM 0 (dividedM 0 [(κ, 1)])) = gath (dividedM 0 [(κ, 1)])) && decide (gath (dividedM 0 (swapM 0 [(κ, 1)])) = gath (scaleM (-1) (dividedM 0 [(κ, 1)])))
  && decide (gath (plusM [(κ, 1)] (-1) (swapM 0 [(κ, 1)])) = gath (plusM (raisedM 0 (dividedM 0 [(κ, 1)])) (-1) (raisedM 1 (dividedM 0 [(κ, 1)])))) && decide (gath (swapM 0 (demM 0 [(κ, 1)])) = gath (demM 0 [(κ, 1)])) && decide (gath (dividedM 0 (demM 0 [(κ, 1)])) = [])
def symPair (κ μ : Int) : Bool := decide ((gath (timesM (demM 0 [(κ, 1)]) (dividedM 0 [(μ, 1)]))).length ≤ 12) && decide (nrm (gath (timesM (demM 0 [(κ, 1)]) (dividedM 0 [(μ, 1)]))) ≤ 100)
set_option maxRecDepth 100000 in
theorem symChk_all : [0, 1, 2, 3, 4, 5, 6].all (fun a => (keys2 a).all symChk) = true := by kernel_rfl
set_option maxRecDepth 100000 in
theorem symPair_all : [0, 1, 2, 3, 4, 5, 6].all (fun a => (keys2 a).all fun κ => [0, 1, 2, 3, 4, 5, 6].all fun b => (keys2 b).all (symPair κ)) = true := by kernel_rfl
theorem symChk_of {a : Nat} (ha : a ≤ 6) {κ : Int} (hk : κ ∈ keys2 a) : gath (swapM 0 (dividedM 0 [(κ, 1)])) = gath (dividedM 0 [(κ, 1)]) ∧ gath (dividedM 0 (swapM 0 [(κ, 1)])) = gath (scaleM (-1) (dividedM 0 [(κ, 1)]))
    ∧ gath (plusM [(κ, 1)] (-1) (swapM 0 [(κ, 1)])) = gath (plusM (raisedM 0 (dividedM 0 [(κ, 1)])) (-1) (raisedM 1 (dividedM 0 [(κ, 1)]))) ∧ gath (swapM 0 (demM 0 [(κ, 1)])) = gath (demM 0 [(κ, 1)]) ∧ gath (dividedM 0 (demM 0 [(κ, 1)])) = [] := by
  have h := List.all_eq_true.1 (List.all_eq_true.1 symChk_all a (upto6 ha)) κ hk
  unfold symChk at h
  simp only [Bool.and_eq_true, decide_eq_true_eq] at h
  exact ⟨h.1.1.1.1, h.1.1.1.2, h.1.1.2, h.1.2, h.2⟩
theorem symPair_of {a b : Nat} (ha : a ≤ 6) (hb : b ≤ 6) {κ μ : Int} (hk : κ ∈ keys2 a) (hm : μ ∈ keys2 b) : (gath (timesM (demM 0 [(κ, 1)]) (dividedM 0 [(μ, 1)]))).length ≤ 12 ∧ nrm (gath (timesM (demM 0 [(κ, 1)]) (dividedM 0 [(μ, 1)]))) ≤ 100 := by
  have h := List.all_eq_true.1 (List.all_eq_true.1 (List.all_eq_true.1 (List.all_eq_true.1 symPair_all a (upto6 ha)) κ hk) b (upto6 hb)) μ hm
  unfold symPair at h
  simpa using h
section
variable {i : Nat} (hi : i ≤ 3) {F : Mons} (hF : ∀ p ∈ F, inK p.1 ∧ degK p.1 ≤ 6)
include hi hF
theorem swap_div : Same (swapM i (dividedM i F)) (dividedM i F) :=
  agree hi ((LinOp.swap i).comp (LinOp.divided i)) (LinOp.divided i) ((sh_swap i).comp (sh_div i)) (sh_div i) (fun _ ha _ hk => (symChk_of ha hk).1) hF
theorem div_swap : Same (dividedM i (swapM i F)) (scaleM (-1) (dividedM i F)) :=
  agree hi ((LinOp.divided i).comp (LinOp.swap i)) ((LinOp.plus (X := fun _ => []) ⟨fun _ _ => 0, fun F _v => (wsum_zero F).symm⟩ (LinOp.divided i) (-1))) ((sh_div i).comp (sh_swap i))
    ((sh_div i).scale (-1)) (fun _ ha _ hk => (symChk_of ha hk).2.1) hF
theorem sub_swap : Same (plusM F (-1) (swapM i F)) (plusM (raisedM i (dividedM i F)) (-1) (raisedM (i + 1) (dividedM i F))) :=
  agree hi (LinOp.plus LinOp.id (LinOp.swap i) (-1)) (LinOp.plus ((LinOp.raised i).comp (LinOp.divided i)) ((LinOp.raised (i + 1)).comp (LinOp.divided i)) (-1)) ((sh_id i).plus (sh_swap i) (-1))
    (((sh_raised i 0).comp (sh_div i)).plus ((sh_raised i 1).comp (sh_div i)) (-1)) (fun _ ha _ hk => (symChk_of ha hk).2.2.1) hF
theorem swap_dem : Same (swapM i (demM i F)) (demM i F) :=
  agree hi ((LinOp.swap i).comp (LinOp.dem i)) (LinOp.dem i) ((sh_swap i).comp (sh_dem i)) (sh_dem i) (fun _ ha _ hk => (symChk_of ha hk).2.2.2.1) hF
theorem div_dem : Same (dividedM i (demM i F)) [] :=
  agree (Y := fun _ => []) (Y0 := fun _ => []) hi ((LinOp.divided i).comp (LinOp.dem i)) ⟨fun _ _ => 0, fun F _v => (wsum_zero F).symm⟩ ((sh_div i).comp (sh_dem i)) (fun _ _ _ _ _ _ => rfl) (fun _ ha _ hk => (symChk_of ha hk).2.2.2.2) hF
end
theorem Same.none {F G : Mons} (h : Same F []) (k : Same G []) (c : Int) : Same (plusM F c G) [] := fun v => by
  unfold plusM
  rw [wsum_append, wsum_scale, h v, k v]
  simp [wsum]
theorem scaled_none {F : Mons} (h : Same F (scaleM (-1) F)) : Same F [] := fun v => by
  have := h v
  rw [wsum_scale] at this
  show wsum F v = 0
  omega
/-- symmetric just if the divided difference is nothing -/
theorem sym_iff {i : Nat} (hi : i ≤ 3) {F : Mons} (hD : Drawn F) : termsM F = termsM (swapM i F) ↔ Same (dividedM i F) [] := by
  have nF := hD.nrm
  constructor
  · intro h
    have h1 := eqv_of_terms (hD.bd.mono (by decide)) ((hD.bd.swap (by omega)).mono (by decide)) h
    have h2 : Same F (swapM i F) := same_of_eqv h1 (by omega) (by rw [nrm_swap]; omega)
    exact scaled_none (h2.divided.trans (div_swap hi hD.keys))
  · intro h
    refine termsM_eqv (Same.eqv fun v => ?_)
    have h1 := (sub_swap hi hD.keys).trans (Same.none ((h.raised (i := i)).trans (Same.refl _)) ((h.raised (i := i + 1)).trans (Same.refl _)) (-1)) v
    unfold plusM at h1
    rw [wsum_append, wsum_scale] at h1
    simp only [wsum] at h1
    omega
theorem none_len {F : Mons} (h : Same F []) : (termsM F).length = 0 := by
  rw [termsM_eqv h.eqv]
  simp [termsM, canon, keysOf, uniq]
theorem len_none {F : Mons} (hn : nrm F ≤ 1000000) (h : (termsM F).length = 0) : Same F [] := by
  refine same_of_eqv ?_ hn (by simp [nrm])
  have h1 : canon F = [] := by
    unfold termsM at h
    rw [List.length_map] at h
    exact List.eq_nil_of_length_eq_zero h
  exact (canon_self F).symm.trans (by rw [h1]; exact Eqv.refl _)
/-! degrees of the images -/
theorem deg_dd {k : Int} (hk : inK k) {i : Nat} (hi : i ≤ 5) {q : Int} (hq : q ∈ ddKeys i k) : degK q + 1 = degK k := by
  have h0 := hq
  unfold ddKeys at hq
  obtain ⟨j, hj, rfl⟩ := List.mem_map.1 hq
  rw [List.mem_range] at hj
  have r1 := dig_range k i
  have r2 := dig_range k (i + 1)
  obtain ⟨_, e2, e3, e4⟩ := put2_digs hk hi (x := min (dig k i) (dig k (i + 1)) + (dig k i - dig k (i + 1)).natAbs - 1 - j) (y := min (dig k i) (dig k (i + 1)) + j) (by unfold isD; omega) (by unfold isD; omega)
  generalize put2 k i (min (dig k i) (dig k (i + 1)) + (dig k i - dig k (i + 1)).natAbs - 1 - j) (min (dig k i) (dig k (i + 1)) + j) = q at *
  unfold degK
  have hc : i = 0 ∨ i = 1 ∨ i = 2 ∨ i = 3 ∨ i = 4 ∨ i = 5 := by omega
  rcases hc with rfl | rfl | rfl | rfl | rfl | rfl
  · simp only [Nat.zero_add] at *
    rw [e4 2 (by omega) (by omega) (by omega), e4 3 (by omega) (by omega) (by omega), e4 4 (by omega) (by omega) (by omega), e4 5 (by omega) (by omega) (by omega), e4 6 (by omega) (by omega) (by omega)]; omega
  · simp only [Nat.reduceAdd] at *
    rw [e4 0 (by omega) (by omega) (by omega), e4 3 (by omega) (by omega) (by omega), e4 4 (by omega) (by omega) (by omega), e4 5 (by omega) (by omega) (by omega), e4 6 (by omega) (by omega) (by omega)]; omega
  · simp only [Nat.reduceAdd] at *
    rw [e4 0 (by omega) (by omega) (by omega), e4 1 (by omega) (by omega) (by omega), e4 4 (by omega) (by omega) (by omega), e4 5 (by omega) (by omega) (by omega), e4 6 (by omega) (by omega) (by omega)]; omega
  · simp only [Nat.reduceAdd] at *
    rw [e4 0 (by omega) (by omega) (by omega), e4 1 (by omega) (by omega) (by omega), e4 2 (by omega) (by omega) (by omega), e4 5 (by omega) (by omega) (by omega), e4 6 (by omega) (by omega) (by omega)]; omega
  · simp only [Nat.reduceAdd] at *
    rw [e4 0 (by omega) (by omega) (by omega), e4 1 (by omega) (by omega) (by omega), e4 2 (by omega) (by omega) (by omega), e4 3 (by omega) (by omega) (by omega), e4 6 (by omega) (by omega) (by omega)]; omega
  · simp only [Nat.reduceAdd] at *
    rw [e4 0 (by omega) (by omega) (by omega), e4 1 (by omega) (by omega) (by omega), e4 2 (by omega) (by omega) (by omega), e4 3 (by omega) (by omega) (by omega), e4 4 (by omega) (by omega) (by omega)]; omega
theorem deg_raise {k : Int} (hk : inK k) {i : Nat} (hi : i ≤ 6) (h : dig k i ≤ 126) : degK (k + unit i) = degK k + 1 := by
  obtain ⟨_, e1, e2⟩ := key_raise hk hi h
  unfold degK
  have hc : i = 0 ∨ i = 1 ∨ i = 2 ∨ i = 3 ∨ i = 4 ∨ i = 5 ∨ i = 6 := by omega
  rcases hc with rfl | rfl | rfl | rfl | rfl | rfl | rfl
  · rw [e1, e2 1 (by omega) (by omega), e2 2 (by omega) (by omega), e2 3 (by omega) (by omega), e2 4 (by omega) (by omega), e2 5 (by omega) (by omega), e2 6 (by omega) (by omega)]; omega
  · rw [e1, e2 0 (by omega) (by omega), e2 2 (by omega) (by omega), e2 3 (by omega) (by omega), e2 4 (by omega) (by omega), e2 5 (by omega) (by omega), e2 6 (by omega) (by omega)]; omega
  · rw [e1, e2 0 (by omega) (by omega), e2 1 (by omega) (by omega), e2 3 (by omega) (by omega), e2 4 (by omega) (by omega), e2 5 (by omega) (by omega), e2 6 (by omega) (by omega)]; omega
  · rw [e1, e2 0 (by omega) (by omega), e2 1 (by omega) (by omega), e2 2 (by omega) (by omega), e2 4 (by omega) (by omega), e2 5 (by omega) (by omega), e2 6 (by omega) (by omega)]; omega
  · rw [e1, e2 0 (by omega) (by omega), e2 1 (by omega) (by omega), e2 2 (by omega) (by omega), e2 3 (by omega) (by omega), e2 5 (by omega) (by omega), e2 6 (by omega) (by omega)]; omega
  · rw [e1, e2 0 (by omega) (by omega), e2 1 (by omega) (by omega), e2 2 (by omega) (by omega), e2 3 (by omega) (by omega), e2 4 (by omega) (by omega), e2 6 (by omega) (by omega)]; omega
  · rw [e1, e2 0 (by omega) (by omega), e2 1 (by omega) (by omega), e2 2 (by omega) (by omega), e2 3 (by omega) (by omega), e2 4 (by omega) (by omega), e2 5 (by omega) (by omega)]; omega
theorem dem_keys {i : Nat} (hi : i ≤ 5) {F : Mons} (hF : ∀ p ∈ F, inK p.1 ∧ degK p.1 ≤ 6) : ∀ p ∈ demM i F, inK p.1 ∧ degK p.1 ≤ 6 := fun p hp => by
  obtain ⟨q, hq, hp⟩ := List.mem_flatMap.1 hp
  obtain ⟨k, hk, rfl⟩ := List.mem_map.1 hp
  obtain ⟨r, hr, rfl⟩ := List.mem_map.1 hq
  obtain ⟨h1, h2⟩ := hF r hr
  have h3 := deg_bd h2 (show i < 7 by omega)
  have h4 := (key_raise h1 (show i ≤ 6 by omega) (by omega)).1
  have h5 := deg_raise h1 (show i ≤ 6 by omega) (by omega)
  have h6 := deg_dd h4 hi hk
  exact ⟨(dd_key h4 hi hk).1, by show degK k ≤ 6; omega⟩
/-- symmetric factors go through -/
theorem dem_through {i : Nat} (hi : i ≤ 3) {F G : Mons} (hF : Drawn F) (hG : Drawn G) : Same (dividedM i (timesM (demM i G) F)) (timesM (demM i G) (dividedM i F)) := by
  refine (leib hi (dem_keys (by omega) hG.keys) hF.keys).trans fun v => ?_
  unfold leibR plusM
  rw [wsum_append, wsum_scale, (Same.times (div_dem hi hG.keys) (Same.refl F)) v, (Same.times (swap_dem hi hG.keys) (Same.refl (dividedM i F))) v]
  simp [timesM, wsum]
theorem dem_one {i : Nat} (hi : i ≤ 3) {j k : Int} (hj : inK j ∧ degK j ≤ 6) (hk : inK k ∧ degK k ≤ 6) : ∃ G, Same (timesM (demM i [(j, 1)]) (dividedM i [(k, 1)])) G ∧ G.length ≤ 12 ∧ nrm G ≤ 100 := by
  obtain ⟨a, ha, hm⟩ := two_mem (i := i) hi hj.2
  obtain ⟨b, hb, hn⟩ := two_mem (i := i) hi hk.2
  obtain ⟨low, h, h0, h1, hh, e1⟩ := key_twoP i j
  obtain ⟨low', h', h0', h1', hh', e2⟩ := key_twoP i k
  have f1 : [(j, (1 : Int))] = tM i low h [(two i j, 1)] := by rw [tM, List.map_cons, List.map_nil, ← e1]
  have f2 : [(k, (1 : Int))] = tM i low' h' [(two i k, 1)] := by rw [tM, List.map_cons, List.map_nil, ← e2]
  obtain ⟨p1, p2⟩ := symPair_of ha hb hm hn
  refine ⟨sM i (low + unit i * h + (low' + unit i * h')) (gath (timesM (demM 0 [(two i j, 1)]) (dividedM 0 [(two i k, 1)]))), ?_, by unfold sM; rw [List.length_map]; exact p1, ?_⟩
  · rw [f1, f2, sh_dem i low h _ h0 h1 hh, sh_div i low' h' _ h0' h1' hh', tK_sM, tK_sM, sM_times]
    exact (gath_same _).symm.sM
  · have e : ∀ (R : Int) (G : Mons), nrm (sM i R G) = nrm G := by
      intro R G
      induction G with
      | nil => rfl
      | cons p G ih =>
        show p.2.natAbs + nrm (sM i R G) = p.2.natAbs + nrm G
        rw [ih]
    rw [e]
    exact p2
structure SymOk (i : Nat) (F G : Mons) : Prop where
  d : OKp (dividedM i F)
  sf : OKp (swapM i F)
  sd : OKp (swapM i (dividedM i F))
  s : OKp (demM i G)
  ss : OKp (swapM i (demM i G))
  a : OKp (atomM i G)
  ag : OKp (plusM (atomM i G) 1 G)
  p : OKp (timesM (demM i G) F)
  dp : OKp (dividedM i (timesM (demM i G) F))
  t : OKp (timesM (demM i G) (dividedM i F))
theorem raised_sizes (i : Nat) (F : Mons) : (raisedM i F).length = F.length ∧ nrm (raisedM i F) = nrm F := by
  refine ⟨List.length_map _, ?_⟩
  induction F with
  | nil => rfl
  | cons p F ih =>
    show p.2.natAbs + nrm (raisedM i F) = p.2.natAbs + nrm F
    rw [ih]
theorem nrm_scale_neg (F : Mons) : nrm (scaleM (-1) F) = nrm F := by
  induction F with
  | nil => rfl
  | cons p F ih =>
    show (-1 * p.2).natAbs + nrm (scaleM (-1) F) = p.2.natAbs + nrm F
    rw [ih]
    omega
theorem scale_length (c : Int) (F : Mons) : (scaleM c F).length = F.length := List.length_map _
theorem symOk_all {i : Nat} (hi : i ≤ 3) {F G : Mons} (hF : Drawn F) (hG : Drawn G) : SymOk i F G := by
  have bF : Bd (6 : Nat) F := hF.bd
  have bG : Bd (6 : Nat) G := hG.bd
  have nF := hF.nrm
  have nG := hG.nrm
  have lF := hF.few
  have lG := hG.few
  have bD : Bd (6 : Nat) (dividedM i F) := bF.divided (by omega)
  obtain ⟨l1, n1⟩ := dd_sizes bF (i := i) (by omega)
  have bR : Bd (7 : Nat) (raisedM i G) := bG.raised (by omega) (by decide)
  obtain ⟨lr, nr⟩ := raised_sizes i G
  obtain ⟨l2, n2⟩ := dd_sizes bR (i := i) (by omega)
  rw [lr] at l2
  rw [nr] at n2
  have bS : Bd (6 : Nat) (demM i G) := bG.dem (by omega) (by decide)
  have lS : (demM i G).length ≤ 35 := by unfold demM; omega
  have nS : nrm (demM i G) ≤ 140 := by unfold demM; omega
  have bA : Bd (6 : Nat) (atomM i G) := bS.plus bG
  have lA : (atomM i G).length ≤ 40 := by unfold atomM plusM; rw [List.length_append, scale_length]; omega
  have nA : nrm (atomM i G) ≤ 160 := by unfold atomM plusM; rw [nrm_append, nrm_scale_neg]; omega
  have bP : Bd (12 : Nat) (timesM (demM i G) F) := bS.times bF (by decide)
  have bT : Bd (12 : Nat) (timesM (demM i G) (dividedM i F)) := bS.times bD (by decide)
  have gT : GoodM 600 1000000 (timesM (demM i G) (dividedM i F)) := by
    have hX : LinOp fun G => timesM (demM i G) (dividedM i F) := (LinOp.timesL _).comp (LinOp.dem i)
    obtain ⟨T, hT, gT⟩ := hX.good (n := F.length * 12) (C := F.length * (4 * 100)) (D := 4) (F := G) fun p hp => by
      refine ⟨?_, hG.low p hp⟩
      have hY : LinOp fun F => timesM (demM i [(p.1, 1)]) (dividedM i F) := (LinOp.timesR _).comp (LinOp.divided i)
      have bp : Bd (6 : Nat) [(p.1, (1 : Int))] := fun q hq => by
        simp at hq
        subst hq
        exact ⟨(hG.keys p hp).1, fun _ hj => deg_bd (hG.keys p hp).2 hj⟩
      have hgood : ∀ q ∈ F, GoodM 12 100 (timesM (demM i [(p.1, 1)]) (dividedM i [(q.1, 1)])) ∧ q.2.natAbs ≤ 4 := fun q hq => by
        refine ⟨?_, hF.low q hq⟩
        obtain ⟨T, h1, h2, h3⟩ := dem_one hi (hG.keys p hp) (hF.keys q hq)
        have bq : Bd (6 : Nat) [(q.1, (1 : Int))] := fun r hr => by
          simp at hr
          subst hr
          exact ⟨(hF.keys q hq).1, fun _ hj => deg_bd (hF.keys q hq).2 hj⟩
        exact GoodM.of_same h1 (((bp.dem (by omega) (by decide)).times (bq.divided (i := i) (by omega)) (by decide)).mono (by decide)) h2 h3
      exact hY.goodM hgood (((bp.dem (by omega) (by decide)).times bD (by decide)).mono (by decide))
    have h1 : G.length * (F.length * 12) ≤ 5 * (5 * 12) := Nat.mul_le_mul lG (Nat.mul_le_mul_right _ lF)
    have h2 : G.length * (4 * (F.length * (4 * 100))) ≤ 5 * (4 * (5 * (4 * 100))) := Nat.mul_le_mul lG (Nat.mul_le_mul_left _ (Nat.mul_le_mul_right _ lF))
    exact (gT.same hT (bT.mono (by decide))).mono (by omega) (by omega)
  have gD : GoodM 600 1000000 (dividedM i (timesM (demM i G) F)) := gT.same (dem_through hi hF hG) ((bP.divided (by omega)).mono (by decide))
  have lP : (timesM (demM i G) F).length ≤ 35 * 5 := by rw [times_length]; exact Nat.mul_le_mul lS lF
  have nP : nrm (timesM (demM i G) F) ≤ 140 * 20 := by rw [nrm_times]; exact Nat.mul_le_mul nS nF
  refine ⟨okp_list bD (by decide) (by omega) (by omega), okp_list (bF.swap (by omega)) (by decide) ?_ (by rw [nrm_swap]; omega), okp_list (bD.swap (by omega)) (by decide) ?_ (by rw [nrm_swap]; omega), okp_list bS (by decide) (by omega) (by omega),
    okp_list (bS.swap (by omega)) (by decide) ?_ (by rw [nrm_swap]; omega), okp_list bA (by decide) (by omega) (by omega), okp_list (B := 6) (bA.plus bG) (by decide) ?_ ?_, okp_list bP (by decide) (by omega) (by omega), gD.okp (by decide) (by decide), gT.okp (by decide) (by decide)⟩
  · unfold swapM; rw [List.length_map]; omega
  · unfold swapM; rw [List.length_map]; omega
  · unfold swapM; rw [List.length_map]; omega
  · unfold plusM; rw [List.length_append, scale_length]; omega
  · unfold plusM; rw [nrm_append, nrm_scale1]; omega
theorem atom_back (i : Nat) (G : Mons) : Same (plusM (atomM i G) 1 G) (demM i G) := fun v => by
  unfold atomM plusM
  rw [wsum_append, wsum_append, wsum_scale, wsum_scale]
  omega
end Go.Proofs.Ytblhndkaikelaaa
