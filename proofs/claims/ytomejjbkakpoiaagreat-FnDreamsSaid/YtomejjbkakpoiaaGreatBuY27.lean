/-
  Contracts of open and of operated, with DemazureOf, IsobaricOf and AtomOf of the program.
  Polynomials within the limits: few terms, small exponents, small coefficients. Plain.
  Contracts of operated, with DemazureOf, IsobaricOf and AtomOf of the program.
-/
import Derived.Test.YtomejjbkakpoiaaGreatBuY24
import Derived.Test.YtomejjbkakpoiaaGreatBuY26
import Derived.StillTailTactics
namespace Go.Proofs.YtomejjbkakpoiaaGreat
open Go.RowKit Go.MapKept

def monsOf (xs : List (List Int × Int)) : Mons := xs.map fun p => (keyL p.1, p.2)
theorem dig_keyL {s : List Int} (hl : s.length = 7) (hd : Digs s) {i : Nat} (hi : i < 7) : s[i]? = some (dig (keyL s) i) := by
  obtain ⟨a, b, c, d, e, f, g, rfl⟩ := seven_list hl
  have h := pack_digs (hd a (by simp)) (hd b (by simp)) (hd c (by simp)) (hd d (by simp)) (hd e (by simp)) (hd f (by simp)) (hd g (by simp))
  have e1 : keyL [a, b, c, d, e, f, g] = pack a b c d e f g := by unfold pack; simp only [keyL]; omega
  rw [e1]
  obtain ⟨_, h0, h1, h2, h3, h4, h5, h6⟩ := h
  rcases seven (show i ≤ 6 by omega) with rfl | rfl | rfl | rfl | rfl | rfl | rfl <;> simp_all
theorem digs_keyL {s : List Int} (hl : s.length = 7) (hd : Digs s) : digs (keyL s) = s := by
  apply List.ext_getElem?
  intro i
  rcases Nat.lt_or_ge i 7 with h | h
  · rw [digs_at h, dig_keyL hl hd h]
  · rw [List.getElem?_eq_none (by rw [digs_length]; exact h), List.getElem?_eq_none (by omega)]
theorem polyOk_each {xs : List (List Int × Int)} (h : polyOk xs = true) {k : Nat} {s : List Int} {c : Int} (hx : xs[k]? = some (s, c)) : s.length = 7 ∧ Digs s ∧ (∀ x ∈ s, x ≤ 24) ∧ -1000000 ≤ c ∧ c ≤ 1000000 ∧ c ≠ 0 := by
  unfold polyOk at h
  simp only [Bool.and_eq_true, decide_eq_true_eq, List.all_eq_true, List.mem_range] at h
  have hk := (List.getElem?_eq_some_iff.1 hx).1
  have h2 := h.2 k hk
  obtain ⟨e1, e2, e3⟩ := termAt_ok hx h2
  refine ⟨e1, e2, ?_, ?_⟩
  · intro x hxs
    simp only [termAt, termOf_at hx, Bool.and_eq_true, List.all_eq_true] at h2
    have := h2.1.2 x hxs
    simp [small] at this
    omega
  · simp [coefOk] at e3
    omega
theorem polyOk_len {xs : List (List Int × Int)} (h : polyOk xs = true) : xs.length ≤ 600 := by
  unfold polyOk at h
  simp only [Bool.and_eq_true, decide_eq_true_eq] at h
  exact h.1
theorem polyOk_mons {xs : List (List Int × Int)} (h : polyOk xs = true) : Bd 24 (monsOf xs) := by
  intro p hp
  obtain ⟨q, hq, rfl⟩ := List.mem_map.1 hp
  obtain ⟨k, hk⟩ := List.getElem?_of_mem hq
  obtain ⟨e1, e2, e3, _⟩ := polyOk_each h hk
  refine ⟨keyL_small e2 (by omega), fun i hi => e3 _ (List.mem_of_getElem? (dig_keyL e1 e2 hi))⟩
theorem polyOk_in64 {xs : List (List Int × Int)} (h : polyOk xs = true) : ∀ p ∈ monsOf xs, in64 p.2 := by
  intro p hp
  obtain ⟨q, hq, rfl⟩ := List.mem_map.1 hp
  obtain ⟨k, hk⟩ := List.getElem?_of_mem hq
  obtain ⟨_, _, _, e4, e5, _⟩ := polyOk_each h hk
  unfold in64
  simp only
  omega

theorem run_arrayAt7 (a : Option Addr) (c : Nat) (w : World) : (Instr.arrayAt 85 (.slice a 7 c)).run Tryz.prog w = .ok (.pointer a) w := by
  simp [Instr.arrayAt, run_underlying arrK.hu]
set_option maxRecDepth 100000 in
set_option maxHeartbeats 3200000 in
theorem open_any (a : Option Addr) (n c : Nat) (xs : List (List Int × Int)) (w : World) (hr : RP w a xs) (hn : xs.length = n) (hok : polyOk xs = true) :
    Calls Tryz.prog 54 #[.slice a n c] w fun e w' => ∃ r, e = .returned (.map (some r)) ∧ w.heap.size ≤ r ∧ PF w' r (monsOf xs) ∧ Below w.heap.size w w' := by
  have hnb : n ≤ 600 := by rw [← hn]; exact polyOk_len hok
  have Hn := Lib.hid hn; clear hn
  have Hok := Lib.hid hok; clear hok
  have hmm := @run_makeMap Tryz.prog
  obtain ⟨W, hW⟩ : ∃ W, w.alloc (.map #[] 0) = W := ⟨_, rfl⟩
  have hBW : Below w.heap.size w W := by rw [← hW]; exact (Below.refl _ _).alloc (Nat.le_refl _) _
  have hM : PF W w.heap.size [] := by rw [← hW]; exact PF.made w
  go_enter Tryz.func54, Tryz.ntmps54
  go_wp2
  go_loopw [9] (fun i wr => ∃ k : Nat, k ≤ n ∧ i = .int .i64 k ∧ PF wr w.heap.size (monsOf (xs.take k)) ∧ Below w.heap.size w wr) (fun i _ => n - (intOf i).toNat)
  case atStart => exact ⟨0, Nat.zero_le _, rfl, hM, hBW⟩
  case round =>
    clear hM hBW
    obtain ⟨k, hk, rfl, hM, hB⟩ := hrel
    obtain ⟨wo, rfl⟩ : ∃ wo : World, wo = wr := ⟨_, rfl⟩
    have hbs := hB.size
    have hMlt := hM.lt
    by_cases hlt : k < n
    · obtain ⟨b, off, rfl, hcell⟩ := (hr.below hB).at (k := k) (by rw [Hn.out]; exact hlt)
      obtain ⟨s, x, hx⟩ := part_at Hn.out hlt
      obtain ⟨a1, c1, hc1, hc2, hri, hcap⟩ := hcell k _ hx
      simp only at hc1 hc2 hri hcap
      obtain ⟨s7, sd, _, x1, x2, _⟩ := polyOk_each Hok.out hx
      have hkk := keyL_small sd (by omega)
      have hx64 : in64 x := by unfold in64; omega
      rw [s7] at hc1 hcap
      obtain ⟨W, hW⟩ : ∃ W, wo.alloc (.cells #[.slice a1 7 c1, .int .i64 x] 74) = W := ⟨_, rfl⟩
      have hBW : Below wo.heap.size wo W := by rw [← hW]; exact (Below.refl _ _).alloc (Nat.le_refl _) _
      have g0 : W.heap[wo.heap.size]? = some (.cells #[.slice a1 7 c1, .int .i64 x] 74) := by rw [← hW]; exact heap_alloc_new wo _
      have p0 : W.cell? ⟨wo.heap.size, 0, none⟩ = some (.slice a1 7 c1) := by rw [cell_of_row W _ 0 _ _ (0, 0) g0]; rfl
      have p1 : W.cell? ⟨wo.heap.size, 1, none⟩ = some (.int .i64 x) := by rw [cell_of_row W _ 1 _ _ (0, 0) g0]; rfl
      obtain ⟨b1, off1, rfl, hce⟩ := (hri.below hBW).at (k := 0) (by rw [s7]; omega)
      have a0 := hce 0 _ (dig_keyL s7 sd (by omega))
      have a1 := hce 1 _ (dig_keyL s7 sd (by omega))
      have a2 := hce 2 _ (dig_keyL s7 sd (by omega))
      have a3 := hce 3 _ (dig_keyL s7 sd (by omega))
      have a4 := hce 4 _ (dig_keyL s7 sd (by omega))
      have a5 := hce 5 _ (dig_keyL s7 sd (by omega))
      have a6 := hce 6 _ (dig_keyL s7 sd (by omega))
      rw [Nat.add_zero] at a0
      have hM1 : PF W.drew w.heap.size (monsOf (xs.take k)) := (hM.below hBW).below (Drew.below ⟨1, rfl⟩ _)
      have hB1 := hB.trans ((hBW.trans (Drew.below ⟨1, rfl⟩ _)).mono hbs)
      have Hnx := Lib.hid (show Eqv ((keyL s, x) :: monsOf (xs.take k)) (monsOf (xs.take (k + 1))) by
        unfold monsOf
        rw [take_at hx, List.map_append]
        exact Eqv.of_perm (List.perm_append_singleton _ _).symm)
      have Hkk := Lib.hid hkk
      have q1 : (k : Int) < (n : Int) := by omega
      have hat := run_arrayAt7 (some ⟨b1, off1, none⟩) c1 W.drew
      clear hcell hce hx hM hB hBW g0 hri s7 sd hkk
      go_wp2
      go_still_tail 7, (by kernel_rfl)
      go_wp2_with fail
      refine (add_any w.heap.size (keyL s) x _ _ hM1 Hkk.out hx64).mono ?_
      rintro e w3 ⟨rfl, hM3, hg3⟩
      have hB3 := below_of_grown hB1 hg3 hB1.size (Nat.le_refl _)
      have hM4 := hM3.eqv Hnx.out
      clear hM3 hM1 hB1 hg3
      go_wp2
      go_roundw
      case rel => exact ⟨k + 1, by omega, by go_num, hM4, hB3⟩
      case measure => simp [intOf]; omega
    · obtain rfl : k = n := by omega
      rw [List.take_of_length_le (by rw [Hn.out]; exact Nat.le_refl _)] at hM
      go_wp2
      go_ret
      exact ⟨_, rfl, Nat.le_refl _, hM, hB⟩
end Go.Proofs.YtomejjbkakpoiaaGreat

namespace Go.Proofs.YtomejjbkakpoiaaGreat
open Go.RowKit

theorem canon_len_eqv {F G : Mons} (h : Eqv F G) : (canon F).length = (canon G).length := by rw [canon_eqv h]
theorem canon_length (F : Mons) : (canon F).length = (keysOf F).length := by simp [canon]
theorem raw_app (F G : Mons) (k : Int) : raw (F ++ G) k = raw F k + raw G k := wsum_append F G _
theorem coef_app_zero {F G : Mons} {k : Int} (h1 : coef F k = 0) (h2 : coef G k = 0) : coef (F ++ G) k = 0 := by
  unfold coef at *
  rw [raw_app, ← wrap_addl, ← wrap_addr, h1, h2]
  exact wrap_zero
theorem canon_len_append (F G : Mons) : (canon (F ++ G)).length ≤ (canon F).length + (canon G).length := by
  rw [canon_length, canon_length, canon_length, ← List.length_append]
  refine (keysOf_nodup (F ++ G)).length_le_of_subset fun k hk => ?_
  rw [mem_keysOf] at hk
  rw [List.mem_append, mem_keysOf, mem_keysOf]
  rcases Decidable.em (coef F k = 0) with h1 | h1
  · rcases Decidable.em (coef G k = 0) with h2 | h2
    · exact absurd (coef_app_zero h1 h2) hk
    · exact .inr h2
  · exact .inl h1
theorem wsum_scale (c : Int) (F : Mons) (v : Int → Int) : wsum (scaleM c F) v = c * wsum F v := by
  induction F with
  | nil => simp [scaleM, wsum]
  | cons p F ih =>
    have e : scaleM c (p :: F) = (p.1, c * p.2) :: scaleM c F := rfl
    rw [e, wsum, ih, wsum, Int.mul_add, Int.mul_assoc]
theorem coef_scale_zero {F : Mons} {c k : Int} (h : coef F k = 0) : coef (scaleM c F) k = 0 := by
  unfold coef raw at *
  rw [wsum_scale, ← wrap_mul, h, Int.mul_zero]
  exact wrap_zero
theorem canon_len_scale (c : Int) (F : Mons) : (canon (scaleM c F)).length ≤ (canon F).length := by
  rw [canon_length, canon_length]
  refine (keysOf_nodup (scaleM c F)).length_le_of_subset fun k hk => ?_
  rw [mem_keysOf] at hk ⊢
  exact fun h => hk (coef_scale_zero h)
structure GoodM (n C : Nat) (F : Mons) : Prop where
  bd : Bd 24 F
  few : (canon F).length ≤ n
  low : ∀ k, -(C : Int) ≤ raw F k ∧ raw F k ≤ C
theorem GoodM.mono {n C m D : Nat} {F : Mons} (h : GoodM n C F) (hn : n ≤ m) (hC : C ≤ D) : GoodM m D F :=
  ⟨h.bd, Nat.le_trans h.few hn, fun k => by have := h.low k; omega⟩
theorem GoodM.nil : GoodM 0 0 [] := ⟨fun p hp => (by cases hp), by simp [canon, keysOf, uniq], fun k => by simp [raw, wsum]⟩
theorem GoodM.append {n C m D : Nat} {F G : Mons} (h : GoodM n C F) (h' : GoodM m D G) : GoodM (n + m) (C + D) (F ++ G) :=
  ⟨h.bd.append h'.bd, Nat.le_trans (canon_len_append F G) (Nat.add_le_add h.few h'.few), fun k => by
    have := h.low k
    have := h'.low k
    rw [raw_app]
    omega⟩
theorem mul_range {a b : Int} {C D : Nat} (ha : -(C : Int) ≤ a ∧ a ≤ C) (hb : -(D : Int) ≤ b ∧ b ≤ D) : -((C * D : Nat) : Int) ≤ a * b ∧ a * b ≤ ((C * D : Nat) : Int) := by
  have h1 : a.natAbs ≤ C := by omega
  have h2 : b.natAbs ≤ D := by omega
  have h3 : (a * b).natAbs ≤ C * D := by rw [Int.natAbs_mul]; exact Nat.mul_le_mul h1 h2
  omega
theorem GoodM.scale {n C D : Nat} {F : Mons} (h : GoodM n C F) {c : Int} (hc : -(D : Int) ≤ c ∧ c ≤ D) : GoodM n (D * C) (scaleM c F) :=
  ⟨h.bd.scale, Nat.le_trans (canon_len_scale c F) h.few, fun k => by
    unfold raw
    rw [wsum_scale]
    exact mul_range hc (h.low k)⟩
theorem GoodM.plus {n C m D E : Nat} {F G : Mons} (h : GoodM n C F) (h' : GoodM m D G) {c : Int} (hc : -(E : Int) ≤ c ∧ c ≤ E) : GoodM (n + m) (C + E * D) (plusM F c G) := h.append (h'.scale hc)
theorem GoodM.canon {n C : Nat} {F : Mons} (h : GoodM n C F) (hC : C ≤ 1000000) : GoodM n C (canon F) :=
  ⟨h.bd.canon, by rw [canon_len_eqv (canon_self F)]; exact h.few, fun k => by
    have e : raw (Go.Proofs.YtomejjbkakpoiaaGreat.canon F) k = coef F k := by
      unfold Go.Proofs.YtomejjbkakpoiaaGreat.canon
      rw [raw_map (keysOf_nodup F)]
      split
      · rfl
      · rename_i hk
        rw [mem_keysOf] at hk
        exact (Decidable.not_not.1 hk).symm
    rw [e]
    have := h.low k
    unfold coef
    rw [wrap_self (by omega)]
    exact this⟩
theorem termsM_at {F : Mons} {k : Nat} {t : List Int × Int} (h : (termsM F)[k]? = some t) : ∃ p, (canon F)[k]? = some p ∧ t = term p := by
  unfold termsM at h
  rw [List.getElem?_map] at h
  cases hp : (canon F)[k]? with
  | none => rw [hp] at h; cases h
  | some p => rw [hp] at h; exact ⟨p, rfl, by simpa using h.symm⟩
theorem GoodM.ok {F : Mons} (h : GoodM 600 1000000 F) : polyOk (termsM F) = true := by
  unfold polyOk
  rw [Bool.and_eq_true, decide_eq_true_eq, List.all_eq_true]
  refine ⟨by unfold termsM; rw [List.length_map]; exact h.few, fun k hk => ?_⟩
  rw [List.mem_range] at hk
  obtain ⟨t, ht⟩ : ∃ t, (termsM F)[k]? = some t := ⟨_, List.getElem?_eq_getElem hk⟩
  obtain ⟨p, hp, rfl⟩ := termsM_at ht
  have hb := h.bd.canon p (List.mem_of_getElem? hp)
  obtain ⟨hc1, hc2⟩ := canon_mem.1 (List.mem_of_getElem? hp)
  have hl := h.low p.1
  have hc3 : p.2 = raw F p.1 := by rw [hc2]; unfold coef; rw [wrap_self (by omega)]
  unfold termAt
  rw [termOf_at ht, Bool.and_eq_true, Bool.and_eq_true]
  refine ⟨⟨?_, ?_⟩, ?_⟩
  · unfold headOk coefOk term
    simp only [digs_length, Bool.and_eq_true, decide_eq_true_eq]
    exact ⟨trivial, hc1, by omega, by omega⟩
  · rw [List.all_eq_true]
    intro x hx
    unfold term digs at hx
    simp only [List.mem_map, List.mem_range] at hx
    obtain ⟨i, hi, rfl⟩ := hx
    have h1 := hb.2 i hi
    have h2 := dig_range p.1 i
    unfold small
    rw [decide_eq_true_eq]
    omega
  · cases k with
    | zero => rfl
    | succ k =>
      obtain ⟨t', ht'⟩ : ∃ t, (termsM F)[k]? = some t := ⟨_, List.getElem?_eq_getElem (by omega)⟩
      obtain ⟨q, hq, rfl⟩ := termsM_at ht'
      have hb' := h.bd.canon q (List.mem_of_getElem? hq)
      rw [Nat.add_sub_cancel, termOf_at ht']
      unfold term
      simp only
      rw [keyL_digs hb.1, keyL_digs hb'.1]
      obtain ⟨hk1, e1⟩ := List.getElem?_eq_some_iff.1 hp
      obtain ⟨hk2, e2⟩ := List.getElem?_eq_some_iff.1 hq
      have := List.pairwise_iff_getElem.1 (canon_sorted F) k (k + 1) hk2 hk1 (by omega)
      rw [e1, e2] at this
      simp [this]
theorem monsOf_terms {F : Mons} (h : Bd 24 F) : monsOf (termsM F) = canon F := by
  unfold monsOf termsM
  rw [List.map_map]
  conv => rhs; rw [← List.map_id (canon F)]
  refine List.map_congr_left fun p hp => ?_
  have := (h.canon p hp).1
  simp only [Function.comp, term, id]
  rw [keyL_digs this]
/-- a polynomial within the limits -/
structure OKp (F : Mons) : Prop where
  bd : Bd 24 F
  ok : polyOk (termsM F) = true
theorem GoodM.okp {F : Mons} {n C : Nat} (h : GoodM n C F) (hn : n ≤ 600) (hC : C ≤ 1000000) : OKp F := ⟨h.bd, (h.mono hn hC).ok⟩
theorem OKp.len {F : Mons} (h : OKp F) : (termsM F).length ≤ 600 := polyOk_len h.ok
theorem termsM_eqv {F G : Mons} (h : Eqv F G) : termsM F = termsM G := by unfold termsM; rw [canon_eqv h]
theorem termsM_op {op : Mons → Mons} (hop : ∀ {F G : Mons}, Eqv F G → Eqv (op F) (op G)) {F : Mons} (h : OKp F) : termsM (op (monsOf (termsM F))) = termsM (op F) := by
  rw [monsOf_terms h.bd]
  exact termsM_eqv (hop (canon_self F))
theorem closedT_op {op : Mons → Mons} (hop : ∀ {F G : Mons}, Eqv F G → Eqv (op F) (op G)) {F : Mons} (h : OKp F) (hR : OKp (op F)) : closedT (op (monsOf (termsM F))) = termsM (op F) := by
  have e := termsM_op (fun h => hop h) h
  rw [closedT_ok (by rw [e]; exact hR.ok), e]
end Go.Proofs.YtomejjbkakpoiaaGreat

namespace Go.Proofs.YtomejjbkakpoiaaGreat
open Go.RowKit Go.MapKept

def isVar (x : Int) : Bool := decide (0 ≤ x ∧ x ≤ 5)
def opT (op : Nat → Mons → Mons) (xs : List (List Int × Int)) (x : Int) : List (List Int × Int) := if polyOk xs = true ∧ isVar x = true then closedT (op x.toNat (monsOf xs)) else []
def opOk (op : Nat → Mons → Mons) (xs : List (List Int × Int)) (x : Int) : Bool := polyOk xs && isVar x && polyOk (termsM (op x.toNat (monsOf xs)))
theorem opT_no {op : Nat → Mons → Mons} {xs : List (List Int × Int)} {x : Int} (h : polyOk xs = false ∨ isVar x = false) : opT op xs x = [] ∧ opOk op xs x = false := by
  unfold opT opOk
  rcases h with h | h
  · rw [if_neg (by rw [h]; simp), h]; exact ⟨rfl, rfl⟩
  · rw [if_neg (by rw [h]; simp), h]; exact ⟨rfl, by simp⟩
theorem opT_yes {op : Nat → Mons → Mons} {xs : List (List Int × Int)} {x : Int} (h : polyOk xs = true) (h' : isVar x = true) : opT op xs x = closedT (op x.toNat (monsOf xs)) ∧ opOk op xs x = polyOk (termsM (op x.toNat (monsOf xs))) := by
  unfold opT opOk
  rw [if_pos ⟨h, h'⟩, h, h']
  exact ⟨rfl, by simp⟩
theorem low_top {F : Mons} (h : Bd 24 F) {j : Nat} (hj : j < 7) : ∀ p ∈ canon F, dig p.1 j ≤ 126 := fun p hp => Int.le_trans ((h.canon p hp).2 j hj) (by omega)
end Go.Proofs.YtomejjbkakpoiaaGreat
