/-
  A sum of classes is found again when its polynomial is taken apart. Plain.
-/
import Derived.Test.YtomejjbkakpoiaaGreatBuE28
import Derived.Test.YtomejjbkakpoiaaGreatGoodM
import Derived.Test.YtomejjbkakpoiaaGreatBuE25
namespace Go.Proofs.YtomejjbkakpoiaaGreat
open Go.RowKit

/-- the permutation is found again from its code -/
def backOk (v : List Int) : Bool := stOk (cK v) && decide (tOf (cK v) = v)
def schK (q : Int × Int) : Mons := scaleM q.2 (schM (tOf q.1) (tOf q.1).length)
def sumK (Ks : Mons) : Mons := Ks.flatMap schK
def KOk (q : Int × Int) : Prop := stOk q.1 = true ∧ inK q.1 ∧ q.2 ≠ 0 ∧ in64 q.2
theorem raw_scale (c : Int) (F : Mons) (k : Int) : raw (scaleM c F) k = c * raw F k := wsum_scale c F _
theorem schK_keys {q : Int × Int} (h : KOk q) : ∀ p ∈ schK q, p.1 ≤ q.1 := fun p hp => by
  unfold schK scaleM at hp
  rw [List.mem_map] at hp
  obtain ⟨r, hr, rfl⟩ := hp
  exact (leads_tOf h.1 h.2.1).le r hr
theorem sumK_keys {Ks : Mons} {k : Int} (h : ∀ q ∈ Ks, KOk q ∧ q.1 < k) : ∀ p ∈ sumK Ks, p.1 < k := fun p hp => by
  unfold sumK at hp
  obtain ⟨q, hq, hp⟩ := List.mem_flatMap.1 hp
  have h1 := schK_keys (h q hq).1 p hp
  have h2 := (h q hq).2
  omega
theorem canon_head {F : Mons} {k c : Int} (hle : ∀ p ∈ F, p.1 ≤ k) (hc : coef F k = c) (h0 : c ≠ 0) : ∃ R, canon F = (k, c) :: R := by
  have hm : (k, c) ∈ canon F := canon_mem.2 ⟨h0, hc.symm⟩
  have hs := canon_sorted F
  cases hF : canon F with
  | nil => rw [hF] at hm; cases hm
  | cons p R =>
    rw [hF] at hm hs
    rcases List.mem_cons.1 hm with h | h
    · exact ⟨R, by rw [← h]⟩
    · have h1 := List.rel_of_pairwise_cons hs h
      obtain ⟨q, hq, e⟩ := mem_canon (F := F) (p := p) (by rw [hF]; exact List.mem_cons_self)
      have h2 := hle q hq
      simp only at h1
      omega
theorem sumK_top {k c : Int} {T : Mons} (hk : KOk (k, c)) (hT : ∀ q ∈ T, KOk q ∧ q.1 < k) : (∀ p ∈ sumK ((k, c) :: T), p.1 ≤ k) ∧ coef (sumK ((k, c) :: T)) k = c := by
  have h1 := schK_keys hk
  have h2 := sumK_keys hT
  refine ⟨fun p hp => ?_, ?_⟩
  · unfold sumK at hp
    rw [List.flatMap_cons, List.mem_append] at hp
    rcases hp with hp | hp
    · exact h1 p hp
    · have := h2 p hp
      omega
  · unfold coef sumK
    rw [List.flatMap_cons, raw_append, show raw (T.flatMap schK) k = 0 from raw_miss fun p hp => by have := h2 p hp; omega]
    unfold schK
    rw [raw_scale, (leads_tOf hk.1 hk.2.1).raw]
    have := hk.2.2.2
    unfold in64 at this
    unfold wrap64
    simp only at this ⊢
    omega
theorem exTo_back : ∀ (Ks : Mons) (f : Nat) (acc : List (List Int × Int)), (∀ q ∈ Ks, KOk q) → (Ks.Pairwise fun a b => b.1 < a.1) → Ks.length < f → acc.length + Ks.length ≤ 100 →
    exTo f (canon (sumK Ks)) acc = some (acc ++ Ks.map fun q => (tOf q.1, q.2))
  | [], f, acc, _, _, hf, _ => by
    obtain ⟨f', rfl⟩ : ∃ f', f = f' + 1 := ⟨f - 1, by simp at hf; omega⟩
    have : canon (sumK []) = [] := by
      cases h : canon (sumK []) with
      | nil => rfl
      | cons p R =>
        obtain ⟨q, hq, _⟩ := mem_canon (F := sumK []) (p := p) (by rw [h]; exact List.mem_cons_self)
        cases hq
    rw [this, exTo_nil]
    simp
  | (k, c) :: T, f, acc, hK, hs, hf, ha => by
    obtain ⟨f', rfl⟩ : ∃ f', f = f' + 1 := ⟨f - 1, by simp at hf; omega⟩
    rw [List.pairwise_cons] at hs
    have hk := hK _ List.mem_cons_self
    have hT : ∀ q ∈ T, KOk q ∧ q.1 < k := fun q hq => ⟨hK q (List.mem_cons_of_mem _ hq), hs.1 q hq⟩
    obtain ⟨t1, t2⟩ := sumK_top hk hT
    obtain ⟨R, hR⟩ := canon_head t1 t2 hk.2.2.1
    rw [List.length_cons] at hf ha
    have hstep : exNext ((k, c) :: R) k c = canon (sumK T) := by
      unfold exNext
      rw [← hR]
      refine canon_eqv (Eqv.trans ((canon_self _).append (Eqv.refl _)) ?_)
      refine Eqv.of_wsum fun v => ?_
      unfold sumK
      rw [wsum_append, List.flatMap_cons, wsum_append]
      unfold schK
      rw [wsum_scale, wsum_scale]
      simp only
      exact ⟨0, by rw [Int.mul_zero, Int.neg_mul]; omega⟩
    rw [hR, exTo_step hk.1 (by omega), hstep, exTo_back T f' _ (fun q hq => (hT q hq).1) hs.2 (by omega) (by rw [List.length_append]; simp; omega)]
    rw [List.map_cons, List.append_assoc]
    rfl
theorem clsTo_flat (xs : List (List Int × Int)) : ∀ k, k ≤ xs.length → clsTo xs k = (xs.take k).flatMap fun p => scaleM p.2 (schOf p.1)
  | 0, _ => rfl
  | k + 1, h => by
    have hx : xs[k]? = some (partOf xs k) := by rw [partOf, List.getD_eq_getElem?_getD, List.getElem?_eq_getElem (by omega)]; rfl
    rw [clsTo, clsTo_flat xs k (by omega), List.take_add_one, hx, List.flatMap_append]
    unfold plusM
    simp
theorem clsM_flat (xs : List (List Int × Int)) : clsM xs = xs.flatMap fun p => scaleM p.2 (schOf p.1) := by
  rw [clsM, clsTo_flat xs _ (Nat.le_refl _), List.take_length]
theorem flatMap_same {α β : Type} {f g : α → List β} : ∀ {l : List α}, (∀ a ∈ l, f a = g a) → l.flatMap f = l.flatMap g
  | [], _ => rfl
  | a :: l, h => by rw [List.flatMap_cons, List.flatMap_cons, h a List.mem_cons_self, flatMap_same fun b hb => h b (List.mem_cons_of_mem _ hb)]
theorem class_all {L : List (List Int × Int)} (h : classesOk L = true) : L.length ≤ 100 ∧ ∀ p ∈ L, isPerm p.1 = true ∧ trimLen p.1 p.1.length = p.1.length ∧ p.2 ≠ 0 ∧ -1000000 ≤ p.2 ∧ p.2 ≤ 1000000 := by
  unfold classesOk at h
  simp only [Bool.and_eq_true, decide_eq_true_eq, List.all_eq_true, List.mem_range] at h
  refine ⟨h.1, fun p hp => ?_⟩
  obtain ⟨k, hk⟩ := List.getElem?_of_mem hp
  have h1 := h.2 k (lt_of_some hk)
  unfold classAt isClass at h1
  rw [partOf_at hk] at h1
  simp only [Bool.and_eq_true, decide_eq_true_eq] at h1
  exact ⟨h1.1.1.1.1, h1.1.1.1.2, h1.1.1.2, h1.1.2⟩
theorem class_asc {L : List (List Int × Int)} (h : classesOk L = true) : Asc L := by
  unfold classesOk at h
  simp only [Bool.and_eq_true, decide_eq_true_eq, List.all_eq_true, List.mem_range] at h
  have hstep : ∀ k, k + 1 < L.length → less (partOf L k).1 (partOf L (k + 1)).1 = true := fun k hk => by
    have h1 := h.2 (k + 1) hk
    unfold classAt at h1
    simp only [Bool.and_eq_true, Bool.or_eq_true] at h1
    rcases h1.2 with h2 | h2
    · simp at h2
    · exact h2
  have hall : ∀ d k, k + d + 1 < L.length → less (partOf L k).1 (partOf L (k + d + 1)).1 = true := by
    intro d
    induction d with
    | zero => intro k hk; exact hstep k hk
    | succ d ih => intro k hk; exact less_trans (ih k (by omega)) (hstep (k + d + 1) hk)
  unfold Asc
  rw [List.pairwise_iff_getElem]
  intro i j hi hj hij
  have h1 := hall (j - i - 1) i (by omega)
  have e1 : partOf L i = L[i] := partOf_at (List.getElem?_eq_getElem hi)
  have e2 : partOf L (i + (j - i - 1) + 1) = L[j] := by rw [show i + (j - i - 1) + 1 = j by omega]; exact partOf_at (List.getElem?_eq_getElem hj)
  rw [e1, e2] at h1
  exact h1
def downK (a b : Int × Int) : Bool := decide (b.1 ≤ a.1)
/-- THE WAY BACK: a polynomial that is the sum of classes is taken apart into them -/
theorem exp_back {L : List (List Int × Int)} {F : Mons} (hc : classesOk L = true) (hb : ∀ p ∈ L, backOk p.1 = true) (he : Eqv F (clsM L)) (hF : OKp F) : expT (termsM F) = L ∧ expOk (termsM F) = true := by
  obtain ⟨hlen, hall⟩ := class_all hc
  have hasc := class_asc hc
  have hback : ∀ p ∈ L, stOk (cK p.1) = true ∧ tOf (cK p.1) = p.1 := fun p hp => by
    have := hb p hp
    unfold backOk at this
    rw [Bool.and_eq_true, decide_eq_true_eq] at this
    exact this
  obtain ⟨K0, hK0⟩ : ∃ K0 : Mons, L.map (fun p => (cK p.1, p.2)) = K0 := ⟨_, rfl⟩
  obtain ⟨Ks, hKs⟩ : ∃ Ks, K0.mergeSort downK = Ks := ⟨_, rfl⟩
  have hperm : Ks.Perm K0 := by rw [← hKs]; exact List.mergeSort_perm _ _
  have hKok : ∀ q ∈ Ks, KOk q := fun q hq => by
    have h1 := hperm.mem_iff.1 hq
    rw [← hK0, List.mem_map] at h1
    obtain ⟨p, hp, rfl⟩ := h1
    have h2 := hall p hp
    have h7 := ((isPerm_iff _).1 h2.1).2.1
    exact ⟨(hback p hp).1, cK_in h7, h2.2.2.1, by unfold in64; simp only; omega⟩
  have hsort : Ks.Pairwise fun a b => downK a b = true := by
    rw [← hKs]
    refine List.pairwise_mergeSort (fun a b c h1 h2 => ?_) (fun a b => ?_) _
    · unfold downK at *
      rw [decide_eq_true_eq] at *
      omega
    · unfold downK
      rw [Bool.or_eq_true, decide_eq_true_eq, decide_eq_true_eq]
      omega
  have hnd : (Ks.map Prod.fst).Nodup := by
    rw [(hperm.map Prod.fst).nodup_iff, ← hK0, List.map_map]
    unfold List.Nodup
    rw [List.pairwise_map]
    refine List.Pairwise.imp_of_mem (fun {a b} ha hb' h e => ?_) hasc
    have e1 : a.1 = b.1 := by
      rw [← (hback a ha).2, ← (hback b hb').2]
      simp only [Function.comp] at e
      rw [e]
    rw [e1, less_irrefl] at h
    cases h
  have hs : Ks.Pairwise fun a b => b.1 < a.1 := by
    have h2 := List.pairwise_map.1 hnd
    refine (hsort.and h2).imp fun {a b} h => ?_
    have h1 := h.1
    unfold downK at h1
    rw [decide_eq_true_eq] at h1
    have := h.2
    omega
  have hsum : Eqv F (sumK Ks) := by
    refine he.trans (Eqv.of_wsum fun v => ?_)
    have h1 : (sumK Ks).Perm (sumK K0) := by
      unfold sumK
      exact hperm.flatMap_right _
    have h2 : sumK K0 = clsM L := by
      rw [clsM_flat, ← hK0]
      unfold sumK
      rw [List.flatMap_map]
      refine flatMap_same fun p hp => ?_
      unfold schK schOf
      simp only
      rw [(hback p hp).2, (hall p hp).2.1, List.take_length]
    rw [wsum_perm h1, h2]
    exact ⟨0, by omega⟩
  have hex : exM (monsOf (termsM F)) = some (Ks.map fun q => (tOf q.1, q.2)) := by
    rw [monsOf_terms hF.bd]
    unfold exM
    rw [canon_canon, canon_eqv hsum, exTo_back Ks 101 [] hKok hs (by rw [hperm.length_eq, ← hK0, List.length_map]; omega) (by rw [hperm.length_eq, ← hK0, List.length_map]; simp; omega), List.nil_append]
  have hLp : (Ks.map fun q => (tOf q.1, q.2)).Perm L := by
    refine (hperm.map _).trans ?_
    rw [← hK0, List.map_map]
    have : L.map ((fun q : Int × Int => (tOf q.1, q.2)) ∘ fun p => (cK p.1, p.2)) = L := by
      conv => rhs; rw [← List.map_id L]
      refine List.map_congr_left fun p hp => ?_
      simp only [Function.comp, id]
      rw [(hback p hp).2]
    rw [this]
  have hdst : Dst (Ks.map fun q => (tOf q.1, q.2)) := by
    have : Dst L := hasc.imp fun {a b} h e => by rw [e, less_irrefl] at h; cases h
    exact (hLp.pairwise_iff (fun {a b} h e => h e.symm)).2 this
  have hsk : sortK (Ks.map fun q => (tOf q.1, q.2)) = L := asc_unique (sortK_asc hdst) hasc ((sortK_perm _).trans hLp)
  obtain ⟨g1, _⟩ := exp_some hF.ok hex
  rw [hsk] at g1
  exact g1 hc
end Go.Proofs.YtomejjbkakpoiaaGreat
