/-
  Lists of monomials (a key, a coefficient) up to sums of those that are alike, modulo 2^64; their one ordered form.
-/
import Derived.Test.YtiiiiolifpaehaaBase
namespace Go.Proofs.Ytiiiiolifpaehaa
open Go.RowKit

abbrev Mons := List (Int × Int)
def W64 : Int := 18446744073709551616
/-- a sum over the monomials, each with a weight that hangs on its key -/
def wsum : Mons → (Int → Int) → Int
  | [], _ => 0
  | p :: l, v => p.2 * v p.1 + wsum l v
def hit (k : Int) (j : Int) : Int := if j = k then 1 else 0
def raw (l : Mons) (k : Int) : Int := wsum l (hit k)
/-- the coefficient at a key -/
def coef (l : Mons) (k : Int) : Int := wrap64 (raw l k)
theorem wrap_dvd (a : Int) : W64 ∣ a - wrap64 a := by unfold wrap64 W64; omega
theorem wrap_eq {a b : Int} : wrap64 a = wrap64 b ↔ W64 ∣ a - b := by unfold wrap64 W64; omega
theorem wrap_range (a : Int) : -9223372036854775808 ≤ wrap64 a ∧ wrap64 a ≤ 9223372036854775807 := by unfold wrap64; omega
theorem wrap_self {a : Int} (h : -9223372036854775808 ≤ a ∧ a ≤ 9223372036854775807) : wrap64 a = a := by unfold wrap64; omega
theorem wrap_zero : wrap64 0 = 0 := by unfold wrap64; omega
theorem wrap_mul (a b : Int) : wrap64 (a * wrap64 b) = wrap64 (a * b) := by
  rw [wrap_eq]
  have h := wrap_dvd b
  have : a * wrap64 b - a * b = -(a * (b - wrap64 b)) := by rw [Int.mul_sub]; omega
  rw [this]
  exact Int.dvd_neg.2 (Int.dvd_mul_of_dvd_right h)
theorem wrap_addr (a b : Int) : wrap64 (a + wrap64 b) = wrap64 (a + b) := by unfold wrap64; omega
theorem wrap_addl (a b : Int) : wrap64 (wrap64 a + b) = wrap64 (a + b) := by unfold wrap64; omega

theorem wsum_append (l m : Mons) (v : Int → Int) : wsum (l ++ m) v = wsum l v + wsum m v := by
  induction l with
  | nil => simp [wsum]
  | cons p l ih => simp only [List.cons_append, wsum, ih]; omega
theorem wsum_perm {l m : Mons} (h : l.Perm m) (v : Int → Int) : wsum l v = wsum m v := by
  induction h with
  | nil => rfl
  | cons p _ ih => simp only [wsum, ih]
  | swap p q l => simp only [wsum]; omega
  | trans _ _ h1 h2 => rw [h1, h2]
def less1 (l : Mons) (k : Int) : Mons := l.filter fun p => decide (p.1 ≠ k)
theorem wsum_split (l : Mons) (k : Int) (v : Int → Int) : wsum l v = raw l k * v k + wsum (less1 l k) v := by
  induction l with
  | nil => simp [raw, wsum, less1]
  | cons p l ih =>
    unfold raw at *
    by_cases h : p.1 = k
    · have e : less1 (p :: l) k = less1 l k := by simp [less1, h]
      rw [e, wsum, ih, wsum, h, hit, if_pos rfl, Int.add_mul, Int.mul_one]
      omega
    · have e : less1 (p :: l) k = p :: less1 l k := by simp [less1, h]
      rw [e, wsum, ih, wsum, wsum, hit, if_neg h]
      simp only [Int.mul_zero, Int.zero_add]
      omega
theorem raw_less1 (l : Mons) (k j : Int) : raw (less1 l k) j = if j = k then 0 else raw l j := by
  induction l with
  | nil => simp [raw, wsum, less1]
  | cons p l ih =>
    unfold raw at *
    by_cases h : p.1 = k
    · have e : less1 (p :: l) k = less1 l k := by simp [less1, h]
      rw [e, ih]
      by_cases hj : j = k
      · rw [if_pos hj, if_pos hj]
      · rw [if_neg hj, if_neg hj, wsum, hit, if_neg (by rw [h]; exact fun e => hj e.symm)]; simp
    · have e : less1 (p :: l) k = p :: less1 l k := by simp [less1, h]
      rw [e, wsum, ih]
      by_cases hj : j = k
      · rw [if_pos hj, if_pos hj, hit, if_neg (by rw [hj]; exact h)]; simp
      · rw [if_neg hj, if_neg hj, wsum]
theorem less1_length (l : Mons) (k : Int) : (less1 l k).length ≤ l.length := List.length_filter_le _ _
theorem wsum_none : ∀ (n : Nat) (l : Mons), l.length ≤ n → (∀ k, W64 ∣ raw l k) → ∀ v, W64 ∣ wsum l v := by
  intro n
  induction n with
  | zero =>
    intro l hl _ v
    have : l = [] := List.length_eq_zero_iff.1 (by omega)
    subst this
    exact Int.dvd_zero _
  | succ n ih =>
    intro l hl h v
    cases l with
    | nil => exact Int.dvd_zero _
    | cons p l =>
      rw [wsum_split (p :: l) p.1 v]
      refine Int.dvd_add (Int.dvd_mul_of_dvd_left (h p.1)) (ih _ ?_ ?_ v)
      · have e : less1 (p :: l) p.1 = less1 l p.1 := by simp [less1]
        rw [e]
        have := less1_length l p.1
        simp only [List.length_cons] at hl
        omega
      · intro k
        rw [raw_less1]
        split
        · exact Int.dvd_zero _
        · exact h k
def negs (l : Mons) : Mons := l.map fun p => (p.1, -p.2)
theorem wsum_negs (l : Mons) (v : Int → Int) : wsum (negs l) v = -wsum l v := by
  induction l with
  | nil => rfl
  | cons p l ih =>
    have e : negs (p :: l) = (p.1, -p.2) :: negs l := rfl
    rw [e]
    show -p.2 * v p.1 + wsum (negs l) v = -(p.2 * v p.1 + wsum l v)
    rw [ih, Int.neg_mul]
    omega
/-- two lists of one polynomial -/
def Eqv (l m : Mons) : Prop := ∀ k, coef l k = coef m k
theorem Eqv.refl (l : Mons) : Eqv l l := fun _ => rfl
theorem Eqv.symm {l m : Mons} (h : Eqv l m) : Eqv m l := fun k => (h k).symm
theorem Eqv.trans {l m n : Mons} (h : Eqv l m) (h' : Eqv m n) : Eqv l n := fun k => (h k).trans (h' k)
theorem Eqv.of_perm {l m : Mons} (h : l.Perm m) : Eqv l m := fun k => by unfold coef raw; rw [wsum_perm h]
theorem Eqv.wsum {l m : Mons} (h : Eqv l m) (v : Int → Int) : W64 ∣ wsum l v - wsum m v := by
  have h1 : ∀ k, W64 ∣ raw (l ++ negs m) k := by
    intro k
    have := wrap_eq.1 (h k)
    unfold raw at *
    rw [wsum_append, wsum_negs]
    simpa [Int.sub_eq_add_neg] using this
  have h2 := wsum_none _ (l ++ negs m) (Nat.le_refl _) h1 v
  rw [wsum_append, wsum_negs] at h2
  simpa [Int.sub_eq_add_neg] using h2
theorem Eqv.of_wsum {l m : Mons} (h : ∀ v, W64 ∣ Go.Proofs.Ytiiiiolifpaehaa.wsum l v - Go.Proofs.Ytiiiiolifpaehaa.wsum m v) : Eqv l m := fun _k => wrap_eq.2 (h _)
theorem Eqv.append {l m l' m' : Mons} (h : Eqv l m) (h' : Eqv l' m') : Eqv (l ++ l') (m ++ m') := Eqv.of_wsum fun v => by
  rw [wsum_append, wsum_append]
  have h1 := h.wsum v
  have h2 := h'.wsum v
  have := Int.dvd_add h1 h2
  have e : ∀ a b c d : Int, a - b + (c - d) = a + c - (b + d) := by intros; omega
  rwa [e] at this
/-- what an operator makes of one monomial hangs on its coefficient as a factor -/
def Lin (f : Int × Int → Mons) : Prop := ∃ A : Int → (Int → Int) → Int, ∀ k c v, wsum (f (k, c)) v = c * A k v
theorem Lin.flat {f : Int × Int → Mons} (h : Lin f) : ∃ A : Int → (Int → Int) → Int, ∀ l v, wsum (l.flatMap f) v = wsum l (fun k => A k v) := by
  obtain ⟨A, hA⟩ := h
  refine ⟨A, fun l v => ?_⟩
  induction l with
  | nil => rfl
  | cons p l ih =>
    rw [List.flatMap_cons, wsum_append, ih, wsum, ← hA p.1 p.2 v]
theorem Eqv.flatMap {f : Int × Int → Mons} (hf : Lin f) {l m : Mons} (h : Eqv l m) : Eqv (l.flatMap f) (m.flatMap f) := by
  obtain ⟨A, hA⟩ := hf.flat
  exact Eqv.of_wsum fun v => by rw [hA, hA]; exact h.wsum _
theorem Lin.one {g : Int → Int} (c : Int) : Lin (fun p => [(g p.1, c * p.2)]) :=
  ⟨fun k v => c * v (g k), fun k d v => by simp only [Go.Proofs.Ytiiiiolifpaehaa.wsum, Int.add_zero]; rw [Int.mul_comm c d, Int.mul_assoc]⟩
theorem flat_one (g : Int → Int) (c : Int) (l : Mons) : l.flatMap (fun p => [(g p.1, c * p.2)]) = l.map fun p => (g p.1, c * p.2) := by
  induction l with
  | nil => rfl
  | cons p l ih => rw [List.flatMap_cons, ih]; rfl

/-! the one ordered form -/
def uniq : List Int → List Int
  | [] => []
  | a :: l => a :: (uniq l).filter fun b => decide (b ≠ a)
theorem mem_uniq {l : List Int} {x : Int} : x ∈ uniq l ↔ x ∈ l := by
  induction l with
  | nil => rfl
  | cons a l ih =>
    rw [uniq, List.mem_cons, List.mem_cons, List.mem_filter, ih]
    simp only [decide_eq_true_eq]
    by_cases h : x = a
    · simp [h]
    · simp [h]
theorem uniq_nodup (l : List Int) : (uniq l).Nodup := by
  induction l with
  | nil => exact List.Pairwise.nil
  | cons a l ih =>
    rw [uniq, List.nodup_cons]
    refine ⟨?_, List.Pairwise.filter _ ih⟩
    rw [List.mem_filter]
    simp
def keysOf (l : Mons) : List Int := ((uniq (l.map fun p => p.1)).filter fun k => decide (coef l k ≠ 0)).mergeSort fun a b => decide (b ≤ a)
def canon (l : Mons) : Mons := (keysOf l).map fun k => (k, coef l k)
theorem raw_miss {l : Mons} {k : Int} (h : ∀ p ∈ l, p.1 ≠ k) : raw l k = 0 := by
  induction l with
  | nil => rfl
  | cons p l ih =>
    unfold raw at *
    rw [Go.Proofs.Ytiiiiolifpaehaa.wsum, ih fun q hq => h q (List.mem_cons_of_mem _ hq), hit, if_neg (h p List.mem_cons_self)]
    simp
theorem coef_miss {l : Mons} {k : Int} (h : ∀ p ∈ l, p.1 ≠ k) : coef l k = 0 := by rw [coef, raw_miss h, wrap_zero]
theorem mem_keysOf {l : Mons} {k : Int} : k ∈ keysOf l ↔ coef l k ≠ 0 := by
  unfold keysOf
  rw [(List.mergeSort_perm _ _).mem_iff, List.mem_filter, mem_uniq]
  simp only [decide_eq_true_eq]
  constructor
  · exact fun h => h.2
  · intro h
    refine ⟨?_, h⟩
    rcases Decidable.em (k ∈ l.map fun p => p.1) with h1 | h1
    · exact h1
    · exact absurd (coef_miss fun p hp e => h1 (List.mem_map.2 ⟨p, hp, e⟩)) h
theorem keysOf_nodup (l : Mons) : (keysOf l).Nodup := by
  unfold keysOf
  rw [(List.mergeSort_perm _ _).nodup_iff]
  exact List.Pairwise.filter _ (uniq_nodup _)
theorem keysOf_sorted (l : Mons) : (keysOf l).Pairwise fun a b => b < a := by
  have h1 : (keysOf l).Pairwise fun a b => decide (b ≤ a) = true := by
    unfold keysOf
    exact List.pairwise_mergeSort (fun a b c h1 h2 => by simp at *; omega) (fun a b => by simp; omega) _
  have h2 := keysOf_nodup l
  exact (h1.and h2).imp fun h => by
    obtain ⟨h3, h4⟩ := h
    simp at h3
    omega
theorem sorted_ext {a b : List Int} (ha : a.Pairwise fun x y => y < x) (hb : b.Pairwise fun x y => y < x) (h : ∀ x, x ∈ a ↔ x ∈ b) : a = b := by
  have na : a.Nodup := ha.imp fun h => by omega
  have nb : b.Nodup := hb.imp fun h => by omega
  refine List.Perm.eq_of_pairwise (le := fun x y => y < x) (fun x y _ _ h1 h2 => by omega) ha hb ?_
  exact (List.perm_ext_iff_of_nodup na nb).2 h
theorem canon_eqv {l m : Mons} (h : Eqv l m) : canon l = canon m := by
  have hk : keysOf l = keysOf m := sorted_ext (keysOf_sorted l) (keysOf_sorted m) fun x => by rw [mem_keysOf, mem_keysOf, h x]
  unfold canon
  rw [hk]
  exact List.map_congr_left fun k _ => by rw [h k]
theorem raw_map {ks : List Int} {f : Int → Int} (hn : ks.Nodup) (k : Int) : raw (ks.map fun j => (j, f j)) k = if k ∈ ks then f k else 0 := by
  induction ks with
  | nil => rfl
  | cons a ks ih =>
    rw [List.nodup_cons] at hn
    unfold raw at *
    rw [List.map_cons, Go.Proofs.Ytiiiiolifpaehaa.wsum, ih hn.2, hit]
    by_cases h : a = k
    · subst h
      rw [if_pos rfl, if_neg hn.1, if_pos List.mem_cons_self]
      simp
    · rw [if_neg h]
      have : (k ∈ a :: ks) ↔ k ∈ ks := by simp [Ne.symm h]
      simp only [this, Int.mul_zero, Int.zero_add]
theorem coef_range (l : Mons) (k : Int) : wrap64 (coef l k) = coef l k := wrap_self (wrap_range _)
theorem coef_canon (l : Mons) (k : Int) : coef (canon l) k = coef l k := by
  unfold canon
  rw [coef, raw_map (keysOf_nodup l)]
  split
  · exact coef_range l k
  · rename_i h
    rw [mem_keysOf] at h
    rw [Decidable.not_not.1 h, wrap_zero]
theorem canon_self (l : Mons) : Eqv (canon l) l := coef_canon l
theorem canon_sorted (l : Mons) : (canon l).Pairwise fun p q => q.1 < p.1 := by
  unfold canon
  rw [List.pairwise_map]
  exact keysOf_sorted l
theorem canon_mem {l : Mons} {p : Int × Int} : p ∈ canon l ↔ p.2 ≠ 0 ∧ p.2 = coef l p.1 := by
  unfold canon
  rw [List.mem_map]
  constructor
  · rintro ⟨k, hk, rfl⟩
    exact ⟨mem_keysOf.1 hk, rfl⟩
  · rintro ⟨h1, h2⟩
    exact ⟨p.1, mem_keysOf.2 (by rw [← h2]; exact h1), by rw [← h2]⟩
/-- there is one such list -/
theorem canon_unique {l m : Mons} (hs : m.Pairwise fun p q => q.1 < p.1) (hz : ∀ p ∈ m, p.2 ≠ 0 ∧ -9223372036854775808 ≤ p.2 ∧ p.2 ≤ 9223372036854775807) (h : Eqv m l) : m = canon l := by
  have hn : (m.map fun p => p.1).Nodup := by
    rw [List.Nodup, List.pairwise_map]
    exact hs.imp fun h => by omega
  have hc : ∀ p ∈ m, coef m p.1 = p.2 := by
    intro p hp
    clear h hs
    induction m with
    | nil => cases hp
    | cons q m ih =>
      rw [List.map_cons, List.nodup_cons] at hn
      unfold coef raw
      rw [Go.Proofs.Ytiiiiolifpaehaa.wsum, hit]
      rcases List.mem_cons.1 hp with rfl | hp'
      · rw [if_pos rfl]
        have : Go.Proofs.Ytiiiiolifpaehaa.wsum m (hit p.1) = 0 := raw_miss fun q hq e => hn.1 (List.mem_map.2 ⟨q, hq, e⟩)
        rw [this, Int.mul_one, Int.add_zero]
        exact wrap_self (hz p List.mem_cons_self).2
      · rw [if_neg (fun e => hn.1 (List.mem_map.2 ⟨p, hp', e.symm⟩))]
        have := ih (fun q hq => hz q (List.mem_cons_of_mem _ hq)) hn.2 hp'
        unfold coef raw at this
        simpa using this
  have hk : m.map (fun p => p.1) = keysOf l := by
    refine sorted_ext (by rw [List.pairwise_map]; exact hs) (keysOf_sorted l) fun x => ?_
    rw [mem_keysOf, ← h x]
    constructor
    · intro hx
      obtain ⟨p, hp, rfl⟩ := List.mem_map.1 hx
      rw [hc p hp]
      exact (hz p hp).1
    · intro hx
      rcases Decidable.em (x ∈ m.map fun p => p.1) with h1 | h1
      · exact h1
      · exact absurd (coef_miss fun p hp e => h1 (List.mem_map.2 ⟨p, hp, e⟩)) hx
  unfold canon
  rw [← hk, List.map_map]
  have : ∀ p ∈ m, ((fun k => (k, coef l k)) ∘ fun p => p.1) p = p := by
    intro p hp
    simp only [Function.comp]
    rw [← h p.1, hc p hp]
  conv => lhs; rw [← List.map_id m]
  exact (List.map_congr_left fun p hp => by rw [this p hp]; rfl)
end Go.Proofs.Ytiiiiolifpaehaa
