/-
  Lists of monomials merged: runs, sums of runs, what is left of them.
-/
import Derived.Test.YtiiiiolifpaehaaPolyOps
namespace Go.Proofs.Ytiiiiolifpaehaa
open Go.RowKit

def descM (l : Mons) : Prop := l.Pairwise fun p q => q.1 ≤ p.1
/-- runs of s in descending order -/
def BS (s : Nat) (l : Mons) : Prop := ∀ (i j : Nat) (p q : Int × Int), l[i]? = some p → l[j]? = some q → i ≤ j → i / s = j / s → q.1 ≤ p.1
def seg (l : Mons) (a b : Nat) : Mons := (l.drop a).take (b - a)
theorem BS_one (l : Mons) : BS 1 l := fun i j p q hp hq hij h => by
  rw [Nat.div_one, Nat.div_one] at h
  subst h
  rw [hp] at hq
  obtain rfl := Option.some.inj hq
  exact Int.le_refl _
theorem BS_desc {s : Nat} {l : Mons} (h : BS s l) (hl : l.length ≤ s) : descM l := by
  unfold descM
  rw [List.pairwise_iff_getElem]
  intro i j hi hj hij
  refine h i j _ _ (List.getElem?_eq_getElem hi) (List.getElem?_eq_getElem hj) (by omega) ?_
  rw [Nat.div_eq_of_lt (by omega), Nat.div_eq_of_lt (by omega)]
theorem descM_at {l : Mons} (h : descM l) {i j : Nat} {p q : Int × Int} (hp : l[i]? = some p) (hq : l[j]? = some q) (hij : i ≤ j) : q.1 ≤ p.1 := by
  obtain ⟨hi, rfl⟩ := List.getElem?_eq_some_iff.1 hp
  obtain ⟨hj, rfl⟩ := List.getElem?_eq_some_iff.1 hq
  rcases Nat.lt_or_ge i j with h1 | h1
  · exact (List.pairwise_iff_getElem.1 h) i j hi hj h1
  · obtain rfl : i = j := by omega
    exact Int.le_refl _
theorem BS_append {t q : Nat} {ys zs : Mons} (ht : 0 < t) (h : BS t ys) (hy : ys.length = t * q) (_hz : zs.length ≤ t) (hd : descM zs) : BS t (ys ++ zs) := by
  intro i j p r hp hr hij he
  rcases Nat.lt_or_ge i ys.length with hi | hi
  · rw [List.getElem?_append_left hi] at hp
    rcases Nat.lt_or_ge j ys.length with hj | hj
    · rw [List.getElem?_append_left hj] at hr
      exact h i j p r hp hr hij he
    · have h1 : i / t < q := by rw [Nat.div_lt_iff_lt_mul ht]; rw [hy, Nat.mul_comm] at hi; exact hi
      have h2 : q ≤ j / t := by rw [Nat.le_div_iff_mul_le ht]; rw [hy, Nat.mul_comm] at hj; exact hj
      omega
  · rw [List.getElem?_append_right hi] at hp
    rw [List.getElem?_append_right (by omega)] at hr
    exact descM_at hd hp hr (by omega)
theorem seg_self (l : Mons) (a : Nat) : seg l a a = [] := by unfold seg; simp
theorem seg_succ {l : Mons} {a b : Nat} {x : Int × Int} (h : a ≤ b) (hx : l[b]? = some x) : seg l a (b + 1) = seg l a b ++ [x] := by
  unfold seg
  have e : b + 1 - a = (b - a) + 1 := by omega
  rw [e, List.take_add_one, List.getElem?_drop]
  have e2 : a + (b - a) = b := by omega
  rw [e2, hx]
  rfl
theorem seg_length {l : Mons} {a b : Nat} (h : b ≤ l.length) : (seg l a b).length = b - a := by
  unfold seg
  rw [List.length_take, List.length_drop]
  omega
theorem seg_join (l : Mons) {a b c : Nat} (h : a ≤ b) (h' : b ≤ c) : seg l a b ++ seg l b c = seg l a c := by
  unfold seg
  have e : (l.drop b).take (c - b) = ((l.drop a).drop (b - a)).take (c - b) := by rw [List.drop_drop]; congr 2; omega
  rw [e, ← List.take_add]
  congr 1
  omega
theorem seg_zero (l : Mons) (b : Nat) : seg l 0 b = l.take b := by unfold seg; simp
/-- a merge under way: from the runs a .. mid and mid .. e, up to i and j -/
structure Mg (l : Mons) (a mid e i j : Nat) (zs : Mons) : Prop where
  perm : zs.Perm (seg l a i ++ seg l mid j)
  desc : descM zs
  left : ∀ p ∈ zs, ∀ (k : Nat) (x : Int × Int), i ≤ k → k < mid → l[k]? = some x → x.1 ≤ p.1
  right : ∀ p ∈ zs, ∀ (k : Nat) (x : Int × Int), j ≤ k → k < e → l[k]? = some x → x.1 ≤ p.1
theorem Mg.start (l : Mons) (a mid e : Nat) : Mg l a mid e a mid [] := ⟨by rw [seg_self, seg_self]; exact List.Perm.refl _, List.Pairwise.nil, by simp, by simp⟩
theorem desc_snoc {zs : Mons} {x : Int × Int} (h : descM zs) (hx : ∀ p ∈ zs, x.1 ≤ p.1) : descM (zs ++ [x]) := by
  unfold descM
  rw [List.pairwise_append]
  exact ⟨h, List.pairwise_singleton .., fun p hp q hq => by rw [List.mem_singleton] at hq; subst hq; exact hx p hp⟩
theorem Mg.goLeft {l : Mons} {a mid e i j : Nat} {zs : Mons} (h : Mg l a mid e i j zs) {x : Int × Int} (hx : l[i]? = some x) (ha : a ≤ i) (hi : i < mid) (hs : ∀ (k : Nat) (y : Int × Int), i ≤ k → k < mid → l[k]? = some y → y.1 ≤ x.1)
    (hr : ∀ (k : Nat) (y : Int × Int), j ≤ k → k < e → l[k]? = some y → y.1 ≤ x.1) : Mg l a mid e (i + 1) j (zs ++ [x]) := by
  refine ⟨?_, desc_snoc h.desc fun p hp => h.left p hp i x (Nat.le_refl _) hi hx, ?_, ?_⟩
  · rw [seg_succ ha hx]
    refine (List.Perm.append_right [x] h.perm).trans ?_
    rw [List.append_assoc, List.append_assoc]
    exact List.Perm.append_left _ List.perm_append_comm
  · intro p hp k y hk hk2 hy
    rcases List.mem_append.1 hp with hp | hp
    · exact h.left p hp k y (by omega) hk2 hy
    · rw [List.mem_singleton] at hp
      subst hp
      exact hs k y (by omega) hk2 hy
  · intro p hp k y hk hk2 hy
    rcases List.mem_append.1 hp with hp | hp
    · exact h.right p hp k y hk hk2 hy
    · rw [List.mem_singleton] at hp
      subst hp
      exact hr k y hk hk2 hy
theorem Mg.goRight {l : Mons} {a mid e i j : Nat} {zs : Mons} (h : Mg l a mid e i j zs) {x : Int × Int} (hx : l[j]? = some x) (hm : mid ≤ j) (hj : j < e) (hs : ∀ (k : Nat) (y : Int × Int), i ≤ k → k < mid → l[k]? = some y → y.1 ≤ x.1)
    (hr : ∀ (k : Nat) (y : Int × Int), j ≤ k → k < e → l[k]? = some y → y.1 ≤ x.1) : Mg l a mid e i (j + 1) (zs ++ [x]) := by
  refine ⟨?_, desc_snoc h.desc fun p hp => h.right p hp j x (Nat.le_refl _) hj hx, ?_, ?_⟩
  · rw [seg_succ hm hx]
    refine (List.Perm.append_right [x] h.perm).trans ?_
    rw [List.append_assoc]
  · intro p hp k y hk hk2 hy
    rcases List.mem_append.1 hp with hp | hp
    · exact h.left p hp k y hk hk2 hy
    · rw [List.mem_singleton] at hp
      subst hp
      exact hs k y hk hk2 hy
  · intro p hp k y hk hk2 hy
    rcases List.mem_append.1 hp with hp | hp
    · exact h.right p hp k y (by omega) hk2 hy
    · rw [List.mem_singleton] at hp
      subst hp
      exact hr k y (by omega) hk2 hy
/-- in a run of s the first ones are the greatest -/
theorem BS_run {s q : Nat} {l : Mons} (h : BS s l) (_hs : 0 < s) {a e i k : Nat} {x y : Int × Int} (ha : a = s * q) (he : e ≤ a + s) (hai : a ≤ i) (hik : i ≤ k) (hke : k < e) (hx : l[i]? = some x) (hy : l[k]? = some y) : y.1 ≤ x.1 := by
  refine h i k x y hx hy hik ?_
  have e1 : i / s = q := Nat.div_eq_of_lt_le (by rw [Nat.mul_comm]; omega) (by rw [Nat.succ_mul, Nat.mul_comm]; omega)
  have e2 : k / s = q := Nat.div_eq_of_lt_le (by rw [Nat.mul_comm]; omega) (by rw [Nat.succ_mul, Nat.mul_comm]; omega)
  rw [e1, e2]

/-! sums of those that are alike -/
structure Sm (l : Mons) (k : Nat) (zs : Mons) : Prop where
  eqv : Eqv zs (l.take k)
  desc : zs.Pairwise fun p q => q.1 < p.1
  rest : ∀ p ∈ zs, ∀ (j : Nat) (x : Int × Int), k ≤ j → l[j]? = some x → x.1 ≤ p.1
  in64 : ∀ p ∈ zs, -9223372036854775808 ≤ p.2 ∧ p.2 ≤ 9223372036854775807
theorem Sm.start (l : Mons) : Sm l 0 [] := ⟨by rw [List.take_zero]; exact Eqv.refl _, List.Pairwise.nil, by simp, by simp⟩
theorem Sm.push {l : Mons} {k : Nat} {zs : Mons} (h : Sm l k zs) {x : Int × Int} (hx : l[k]? = some x) (hl : descM l) (hne : ∀ p ∈ zs, p.1 ≠ x.1) (h64 : -9223372036854775808 ≤ x.2 ∧ x.2 ≤ 9223372036854775807) : Sm l (k + 1) (zs ++ [x]) := by
  refine ⟨?_, ?_, ?_, ?_⟩
  · rw [List.take_add_one, hx]
    exact h.eqv.append (Eqv.refl _)
  · rw [List.pairwise_append]
    refine ⟨h.desc, List.pairwise_singleton .., fun p hp q hq => ?_⟩
    rw [List.mem_singleton] at hq
    subst hq
    have := h.rest p hp k q (Nat.le_refl _) hx
    have := hne p hp
    omega
  · intro p hp j y hj hy
    rcases List.mem_append.1 hp with hp | hp
    · exact h.rest p hp j y (by omega) hy
    · rw [List.mem_singleton] at hp
      subst hp
      exact descM_at hl hx hy (by omega)
  · intro p hp
    rcases List.mem_append.1 hp with hp | hp
    · exact h.in64 p hp
    · rw [List.mem_singleton] at hp
      subst hp
      exact h64
theorem Sm.add {l : Mons} {k : Nat} {zs : Mons} {r c d : Int} (h : Sm l k (zs ++ [(r, c)])) (hx : l[k]? = some (r, d)) (hl : descM l) : Sm l (k + 1) (zs ++ [(r, wrap64 (c + d))]) := by
  refine ⟨?_, ?_, ?_, ?_⟩
  · rw [List.take_add_one, hx]
    refine Eqv.trans ?_ (h.eqv.append (Eqv.refl _))
    rw [Option.toList, List.append_assoc]
    refine (Eqv.refl zs).append ?_
    intro j
    rw [List.cons_append, List.nil_append, coef_cons, coef_cons, coef_cons]
    split
    · unfold wrap64; omega
    · rfl
  · have := h.desc
    rw [List.pairwise_append] at this ⊢
    refine ⟨this.1, List.pairwise_singleton .., fun p hp q hq => ?_⟩
    rw [List.mem_singleton] at hq
    subst hq
    exact this.2.2 p hp (r, c) (List.mem_singleton.2 rfl)
  · intro p hp j y hj hy
    rcases List.mem_append.1 hp with hp | hp
    · exact h.rest p (List.mem_append_left _ hp) j y (by omega) hy
    · rw [List.mem_singleton] at hp
      subst hp
      have h9 := descM_at hl hx hy (show k ≤ j by omega)
      exact h9
  · intro p hp
    rcases List.mem_append.1 hp with hp | hp
    · exact h.in64 p (List.mem_append_left _ hp)
    · rw [List.mem_singleton] at hp
      subst hp
      exact wrap_range _
theorem sm_last {zs : Mons} (h : zs ≠ []) : ∃ ys r c, zs = ys ++ [(r, c)] := ⟨zs.dropLast, (zs.getLast h).1, (zs.getLast h).2, (List.dropLast_concat_getLast h).symm⟩
/-! those that are not 0 -/
def some0 (l : Mons) : Mons := l.filter fun p => decide (p.2 ≠ 0)
theorem some0_eqv (l : Mons) : Eqv (some0 l) l := by
  induction l with
  | nil => exact Eqv.refl _
  | cons p l ih =>
    unfold some0 at *
    by_cases h : p.2 = 0
    · rw [List.filter_cons_of_neg (by simp [h])]
      refine ih.trans fun j => ?_
      have e : p = (p.1, 0) := by rw [← h]
      rw [e, coef_cons]
      split
      · rw [Int.add_zero]; exact (coef_range l j).symm
      · rfl
    · rw [List.filter_cons_of_pos (by simp [h])]
      exact (Eqv.refl [p]).append ih
theorem gather_end {l xs zs : Mons} (h : Sm l l.length zs) (hp : l.Perm xs) : some0 zs = canon xs := by
  refine canon_unique ?_ ?_ ((some0_eqv zs).trans (h.eqv.trans ?_))
  · exact List.Pairwise.filter _ h.desc
  · intro p hp
    have := List.mem_filter.1 hp
    exact ⟨by simpa using this.2, h.in64 p this.1⟩
  · rw [List.take_length]
    exact Eqv.of_perm hp
end Go.Proofs.Ytiiiiolifpaehaa
