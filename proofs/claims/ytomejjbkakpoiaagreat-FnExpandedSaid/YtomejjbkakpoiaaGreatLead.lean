/-
  The greatest exponent of a Schubert polynomial is the code of its permutation, once: plain.
-/
import Derived.Test.YtomejjbkakpoiaaGreatBuE11
namespace Go.Proofs.YtomejjbkakpoiaaGreat
open Go.RowKit

/-- the code -/
def cod : List Int → List Nat
  | [] => []
  | a :: r => (r.filter fun x => decide (x < a)).length :: cod r
theorem cod_length (w : List Int) : (cod w).length = w.length := by
  induction w with
  | nil => rfl
  | cons a r ih => rw [cod, List.length_cons, List.length_cons, ih]
theorem filter_le_of {r : List Int} {x y : Int} (h : x < y) : (r.filter fun z => decide (z < x)).length ≤ (r.filter fun z => decide (z < y)).length := by
  induction r with
  | nil => exact Nat.le_refl _
  | cons a r ih =>
    rw [List.filter_cons, List.filter_cons]
    by_cases h1 : a < x
    · have h2 : a < y := by omega
      simp [h1, h2]; exact ih
    · by_cases h2 : a < y
      · simp [h1, h2]; omega
      · simp [h1, h2]; exact ih
theorem cod_sw {w : List Int} : ∀ {k : Nat} {x y : Int}, w[k]? = some x → w[k + 1]? = some y → x < y → ∃ p q, (cod w)[k]? = some p ∧ (cod w)[k + 1]? = some q ∧ p ≤ q ∧ cod (sw w k) = ((cod w).set k (q + 1)).set (k + 1) p := by
  induction w with
  | nil => intro k x y h; simp at h
  | cons a r ih =>
    intro k x y hx hy hxy
    cases k with
    | zero =>
      cases r with
      | nil => simp at hy
      | cons b r =>
        obtain rfl : a = x := by simpa using hx
        obtain rfl : b = y := by simpa using hy
        have hba : ¬ b < a := by omega
        refine ⟨_, _, rfl, rfl, ?_, ?_⟩
        · rw [List.filter_cons]; simp only [hba, decide_false, Bool.false_eq_true, if_false]; exact filter_le_of hxy
        · show cod (b :: a :: r) = _
          simp only [cod, List.filter_cons, hba, hxy, decide_false, decide_true, Bool.false_eq_true, if_false, if_true, List.length_cons, List.set_cons_zero, List.set_cons_succ]
    | succ k =>
      obtain ⟨p, q, h1, h2, h3, h4⟩ := ih (k := k) (by simpa using hx) (by simpa using hy) hxy
      refine ⟨p, q, by simpa [cod] using h1, by simpa [cod] using h2, h3, ?_⟩
      have hp := ((sw_perm r k).filter fun z => decide (z < a)).length_eq
      rw [sw, cod, hp, h4, cod]
      rfl
theorem sw_get {w : List Int} : ∀ {k : Nat}, k + 1 < w.length → ∀ j, (sw w k)[j]? = w[if j = k then k + 1 else if j = k + 1 then k else j]? := by
  induction w with
  | nil => intro k h; simp at h
  | cons a r ih =>
    intro k h j
    cases k with
    | zero =>
      cases r with
      | nil => simp at h
      | cons b r =>
        show (b :: a :: r)[j]? = _
        rcases j with _ | _ | j <;> simp
    | succ k =>
      rw [sw]
      cases j with
      | zero => simp
      | succ j =>
        have := ih (k := k) (by simpa using h) j
        rw [List.getElem?_cons_succ, this]
        by_cases e : j = k
        · subst e; simp
        · by_cases e' : j = k + 1
          · subst e'; simp
          · simp [e, e']
/-- without place i the list falls on 0 .. j, and what stands at i is above all behind it up to j -/
def DD (w : List Int) (i j : Nat) : Prop :=
  (∀ (s t : Nat) (x y : Int), s < t → t ≤ j → s ≠ i → t ≠ i → w[s]? = some x → w[t]? = some y → y < x) ∧ (∀ (s : Nat) (x y : Int), i < s → s ≤ j → w[i]? = some x → w[s]? = some y → y < x)
theorem falls {w : List Int} (hn : w.Nodup) {k : Nat} (hf : ∀ (j : Nat) (u v : Int), j < k → w[j]? = some u → w[j + 1]? = some v → ¬ u < v) :
    ∀ (d s : Nat) (x y : Int), s + d + 1 ≤ k → w[s]? = some x → w[s + d + 1]? = some y → y < x := by
  have hne : ∀ (s : Nat) (x y : Int), w[s]? = some x → w[s + 1]? = some y → x ≠ y := by
    intro s x y hx hy e
    subst e
    obtain ⟨h1, h2⟩ := List.getElem?_eq_some_iff.1 hx
    obtain ⟨h3, h4⟩ := List.getElem?_eq_some_iff.1 hy
    exact List.pairwise_iff_getElem.1 hn s (s + 1) h1 h3 (by omega) (by rw [h2, h4])
  intro d
  induction d with
  | zero =>
    intro s x y hk hx hy
    have h1 := hf s x y (by omega) hx hy
    have h2 := hne s x y hx hy
    omega
  | succ d ih =>
    intro s x y hk hx hy
    have hl := (List.getElem?_eq_some_iff.1 hy).1
    obtain ⟨z, hz⟩ : ∃ z, w[s + d + 1]? = some z := ⟨w[s + d + 1]'(by omega), List.getElem?_eq_getElem _⟩
    have h1 := ih s x z (by omega) hx hz
    have hy' : w[s + d + 1 + 1]? = some y := by rw [← hy]; rfl
    have h2 := hf (s + d + 1) z y (by omega) hz hy'
    have h3 := hne (s + d + 1) z y hz hy'
    omega
theorem DD.start {w : List Int} {k : Nat} (hn : w.Nodup) (ha : asc w = some k) : DD (sw w k) k (k + 1) := by
  obtain ⟨x0, y0, hx0, hy0, hxy, hf⟩ := asc_some ha
  have hl := (List.getElem?_eq_some_iff.1 hy0).1
  have hfall := falls hn hf
  refine ⟨fun s t x y hst htj hsi hti hx hy => ?_, fun s x y his hsj hx hy => ?_⟩
  · rw [sw_get hl] at hx hy
    have hs : s < k := by omega
    have es : ¬ s = k + 1 := by omega
    simp only [hsi, es, if_false] at hx
    simp only [hti, if_false] at hy
    by_cases e : t = k + 1
    · simp only [e, if_true] at hy
      have := hfall (k - s - 1) s x y (by omega) hx (by rw [show s + (k - s - 1) + 1 = k by omega]; exact hy)
      exact this
    · simp only [e, if_false] at hy
      exact hfall (t - s - 1) s x y (by omega) hx (by rw [show s + (t - s - 1) + 1 = t by omega]; exact hy)
  · obtain rfl : s = k + 1 := by omega
    rw [sw_get hl] at hx hy
    simp only [if_true] at hx
    have e : ¬ k + 1 = k := by omega
    simp only [e, if_false, if_true] at hy
    rw [hx0] at hy
    rw [hy0] at hx
    obtain rfl := Option.some.inj hx
    obtain rfl := Option.some.inj hy
    exact hxy
theorem DD.step {w : List Int} {k i j : Nat} (ha : asc w = some k) (h : DD w i j) (hj : k + 1 ≤ j) : i = k + 1 ∧ DD (sw w k) k j := by
  obtain ⟨x0, y0, hx0, hy0, hxy, hf⟩ := asc_some ha
  have hl := (List.getElem?_eq_some_iff.1 hy0).1
  have hi : i = k + 1 := by
    by_cases e1 : i = k + 1
    · exact e1
    · by_cases e2 : i = k
      · have := h.2 (k + 1) x0 y0 (by omega) hj (by rw [e2]; exact hx0) hy0
        omega
      · have := h.1 k (k + 1) x0 y0 (by omega) hj (by omega) (by omega) hx0 hy0
        omega
  subst hi
  refine ⟨rfl, fun s t x y hst htj hsi hti hx hy => ?_, fun s x y his hsj hx hy => ?_⟩
  · rw [sw_get hl] at hx hy
    simp only [hsi, if_false] at hx
    simp only [hti, if_false] at hy
    by_cases e1 : s = k + 1
    · simp only [e1, if_true] at hx
      have e2 : ¬ t = k + 1 := by omega
      simp only [e2, if_false] at hy
      exact h.1 k t x y (by omega) htj (by omega) e2 hx hy
    · simp only [e1, if_false] at hx
      by_cases e2 : t = k + 1
      · simp only [e2, if_true] at hy
        exact h.1 s k x y (by omega) (by omega) (by omega) (by omega) hx hy
      · simp only [e2, if_false] at hy
        exact h.1 s t x y hst htj e1 e2 hx hy
  · rw [sw_get hl] at hx hy
    simp only [if_true] at hx
    have e1 : ¬ s = k := by omega
    simp only [e1, if_false] at hy
    rw [hy0] at hx
    obtain rfl := Option.some.inj hx
    by_cases e2 : s = k + 1
    · simp only [e2, if_true] at hy
      rw [hx0] at hy
      obtain rfl := Option.some.inj hy
      exact hxy
    · simp only [e2, if_false] at hy
      exact h.2 s y0 y (by omega) hsj hy0 hy

/-! keys -/
def natL (l : List Nat) : List Int := l.map fun k : Nat => (k : Int)
theorem cod_le (w : List Int) : ∀ (j p : Nat), (cod w)[j]? = some p → p + j < w.length := by
  induction w with
  | nil => intro j p h; simp [cod] at h
  | cons a r ih =>
    intro j p h
    cases j with
    | zero =>
      simp only [cod, List.getElem?_cons_zero, Option.some.injEq] at h
      subst h
      have := List.length_filter_le (fun x => decide (x < a)) r
      simp only [List.length_cons]
      omega
    | succ j =>
      have := ih j p (by simpa [cod] using h)
      simp only [List.length_cons]
      omega
theorem keyL_get {s : List Int} : ∀ {j : Nat}, s.length ≤ 7 → Digs s → j < 7 → dig (keyL s) j = s.getD j 0 := by
  intro j hl hd hj
  obtain ⟨t, ht⟩ : ∃ t, t = s ++ List.replicate (7 - s.length) 0 := ⟨_, rfl⟩
  have htl : t.length = 7 := by rw [ht]; simp; omega
  have htd : Digs t := by
    intro x hx
    rw [ht] at hx
    rcases List.mem_append.1 hx with hx | hx
    · exact hd x hx
    · rw [List.eq_of_mem_replicate hx]; unfold isD; omega
  have hz : ∀ n, keyL (List.replicate n 0) = 0 := by
    intro n
    induction n with
    | zero => rfl
    | succ n ih => rw [List.replicate_succ, keyL, ih]; rfl
  have hk : keyL t = keyL s := by
    rw [ht]
    have : ∀ l : List Int, ∀ n, keyL (l ++ List.replicate n 0) = keyL l := by
      intro l n
      induction l with
      | nil => exact hz n
      | cons a l ih => rw [List.cons_append, keyL, keyL, ih]
    exact this s _
  have h1 := dig_keyL htl htd hj
  rw [hk] at h1
  have h2 : t.getD j 0 = dig (keyL s) j := by rw [List.getD_eq_getElem?_getD, h1]; rfl
  rw [← h2, ht, List.getD_eq_getElem?_getD, List.getD_eq_getElem?_getD]
  rcases Nat.lt_or_ge j s.length with h | h
  · rw [List.getElem?_append_left h]
  · rw [List.getElem?_append_right h, List.getElem?_eq_none h, List.getElem?_replicate]
    split <;> rfl
/-- the code as a key -/
def cK (w : List Int) : Int := keyL (natL (cod w))
theorem natL_digs {w : List Int} (h : w.length ≤ 7) : Digs (natL (cod w)) := by
  intro x hx
  obtain ⟨p, hp, rfl⟩ := List.mem_map.1 hx
  obtain ⟨j, hj⟩ := List.getElem?_of_mem hp
  have := cod_le w j p hj
  unfold isD
  omega
def cg (w : List Int) (j : Nat) : Nat := (cod w).getD j 0
theorem cK_in {w : List Int} (h : w.length ≤ 7) : inK (cK w) := keyL_small (natL_digs h) (by simp [natL, cod_length]; exact h)
theorem cK_dig {w : List Int} (h : w.length ≤ 7) {j : Nat} (hj : j < 7) : dig (cK w) j = (cg w j : Int) := by
  unfold cK
  rw [keyL_get (by simp [natL, cod_length]; exact h) (natL_digs h) hj]
  unfold cg natL
  rw [List.getD_eq_getElem?_getD, List.getD_eq_getElem?_getD, List.getElem?_map]
  cases (cod w)[j]? <;> rfl
def Lower (w : List Int) (i j : Nat) (m : Int) : Prop := inK m ∧ ∃ t, (t = i ∨ j < t) ∧ t < 7 ∧ dig m t < (cg w t : Int) ∧ ∀ s, t < s → s < 7 → dig m s = (cg w s : Int)
theorem cg_sw {w : List Int} {k : Nat} (ha : asc w = some k) : cg w k ≤ cg w (k + 1) ∧ cg (sw w k) k = cg w (k + 1) + 1 ∧ cg (sw w k) (k + 1) = cg w k ∧ ∀ j, j ≠ k → j ≠ k + 1 → cg (sw w k) j = cg w j := by
  obtain ⟨x, y, hx, hy, hxy, _⟩ := asc_some ha
  obtain ⟨p, q, hp, hq, hpq, e⟩ := cod_sw hx hy hxy
  have hl := (List.getElem?_eq_some_iff.1 hq).1
  have e1 : cg w k = p := by unfold cg; rw [List.getD_eq_getElem?_getD, hp]; rfl
  have e2 : cg w (k + 1) = q := by unfold cg; rw [List.getD_eq_getElem?_getD, hq]; rfl
  rw [e1, e2]
  unfold cg
  rw [e]
  refine ⟨hpq, ?_, ?_, fun j h1 h2 => ?_⟩
  · rw [List.getD_eq_getElem?_getD, List.getElem?_set_ne (by omega), List.getElem?_set_self (by omega)]; rfl
  · rw [List.getD_eq_getElem?_getD, List.getElem?_set_self (by simp; omega)]; rfl
  · rw [List.getD_eq_getElem?_getD, List.getElem?_set_ne (by omega), List.getElem?_set_ne (by omega), List.getD_eq_getElem?_getD]
theorem Lower.step {w : List Int} {k j : Nat} (ha : asc w = some k) (h7 : w.length ≤ 7) {m : Int} (hj : k + 1 ≤ j) (h : Lower (sw w k) k j m) {q : Int} (hq : q ∈ ddKeys k m) : Lower w (k + 1) j q := by
  have hl := asc_lt ha
  obtain ⟨c1, c2, c3, c4⟩ := cg_sw ha
  obtain ⟨hm, t, ht, ht7, hlt, hs⟩ := h
  obtain ⟨d1, d2, d3, d4⟩ := dd_key hm (i := k) (by omega) hq
  rcases ht with rfl | ht
  · refine ⟨d1, t + 1, .inl rfl, by omega, ?_, fun s h1 h2 => ?_⟩
    · have e := hs (t + 1) (by omega) (by omega)
      rw [c3] at e
      rw [c2] at hlt
      omega
    · rw [d4 s h2 (by omega) (by omega), hs s (by omega) h2, c4 s (by omega) (by omega)]
  · refine ⟨d1, t, .inr ht, ht7, ?_, fun s h1 h2 => ?_⟩
    · rw [d4 t ht7 (by omega) (by omega), ← c4 t (by omega) (by omega)]; exact hlt
    · rw [d4 s h2 (by omega) (by omega), hs s h1 h2, c4 s (by omega) (by omega)]
theorem dividedM_append (i : Nat) (F G : Mons) : dividedM i (F ++ G) = dividedM i F ++ dividedM i G := by unfold dividedM; rw [List.flatMap_append]
theorem lead_dd {w : List Int} {k j : Nat} (ha : asc w = some k) (h7 : w.length ≤ 7) (hj : k + 1 ≤ j) : ∃ pre, dd k (cK (sw w k), 1) = pre ++ [(cK w, 1)] ∧ ∀ p ∈ pre, Lower w (k + 1) j p.1 := by
  have hl := asc_lt ha
  obtain ⟨c1, c2, c3, c4⟩ := cg_sw ha
  have h7' : (sw w k).length ≤ 7 := by rw [sw_length]; exact h7
  have hK := cK_in h7'
  have e1 := cK_dig h7' (j := k) (by omega)
  have e2 := cK_dig h7' (j := k + 1) (by omega)
  rw [c2] at e1
  rw [c3] at e2
  generalize hp : cg w k = p at *
  generalize hqq : cg w (k + 1) = q at *
  obtain ⟨d, hd⟩ : ∃ d, q = p + d := ⟨q - p, by omega⟩
  have hmin : min (dig (cK (sw w k)) k) (dig (cK (sw w k)) (k + 1)) = (p : Int) := by rw [e1, e2]; omega
  have hab : (dig (cK (sw w k)) k - dig (cK (sw w k)) (k + 1)).natAbs = d + 1 := by rw [e1, e2]; omega
  have hsg : sg k (cK (sw w k)) = 1 := by unfold sg; rw [if_neg (by rw [e1, e2]; omega)]
  have hlast : put2 (cK (sw w k)) k (p : Int) (q : Int) = cK w := by
    have hq127 : (q : Int) + 1 < 128 := by have := (dig_range (cK (sw w k)) k).2; rw [e1] at this; omega
    obtain ⟨g1, g2, g3, g4⟩ := put2_digs hK (i := k) (by omega) (x := (p : Int)) (y := (q : Int)) (by unfold isD; omega) (by unfold isD; omega)
    refine key_ext g1 (cK_in h7) fun i hi => ?_
    rw [cK_dig h7 hi]
    by_cases ei : i = k
    · subst ei; rw [g2, hp]
    · by_cases ei' : i = k + 1
      · subst ei'; rw [g3, hqq]
      · rw [g4 i hi ei ei', cK_dig h7' hi, c4 i ei ei']
  unfold dd ddKeys
  rw [hmin, hab, hsg, List.range_succ, List.map_append, List.map_append]
  refine ⟨((List.range d).map fun j : Nat => put2 (cK (sw w k)) k ((p : Int) + ((d + 1 : Nat) : Int) - 1 - j) ((p : Int) + j)).map fun q => (q, 1 * 1), ?_, ?_⟩
  · congr 1
    · have x1 : (p : Int) + ((d + 1 : Nat) : Int) - 1 - (d : Int) = p := by omega
      have x2 : (p : Int) + (d : Int) = q := by omega
      simp only [List.map_cons, List.map_nil]
      rw [x1, x2, hlast]
      rfl
  · intro r hr
    obtain ⟨r', hr', rfl⟩ := List.mem_map.1 hr
    obtain ⟨t, ht, rfl⟩ := List.mem_map.1 hr'
    rw [List.mem_range] at ht
    have hq127 : (q : Int) + 1 < 128 := by have := (dig_range (cK (sw w k)) k).2; rw [e1] at this; omega
    obtain ⟨g1, g2, g3, g4⟩ := put2_digs hK (i := k) (by omega) (x := (p : Int) + ((d + 1 : Nat) : Int) - 1 - (t : Int)) (y := (p : Int) + (t : Int)) (by unfold isD; omega) (by unfold isD; omega)
    refine ⟨g1, k + 1, .inl rfl, by omega, ?_, fun s h1 h2 => ?_⟩
    · rw [hqq]; show dig (put2 _ _ _ _) (k + 1) < _; rw [g3]; omega
    · show dig (put2 _ _ _ _) s = _
      rw [g4 s h2 (by omega) (by omega), cK_dig h7' h2, c4 s (by omega) (by omega)]
def Leads (F : Mons) (k : Int) (P : Int → Prop) : Prop := ∃ pre suf, F = pre ++ (k, 1) :: suf ∧ (∀ p ∈ pre, P p.1) ∧ ∀ p ∈ suf, P p.1
theorem lead_step {w : List Int} {k j : Nat} {F : Mons} (ha : asc w = some k) (h7 : w.length ≤ 7) (hj : k + 1 ≤ j) (h : Leads F (cK (sw w k)) (Lower (sw w k) k j)) : Leads (dividedM k F) (cK w) (Lower w (k + 1) j) := by
  obtain ⟨pre, suf, rfl, h1, h2⟩ := h
  obtain ⟨mid, e, h3⟩ := lead_dd ha h7 hj
  refine ⟨dividedM k pre ++ mid, dividedM k suf, ?_, fun p hp => ?_, fun p hp => ?_⟩
  · rw [dividedM_append]
    show dividedM k pre ++ (dd k (cK (sw w k), 1) ++ dividedM k suf) = _
    rw [e]
    simp
  · rcases List.mem_append.1 hp with hp | hp
    · obtain ⟨r, hr, hp⟩ := List.mem_flatMap.1 hp
      obtain ⟨q, hq, rfl⟩ := List.mem_map.1 hp
      exact (h1 r hr).step ha h7 hj hq
    · exact h3 p hp
  · obtain ⟨r, hr, hp⟩ := List.mem_flatMap.1 hp
    obtain ⟨q, hq, rfl⟩ := List.mem_map.1 hp
    exact (h2 r hr).step ha h7 hj hq
theorem Leads.weak {F : Mons} {k : Int} {P Q : Int → Prop} (h : Leads F k P) (hPQ : ∀ m, P m → Q m) : Leads F k Q := by
  obtain ⟨pre, suf, e, h1, h2⟩ := h
  exact ⟨pre, suf, e, fun p hp => hPQ _ (h1 p hp), fun p hp => hPQ _ (h2 p hp)⟩
/-- the code of a list that falls -/
def stairL : Nat → List Nat
  | 0 => []
  | n + 1 => n :: stairL n
theorem cod_falls {w : List Int} (h : w.Pairwise fun x y => y < x) : cod w = stairL w.length := by
  induction h with
  | nil => rfl
  | cons h1 _ ih =>
    rename_i a l
    rw [cod, List.length_cons, stairL, ih]
    congr 1
    rw [List.filter_eq_self.2]
    intro x hx
    simpa using h1 x hx
theorem stairL_key : ∀ n, n < 8 → keyL (natL (stairL n)) = partK n n := by decide
theorem lead_all (N : Nat) : ∀ w : List Int, nin w ≤ N → w.Nodup → w.length ≤ 7 → ∀ i j, DD w i j → Leads ((ups w).foldr dividedM [(partK w.length w.length, 1)]) (cK w) (Lower w i j) := by
  have base : ∀ w : List Int, asc w = none → w.Nodup → w.length ≤ 7 → ∀ i j, Leads ((ups w).foldr dividedM [(partK w.length w.length, 1)]) (cK w) (Lower w i j) := by
    intro w ha hn h7 i j
    rw [(ups_none ha).1]
    have hp : w.Pairwise fun x y => y < x := by
      rw [List.pairwise_iff_getElem]
      intro s t hs ht hst
      exact falls hn (k := w.length) (fun j u v _ hu hv => asc_none ha j u v hu hv) (t - s - 1) s _ _ (by omega) (List.getElem?_eq_getElem hs) (by rw [show s + (t - s - 1) + 1 = t by omega]; exact List.getElem?_eq_getElem ht)
    have : cK w = partK w.length w.length := by unfold cK; rw [cod_falls hp, stairL_key _ (by omega)]
    rw [this]
    exact ⟨[], [], rfl, by simp, by simp⟩
  induction N with
  | zero =>
    intro w hN hn h7 i j hD
    cases ha : asc w with
    | none => exact base w ha hn h7 i j
    | some k => have := nin_sw ha; omega
  | succ N ih =>
    intro w hN hn h7 i j hD
    cases ha : asc w with
    | none => exact base w ha hn h7 i j
    | some k =>
      have h1 := nin_sw ha
      have hn' : (sw w k).Nodup := (sw_perm w k).nodup_iff.2 hn
      have h7' : (sw w k).length ≤ 7 := by rw [sw_length]; exact h7
      rw [(ups_some ha).1, List.foldr_cons]
      by_cases hj : k + 1 ≤ j
      · obtain ⟨hi, hD'⟩ := hD.step ha hj
        have := ih (sw w k) (by omega) hn' h7' k j hD'
        rw [sw_length] at this
        rw [hi]
        exact lead_step ha h7 hj this
      · have := ih (sw w k) (by omega) hn' h7' k (k + 1) (DD.start hn ha)
        rw [sw_length] at this
        refine (lead_step ha h7 (Nat.le_refl _) this).weak fun m hm => ?_
        obtain ⟨m1, t, ht, m2⟩ := hm
        exact ⟨m1, t, .inr (by omega), m2⟩
theorem lower_lt {w : List Int} (h7 : w.length ≤ 7) {m : Int} (h : Lower w 0 0 m) : m < cK w := by
  obtain ⟨hm, t, _, ht, hlt, hs⟩ := h
  have hk := cK_in h7
  have e1 := digs_key hm
  have e2 := digs_key hk
  have hlt' : dig m t < dig (cK w) t := by rw [cK_dig h7 ht]; exact hlt
  have hs' : ∀ s, t < s → s < 7 → dig m s = dig (cK w) s := fun s h1 h2 => by rw [hs s h1 h2, cK_dig h7 h2]
  have r : ∀ i, 0 ≤ dig m i ∧ dig m i < 128 := dig_range m
  have r' : ∀ i, 0 ≤ dig (cK w) i ∧ dig (cK w) i < 128 := dig_range (cK w)
  have a0 := r 0; have a1 := r 1; have a2 := r 2; have a3 := r 3; have a4 := r 4; have a5 := r 5; have a6 := r 6
  have b0 := r' 0; have b1 := r' 1; have b2 := r' 2; have b3 := r' 3; have b4 := r' 4; have b5 := r' 5; have b6 := r' 6
  have s1 := hs' 1; have s2 := hs' 2; have s3 := hs' 3; have s4 := hs' 4; have s5 := hs' 5; have s6 := hs' 6
  clear hs hs' r r' hlt hm hk
  generalize cK w = c at *
  have hc : t = 0 ∨ t = 1 ∨ t = 2 ∨ t = 3 ∨ t = 4 ∨ t = 5 ∨ t = 6 := by omega
  rcases hc with rfl | rfl | rfl | rfl | rfl | rfl | rfl <;> simp at s1 s2 s3 s4 s5 s6 <;> omega
/-- the greatest key of a Schubert polynomial is the code, with coefficient 1 -/
theorem schub_leads {w : List Int} (hn : w.Nodup) (h7 : w.length ≤ 7) : Leads ((ups w).foldr dividedM [(partK w.length w.length, 1)]) (cK w) (fun m => m < cK w) :=
  (lead_all (nin w) w (Nat.le_refl _) hn h7 0 0 ⟨fun s t _ _ h1 h2 => by omega, fun s _ _ h1 h2 => by omega⟩).weak fun m hm => lower_lt h7 hm
theorem raw_append (l m : Mons) (k : Int) : raw (l ++ m) k = raw l k + raw m k := wsum_append l m _
theorem Leads.raw {F : Mons} {k : Int} (h : Leads F k fun m => m < k) : Go.Proofs.YtomejjbkakpoiaaGreat.raw F k = 1 := by
  obtain ⟨pre, suf, rfl, h1, h2⟩ := h
  rw [raw_append, raw_miss (l := pre) fun p hp e => by have := h1 p hp; omega]
  have : Go.Proofs.YtomejjbkakpoiaaGreat.raw ((k, 1) :: suf) k = 1 * 1 + Go.Proofs.YtomejjbkakpoiaaGreat.raw suf k := by unfold Go.Proofs.YtomejjbkakpoiaaGreat.raw; rw [wsum, hit, if_pos rfl]
  rw [this, raw_miss (l := suf) fun p hp e => by have := h2 p hp; omega]
  rfl
theorem Leads.le {F : Mons} {k : Int} (h : Leads F k fun m => m < k) : ∀ p ∈ F, p.1 ≤ k := by
  obtain ⟨pre, suf, rfl, h1, h2⟩ := h
  intro p hp
  rcases List.mem_append.1 hp with hp | hp
  · exact Int.le_of_lt (h1 p hp)
  · rcases List.mem_cons.1 hp with rfl | hp
    · exact Int.le_refl _
    · exact Int.le_of_lt (h2 p hp)
/-- what is left when the greatest term is taken away lies below it -/
theorem lead_taken {F G : Mons} {k c : Int} (hF : ∀ p ∈ F, p.1 ≤ k) (hc : coef F k = c) (h : Leads G k fun m => m < k) : ∀ p ∈ canon (plusM F (-c) G), p.1 < k := by
  intro p hp
  obtain ⟨h1, h2⟩ := canon_mem.1 hp
  obtain ⟨q, hq, e⟩ := mem_canon hp
  have hle : p.1 ≤ k := by
    rw [← e]
    rcases List.mem_append.1 hq with hq | hq
    · exact hF q hq
    · obtain ⟨r, hr, rfl⟩ := List.mem_map.1 hq
      exact h.le r hr
  rcases Int.lt_or_eq_of_le hle with h3 | h3
  · exact h3
  · exfalso
    apply h1
    rw [h2, h3]
    unfold coef plusM
    rw [raw_append]
    have e1 : raw (scaleM (-c) G) k = -c * raw G k := by
      unfold raw scaleM
      generalize hit k = v
      induction G with
      | nil => simp [wsum]
      | cons a G ih =>
        clear h hp h2 hq
        have : ∀ G : Mons, wsum (G.map fun p => (p.1, -c * p.2)) v = -c * wsum G v := by
          intro G
          induction G with
          | nil => simp [wsum]
          | cons a G ih => rw [List.map_cons, wsum, ih, wsum, Int.mul_add, Int.mul_assoc]
        exact this _
    rw [e1, h.raw, ← wrap_zero, wrap_eq]
    have := wrap_dvd (raw F k)
    unfold coef at hc
    rw [hc] at this
    simpa [Int.sub_eq_add_neg] using this
end Go.Proofs.YtomejjbkakpoiaaGreat
