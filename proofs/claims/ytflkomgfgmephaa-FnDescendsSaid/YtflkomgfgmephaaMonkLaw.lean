/-
  The classes of a product by Monk's rule, in the order of their places; no two alike: plain.
-/
import Derived.Test.YtflkomgfgmephaaBuI5
import Derived.Test.YtflkomgfgmephaaBuI3
import Derived.Test.YtflkomgfgmephaaTrim
namespace Go.Proofs.Ytflkomgfgmephaa
open Go.RowKit

theorem cnt_app {xs : List Int} {y : Int} {i m : Nat} (h : i + m < xs.length) : cnt (xs ++ [y]) i m = cnt xs i m := by
  unfold cnt
  congr 1
  refine List.filter_congr fun t ht => ?_
  rw [List.mem_range] at ht
  have e : ∀ j, j < xs.length → (xs ++ [y]).getD j 0 = xs.getD j 0 := fun j hj => by
    rw [List.getD_eq_getElem?_getD, List.getElem?_append_left hj, List.getD_eq_getElem?_getD]
  rw [e _ (by omega), e _ (by omega)]
theorem code_app {xs : List Int} {y : Int} (h : ∀ x ∈ xs, x < y) : code (xs ++ [y]) = code xs ++ [0] := by
  unfold code
  rw [List.length_append, List.length_singleton, List.range_succ, List.map_append]
  congr 1
  · refine List.map_congr_left fun i hi => ?_
    rw [List.mem_range] at hi
    obtain ⟨x, hx⟩ : ∃ x, xs[i]? = some x := ⟨xs[i], List.getElem?_eq_getElem hi⟩
    have hx' : (xs ++ [y])[i]? = some x := by rw [List.getElem?_append_left hi]; exact hx
    have hy' : (xs ++ [y])[i + 1 + (xs.length - 1 - i)]? = some y := by
      rw [show i + 1 + (xs.length - 1 - i) = xs.length by omega, List.getElem?_append_right (Nat.le_refl _)]
      simp
    have := h x (List.mem_of_getElem? hx)
    rw [show xs.length + 1 - 1 - i = (xs.length - 1 - i) + 1 by omega, cnt_succ hx' hy', if_neg (by omega), cnt_app (by omega)]
  · simp [cnt]
theorem sum_code_app {xs : List Int} {y : Int} (h : ∀ x ∈ xs, x < y) : sumI (code (xs ++ [y])) = sumI (code xs) := by
  rw [code_app h, sumI_append, sumI_cons, sumI_nil]
  omega
/-- one place more -/
def grow1 (xs : List Int) : List Int := xs ++ [(xs.length : Int)]
theorem grow1_length (xs : List Int) : (grow1 xs).length = xs.length + 1 := by simp [grow1]
theorem grow1_perm {xs : List Int} (h : isPerm xs = true) (h6 : xs.length ≤ 6) : isPerm (grow1 xs) = true := by
  rw [isPerm_iff] at h ⊢
  obtain ⟨h1, h2, h3, h4⟩ := h
  rw [grow1_length]
  refine ⟨by omega, by omega, fun x hx => ?_, ?_⟩
  · unfold grow1 at hx
    rcases List.mem_append.1 hx with hx | hx
    · have := h3 x hx; omega
    · rw [List.mem_singleton] at hx; subst hx; omega
  · unfold grow1
    rw [List.nodup_append]
    refine ⟨h4, by simp, fun a ha b hb => ?_⟩
    rw [List.mem_singleton] at hb
    subst hb
    have := h3 a ha
    omega
theorem grow1_sum {xs : List Int} (h : isPerm xs = true) : sumI (code (grow1 xs)) = sumI (code xs) := sum_code_app fun x hx => (((isPerm_iff xs).1 h).2.2.1 x hx).2
def trimP (u : List Int) : List Int := u.take (trimLen u u.length)
theorem trimLen_fix (xs : List Int) : ∀ m i, trimLen xs m ≤ i → i < m → xs.getD i 0 = (i : Int) := by
  intro m
  induction m with
  | zero => intro i _ h; omega
  | succ m ih =>
    intro i h1 h2
    rcases m with _ | m
    · change 1 ≤ i at h1
      omega
    · by_cases hy : xs.getD (m + 1) 0 = ((m + 1 : Nat) : Int)
      · have e : trimLen xs (m + 1 + 1) = trimLen xs (m + 1) := by rw [trimLen, if_pos hy]
        rw [e] at h1
        rcases Nat.lt_or_ge i (m + 1) with h | h
        · exact ih i h1 h
        · obtain rfl : i = m + 1 := by omega
          exact hy
      · have e : trimLen xs (m + 1 + 1) = m + 1 + 1 := by rw [trimLen, if_neg hy]
        omega
theorem trimP_inj {u v : List Int} (hl : u.length = v.length) (h : trimP u = trimP v) : u = v := by
  have hm : trimLen u u.length = trimLen v v.length := by
    have := congrArg List.length h
    unfold trimP at this
    rw [List.length_take, List.length_take] at this
    have h1 := trimLen_le u u.length
    have h2 := trimLen_le v v.length
    omega
  apply List.ext_getElem?
  intro i
  rcases Nat.lt_or_ge i u.length with hi | hi
  · rcases Nat.lt_or_ge i (trimLen u u.length) with h1 | h1
    · have := congrArg (fun l => l[i]?) h
      unfold trimP at this
      rw [List.getElem?_take_of_lt h1, List.getElem?_take_of_lt (by omega)] at this
      exact this
    · have e1 := trimLen_fix u u.length i h1 hi
      have e2 := trimLen_fix v v.length i (by omega) (by omega)
      rw [List.getD_eq_getElem?_getD, List.getElem?_eq_getElem hi] at e1
      rw [List.getD_eq_getElem?_getD, List.getElem?_eq_getElem (show i < v.length by omega)] at e2
      rw [List.getElem?_eq_getElem hi, List.getElem?_eq_getElem (show i < v.length by omega)]
      simp only [Option.getD_some] at e1 e2
      rw [e1, e2]
  · rw [List.getElem?_eq_none hi, List.getElem?_eq_none (by omega)]
/-! the classes -/
def monkHit (x : List Int) (a b : Nat) : Bool := decide (sumI (code (swp x a b)) = sumI (code x) + 1)
def monkCls (x : List Int) (a b : Nat) : List Int × Int := (trimP (swp x a b), 1)
def rowTo (x : List Int) (a k : Nat) : Nat → List (List Int × Int)
  | 0 => []
  | t + 1 => rowTo x a k t ++ if monkHit x a (k + 1 + t) = true then [monkCls x a (k + 1 + t)] else []
def monkTo (x : List Int) (k m : Nat) : Nat → List (List Int × Int)
  | 0 => []
  | a + 1 => monkTo x k m a ++ rowTo x a k m
theorem rowTo_mem {x : List Int} {a k : Nat} {p : List Int × Int} : ∀ {t : Nat}, p ∈ rowTo x a k t → ∃ b, k < b ∧ b < k + 1 + t ∧ p = monkCls x a b := by
  intro t
  induction t with
  | zero => intro h; cases h
  | succ t ih =>
    intro h
    rw [rowTo] at h
    rcases List.mem_append.1 h with h | h
    · obtain ⟨b, h1, h2, h3⟩ := ih h
      exact ⟨b, h1, by omega, h3⟩
    · split at h
      · rw [List.mem_singleton] at h
        exact ⟨k + 1 + t, by omega, by omega, h⟩
      · cases h
theorem monkTo_mem {x : List Int} {k m : Nat} {p : List Int × Int} : ∀ {c : Nat}, p ∈ monkTo x k m c → ∃ a b, a < c ∧ k < b ∧ b < k + 1 + m ∧ p = monkCls x a b := by
  intro c
  induction c with
  | zero => intro h; cases h
  | succ c ih =>
    intro h
    rw [monkTo] at h
    rcases List.mem_append.1 h with h | h
    · obtain ⟨a, b, h1, h2⟩ := ih h
      exact ⟨a, b, by omega, h2⟩
    · obtain ⟨b, h1, h2, h3⟩ := rowTo_mem h
      exact ⟨c, b, by omega, h1, h2, h3⟩
theorem monkCls_inj {x : List Int} (hn : x.Nodup) {a b a' b' : Nat} (hab : a < b) (hb : b < x.length) (hab' : a' < b') (hb' : b' < x.length) (h : (monkCls x a b).1 = (monkCls x a' b').1) : a = a' ∧ b = b' :=
  swp_inj hn hab hb hab' hb' (trimP_inj (by rw [swp_length, swp_length]) h)
/-- the class of a place further on is not there yet -/
theorem monk_fresh {x : List Int} (hn : x.Nodup) {k m c t : Nat} (hk : c ≤ k) (hm : k + 1 + m = x.length) (ht : t < m) : ∀ q ∈ monkTo x k m c ++ rowTo x c k t, q.1 ≠ (monkCls x c (k + 1 + t)).1 := by
  intro q hq e
  rcases List.mem_append.1 hq with h | h
  · obtain ⟨a, b, h1, h2, h3, rfl⟩ := monkTo_mem h
    have := monkCls_inj hn (by omega) (by omega) (by omega) (by omega) e
    omega
  · obtain ⟨b, h1, h2, rfl⟩ := rowTo_mem h
    have := monkCls_inj hn (by omega) (by omega) (by omega) (by omega) e
    omega
theorem dst_snoc {L : List (List Int × Int)} {p : List Int × Int} (h : Dst L) (hf : ∀ q ∈ L, q.1 ≠ p.1) : Dst (L ++ [p]) := by
  unfold Dst
  rw [List.pairwise_append]
  exact ⟨h, List.pairwise_singleton _ _, fun a ha b hb => by rw [List.mem_singleton] at hb; subst hb; exact hf a ha⟩
theorem monk_dst {x : List Int} (hn : x.Nodup) {k m : Nat} (hm : k + 1 + m = x.length) : ∀ c t, c ≤ k → t ≤ m → Dst (monkTo x k m c) → Dst (monkTo x k m c ++ rowTo x c k t) := by
  intro c t hc
  induction t with
  | zero => intro _ h; rw [rowTo, List.append_nil]; exact h
  | succ t ih =>
    intro ht h
    have h1 := ih (by omega) h
    rw [rowTo]
    split
    · rw [← List.append_assoc]
      exact dst_snoc h1 (monk_fresh hn hc hm (by omega))
    · rw [List.append_nil]; exact h1
theorem monkTo_dst {x : List Int} (hn : x.Nodup) {k m : Nat} (hm : k + 1 + m = x.length) : ∀ c, c ≤ k + 1 → Dst (monkTo x k m c) := by
  intro c
  induction c with
  | zero => intro _; exact List.Pairwise.nil
  | succ c ih => intro hc; exact monk_dst hn hm c m (by omega) (Nat.le_refl _) (ih (by omega))
theorem rowTo_len (x : List Int) (a k : Nat) : ∀ t, (rowTo x a k t).length ≤ t := by
  intro t
  induction t with
  | zero => exact Nat.le_refl _
  | succ t ih =>
    rw [rowTo, List.length_append]
    split <;> simp <;> omega
theorem monkTo_len (x : List Int) (k m : Nat) : ∀ c, (monkTo x k m c).length ≤ c * m := by
  intro c
  induction c with
  | zero => exact Nat.zero_le _
  | succ c ih =>
    rw [monkTo, List.length_append, Nat.succ_mul]
    have := rowTo_len x c k m
    omega
theorem monk_short {x : List Int} {L : List (List Int × Int)} (h : ∀ p ∈ L, ∃ a b, p = monkCls x a b) : ∀ p ∈ L, p.1.length ≤ x.length := by
  intro p hp
  obtain ⟨a, b, rfl⟩ := h p hp
  show (trimP (swp x a b)).length ≤ _
  unfold trimP
  rw [List.length_take, swp_length]
  omega
theorem monk_each {x : List Int} {k m c t : Nat} : ∀ p ∈ monkTo x k m c ++ rowTo x c k t, ∃ a b, p = monkCls x a b := by
  intro p hp
  rcases List.mem_append.1 hp with h | h
  · obtain ⟨a, b, _, _, _, e⟩ := monkTo_mem h; exact ⟨a, b, e⟩
  · obtain ⟨b, _, _, e⟩ := rowTo_mem h; exact ⟨c, b, e⟩
theorem Dst.good {L : List (List Int × Int)} (h : Dst L) (hs : ∀ p ∈ L, p.1.length ≤ 1048576) : GoodK L := by
  refine ⟨hs, fun i j p q hp hq e => ?_⟩
  obtain ⟨hi, rfl⟩ := List.getElem?_eq_some_iff.1 hp
  obtain ⟨hj, rfl⟩ := List.getElem?_eq_some_iff.1 hq
  have hpw := List.pairwise_iff_getElem.1 h
  rcases Nat.lt_trichotomy i j with h | h | h
  · exact absurd e (hpw i j hi hj h)
  · exact h
  · exact absurd e.symm (hpw j i hj hi h)
/-! what MonkProduct gives -/
def monkIn (xs : List Int) (K : Int) : Bool := isPerm xs && decide (xs.length ≠ 7) && decide (0 ≤ K ∧ K < xs.length)
def monkL (xs : List Int) (k : Nat) : List (List Int × Int) := monkTo (grow1 xs) k (xs.length - k) (k + 1)
def monkT (xs : List Int) (K : Int) : List (List Int × Int) := if monkIn xs K = true then sortK (monkL xs K.toNat) else []
theorem monk_no {xs : List Int} {K : Int} (h : monkIn xs K = false) : monkT xs K = [] := by unfold monkT; rw [h]; rfl
theorem monk_yes {xs : List Int} {K : Int} (h : monkIn xs K = true) : monkT xs K = sortK (monkL xs K.toNat) := by unfold monkT; rw [if_pos h]
theorem monkIn_parts {xs : List Int} {K : Int} (h : monkIn xs K = true) : isPerm xs = true ∧ xs.length ≤ 6 ∧ 0 ≤ K ∧ K < xs.length := by
  unfold monkIn at h
  simp only [Bool.and_eq_true, decide_eq_true_eq] at h
  have := ((isPerm_iff xs).1 h.1.1).2.1
  exact ⟨h.1.1, by have := h.1.2; omega, h.2.1, h.2.2⟩
theorem monkIn_false {xs : List Int} {K : Int} (h : isPerm xs = false ∨ xs.length = 7 ∨ K < 0 ∨ (xs.length : Int) ≤ K) : monkIn xs K = false := by
  cases hk : monkIn xs K with
  | false => rfl
  | true =>
    obtain ⟨h1, h2, h3, h4⟩ := monkIn_parts hk
    rcases h with h | h | h | h
    · rw [h1] at h; cases h
    · omega
    · omega
    · omega
theorem monkT_facts (xs : List Int) (K : Int) : (monkT xs K).length ≤ 49 ∧ ∀ p ∈ monkT xs K, p.1.length ≤ 7 := by
  cases h : monkIn xs K with
  | false => rw [monk_no h]; exact ⟨Nat.zero_le _, by simp⟩
  | true =>
    obtain ⟨h1, h2, h3, h4⟩ := monkIn_parts h
    rw [monk_yes h]
    refine ⟨?_, fun p hp => ?_⟩
    · rw [(sortK_perm _).length_eq]
      unfold monkL
      refine Nat.le_trans (monkTo_len _ _ _ _) (Nat.le_trans (Nat.mul_le_mul (show K.toNat + 1 ≤ 7 by omega) (show xs.length - K.toNat ≤ 7 by omega)) (by omega))
    · have := monk_short (x := grow1 xs) (L := monkL xs K.toNat) (fun q hq => by
        obtain ⟨a, b, _, _, _, e⟩ := monkTo_mem hq; exact ⟨a, b, e⟩) p ((sortK_perm _).mem_iff.1 hp)
      rw [grow1_length] at this
      omega
theorem monkT_len (xs : List Int) (K : Int) : (monkT xs K).length ≤ 1048576 := by have := (monkT_facts xs K).1; omega
theorem monkT_short (xs : List Int) (K : Int) : ∀ p ∈ monkT xs K, p.1.length ≤ 1048576 := fun p hp => by have := (monkT_facts xs K).2 p hp; omega
theorem monkT_sz (xs : List Int) (K : Int) : sz_K (monkT xs K) ≤ 1099511627776 := by
  have h1 := sz_T_bound (L := monkT xs K) (B := 7) (monkT_facts xs K).2
  have := (monkT_facts xs K).1
  show sz_T (monkT xs K) ≤ _
  omega
end Go.Proofs.Ytflkomgfgmephaa
