/-
  Plain: what TransitionOf answers.
-/
import Derived.Test.YtflkomgfgmephaaInsL
import Derived.Test.YtflkomgfgmephaaBuI3
import Derived.Test.YtflkomgfgmephaaDescents
namespace Go.Proofs.Ytflkomgfgmephaa

/-- the last place behind r and ahead of k that holds less than r does; r + 1 where there is none -/
def lastLess (xs : List Int) (r : Nat) : Nat → Nat
  | 0 => r + 1
  | k + 1 => if r < k ∧ xs.getD k 0 < xs.getD r 0 then k else lastLess xs r k
theorem lastLess_start (xs : List Int) (r : Nat) : ∀ k, k ≤ r + 1 → lastLess xs r k = r + 1
  | 0, _ => rfl
  | k + 1, h => by
    unfold lastLess
    rw [if_neg (by omega)]
    exact lastLess_start xs r k (by omega)
theorem lastLess_yes {xs : List Int} {r k : Nat} {x y : Int} (hr : r < k) (hx : xs[k]? = some x) (hy : xs[r]? = some y) (h : x < y) : lastLess xs r (k + 1) = k := by
  unfold lastLess
  rw [getD_of hx, getD_of hy, if_pos ⟨hr, h⟩]
theorem lastLess_no {xs : List Int} {r k : Nat} {x y : Int} (hx : xs[k]? = some x) (hy : xs[r]? = some y) (h : ¬ x < y) : lastLess xs r (k + 1) = lastLess xs r k := by
  conv => lhs; unfold lastLess
  rw [getD_of hx, getD_of hy, if_neg (fun e => h e.2)]
theorem lastLess_range (xs : List Int) (r : Nat) : ∀ k, r + 1 ≤ lastLess xs r k ∧ (r + 1 < k → lastLess xs r k < k)
  | 0 => ⟨Nat.le_refl _, fun h => by omega⟩
  | k + 1 => by
    obtain ⟨h1, h2⟩ := lastLess_range xs r k
    unfold lastLess
    split
    · exact ⟨by omega, fun _ => by omega⟩
    · refine ⟨h1, fun h => ?_⟩
      rcases Nat.lt_or_ge (r + 1) k with h' | h'
      · have := h2 h'; omega
      · rw [lastLess_start xs r k h']; omega
def trHit (v : List Int) (q r : Nat) : Bool := decide (sumI (code (swp v q r)) = sumI (code v) + 1)
def trTo (v : List Int) (r : Nat) : Nat → List (List Int)
  | 0 => []
  | q + 1 => if trHit v q r = true then trTo v r q ++ [swp v q r] else trTo v r q
theorem trTo_mem {v : List Int} {r : Nat} {x : List Int} : ∀ {k : Nat}, x ∈ trTo v r k → ∃ q, q < k ∧ x = swp v q r
  | 0, h => by simp [trTo] at h
  | k + 1, h => by
    unfold trTo at h
    split at h
    · rcases List.mem_append.1 h with h | h
      · obtain ⟨q, hq, e⟩ := trTo_mem h; exact ⟨q, by omega, e⟩
      · exact ⟨k, by omega, by simpa using h⟩
    · obtain ⟨q, hq, e⟩ := trTo_mem h; exact ⟨q, by omega, e⟩
theorem trTo_len (v : List Int) (r : Nat) : ∀ k, (trTo v r k).length ≤ k
  | 0 => Nat.le_refl _
  | k + 1 => by
    have := trTo_len v r k
    unfold trTo
    split
    · simp; omega
    · omega
theorem trTo_nodup {v : List Int} (hn : v.Nodup) {r : Nat} (hr : r < v.length) : ∀ k, k ≤ r → (trTo v r k).Nodup
  | 0, _ => List.Pairwise.nil
  | k + 1, h => by
    have ih := trTo_nodup hn hr k (by omega)
    unfold trTo
    split
    · refine List.nodup_append.2 ⟨ih, by simp, fun a ha b hb e => ?_⟩
      obtain ⟨q, hq, e1⟩ := trTo_mem ha
      have e2 : b = swp v k r := by simpa using hb
      have := (swp_inj hn (a := q) (b := r) (a' := k) (b' := r) (by omega) hr (by omega) hr (by rw [← e1, e, e2])).1
      omega
    · exact ih
theorem trTo_good {v : List Int} (hn : v.Nodup) {r k : Nat} (hr : r < v.length) (hk : k ≤ r) (h7 : v.length ≤ 1048576) : GoodII (trTo v r k) := by
  refine ⟨fun p hp => ?_, fun i j p q hi hj e => ?_⟩
  · obtain ⟨q, _, rfl⟩ := trTo_mem hp
    rw [swp_length]
    exact h7
  · subst e
    obtain ⟨hi1, hi2⟩ := List.getElem?_eq_some_iff.1 hi
    obtain ⟨hj1, hj2⟩ := List.getElem?_eq_some_iff.1 hj
    have hpw := List.pairwise_iff_getElem.1 (trTo_nodup hn hr k hk)
    rcases Nat.lt_trichotomy i j with h | h | h
    · exact absurd (hi2.trans hj2.symm) (hpw i j hi1 hj1 h)
    · exact h
    · exact absurd (hj2.trans hi2.symm) (hpw j i hj1 hi1 h)
/-- the last place of descent -/
def trR (xs : List Int) : Nat := ((descents xs).getLastD 0).toNat
def trS (xs : List Int) : Nat := lastLess xs (trR xs) xs.length
def trV (xs : List Int) : List Int := swp xs (trR xs) (trS xs)
def trOk (xs : List Int) : Bool := decide (descents xs ≠ [])
def tr0 (xs : List Int) : Int := if trOk xs = true then (trR xs : Int) else 0
def tr1 (xs : List Int) : List Int := if trOk xs = true then trV xs else []
def tr2 (xs : List Int) : List (List Int) := if trOk xs = true then ascOf (trTo (trV xs) (trR xs) (trR xs)) else []
theorem desc_mem {xs : List Int} {k : Nat} {d : Int} (h : d ∈ desc xs k) : ∃ i : Nat, d = (i : Int) ∧ i < k ∧ xs.getD (i + 1) 0 < xs.getD i 0 := by
  unfold desc at h
  obtain ⟨i, hi, rfl⟩ := List.mem_map.1 h
  rw [List.mem_filter] at hi
  exact ⟨i, rfl, List.mem_range.1 hi.1, by simpa using hi.2⟩
theorem tr_facts {xs : List Int} (h : trOk xs = true) : isPerm xs = true ∧ trR xs + 1 < xs.length ∧ xs.getD (trR xs + 1) 0 < xs.getD (trR xs) 0 ∧ (descents xs)[(descents xs).length - 1]? = some (trR xs : Int) ∧ trR xs < trS xs ∧ trS xs < xs.length := by
  have hne : descents xs ≠ [] := by simpa [trOk] using h
  have hp : isPerm xs = true := by
    cases hp : isPerm xs with
    | true => rfl
    | false => exact absurd (show descents xs = [] by unfold descents; rw [hp]; rfl) hne
  have hd : descents xs = desc xs (xs.length - 1) := by unfold descents; rw [if_pos hp]
  have hl : (descents xs)[(descents xs).length - 1]? = some ((descents xs).getLastD 0) := by
    rw [List.getLastD_eq_getLast?, List.getLast?_eq_getElem?]
    have : (descents xs).length - 1 < (descents xs).length := by have := List.length_pos_iff.2 hne; omega
    rw [List.getElem?_eq_getElem this]
    rfl
  have hm : (descents xs).getLastD 0 ∈ desc xs (xs.length - 1) := by rw [← hd]; exact List.mem_of_getElem? hl
  obtain ⟨i, e, hi, hlt⟩ := desc_mem hm
  have hr : trR xs = i := by unfold trR; rw [e]; simp
  have h2 := lastLess_range xs i xs.length
  refine ⟨hp, by omega, by rw [hr]; exact hlt, by rw [hl, e, hr], ?_, ?_⟩
  · unfold trS; rw [hr]; omega
  · unfold trS; rw [hr]; exact h2.2 (by omega)
theorem tr_no {xs : List Int} (h : trOk xs = false) : tr0 xs = 0 ∧ tr1 xs = [] ∧ tr2 xs = [] ∧ descents xs = [] := by
  unfold tr0 tr1 tr2
  rw [h]
  exact ⟨rfl, rfl, rfl, by simpa [trOk] using h⟩
theorem tr_yes {xs : List Int} (h : trOk xs = true) : tr0 xs = (trR xs : Int) ∧ tr1 xs = trV xs ∧ tr2 xs = ascOf (trTo (trV xs) (trR xs) (trR xs)) := by
  unfold tr0 tr1 tr2
  rw [h]
  exact ⟨rfl, rfl, rfl⟩
theorem trV_facts {xs : List Int} (h : trOk xs = true) : isPerm (trV xs) = true ∧ (trV xs).length = xs.length ∧ (trV xs).Nodup := by
  obtain ⟨h1, h2, _, _, h5, h6⟩ := tr_facts h
  have hp := isPerm_swp h1 (show trR xs < xs.length by omega) h6
  exact ⟨hp, swp_length _ _ _, ((isPerm_iff _).1 hp).2.2.2⟩
theorem ascOf_length (L : List (List Int)) : (ascOf L).length ≤ L.length := by
  have : ∀ (L l : List (List Int)), (L.foldl (fun l x => insL x l) l).length ≤ L.length + l.length := by
    intro L
    induction L with
    | nil => intro l; simp
    | cons x L ih => intro l; have h1 := ih (insL x l); have h2 := insL_length x l; rw [List.foldl_cons, List.length_cons]; omega
  simpa [ascOf] using this L []
end Go.Proofs.Ytflkomgfgmephaa
