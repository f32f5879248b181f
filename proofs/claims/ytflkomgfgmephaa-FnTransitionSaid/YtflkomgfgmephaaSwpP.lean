/-
  Permutations with two places exchanged: which two is known; the length is small. Plain.
-/
import Derived.Test.YtflkomgfgmephaaLength
namespace Go.Proofs.Ytflkomgfgmephaa

theorem swp_at_i {xs : List Int} {i j t : Nat} (hi : i < xs.length) (hj : j < xs.length) (hij : i ≠ j) (_ht : t < xs.length) : (swp xs i j)[t]? = if t = i then xs[j]? else if t = j then xs[i]? else xs[t]? := by
  rw [swp_at (List.getElem?_eq_getElem hi) (List.getElem?_eq_getElem hj)]
  by_cases h1 : t = j
  · subst h1
    rw [if_neg (Ne.symm hij), if_pos rfl, List.getElem?_set_self (by simp; exact hj), List.getElem?_eq_getElem hi]
  · by_cases h2 : t = i
    · subst h2
      rw [if_pos rfl, List.getElem?_set_ne (Ne.symm h1), List.getElem?_set_self hi, List.getElem?_eq_getElem hj]
    · rw [if_neg h2, if_neg h1, List.getElem?_set_ne (Ne.symm h1), List.getElem?_set_ne (Ne.symm h2)]
theorem swp_inj {xs : List Int} (hn : xs.Nodup) {a b a' b' : Nat} (hab : a < b) (hb : b < xs.length) (hab' : a' < b') (hb' : b' < xs.length) (h : swp xs a b = swp xs a' b') : a = a' ∧ b = b' := by
  have inj : ∀ s t : Nat, s < xs.length → t < xs.length → xs[s]? = xs[t]? → s = t := by
    intro s t hs ht e
    have hpw := List.pairwise_iff_getElem.1 hn
    rw [List.getElem?_eq_getElem hs, List.getElem?_eq_getElem ht] at e
    have e' := Option.some.inj e
    rcases Nat.lt_trichotomy s t with h | h | h
    · exact absurd e' (hpw s t hs ht h)
    · exact h
    · exact absurd e'.symm (hpw t s ht hs h)
  have ea := congrArg (fun l => l[a]?) h
  have eb := congrArg (fun l => l[b]?) h
  rw [swp_at_i (by omega) hb (by omega) (by omega), swp_at_i (by omega) hb' (by omega) (by omega)] at ea eb
  rw [if_pos rfl] at ea
  rw [if_neg (by omega), if_pos rfl] at eb
  by_cases h1 : a = a'
  · refine ⟨h1, ?_⟩
    rw [if_pos h1] at ea
    exact inj b b' hb hb' ea
  · rw [if_neg h1] at ea
    by_cases h2 : a = b'
    · rw [if_pos h2] at ea
      have := inj b a' hb (by omega) ea
      omega
    · rw [if_neg h2] at ea
      have := inj b a hb (by omega) ea
      omega

theorem sum_bd {xs : List Int} {n : Nat} (h : xs.length = n) (h8 : n ≤ 8) : -8388608 ≤ sumI (code xs) ∧ sumI (code xs) ≤ 8388608 := by
  have h1 := sumI_bd (small_code (xs := xs) (by omega))
  rw [code_length, h] at h1
  omega
end Go.Proofs.Ytflkomgfgmephaa
