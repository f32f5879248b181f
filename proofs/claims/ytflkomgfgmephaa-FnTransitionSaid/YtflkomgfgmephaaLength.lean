/-
  Permutations stay permutations; contracts of l1Length, LengthOf.
-/
import Derived.Test.YtflkomgfgmephaaSwap
import Derived.Test.YtflkomgfgmephaaIdent
import Derived.Test.YtflkomgfgmephaaCode
import Derived.Test.YtflkomgfgmephaaSumL
namespace Go.Proofs.Ytflkomgfgmephaa
open Go.RowKit

theorem isPerm_iff (xs : List Int) : isPerm xs = true ↔ 1 ≤ xs.length ∧ xs.length ≤ 7 ∧ (∀ x ∈ xs, 0 ≤ x ∧ x < xs.length) ∧ xs.Nodup := by
  constructor
  · intro h
    have hl := perm_len h
    refine ⟨hl.1, hl.2, fun x hx => ?_, ?_⟩
    · obtain ⟨i, hi⟩ := List.mem_iff_getElem?.1 hx
      exact perm_at h hi
    · rw [List.nodup_iff_pairwise_ne, List.pairwise_iff_getElem]
      intro i j hi hj hij e
      simp only [isPerm, Bool.and_eq_true, List.all_eq_true] at h
      have := h.2 j (by simpa using hj)
      have hxj : xs[j]? = some xs[j] := List.getElem?_eq_getElem hj
      simp only [permAt, getD_of hxj, Bool.and_eq_true, Bool.not_eq_true'] at this
      have h3 := this.2
      rw [List.contains_eq_mem, decide_eq_false_iff_not] at h3
      refine h3 (List.mem_iff_getElem?.2 ⟨i, ?_⟩)
      rw [List.getElem?_take, if_pos hij, ← e, List.getElem?_eq_getElem hi]
  · rintro ⟨h1, h2, h3, h4⟩
    refine isPerm_true h1 h2 (fun j hj => ?_)
    have hxj : xs[j]? = some xs[j] := List.getElem?_eq_getElem hj
    have hb := h3 xs[j] (List.getElem_mem hj)
    have hnm : ¬ xs[j] ∈ xs.take j := by
      intro hm
      obtain ⟨i, hi⟩ := List.mem_iff_getElem?.1 hm
      rw [List.getElem?_take] at hi
      split at hi
      · rename_i hij
        obtain ⟨hi', e⟩ := List.getElem?_eq_some_iff.1 hi
        rw [List.nodup_iff_pairwise_ne, List.pairwise_iff_getElem] at h4
        exact h4 i j hi' hj hij e
      · cases hi
    simp only [permAt, getD_of hxj, List.contains_eq_mem, hnm]
    simp; omega
theorem swp_perm {xs : List Int} {i j : Nat} (hi : i < xs.length) (hj : j < xs.length) : (swp xs i j).Perm xs := by
  rw [swp_at (List.getElem?_eq_getElem hi) (List.getElem?_eq_getElem hj)]
  exact List.set_set_perm hi hj
theorem isPerm_swp {xs : List Int} {i j : Nat} (h : isPerm xs = true) (hi : i < xs.length) (hj : j < xs.length) : isPerm (swp xs i j) = true := by
  rw [isPerm_iff] at h ⊢
  have hp := swp_perm hi hj
  rw [hp.length_eq]
  exact ⟨h.1, h.2.1, fun x hx => h.2.2.1 x (hp.mem_iff.1 hx), hp.nodup_iff.2 h.2.2.2⟩
theorem isPerm_ident {n : Nat} (h : 1 ≤ n ∧ n ≤ 7) : isPerm (ident n) = true := by
  obtain ⟨h1, h2⟩ := h
  have : n = 1 ∨ n = 2 ∨ n = 3 ∨ n = 4 ∨ n = 5 ∨ n = 6 ∨ n = 7 := by omega
  rcases this with rfl | rfl | rfl | rfl | rfl | rfl | rfl <;> decide
theorem code_nat {xs : List Int} {i : Nat} {x : Int} (h : (code xs)[i]? = some x) : 0 ≤ x ∧ x ≤ (xs.length : Nat) := by
  have hi := (List.getElem?_eq_some_iff.1 h).1
  rw [code_length] at hi
  rw [code_at rfl hi] at h
  obtain rfl := Option.some.inj h
  have := cnt_le xs i (xs.length - 1 - i)
  omega
theorem small_code {xs : List Int} (h : xs.length ≤ 1000) : Small (code xs) := by
  intro x hx
  obtain ⟨i, hi⟩ := List.mem_iff_getElem?.1 hx
  have := code_nat hi
  omega

set_option maxRecDepth 100000 in
set_option maxHeartbeats 800000 in
theorem l1Length_any (a : Option Addr) (n c : Nat) (xs : List Int) (w : World) (hr : RI w a xs) (hn : xs.length = n) (hb : n ≤ 1000) :
    Calls Try.prog 69 #[.slice a n c] w fun e w' => e = .returned (.int .i64 (sumI (code xs))) ∧ Below w.heap.size w w' := by
  go_enter Try.func69, Try.ntmps69
  go_wp2_with fail
  refine (l1Code_any _ _ _ xs _ hr hn (by omega)).mono ?_
  rintro e w1 ⟨a1, c1, rfl, ho, hB⟩
  have hl := Lib.hid ho.len
  have hsm := Lib.hid (small_code (xs := xs) (by omega))
  go_wp2_with fail
  refine (l1Sum_any _ _ _ (code xs) _ ho.rd hl.out (by omega) hsm.out).mono ?_
  rintro e w2 ⟨rfl, rfl⟩
  go_wp2
  go_ret
  exact ⟨rfl, hB⟩

set_option maxRecDepth 100000 in
set_option maxHeartbeats 800000 in
theorem lengthOf_any (a : Option Addr) (n c : Nat) (xs : List Int) (w : World) (hr : RI w a xs) (hn : xs.length = n) (hb : n ≤ 1000) (hcap : n ≤ c) (hp : isPerm xs = true) :
    Calls Try.prog 11 #[.slice a n c] w fun e w' => e = .returned (.int .i64 (sumI (code xs))) ∧ Below w.heap.size w w' := by
  have Hn := Lib.hid hn; clear hn
  have Hp := Lib.hid hp
  have hcf : codeOf xs = code xs := by rw [codeOf, hp]; rfl
  have Hcf := Lib.hid hcf; clear hcf hp
  have hsm := Lib.hid (small_code (xs := xs) (by rw [Hn.out]; exact hb))
  go_enter Try.func11, Try.ntmps11
  go_wp2_with fail
  refine (is (implIsPerm_any _ _ _ xs _ hr Hn.out (by omega)) Hp.out).mono ?_
  rintro e w1 ⟨rfl, hd⟩
  have hr1 := hr.below hd
  go_wp2_with fail
  refine (codeOf_any _ _ _ xs _ hr1 Hn.out (by omega) hcap).mono ?_
  rintro e w2 ⟨a2, n2, c2, rfl, ho, hb2⟩
  rw [Hcf.out] at ho
  have hl := ho.len
  have hl2 : n2 = n := by rw [← hl, code_length, Hn.out]
  subst hl2
  have Hl := Lib.hid hl; clear hl
  have hB := hd.trans (hb2.mono hd.size)
  clear hr1 hb2 hd
  go_wp2
  go_loop [3, 12] (fun s i => Hid (∃ k : Nat, k ≤ n2 ∧ i = .int .i64 k ∧ s = .int .i64 (sumI ((code xs).take k)))) (fun _ i => n2 - (intOf i).toNat)
  case atStart => exact ⟨0, Nat.zero_le _, rfl, rfl⟩
  case round =>
    obtain ⟨k, hk, rfl, rfl⟩ := hrel.out
    by_cases hlt : k < n2
    · obtain ⟨b, off, hab, hcell⟩ := ho.rd.at (k := k) (by rw [Hl.out]; exact hlt)
      subst hab
      obtain ⟨x, hx⟩ := some_at Hl.out hlt
      have hc := hcell k x hx
      have hst := sumI_take hx
      have hbd := sumI_bd (hsm.out.take k)
      have hbx := hsm.out.at hx
      have hlen : (((code xs).take k).length : Int) ≤ 1000 := by rw [List.length_take]; omega
      obtain ⟨s, hs⟩ : ∃ s, sumI ((code xs).take k) = s := ⟨_, rfl⟩
      rw [hs] at hst hbd ⊢
      have Hst := Lib.hid hst; clear hst hx hcell hs
      have hsb : -1048576000 ≤ s ∧ s ≤ 1048576000 := by omega
      clear hbd
      go_wp2
      go_round
      case rel => exact ⟨k + 1, by omega, by go_num, by rw [Hst.out] <;> go_num⟩
      case measure => simp [intOf]; omega
    · obtain rfl : k = n2 := by omega
      go_wp2
      go_ret
      exact ⟨ret_int (by rw [List.take_of_length_le (by rw [Hl.out]; exact Nat.le_refl _)]), hB⟩
end Go.Proofs.Ytflkomgfgmephaa
