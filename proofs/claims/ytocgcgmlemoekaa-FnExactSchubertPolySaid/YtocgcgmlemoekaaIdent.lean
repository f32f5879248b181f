/-
  Contracts of isSize and IdentityPerm.
-/
import Derived.Test.YtocgcgmlemoekaaBuA
import Derived.RegionTactic
import Derived.ChangeAlike
namespace Go.Proofs.Ytocgcgmlemoekaa
open Go.RowKit

theorem isSize_yes (n : Int) (w : World) (h : 1 ≤ n ∧ n ≤ 7) :
    Calls Try.prog 199 #[.int .i64 n] w fun e w' => e = .returned (.bool true) ∧ w = w' := by
  obtain ⟨h1, h2⟩ := h
  go_enter Try.func199, Try.ntmps199
  go_wp2
  go_ret
  exact ⟨by simp, rfl⟩
theorem isSize_no (n : Int) (w : World) (h : n < 1 ∨ 7 < n) :
    Calls Try.prog 199 #[.int .i64 n] w fun e w' => e = .returned (.bool false) ∧ w = w' := by
  by_cases h1 : 1 ≤ n
  · have h2 : ¬ n ≤ 7 := by omega
    go_enter Try.func199, Try.ntmps199
    go_wp2
    go_ret
    exact ⟨by simp, rfl⟩
  · go_enter Try.func199, Try.ntmps199
    go_wp2
    go_ret
    exact ⟨by simp, rfl⟩

def ident (n : Nat) : List Int := (List.range n).map fun (i : Nat) => (i : Int)
theorem ident_length (n : Nat) : (ident n).length = n := by simp [ident]
theorem ident_at {n i : Nat} (h : i < n) : (ident n)[i]? = some (i : Int) := by simp [ident, h]
theorem ident_succ (n : Nat) : ident (n + 1) = ident n ++ [(n : Int)] := by simp [ident, List.range_succ]

set_option maxRecDepth 100000 in
set_option maxHeartbeats 800000 in
theorem implIdent_any (n : Nat) (N : Int) (w : World) (hN : N = (n : Int)) (h : 1 ≤ n ∧ n ≤ 7) :
    Calls Try.prog 171 #[.int .i64 N] w fun e w' => ∃ a' c', e = .returned (.slice a' n c') ∧ OwI w' w.heap.size w'.heap.size a' n c' (ident n) ∧ Below w.heap.size w w' := by
  subst hN
  obtain ⟨i0, hi, hz0, hz1, hz2⟩ := info_parts Try.info3
  go_enter Try.func171, Try.ntmps171
  go_wp2_with fail
  refine (isSize_yes _ _ (by omega)).mono ?_
  rintro e w1 ⟨rfl, rfl⟩
  go_wp2_with (first | (at_make; refine wpList_make_full _ rfl _ _ 22 rfl w.heap.size 3 i0 (.int .i64 0) 1 Try.underlying22 hi hz0 hz1 .i64 .i64 _ _ n rfl rfl ?m1 ?m2 ?m3 ?m4 ?m5 ?_))
  case m1 => rfl
  case m2 => rfl
  case m3 => rw [hz2]; omega
  case m4 => unfold maxLen; omega
  case m5 => exact Nat.le_refl _
  intro w1 hown hg
  have hB : Below w.heap.size w w1 := (Below.refl _ _).grown hg (Nat.le_refl _) (by simp)
  have hrow : OS w1 w.heap.size (some ⟨w.heap.size, 0, none⟩) n n (fillTo (ident n) n 0) := by
    refine OS.of ?_
    rw [fillTo_zero]
    have e := toList_madeCells_one (.int .i64 0) n
    simpa [ints, Value.cells, e] using hown
  have Hrow := Lib.hid hrow; clear hown hg hrow
  go_wp2
  go_loopw [12] (fun iv wr => Hid (∃ i : Nat, i ≤ n ∧ iv = .int .i64 i ∧ OS wr w.heap.size (some ⟨w.heap.size, 0, none⟩) n n (fillTo (ident n) n i)) ∧ Below w.heap.size w wr) (fun i _ => n - (intOf i).toNat)
  case atStart => exact ⟨⟨0, Nat.zero_le _, rfl, Hrow.out⟩, hB⟩
  case round =>
    clear Hrow hB
    obtain ⟨HV, hB⟩ := hrel
    obtain ⟨wo, rfl⟩ : ∃ wo : World, wo = wr := ⟨_, rfl⟩
    obtain ⟨i, hi', rfl, ho⟩ := HV.out
    clear HV
    by_cases hlt : i < n
    · obtain ⟨g, hg0, hBg, ⟨v, hv, hcv⟩, hfv⟩ := OI.cons ho hlt
      obtain rfl : w.heap.size = g := by simpa using hg0
      have hs := ho.store i (i : Int)
      rw [fillTo_succ (ident_length n) hlt (ident_at hlt)] at hs
      have hB2 := hB.grown hs.2 hB.size (by intro q hq; obtain rfl := Option.some.inj hq; exact Nat.le_refl _)
      have HS := Lib.hid hs.1
      clear hs hv ho
      go_wp2
      go_roundw
      case rel => exact ⟨⟨i + 1, by omega, by go_num, HS.out⟩, hB2⟩
      case measure => simp [intOf]; omega
    · obtain rfl : i = n := by omega
      rw [fillTo_all (ident_length i)] at ho
      have HO := Lib.hid (OwI.of ho); clear ho
      go_wp2
      go_ret
      exact ⟨_, _, rfl, HO.out, hB⟩
end Go.Proofs.Ytocgcgmlemoekaa
