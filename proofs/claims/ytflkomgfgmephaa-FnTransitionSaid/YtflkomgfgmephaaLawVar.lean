/-
  The laws' variable.
-/
import Derived.Test.YtflkomgfgmephaaMonoP
namespace Go.Proofs.Ytflkomgfgmephaa
open Go.RowKit

def varE (i : Nat) : List Int := List.replicate i 0 ++ [1]
def varM (i : Nat) : Mons := monoM (varE i)
theorem varE_length (i : Nat) : (varE i).length = i + 1 := by simp [varE]
theorem varE_low (i : Nat) : ∀ x ∈ varE i, 0 ≤ x ∧ x ≤ 24 := fun x hx => by
  unfold varE at hx
  rcases List.mem_append.1 hx with hx | hx
  · have := List.eq_of_mem_replicate hx
    omega
  · rw [List.mem_singleton] at hx
    omega
theorem varM_okp {i : Nat} (hi : i ≤ 6) : OKp (varM i) := monoM_okp (by rw [varE_length]; omega) (varE_low i)
theorem varM_eq : ∀ i, i < 7 → varM i = [(unit i, 1)] := by decide
theorem varM_bd {i : Nat} (hi : i ≤ 6) : Bd 1 (varM i) := fun p hp => by
  rw [varM_eq i (by omega), List.mem_singleton] at hp
  subst hp
  have hc : i = 0 ∨ i = 1 ∨ i = 2 ∨ i = 3 ∨ i = 4 ∨ i = 5 ∨ i = 6 := by omega
  refine ⟨?_, fun j hj => ?_⟩
  · rcases hc with rfl | rfl | rfl | rfl | rfl | rfl | rfl <;> (unfold inK; decide)
  · have hd : j = 0 ∨ j = 1 ∨ j = 2 ∨ j = 3 ∨ j = 4 ∨ j = 5 ∨ j = 6 := by omega
    rcases hc with rfl | rfl | rfl | rfl | rfl | rfl | rfl <;> rcases hd with rfl | rfl | rfl | rfl | rfl | rfl | rfl <;> decide
set_option maxRecDepth 100000 in
set_option maxHeartbeats 3200000 in
theorem variable_law (i : Nat) (I : Int) (w : World) (hI : I = (i : Int)) (hi : i ≤ 6) :
    Calls Try.prog 19 #[.int .i64 I] w fun e w' => ∃ a' n' c', e = .returned (.slice a' n' c') ∧ PT w' a' n' (varM i) ∧ Below w.heap.size w w' := by
  subst hI
  have hI0 : OwI (w.alloc (.cells #[] 3)) w.heap.size (w.alloc (.cells #[] 3)).heap.size (some ⟨w.heap.size, 0, none⟩) 0 0 [] := OwI.mk (World.ownsRow_made _ #[] 0 (Nat.le_refl _) (Nat.zero_le _) rfl)
  have hB0 : Below w.heap.size w (w.alloc (.cells #[] 3)) := (Below.refl _ _).alloc (Nat.le_refl _) _
  have H1 := Lib.hid hI0; clear hI0
  go_enter Try.func19, Try.ntmps19
  go_wp2
  go_loopw [3] (fun v wr => Hid (∃ (j : Nat) (a' : Option Addr) (c' : Nat), v = .slice a' j c' ∧ j ≤ i ∧ OwI wr w.heap.size wr.heap.size a' j c' (List.replicate j 0)) ∧ Below w.heap.size w wr) (fun v _ => i - (match v with | .slice _ j _ => j | _ => 0))
  case atStart => exact ⟨⟨0, _, _, rfl, Nat.zero_le _, H1.out⟩, hB0⟩
  case round =>
    clear hB0 H1
    obtain ⟨HV, hB⟩ := hrel
    obtain ⟨wo, rfl⟩ : ∃ wo : World, wo = wr := ⟨_, rfl⟩
    obtain ⟨j, a', c', rfl, hj, ho⟩ := HV.out
    clear HV
    have hz := hB.size
    by_cases hlt : j < i
    · have q1 : (j : Int) < (i : Int) := by omega
      go_wp2_with (first | (at_builtin; go_loud (refine wpList_pushI (by rfl) (by rfl) _ _ (by rfl) ho (by rfl) (by rfl) (by omega) hz ?_)))
      intro a2 c2 w2 ho2 hg2
      have hB2 := hg2.below hB hz (fun k hk => ho.1.lo k hk)
      have Ho2 := Lib.hid (show OwI w2 w.heap.size w2.heap.size a2 (j + 1) c2 (List.replicate (j + 1) 0) by rw [List.replicate_succ']; exact ho2)
      clear ho ho2 hg2
      go_wp2
      go_roundw
      case rel => exact ⟨⟨j + 1, _, _, rfl, by omega, Ho2.out⟩, hB2⟩
      case measure => simp; omega
    · obtain rfl : j = i := by omega
      go_wp2_with (first | (at_builtin; go_loud (refine wpList_pushI (by rfl) (by rfl) _ _ (by rfl) ho (by rfl) (by rfl) (by omega) hz ?_)))
      intro a2 c2 w2 ho2 hg2
      have hB2 := hg2.below hB hz (fun k hk => ho.1.lo k hk)
      have Ho2 := Lib.hid (show OwI w2 w.heap.size w2.heap.size a2 (j + 1) c2 (varE j) from ho2)
      clear ho ho2 hg2
      go_wp2_with fail
      refine (specMono_any _ _ _ (varE j) _ Ho2.out.rd (varE_length j) (by omega) (varE_low j)).mono ?_
      rintro e w3 ⟨a3, n3, c3, rfl, ho3, hB3⟩
      have Ho3 := Lib.hid ho3
      have hB4 := hB2.trans (hB3.mono hB2.size)
      clear ho3
      go_wp2
      go_ret
      exact ⟨_, _, _, rfl, Ho3.out, hB4⟩
end Go.Proofs.Ytflkomgfgmephaa
