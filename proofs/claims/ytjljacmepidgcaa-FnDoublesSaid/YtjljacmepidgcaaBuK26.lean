/-
  Contract of DrawTwoPerms: two permutations of one size of at most 5.
  Contracts of dShifts and DrawValues.
-/
import Derived.Test.YtjljacmepidgcaaBuK25
import Derived.OwnWalk
namespace Go.Proofs.Ytjljacmepidgcaa
open Go.RowKit

theorem dPerm_at (K : Int) (k : Nat) (hK : K = (k : Int)) (h1 : 1 ≤ k) (h5 : k ≤ 5) (g : Nat) (a : Option Addr) (m c : Nat) (xs : List Int) (w : World) (hc : Cur w g a m c xs) :
    Calls Try.prog 16 #[.pointer (some ⟨g, 0, none⟩), .int .i64 K] w (PermPost k g a m c xs w) := by subst hK; exact dPerm_any k h1 h5 g a m c xs w hc
def TwoPost (w : World) (e : Ending) (w' : World) : Prop :=
  ∃ n u v a1 c1 a2 c2, e = .returned (.tuple #[.slice a1 n c1, .slice a2 n c2]) ∧ (1 ≤ n ∧ n ≤ 5) ∧ u ∈ perms n ∧ v ∈ perms n ∧ OwI w' w.heap.size w'.heap.size a1 n c1 u ∧ OwI w' w.heap.size w'.heap.size a2 n c2 v ∧ Below w.heap.size w w'
end Go.Proofs.Ytjljacmepidgcaa

namespace Go.Proofs.Ytjljacmepidgcaa
open Go.RowKit

def ShiftPost (k : Nat) (g : Nat) (a : Option Addr) (m c : Nat) (xs : List Int) (w : World) (e : Ending) (w' : World) : Prop :=
  ∃ u a' c', e = .returned (.slice a' k c') ∧ (∀ y ∈ u, -9 ≤ y ∧ y ≤ 9) ∧ OwI w' w.heap.size w'.heap.size a' k c' u ∧ Cur w' g a m c xs ∧ Only g (g + 1) w w'
set_option maxRecDepth 100000 in
set_option maxHeartbeats 3200000 in
theorem dShifts_any (k : Nat) (h5 : k ≤ 100) (g : Nat) (a : Option Addr) (m c : Nat) (xs : List Int) (w : World) (hc : Cur w g a m c xs) :
    Calls Try.prog 17 #[.pointer (some ⟨g, 0, none⟩), .int .i64 k] w (ShiftPost k g a m c xs w) := by
  have hgw := hc.lt
  have hI0 : OwI (w.alloc (.cells #[] 3)) w.heap.size (w.alloc (.cells #[] 3)).heap.size (some ⟨w.heap.size, 0, none⟩) 0 0 [] := OwI.mk (World.ownsRow_made _ #[] 0 (Nat.le_refl _) (Nat.zero_le _) rfl)
  have hB0 : Below w.heap.size w (w.alloc (.cells #[] 3)) := (Below.refl _ _).alloc (Nat.le_refl _) _
  have hO0 := (Only.refl g (g + 1) w).laid hB0
  have hC0 := hc.below hB0
  have H1 := Lib.hid hI0; clear hI0
  go_enter Try.func17, Try.ntmps17
  go_wp2
  go_loopw [5, 6] (fun v i wr => ∃ j : Nat, j ≤ k ∧ i = .int .i64 j ∧ Hid (∃ a' c' ys, v = .slice a' j c' ∧ OwI wr w.heap.size wr.heap.size a' j c' ys ∧ ∀ y ∈ ys, -9 ≤ y ∧ y ≤ 9) ∧ Cur wr g a m c xs ∧ Only g (g + 1) w wr) (fun _ i _ => k - (intOf i).toNat)
  case atStart => exact ⟨0, Nat.zero_le _, rfl, ⟨_, _, [], rfl, H1.out, by simp⟩, hC0, hO0⟩
  case round =>
    clear hB0 hO0 hC0 H1
    obtain ⟨j, hj, rfl, HV, hC, hO⟩ := hrel
    obtain ⟨wo, rfl⟩ : ∃ wo : World, wo = wr := ⟨_, rfl⟩
    obtain ⟨a', c', ys, rfl, ho, hys⟩ := HV.out
    clear HV
    have hsz := hO.size
    have HY := Lib.hid hys; clear hys
    by_cases hlt : j < k
    · go_wp2_with fail
      refine (l1Below_any 19 (by omega) (by omega) g a m c xs _ hC).mono ?_
      rintro e w1 ⟨r, rfl, hr, hC1, hO1⟩
      have ho1 := ho.only hO1 (.inr (by omega))
      have hO2 := hO.trans hO1
      have hsz1 := hO1.size
      have q1 : IntKind.i64.wrap ((r : Int) - 9) = (r : Int) - 9 := IntWalk.i64_in _ (by omega)
      go_wp2_with (first | (at_builtin; go_loud (refine wpList_pushI (by rfl) (by rfl) _ _ (by rfl) ho1 (by rfl) (by rfl) (by omega) (by omega) ?_)))
      intro a2 c2 w2 ho2 hg2
      have hO3 := hg2.only (B := w.heap.size) (S := w1.heap.size) (fun k hk => ho1.1.lo k hk) (fun k hk => Nat.lt_of_lt_of_le (ho1.2 k hk) hsz1)
      have hO4 := hO2.new hO3 (Nat.le_refl _)
      have hC2 := hC1.only hO3 hgw
      have HY2 := Lib.hid (show ∀ y ∈ ys ++ [(r : Int) - 9], -9 ≤ y ∧ y ≤ 9 by
        intro y hy
        rcases List.mem_append.1 hy with hy | hy
        · exact HY.out y hy
        · rw [List.mem_singleton] at hy
          omega)
      clear q1
      go_wp2
      go_roundw
      case rel => exact ⟨j + 1, by omega, by go_num, ⟨_, _, _, rfl, ho2, HY2.out⟩, hC2, hO4⟩
      case measure => simp [intOf]; omega
    · obtain rfl : j = k := by omega
      have Ho := Lib.hid ho
      clear ho
      go_wp2
      go_ret
      exact ⟨ys, _, _, rfl, HY.out, Ho.out, hC, hO⟩
end Go.Proofs.Ytjljacmepidgcaa
