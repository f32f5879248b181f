/-
  Contract of DrawSmallPerms: three permutations of one size of at most 4.
-/
import Derived.Test.YtflkomgfgmephaaBuH3
namespace Go.Proofs.Ytflkomgfgmephaa
open Go.RowKit

def SmallPost (w : World) (e : Ending) (w' : World) : Prop :=
  ∃ n u v z a1 c1 a2 c2 a3 c3, e = .returned (.tuple #[.slice a1 n c1, .slice a2 n c2, .slice a3 n c3]) ∧ (2 ≤ n ∧ n ≤ 4) ∧ u ∈ perms n ∧ v ∈ perms n ∧ z ∈ perms n ∧ OwI w' w.heap.size w'.heap.size a1 n c1 u ∧ OwI w' w.heap.size w'.heap.size a2 n c2 v ∧ OwI w' w.heap.size w'.heap.size a3 n c3 z ∧ Below w.heap.size w w'
set_option maxRecDepth 100000 in
set_option maxHeartbeats 3200000 in
theorem drawSmall_any (a : Option Addr) (m c : Nat) (xs : List Int) (w : World) (hr : RB w a xs) (hm : xs.length = m) (hb : m ≤ 1048576) (hx : Bytes xs) :
    Calls Try.prog 24 #[.slice a m c] w (SmallPost w) := by
  go_enter Try.func24, Try.ntmps24
  go_wp2_with fail
  refine (l1New_any _ _ _ xs _ hr hm hb hx).mono ?_
  rintro e w1 ⟨rfl, hC1, hB1, hz1⟩
  clear hr
  go_wp2_with fail
  refine (l1Below_any 3 (by omega) (by omega) _ _ _ _ _ _ hC1).mono ?_
  rintro e w2 ⟨r, rfl, hr3, hC2, hO2⟩
  have hz2 := hO2.size
  have h1 : 1 ≤ 2 + r := by omega
  have h4 : 2 + r ≤ 4 := by omega
  clear hC1
  go_wp2_with fail
  refine (dPerm_at _ (2 + r) (by omega) h1 (by omega) _ _ _ _ _ _ hC2).mono ?_
  rintro e w3 ⟨u, a3, c3, rfl, hu, ho3, hC3, hO3⟩
  have HU := Lib.hid hu; clear hu
  have hO3' := hO2.trans hO3
  have hz3 := hO3.size
  clear hC2
  go_wp2_with fail
  refine (dPerm_at _ (2 + r) (by omega) h1 (by omega) _ _ _ _ _ _ hC3).mono ?_
  rintro e w4 ⟨v, a4, c4, rfl, hv, ho4, hC4, hO4⟩
  have HV := Lib.hid hv; clear hv
  have hO4' := hO3'.trans hO4
  have ho34 := ho3.only hO4 (.inr (by omega))
  have hz4 := hO4.size
  clear hC3 ho3
  go_wp2_with fail
  refine (dPerm_at _ (2 + r) (by omega) h1 (by omega) _ _ _ _ _ _ hC4).mono ?_
  rintro e w5 ⟨z, a5, c5, rfl, hz, ho5, hC5, hO5⟩
  have HZ := Lib.hid hz; clear hz
  have hz5 := hO5.size
  have ho6 := (ho34.only hO5 (.inr (by omega))).mono (B' := w.heap.size) (S' := w5.heap.size) (by omega) (by omega)
  have ho7 := (ho4.only hO5 (.inr (by omega))).mono (B' := w.heap.size) (S' := w5.heap.size) (by omega) (by omega)
  have ho8 := ho5.mono (B' := w.heap.size) (S' := w5.heap.size) (by omega) (Nat.le_refl _)
  have hBf := (hO4'.trans hO5).below hB1 (Nat.le_refl _) (by omega)
  go_wp2
  go_ret3
  exact ⟨_, _, _, _, _, _, _, _, _, _, rfl, ⟨by omega, h4⟩, HU.out, HV.out, HZ.out, ho6, ho7, ho8, hBf⟩
end Go.Proofs.Ytflkomgfgmephaa
