/-
  Contracts of demazure, isobaric and of what AtomOf adds, of impl.
-/
import Derived.Test.YtiiiiolifpaehaaPolyDiv
namespace Go.Proofs.Ytiiiiolifpaehaa
open Go.RowKit

set_option maxRecDepth 100000 in
set_option maxHeartbeats 1600000 in
theorem implDem_any (b : Nat) (i : Nat) (I : Int) (F : Mons) (w : World) (hF : PF w b F) (hI : I = (i : Int)) (hi : i ≤ 5) (htop : ∀ p ∈ canon F, dig p.1 i ≤ 126) :
    Calls Try.prog 146 #[.map (some b), .int .i64 I] w fun e w' => ∃ r, e = .returned (.map (some r)) ∧ w.heap.size ≤ r ∧ PF w' r (demM i F) ∧ Below w.heap.size w w' := by
  subst hI
  go_enter Try.func146, Try.ntmps146
  go_wp2_with fail
  refine (raised_any b i _ F _ hF rfl (by omega) htop).mono ?_
  rintro e w1 ⟨r1, rfl, hr1, hF1, hB1⟩
  go_wp2_with fail
  refine (divided_any r1 i _ (raisedM i F) _ hF1 rfl hi).mono ?_
  rintro e w2 ⟨r2, rfl, hr2, hF2, hB2⟩
  have hB := hB1.trans (hB2.mono hB1.size)
  have hr : w.heap.size ≤ r2 := Nat.le_trans hB1.size hr2
  go_wp2
  go_ret
  exact ⟨_, rfl, hr, hF2, hB⟩

set_option maxRecDepth 100000 in
set_option maxHeartbeats 1600000 in
theorem implIso_any (b : Nat) (i : Nat) (I : Int) (F : Mons) (w : World) (hF : PF w b F) (hI : I = (i : Int)) (hi : i ≤ 5) (htop : ∀ p ∈ canon F, dig p.1 (i + 1) ≤ 126) :
    Calls Try.prog 151 #[.map (some b), .int .i64 I] w fun e w' => ∃ r, e = .returned (.map (some r)) ∧ w.heap.size ≤ r ∧ PF w' r (isoM i F) ∧ Below w.heap.size w w' := by
  subst hI
  go_enter Try.func151, Try.ntmps151
  go_wp2_with fail
  refine (raised_any b (i + 1) _ F _ hF (by simp) (by omega) htop).mono ?_
  rintro e w1 ⟨r1, rfl, hr1, hF1, hB1⟩
  go_wp2_with fail
  refine (plus_any b r1 (-1) F (raisedM (i + 1) F) _ (hF.below hB1) hF1).mono ?_
  rintro e w2 ⟨r2, rfl, hr2, hF2, hB2⟩
  have hB3 := hB1.trans (hB2.mono hB1.size)
  go_wp2_with fail
  refine (divided_any r2 i _ (plusM F (-1) (raisedM (i + 1) F)) _ hF2 rfl hi).mono ?_
  rintro e w3 ⟨r3, rfl, hr3, hF3, hB4⟩
  have hB := hB3.trans (hB4.mono hB3.size)
  have hr : w.heap.size ≤ r3 := Nat.le_trans hB3.size hr3
  go_wp2
  go_ret
  exact ⟨_, rfl, hr, hF3, hB⟩

set_option maxRecDepth 100000 in
set_option maxHeartbeats 1600000 in
theorem implAtom_any (b : Nat) (i : Nat) (I : Int) (F : Mons) (w : World) (hF : PF w b F) (hI : I = (i : Int)) (hi : i ≤ 5) (htop : ∀ p ∈ canon F, dig p.1 i ≤ 126) :
    Calls Try.prog 153 #[.map (some b), .int .i64 I] w fun e w' => ∃ r, e = .returned (.map (some r)) ∧ w.heap.size ≤ r ∧ PF w' r (atomM i F) ∧ Below w.heap.size w w' := by
  subst hI
  go_enter Try.func153, Try.ntmps153
  go_wp2_with fail
  refine (implDem_any b i _ F _ hF rfl hi htop).mono ?_
  rintro e w1 ⟨r1, rfl, hr1, hF1, hB1⟩
  go_wp2_with fail
  refine (plus_any r1 b (-1) (demM i F) F _ hF1 (hF.below hB1)).mono ?_
  rintro e w2 ⟨r2, rfl, hr2, hF2, hB2⟩
  have hB := hB1.trans (hB2.mono hB1.size)
  have hr : w.heap.size ≤ r2 := Nat.le_trans hB1.size hr2
  go_wp2
  go_ret
  exact ⟨_, rfl, hr, hF2, hB⟩
end Go.Proofs.Ytiiiiolifpaehaa
