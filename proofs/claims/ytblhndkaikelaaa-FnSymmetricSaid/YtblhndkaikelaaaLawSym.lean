/-
  IsSymmetricAt and AtomOf of the program, within the limits.
-/
import Derived.Test.YtblhndkaikelaaaLawSwap
import Derived.Test.YtblhndkaikelaaaSymAt
namespace Go.Proofs.Ytblhndkaikelaaa
open Go.RowKit

theorem implSym_ok (a : Option Addr) (n c : Nat) (F : Mons) (i : Nat) (I : Int) (b : Bool) (w : World) (h : PT w a n F) (hI : I = (i : Int)) (hi : i ≤ 5) (hF : OKp F) (hR : OKp (swapM i F)) (hb : decide (termsM F = termsM (swapM i F)) = b) :
    Calls Try.prog 23 #[.slice a n c, .int .i64 I] w fun e w' => e = .returned (.bool b) ∧ Below w.heap.size w w' := by
  subst hI
  obtain ⟨h1, _⟩ := op_terms (op := swapM) (fun h => swapM_eqv h) hi hF hR
  have hs := h.small
  refine (implSym_any a n c (termsM F) (i : Int) w h.rd h.len (by omega) (fun p hp => terms_short F p hp) (by omega) (by omega)).mono ?_
  rintro e w1 ⟨r, rfl, hr, hB⟩
  refine ⟨?_, hB⟩
  rw [hr.out]
  unfold symOk
  rw [hF.ok, isVar_nat hi, h1, hb]
  rfl
theorem implAtom_ok (a : Option Addr) (n c : Nat) (F : Mons) (i : Nat) (I : Int) (w : World) (h : PT w a n F) (hI : I = (i : Int)) (hi : i ≤ 5) (hF : OKp F) (hR : OKp (atomM i F)) :
    Calls Try.prog 25 #[.slice a n c, .int .i64 I] w fun e w' => ∃ a' n' c', e = .returned (.tuple #[.slice a' n' c', .bool true]) ∧ PT w' a' n' (atomM i F) ∧ Below w.heap.size w w' := by
  subst hI
  obtain ⟨h1, h2⟩ := op_terms (op := atomM) (fun h => atomM_eqv h) hi hF hR
  have hs := h.small
  refine (implAtomOf_any a n c (termsM F) (i : Int) w h.rd h.len (by omega) (fun p hp => terms_short F p hp) (by omega) (by omega)).mono ?_
  rintro e w1 ⟨a1, n1, c1, r1, rfl, ho, hr, hb⟩
  obtain rfl : r1 = true := by rw [hr.out]; exact h2
  rw [h1] at ho
  exact ⟨_, _, _, rfl, PT.of ho hR, hb⟩
end Go.Proofs.Ytblhndkaikelaaa
