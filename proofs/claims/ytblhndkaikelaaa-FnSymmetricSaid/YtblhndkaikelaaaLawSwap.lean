/-
  SwapVariables of the program, within the limits.
-/
import Derived.Test.YtblhndkaikelaaaBuH4
import Derived.Test.YtblhndkaikelaaaImplSwap
namespace Go.Proofs.Ytblhndkaikelaaa
open Go.RowKit

theorem implSwap_ok (a : Option Addr) (n c : Nat) (F : Mons) (i : Nat) (I : Int) (w : World) (h : PT w a n F) (hI : I = (i : Int)) (hi : i ≤ 5) (hF : OKp F) (hR : OKp (swapM i F)) :
    Calls Try.prog 20 #[.slice a n c, .int .i64 I] w fun e w' => ∃ a' n' c', e = .returned (.slice a' n' c') ∧ PT w' a' n' (swapM i F) ∧ Below w.heap.size w w' := by
  subst hI
  obtain ⟨h1, _⟩ := op_terms (op := swapM) (fun h => swapM_eqv h) hi hF hR
  have hs := h.small
  refine (implSwap_any a n c (termsM F) (i : Int) w h.rd h.len (by omega) hF.ok (isVar_nat hi)).mono ?_
  rintro e w1 ⟨a1, n1, c1, rfl, ho, hb⟩
  rw [h1] at ho
  exact ⟨_, _, _, rfl, PT.of ho hR, hb⟩
end Go.Proofs.Ytblhndkaikelaaa
