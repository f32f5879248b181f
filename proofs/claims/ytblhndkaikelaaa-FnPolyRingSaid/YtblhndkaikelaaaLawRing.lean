/-
  MulPolys of the reference and EvaluatePoly of the program, within the limits.
-/
import Derived.Test.YtblhndkaikelaaaRingLaw
import Derived.Test.YtblhndkaikelaaaMulP
namespace Go.Proofs.Ytblhndkaikelaaa
open Go.RowKit

theorem specMul_ok (a b : Option Addr) (n c m d : Nat) (F G : Mons) (w : World) (hx : PT w a n F) (hy : PT w b m G) (hF : OKp F) (hG : OKp G) (hR : OKp (timesM F G)) :
    Calls Try.prog 12 #[.slice a n c, .slice b m d] w fun e w' => ∃ a' n' c', e = .returned (.tuple #[.slice a' n' c', .bool true]) ∧ PT w' a' n' (timesM F G) ∧ Below w.heap.size w w' := by
  have hs1 := hx.small
  have hs2 := hy.small
  obtain ⟨h1, h2⟩ := mul_yes hF.ok hG.ok
  have e0 : Eqv (timesM (monsOf (termsM F)) (monsOf (termsM G))) (timesM F G) := by
    rw [monsOf_terms hF.bd, monsOf_terms hG.bd]
    exact timesM_eqv (canon_self F) (canon_self G)
  rw [termsM_eqv e0] at h2
  rw [closedT_ok (by rw [termsM_eqv e0]; exact hR.ok), termsM_eqv e0] at h1
  refine (specMul_any a b n c m d (termsM F) (termsM G) w hx.rd hy.rd hx.len hy.len (by omega) (by omega)).mono ?_
  rintro e w1 ⟨a1, n1, c1, r1, rfl, ho, hr, hb⟩
  obtain rfl : r1 = true := by rw [hr.out, h2]; exact hR.ok
  rw [h1] at ho
  exact ⟨_, _, _, rfl, PT.of ho hR, hb⟩
theorem implEval_ok (a b : Option Addr) (n c d : Nat) (F : Mons) (ys : List Int) (w : World) (h : PT w a n F) (hF : OKp F) (hn : nrm F ≤ 1000000) (hr : RI w b ys) (hy : ys.length = 7) :
    Calls Try.prog 16 #[.slice a n c, .slice b 7 d] w fun e w' => e = .returned (.int .i64 (vP ys F % 32003)) ∧ Below w.heap.size w w' := by
  have := implEval_any a b n c d F ys w h hF hr hy
  rw [evTo_val hn ys h.len] at this
  exact this
end Go.Proofs.Ytblhndkaikelaaa
