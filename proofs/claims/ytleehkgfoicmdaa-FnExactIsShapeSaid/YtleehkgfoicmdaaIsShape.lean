/-
  Law FnExactIsShape: for every list of integers the program's IsShape and the reference's return the same. No condition.
-/
import Derived.Test.YtleehkgfoicmdaaA4
namespace Go.Proofs.Ytleehkgfoicmdaa
open Go.RowKit

set_option maxHeartbeats 400000 in
theorem lawIsShape_walk (w : World) (a : Option Addr) (n c : Nat) (xs : List Int) (hr : RI w a xs) (hn : xs.length = n) (hb : n ≤ 9223372036854775807) (_hz : ∀ x ∈ xs, (Lit.int .i64 x).wf = true) :
    Calls Try.prog 3 #[.slice a n c] w fun e w' => e = .returned (.bool true) ∧ Below w.heap.size w w' := by
  have Hn := Lib.hid hn; clear hn
  by_cases hbig : 1048576 < n
  · go_enter Try.func3, Try.ntmps3
    go_wp2
    go_ret
    exact ⟨rfl, Below.refl _ _⟩
  · go_enter Try.func3, Try.ntmps3
    go_wp2_with fail
    refine (toIntS_any _ _ _ xs _ hr Hn.out (by omega)).mono ?_
    rintro e w1 ⟨a1, c1, rfl, ho1, hb1⟩
    go_wp2_with fail
    refine (specIsShape_any _ _ _ xs _ ho1.ri Hn.out (by omega)).mono ?_
    rintro e w2 ⟨rfl, hd2⟩
    have hb2 := hb1.trans (hd2.below _)
    go_wp2_with fail
    refine (toIntS_any _ _ _ xs _ (hr.below hb2) Hn.out (by omega)).mono ?_
    rintro e w3 ⟨a3, c3, rfl, ho3, hb3⟩
    go_wp2_with fail
    refine (implIsShape_any _ _ _ xs _ ho3.ri Hn.out (by omega)).mono ?_
    rintro e w4 ⟨rfl, hd4⟩
    have hb4 := (hb2.trans (hb3.mono hb2.size)).trans (hd4.below _)
    go_wp2_with fail
    refine (toIntS_any _ _ _ xs _ (hr.below hb4) Hn.out (by omega)).mono ?_
    rintro e w5 ⟨a5, c5, rfl, ho5, hb5⟩
    go_wp2_with fail
    refine (eqIntS_any _ _ _ _ _ _ xs xs _ ((ho3.ri.drew hd4).below hb5) ho5.ri Hn.out Hn.out (by omega)).mono ?_
    rintro e w6 ⟨rfl, hd6⟩
    have hxx : decide (xs = xs) = true := by simp
    rw [hxx]
    have hb6 := (hb4.trans (hb5.mono hb4.size)).trans (hd6.below _)
    clear hxx
    go_wp2
    go_ret
    exact ⟨rfl, hb6⟩
end Go.Proofs.Ytleehkgfoicmdaa
