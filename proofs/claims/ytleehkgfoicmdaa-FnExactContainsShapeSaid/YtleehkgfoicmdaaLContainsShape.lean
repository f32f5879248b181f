/-
  Law FnExactContainsShape: for every two lists of integers the program's ContainsShape and the reference's return the same. No condition.
-/
import Derived.Test.YtleehkgfoicmdaaContains
import Derived.Test.YtleehkgfoicmdaaToIntS
import Derived.Test.YtleehkgfoicmdaaEqIntS
namespace Go.Proofs.Ytleehkgfoicmdaa
open Go.RowKit

set_option maxHeartbeats 800000 in
theorem lawContainsShape_walk (w : World) (a : Option Addr) (n c : Nat) (xs : List Int) (hr : RI w a xs) (hn : xs.length = n) (hb : n ≤ 9223372036854775807) (_hz : ∀ x ∈ xs, (Lit.int .i64 x).wf = true)
    (b : Option Addr) (m d : Nat) (ys : List Int) (hs : RI w b ys) (hm : ys.length = m) (hb2 : m ≤ 9223372036854775807) (_hz2 : ∀ x ∈ ys, (Lit.int .i64 x).wf = true) :
    Calls Try.prog 4 #[.slice a n c, .slice b m d] w fun e w' => e = .returned (.bool true) ∧ Below w.heap.size w w' := by
  have Hn := Lib.hid hn; clear hn
  have Hm := Lib.hid hm; clear hm
  by_cases hbig : 1048576 < n
  · go_enter Try.func4, Try.ntmps4
    go_wp2
    go_ret
    exact ⟨rfl, Below.refl _ _⟩
  · by_cases hbig2 : 1048576 < m
    · go_enter Try.func4, Try.ntmps4
      go_wp2
      go_ret
      exact ⟨rfl, Below.refl _ _⟩
    · go_enter Try.func4, Try.ntmps4
      go_wp2_with fail
      refine (toIntS_any _ _ _ xs _ hr Hn.out (by omega)).mono ?_
      rintro e w1 ⟨a1, c1, rfl, ho1, hb1⟩
      go_wp2_with fail
      refine (toIntS_any _ _ _ ys _ (hs.below hb1) Hm.out (by omega)).mono ?_
      rintro e w2 ⟨a2, c2, rfl, ho2, hb2'⟩
      have hB2 := hb1.trans (hb2'.mono hb1.size)
      go_wp2_with fail
      refine (specContains_any _ _ _ _ _ _ xs ys _ (ho1.ri.below hb2') ho2.ri Hn.out Hm.out (by omega) (by omega)).mono ?_
      rintro e w3 ⟨rfl, hd3⟩
      have hB3 := hB2.trans (hd3.below _)
      go_wp2_with fail
      refine (toIntS_any _ _ _ xs _ (hr.below hB3) Hn.out (by omega)).mono ?_
      rintro e w4 ⟨a4, c4, rfl, ho4, hb4⟩
      have hB4 := hB3.trans (hb4.mono hB3.size)
      go_wp2_with fail
      refine (toIntS_any _ _ _ ys _ (hs.below hB4) Hm.out (by omega)).mono ?_
      rintro e w5 ⟨a5, c5, rfl, ho5, hb5⟩
      have hB5 := hB4.trans (hb5.mono hB4.size)
      go_wp2_with fail
      refine (implContains_any _ _ _ _ _ _ xs ys _ (ho4.ri.below hb5) ho5.ri Hn.out Hm.out (by omega) (by omega)).mono ?_
      rintro e w6 ⟨rfl, hd6⟩
      have hB6 := hB5.trans (hd6.below _)
      go_wp2_with fail
      refine (toIntS_any _ _ _ xs _ (hr.below hB6) Hn.out (by omega)).mono ?_
      rintro e w7 ⟨a7, c7, rfl, ho7, hb7⟩
      have hB7 := hB6.trans (hb7.mono hB6.size)
      go_wp2_with fail
      refine (is (eqIntS_any _ _ _ _ _ _ xs xs _ (((ho4.ri.below hb5).drew hd6).below hb7) ho7.ri Hn.out Hn.out (by omega)) (by simp : _ = true)).mono ?_
      rintro e w8 ⟨rfl, hd8⟩
      have hB8 := hB7.trans (hd8.below _)
      go_wp2_with fail
      refine (toIntS_any _ _ _ ys _ (hs.below hB8) Hm.out (by omega)).mono ?_
      rintro e w9 ⟨a9, c9, rfl, ho9, hb9⟩
      have hB9 := hB8.trans (hb9.mono hB8.size)
      go_wp2_with fail
      refine (is (eqIntS_any _ _ _ _ _ _ ys ys _ ((((ho5.ri.drew hd6).below hb7).drew hd8).below hb9) ho9.ri Hm.out Hm.out (by omega)) (by simp : _ = true)).mono ?_
      rintro e w10 ⟨rfl, hd10⟩
      have hB10 := hB9.trans (hd10.below _)
      go_wp2
      go_ret
      exact ⟨rfl, hB10⟩
end Go.Proofs.Ytleehkgfoicmdaa
