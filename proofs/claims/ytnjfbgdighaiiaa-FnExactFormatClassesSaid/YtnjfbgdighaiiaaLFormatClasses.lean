/-
  Law FnExactFormatClasses: for every input the program's FormatClasses and the reference's return the same. No condition. Written by a program of ours (lawgen.py).
-/
import Derived.Test.YtnjfbgdighaiiaaFmtClasses2
namespace Go.Proofs.Ytnjfbgdighaiiaa
open Go.RowKit

set_option maxHeartbeats 3200000 in
theorem lawFormatClasses_walk (w : World) (a0 : Option Addr) (n0 c0 : Nat) (x0 : List (List Int × Int)) (hr0 : RP w a0 x0) (hn0 : x0.length = n0) (hb0 : Wide_P n0 x0) (_hz0 : Wf_P x0) :
    Calls Try.prog 6 #[.slice a0 n0 c0] w fun e w' => e = .returned (.bool true) ∧ Below w.heap.size w w' := by
  have Hn0 := Lib.hid hn0; clear hn0
  obtain ⟨m0, hm0⟩ : ∃ m, ms_P x0 = m := ⟨_, rfl⟩
  have HM0 := Lib.hid hm0
  by_cases hbig : (1048576 : Int) < (m0 : Int)
  · have hq := Lib.hid (leftOf_lt hbig)
    clear hm0
    go_enter Try.func6, Try.ntmps6
    go_wp2_with fail
    refine (isInt (szl_P _ _ _ x0 1048576 _ hr0 Hn0.out (by omega) (by omega) hb0) (by rw [HM0.out, hq.out])).mono ?_
    rintro e w1 ⟨rfl, hb1⟩
    go_wp2
    go_ret
    exact ⟨rfl, hb1⟩
  have hnb0 : n0 ≤ 1048576 := by have := ms_P_len x0; have := Hn0.out; omega
  obtain ⟨Zx0, hZx0⟩ : ∃ Z, sz_P x0 = Z := ⟨_, rfl⟩
  have hZxb0 : Zx0 ≤ 2097152 := by have := ms_P_sz x0; omega
  have HS0 := Lib.hid (ms_P_short x0 (by omega))
  have HZx0 := Lib.hid hZx0; clear hZx0 hm0
  obtain ⟨q0, hq0⟩ : ∃ q : Nat, leftOf 1048576 (m0 : Int) = (q : Int) := ⟨1048576 - m0, by rw [leftOf_ge hbig]; omega⟩
  have HQ0 := Lib.hid hq0; clear hq0
  go_enter Try.func6, Try.ntmps6
  have hB0 : Below w.heap.size w w := Below.refl _ _
  go_wp2_with fail
  refine (isInt (szl_P _ _ _ x0 1048576 _ hr0 Hn0.out (by omega) (by omega) hb0) (by rw [HM0.out, HQ0.out])).mono ?_
  rintro e w1 ⟨rfl, hb1⟩
  have hB1 := hB0.trans (hb1.mono hB0.size)
  have hsz1 : w.heap.size ≤ w1.heap.size := hb1.size
  go_wp2_with fail
  refine (conv_P _ _ _ x0 _ (hr0.below hB1) Hn0.out (by omega) HS0.out).mono ?_
  rintro e w2 ⟨as0, cs0, rfl, os0, hb2⟩
  have hB2 := hB1.trans (hb2.mono hB1.size)
  have hsz2 : w1.heap.size ≤ w2.heap.size := hb2.size
  go_wp2_with fail
  refine (fclasses_spec _ _ _ x0 _ os0.rd Hn0.out (by omega) HS0.out (counts_of _hz0)).mono ?_
  rintro e w3 ⟨rw0, rfl, Hw0, hb3⟩
  have hB3 := hB2.trans (hb3.mono hB2.size)
  have hsz3 : w2.heap.size ≤ w3.heap.size := hb3.size
  have os0_3 := os0.below hb3; clear os0
  clear os0_3
  go_wp2_with fail
  refine (conv_P _ _ _ x0 _ (hr0.below hB3) Hn0.out (by omega) HS0.out).mono ?_
  rintro e w4 ⟨ax0, cx0, rfl, ox0, hb4⟩
  have hB4 := hB3.trans (hb4.mono hB3.size)
  have hsz4 : w3.heap.size ≤ w4.heap.size := hb4.size
  go_wp2_with fail
  refine (fclasses_impl _ _ _ x0 _ ox0.rd Hn0.out (by omega) HS0.out (counts_of _hz0)).mono ?_
  rintro e w5 ⟨rg0, rfl, Hg0, hb5⟩
  have hB5 := hB4.trans (hb5.mono hB4.size)
  have hsz5 : w4.heap.size ≤ w5.heap.size := hb5.size
  have ox0_5 := ox0.below hb5; clear ox0
  obtain rfl : rw0 = rg0 := by rw [Hw0.out, Hg0.out]
  clear Hg0
  go_wp2_with fail
  refine (conv_P _ _ _ x0 _ (hr0.below hB5) Hn0.out (by omega) HS0.out).mono ?_
  rintro e w6 ⟨ay0, cy0, rfl, oy0, hb6⟩
  have hB6 := hB5.trans (hb6.mono hB5.size)
  have hsz6 : w5.heap.size ≤ w6.heap.size := hb6.size
  have ox0_6 := ox0_5.below hb6; clear ox0_5
  go_wp2_with fail
  refine (is (eq_P _ _ _ _ _ _ _ _ _ ox0_6.rd oy0.rd Hn0.out Hn0.out (by omega) HS0.out) (by simp : _ = true)).mono ?_
  rintro e w7 ⟨rfl, hb7⟩
  have hB7 := hB6.trans (hb7.mono hB6.size)
  have hsz7 : w6.heap.size ≤ w7.heap.size := hb7.size
  have ox0_7 := ox0_6.below hb7; clear ox0_6
  have oy0_7 := oy0.below hb7; clear oy0
  clear oy0_7
  go_wp2
  go_ret
  exact ⟨rfl, hB7⟩
end Go.Proofs.Ytnjfbgdighaiiaa
