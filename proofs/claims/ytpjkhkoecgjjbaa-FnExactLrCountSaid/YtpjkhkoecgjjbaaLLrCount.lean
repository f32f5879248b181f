/-
  Law FnExactLrCount: for every input the program's LrCount and the reference's return the same. No condition. Written by a program of ours (lawgen.py).
-/
import Derived.Test.YtpjkhkoecgjjbaaBuL12
import Derived.Test.YtpjkhkoecgjjbaaBuL1
namespace Go.Proofs.Ytpjkhkoecgjjbaa
open Go.RowKit

set_option maxHeartbeats 3200000 in
theorem lawLrCount_walk (w : World) (a0 : Option Addr) (n0 c0 : Nat) (x0 : List Int) (hr0 : RI w a0 x0) (hn0 : x0.length = n0) (hb0 : n0 ≤ 9223372036854775807) (_hz0 : ∀ x ∈ x0, (Lit.int .i64 x).wf = true) (a1 : Option Addr) (n1 c1 : Nat) (x1 : List Int) (hr1 : RI w a1 x1) (hn1 : x1.length = n1) (hb1 : n1 ≤ 9223372036854775807) (_hz1 : ∀ x ∈ x1, (Lit.int .i64 x).wf = true) (a2 : Option Addr) (n2 c2 : Nat) (x2 : List Int) (hr2 : RI w a2 x2) (hn2 : x2.length = n2) (hb2 : n2 ≤ 9223372036854775807) (_hz2 : ∀ x ∈ x2, (Lit.int .i64 x).wf = true) :
    Calls Try.prog 4 #[.slice a0 n0 c0, .slice a1 n1 c1, .slice a2 n2 c2] w fun e w' => e = .returned (.bool true) ∧ Below w.heap.size w w' := by
  have Hn0 := Lib.hid hn0; clear hn0
  have Hn1 := Lib.hid hn1; clear hn1
  have Hn2 := Lib.hid hn2; clear hn2
  by_cases hbig0 : 1048576 < n0
  · go_enter Try.func4, Try.ntmps4
    go_wp2
    go_ret
    exact ⟨rfl, Below.refl _ _⟩
  by_cases hbig1 : 1048576 < n1
  · go_enter Try.func4, Try.ntmps4
    go_wp2
    go_ret
    exact ⟨rfl, Below.refl _ _⟩
  by_cases hbig2 : 1048576 < n2
  · go_enter Try.func4, Try.ntmps4
    go_wp2
    go_ret
    exact ⟨rfl, Below.refl _ _⟩
  go_enter Try.func4, Try.ntmps4
  have hB0 : Below w.heap.size w w := Below.refl _ _
  go_wp2_with fail
  refine (conv_I _ _ _ x0 _ (hr0.below hB0) Hn0.out (by omega)).mono ?_
  rintro e w1 ⟨as0, cs0, rfl, os0, hb1⟩
  have hB1 := hB0.trans (hb1.mono hB0.size)
  have hsz1 : w.heap.size ≤ w1.heap.size := hb1.size
  go_wp2_with fail
  refine (conv_I _ _ _ x1 _ (hr1.below hB1) Hn1.out (by omega)).mono ?_
  rintro e w2 ⟨as1, cs1, rfl, os1, hb2⟩
  have hB2 := hB1.trans (hb2.mono hB1.size)
  have hsz2 : w1.heap.size ≤ w2.heap.size := hb2.size
  have os0_2 := os0.below hb2; clear os0
  go_wp2_with fail
  refine (conv_I _ _ _ x2 _ (hr2.below hB2) Hn2.out (by omega)).mono ?_
  rintro e w3 ⟨as2, cs2, rfl, os2, hb3⟩
  have hB3 := hB2.trans (hb3.mono hB2.size)
  have hsz3 : w2.heap.size ≤ w3.heap.size := hb3.size
  have os0_3 := os0_2.below hb3; clear os0_2
  have os1_3 := os1.below hb3; clear os1
  go_wp2_with fail
  refine (specLr_law _ _ _ x0 _ _ _ x1 _ _ _ x2 _ os0_3.rd Hn0.out (by omega) os0_3.1.lt os1_3.rd Hn1.out (by omega) os1_3.1.lt os2.rd Hn2.out (by omega) os2.1.lt).mono ?_
  rintro e w4 ⟨rw0, rfl, Hw0, hb4⟩
  have hB4 := hB3.trans (hb4.mono hB3.size)
  have hsz4 : w3.heap.size ≤ w4.heap.size := hb4.size
  have os0_4 := os0_3.below hb4; clear os0_3
  have os1_4 := os1_3.below hb4; clear os1_3
  have os2_4 := os2.below hb4; clear os2
  clear os0_4
  clear os1_4
  clear os2_4
  go_wp2_with fail
  refine (conv_I _ _ _ x0 _ (hr0.below hB4) Hn0.out (by omega)).mono ?_
  rintro e w5 ⟨ax0, cx0, rfl, ox0, hb5⟩
  have hB5 := hB4.trans (hb5.mono hB4.size)
  have hsz5 : w4.heap.size ≤ w5.heap.size := hb5.size
  go_wp2_with fail
  refine (conv_I _ _ _ x1 _ (hr1.below hB5) Hn1.out (by omega)).mono ?_
  rintro e w6 ⟨ax1, cx1, rfl, ox1, hb6⟩
  have hB6 := hB5.trans (hb6.mono hB5.size)
  have hsz6 : w5.heap.size ≤ w6.heap.size := hb6.size
  have ox0_6 := ox0.below hb6; clear ox0
  go_wp2_with fail
  refine (conv_I _ _ _ x2 _ (hr2.below hB6) Hn2.out (by omega)).mono ?_
  rintro e w7 ⟨ax2, cx2, rfl, ox2, hb7⟩
  have hB7 := hB6.trans (hb7.mono hB6.size)
  have hsz7 : w6.heap.size ≤ w7.heap.size := hb7.size
  have ox0_7 := ox0_6.below hb7; clear ox0_6
  have ox1_7 := ox1.below hb7; clear ox1
  go_wp2_with fail
  refine (implLr_any _ _ _ x0 _ _ _ x1 _ _ _ x2 _ ox0_7.rd Hn0.out (by omega) ox0_7.1.lt ox1_7.rd Hn1.out (by omega) ox1_7.1.lt ox2.rd Hn2.out (by omega) ox2.1.lt).mono ?_
  rintro e w8 ⟨rg0, rfl, Hg0, hb8⟩
  have hB8 := hB7.trans (hb8.mono hB7.size)
  have hsz8 : w7.heap.size ≤ w8.heap.size := hb8.size
  have ox0_8 := ox0_7.below hb8; clear ox0_7
  have ox1_8 := ox1_7.below hb8; clear ox1_7
  have ox2_8 := ox2.below hb8; clear ox2
  obtain rfl : rw0 = rg0 := by rw [Hw0.out, Hg0.out]
  clear Hg0
  go_wp2_with fail
  refine (conv_I _ _ _ x0 _ (hr0.below hB8) Hn0.out (by omega)).mono ?_
  rintro e w9 ⟨ay0, cy0, rfl, oy0, hb9⟩
  have hB9 := hB8.trans (hb9.mono hB8.size)
  have hsz9 : w8.heap.size ≤ w9.heap.size := hb9.size
  have ox0_9 := ox0_8.below hb9; clear ox0_8
  have ox1_9 := ox1_8.below hb9; clear ox1_8
  have ox2_9 := ox2_8.below hb9; clear ox2_8
  go_wp2_with fail
  refine (is (eq_I _ _ _ _ _ _ _ _ _ ox0_9.rd oy0.rd Hn0.out Hn0.out (by omega)) (by simp : _ = true)).mono ?_
  rintro e w10 ⟨rfl, hd10⟩
  have hb10 : Below w9.heap.size w9 w10 := hd10.below _
  have hB10 := hB9.trans (hb10.mono hB9.size)
  have hsz10 : w9.heap.size ≤ w10.heap.size := hb10.size
  have ox0_10 := ox0_9.below hb10; clear ox0_9
  have ox1_10 := ox1_9.below hb10; clear ox1_9
  have ox2_10 := ox2_9.below hb10; clear ox2_9
  have oy0_10 := oy0.below hb10; clear oy0
  clear oy0_10
  go_wp2_with fail
  refine (conv_I _ _ _ x1 _ (hr1.below hB10) Hn1.out (by omega)).mono ?_
  rintro e w11 ⟨ay1, cy1, rfl, oy1, hb11⟩
  have hB11 := hB10.trans (hb11.mono hB10.size)
  have hsz11 : w10.heap.size ≤ w11.heap.size := hb11.size
  have ox0_11 := ox0_10.below hb11; clear ox0_10
  have ox1_11 := ox1_10.below hb11; clear ox1_10
  have ox2_11 := ox2_10.below hb11; clear ox2_10
  go_wp2_with fail
  refine (is (eq_I _ _ _ _ _ _ _ _ _ ox1_11.rd oy1.rd Hn1.out Hn1.out (by omega)) (by simp : _ = true)).mono ?_
  rintro e w12 ⟨rfl, hd12⟩
  have hb12 : Below w11.heap.size w11 w12 := hd12.below _
  have hB12 := hB11.trans (hb12.mono hB11.size)
  have hsz12 : w11.heap.size ≤ w12.heap.size := hb12.size
  have ox0_12 := ox0_11.below hb12; clear ox0_11
  have ox1_12 := ox1_11.below hb12; clear ox1_11
  have ox2_12 := ox2_11.below hb12; clear ox2_11
  have oy1_12 := oy1.below hb12; clear oy1
  clear oy1_12
  go_wp2_with fail
  refine (conv_I _ _ _ x2 _ (hr2.below hB12) Hn2.out (by omega)).mono ?_
  rintro e w13 ⟨ay2, cy2, rfl, oy2, hb13⟩
  have hB13 := hB12.trans (hb13.mono hB12.size)
  have hsz13 : w12.heap.size ≤ w13.heap.size := hb13.size
  have ox0_13 := ox0_12.below hb13; clear ox0_12
  have ox1_13 := ox1_12.below hb13; clear ox1_12
  have ox2_13 := ox2_12.below hb13; clear ox2_12
  go_wp2_with fail
  refine (is (eq_I _ _ _ _ _ _ _ _ _ ox2_13.rd oy2.rd Hn2.out Hn2.out (by omega)) (by simp : _ = true)).mono ?_
  rintro e w14 ⟨rfl, hd14⟩
  have hb14 : Below w13.heap.size w13 w14 := hd14.below _
  have hB14 := hB13.trans (hb14.mono hB13.size)
  have hsz14 : w13.heap.size ≤ w14.heap.size := hb14.size
  have ox0_14 := ox0_13.below hb14; clear ox0_13
  have ox1_14 := ox1_13.below hb14; clear ox1_13
  have ox2_14 := ox2_13.below hb14; clear ox2_13
  have oy2_14 := oy2.below hb14; clear oy2
  clear oy2_14
  go_wp2
  go_ret
  exact ⟨rfl, hB14⟩
end Go.Proofs.Ytpjkhkoecgjjbaa
