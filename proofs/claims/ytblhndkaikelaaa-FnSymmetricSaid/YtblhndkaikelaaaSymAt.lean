/-
  IsSymmetricAt, both.
-/
import Derived.Test.YtblhndkaikelaaaSpecSwap
import Derived.Test.YtblhndkaikelaaaImplSwap
import Derived.Test.YtblhndkaikelaaaSame
namespace Go.Proofs.Ytblhndkaikelaaa
open Go.RowKit

def symOk (xs : List (List Int × Int)) (x : Int) : Bool := polyOk xs && isVar x && decide (xs = opT swapM xs x)

set_option maxRecDepth 100000 in
set_option maxHeartbeats 1600000 in
theorem implSym_any (a : Option Addr) (n c : Nat) (xs : List (List Int × Int)) (x : Int) (w : World) (hr : RP w a xs) (hn : xs.length = n) (hb : n ≤ 1048576) (_hsh : Short_P xs) (_hl : -9223372036854775808 ≤ x) (_hu : x ≤ 9223372036854775807) :
    Calls Try.prog 23 #[.slice a n c, .int .i64 x] w fun e w' => ∃ r, e = .returned (.bool r) ∧ Hid (r = symOk xs x) ∧ Below w.heap.size w w' := by
  have Hn := Lib.hid hn; clear hn
  cases hok : polyOk xs
  · have H0 := Lib.hid (show symOk xs x = false by unfold symOk; rw [hok]; rfl)
    have Hok := Lib.hid hok
    clear hok
    go_enter Try.func23, Try.ntmps23
    go_wp2_with fail
    refine (is (implPolyOk_any _ _ _ xs _ hr Hn.out hb) Hok.out).mono ?_
    rintro e w1 ⟨rfl, hb1⟩
    go_wp2
    go_ret
    exact ⟨_, rfl, H0.out.symm, hb1⟩
  have Hok := Lib.hid hok
  cases hv : isVar x
  · have H0 := Lib.hid (show symOk xs x = false by unfold symOk; rw [hok, hv]; rfl)
    have Hv := Lib.hid hv
    clear hok hv
    go_enter Try.func23, Try.ntmps23
    go_wp2_with fail
    refine (is (implPolyOk_any _ _ _ xs _ hr Hn.out hb) Hok.out).mono ?_
    rintro e w1 ⟨rfl, hb1⟩
    go_wp2_with fail
    refine (is (isVariable_any x _) Hv.out).mono ?_
    rintro e w2 ⟨rfl, hd2⟩
    have hB2 := hb1.trans (hd2.below _)
    go_wp2
    go_ret
    exact ⟨_, rfl, H0.out.symm, hB2⟩
  have H0 := Lib.hid (show symOk xs x = decide (xs = opT swapM xs x) by unfold symOk; rw [hok, hv]; rfl)
  have Hv := Lib.hid hv
  have Hsh := Lib.hid (show ∀ p ∈ xs, p.1.length ≤ 1048576 from _hsh)
  have HL := Lib.hid (opT_len swapM xs x)
  clear hok hv
  go_enter Try.func23, Try.ntmps23
  go_wp2_with fail
  refine (is (implPolyOk_any _ _ _ xs _ hr Hn.out hb) Hok.out).mono ?_
  rintro e w1 ⟨rfl, hb1⟩
  go_wp2_with fail
  refine (is (isVariable_any x _) Hv.out).mono ?_
  rintro e w2 ⟨rfl, hd2⟩
  have hB2 := hb1.trans (hd2.below _)
  have hr2 := hr.below hB2
  go_wp2_with fail
  refine (implSwap_any _ _ _ xs x _ hr2 Hn.out hb Hok.out Hv.out).mono ?_
  rintro e w3 ⟨a3, n3, c3, rfl, ho3, hb3⟩
  have hB3 := hB2.trans (hb3.mono hB2.size)
  have hr3 := hr.below hB3
  have Ho3 := Lib.hid ho3
  clear ho3
  go_wp2_with fail
  refine (samePoly_any _ _ _ _ _ _ xs (opT swapM xs x) _ hr3 Ho3.out.rd Hn.out Ho3.out.len hb Hsh.out).mono ?_
  rintro e w4 ⟨rfl, hb4⟩
  have hB4 := hB3.trans (hb4.mono hB3.size)
  go_wp2
  go_ret
  exact ⟨_, rfl, H0.out.symm, hB4⟩
end Go.Proofs.Ytblhndkaikelaaa
