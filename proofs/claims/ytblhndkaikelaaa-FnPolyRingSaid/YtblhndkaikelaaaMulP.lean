/-
  Contracts of MulPolys, the program's and the reference's.
-/
import Derived.Test.YtblhndkaikelaaaMulI
import Derived.Test.YtblhndkaikelaaaBuE
import Derived.Test.YtblhndkaikelaaaBuG
import Derived.Test.YtblhndkaikelaaaSpecOf
import Derived.Test.YtblhndkaikelaaaPolyOpen
namespace Go.Proofs.Ytblhndkaikelaaa
open Go.RowKit Go.MapKept Go.ChangeMaps

theorem mulT_len (f g : List (List Int × Int)) : (mulT f g).length ≤ 600 := by
  unfold mulT
  split
  · exact closedT_len _
  · exact Nat.zero_le _

set_option maxRecDepth 100000 in
set_option maxHeartbeats 3200000 in
theorem specMul_any (a b : Option Addr) (n c m d : Nat) (xs ys : List (List Int × Int)) (w : World) (hx : RP w a xs) (hy : RP w b ys) (hn : xs.length = n) (hm : ys.length = m) (hb : n ≤ 1048576) (hb' : m ≤ 1048576) :
    Calls Try.prog 12 #[.slice a n c, .slice b m d] w fun e w' => ∃ a' n' c' r, e = .returned (.tuple #[.slice a' n' c', .bool r]) ∧ TO w' w.heap.size w'.heap.size a' n' c' (mulT xs ys) ∧ Hid (r = mulOk xs ys) ∧ Below w.heap.size w w' := by
  have Hn := Lib.hid hn; clear hn
  have Hm := Lib.hid hm; clear hm
  cases hok : polyOk xs
  · have H0 := Lib.hid (mul_no1 (g := ys) hok)
    have Hok := Lib.hid hok
    clear hok
    go_enter Try.func12, Try.ntmps12
    go_wp2_with fail
    refine (is (specPolyOk_any _ _ _ xs _ hx Hn.out hb) Hok.out).mono ?_
    rintro e w1 ⟨rfl, hb1⟩
    go_wp2
    go_ret2
    exact ⟨_, _, _, _, rfl, by rw [H0.out.1]; exact TO.nil, H0.out.2.symm, hb1⟩
  have Hok := Lib.hid hok
  cases hv : polyOk ys
  · have H0 := Lib.hid (mul_no2 (f := xs) hv)
    have Hv := Lib.hid hv
    clear hok hv
    go_enter Try.func12, Try.ntmps12
    go_wp2_with fail
    refine (is (specPolyOk_any _ _ _ xs _ hx Hn.out hb) Hok.out).mono ?_
    rintro e w1 ⟨rfl, hb1⟩
    have hy1 := hy.below hb1
    go_wp2_with fail
    refine (is (specPolyOk_any _ _ _ ys _ hy1 Hm.out hb') Hv.out).mono ?_
    rintro e w2 ⟨rfl, hb2⟩
    have hB2 := hb1.trans (hb2.mono hb1.size)
    go_wp2
    go_ret2
    exact ⟨_, _, _, _, rfl, by rw [H0.out.1]; exact TO.nil, H0.out.2.symm, hB2⟩
  have H0 := Lib.hid (mul_yes hok hv)
  have Hv := Lib.hid hv
  have HBd := Lib.hid (polyOk_mons hok)
  have HBe := Lib.hid (polyOk_mons hv)
  have hn600 : n ≤ 600 := by rw [← Hn.out]; exact polyOk_len hok
  have hm600 : m ≤ 600 := by rw [← Hm.out]; exact polyOk_len hv
  have Hnm := Lib.hid (Nat.le_trans (Nat.mul_le_mul hn600 hm600) (by omega) : n * m ≤ 1048576)
  clear hok hv
  go_enter Try.func12, Try.ntmps12
  go_wp2_with fail
  refine (is (specPolyOk_any _ _ _ xs _ hx Hn.out hb) Hok.out).mono ?_
  rintro e w1 ⟨rfl, hb1⟩
  have hy1 := hy.below hb1
  go_wp2_with fail
  refine (is (specPolyOk_any _ _ _ ys _ hy1 Hm.out hb') Hv.out).mono ?_
  rintro e w2 ⟨rfl, hb2⟩
  have hB2 := hb1.trans (hb2.mono hb1.size)
  have hx2 := hx.below hB2
  have hy2 := hy.below hB2
  go_wp2_with fail
  refine (l2Open_any _ _ _ xs _ hx2 Hn.out Hok.out).mono ?_
  rintro e w3 ⟨a3, c3, rfl, ho3, hb3⟩
  have hB3 := hB2.trans (hb3.mono hB2.size)
  have hy3 := hy2.below hb3
  have Ho3 := Lib.hid ho3
  clear ho3
  go_wp2_with fail
  refine (l2Open_any _ _ _ ys _ hy3 Hm.out Hv.out).mono ?_
  rintro e w4 ⟨a4, c4, rfl, ho4, hb4⟩
  have hB4 := hB3.trans (hb4.mono hB3.size)
  have Ho4 := Lib.hid ho4
  have Hx4 := Lib.hid (Ho3.out.below hb4)
  clear ho4
  go_wp2_with fail
  refine (l2Times_any _ _ _ _ _ _ (monsOf xs) (monsOf ys) _ Hx4.out.rd Ho4.out.rd Ho3.out.len Ho4.out.len Hnm.out hb hb' (fun p hp => (HBd.out p hp).1) (fun p hp => (HBe.out p hp).1)).mono ?_
  rintro e w5 ⟨a5, n5, c5, rfl, ho5, hb5⟩
  have hB5 := hB4.trans (hb5.mono hB4.size)
  have Ho5 := Lib.hid ho5
  clear ho5
  go_wp2_with fail
  refine (l2Shut_any _ _ _ (timesM (monsOf xs) (monsOf ys)) _ Ho5.out.rd Ho5.out.len (fun p hp => ((HBd.out.times HBe.out (by omega)).canon p hp).1)).mono ?_
  rintro e w9 ⟨a9, n9, c9, r9, rfl, ho9, hh9, hb9⟩
  have hB9 := hB5.trans (hb9.mono hB5.size)
  have Ho9 := Lib.hid (ho9.mono (B' := w.heap.size) (S' := w9.heap.size) hB5.size (Nat.le_refl _))
  clear ho9
  go_wp2
  go_ret2
  exact ⟨_, _, _, _, rfl, by rw [H0.out.1]; exact Ho9.out, by rw [H0.out.2]; exact hh9, hB9⟩
end Go.Proofs.Ytblhndkaikelaaa
