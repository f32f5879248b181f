/-
  Contract of MulPolys, the program's.
-/
import Derived.Test.YtflkomgfgmephaaTimes
import Derived.Test.YtflkomgfgmephaaClosed
import Derived.Test.YtflkomgfgmephaaPolyOpen
import Derived.Test.YtflkomgfgmephaaOperated
namespace Go.Proofs.Ytflkomgfgmephaa
open Go.RowKit Go.MapKept Go.ChangeMaps

def mulT (f g : List (List Int × Int)) : List (List Int × Int) := if polyOk f = true ∧ polyOk g = true then closedT (timesM (monsOf f) (monsOf g)) else []
def mulOk (f g : List (List Int × Int)) : Bool := polyOk f && (polyOk g && polyOk (termsM (timesM (monsOf f) (monsOf g))))
theorem mul_no1 {f g : List (List Int × Int)} (h : polyOk f = false) : mulT f g = [] ∧ mulOk f g = false := by
  unfold mulT mulOk
  rw [h]
  exact ⟨if_neg (by simp), rfl⟩
theorem mul_no2 {f g : List (List Int × Int)} (h : polyOk g = false) : mulT f g = [] ∧ mulOk f g = false := by
  unfold mulT mulOk
  rw [h]
  exact ⟨if_neg (by simp), by simp⟩
theorem mul_yes {f g : List (List Int × Int)} (h : polyOk f = true) (h' : polyOk g = true) : mulT f g = closedT (timesM (monsOf f) (monsOf g)) ∧ mulOk f g = polyOk (termsM (timesM (monsOf f) (monsOf g))) := by
  unfold mulT mulOk
  rw [h, h']
  exact ⟨if_pos ⟨rfl, rfl⟩, by simp⟩
set_option maxRecDepth 100000 in
set_option maxHeartbeats 3200000 in
theorem implMul_any (a b : Option Addr) (n c m d : Nat) (xs ys : List (List Int × Int)) (w : World) (hx : RP w a xs) (hy : RP w b ys) (hn : xs.length = n) (hm : ys.length = m) (hb : n ≤ 1048576) (hb' : m ≤ 1048576) :
    Calls Try.prog 50 #[.slice a n c, .slice b m d] w fun e w' => ∃ a' n' c' r, e = .returned (.tuple #[.slice a' n' c', .bool r]) ∧ TO w' w.heap.size w'.heap.size a' n' c' (mulT xs ys) ∧ Hid (r = mulOk xs ys) ∧ Below w.heap.size w w' := by
  have Hn := Lib.hid hn; clear hn
  have Hm := Lib.hid hm; clear hm
  cases hok : polyOk xs
  · have H0 := Lib.hid (mul_no1 (g := ys) hok)
    have Hok := Lib.hid hok
    clear hok
    go_enter Try.func50, Try.ntmps50
    go_wp2_with fail
    refine (is (implPolyOk_any _ _ _ xs _ hx Hn.out hb) Hok.out).mono ?_
    rintro e w1 ⟨rfl, hb1⟩
    go_wp2
    go_ret2
    exact ⟨_, _, _, _, rfl, by rw [H0.out.1]; exact TO.nil, H0.out.2.symm, hb1⟩
  have Hok := Lib.hid hok
  cases hv : polyOk ys
  · have H0 := Lib.hid (mul_no2 (f := xs) hv)
    have Hv := Lib.hid hv
    clear hok hv
    go_enter Try.func50, Try.ntmps50
    go_wp2_with fail
    refine (is (implPolyOk_any _ _ _ xs _ hx Hn.out hb) Hok.out).mono ?_
    rintro e w1 ⟨rfl, hb1⟩
    have hy1 := hy.below hb1
    go_wp2_with fail
    refine (is (implPolyOk_any _ _ _ ys _ hy1 Hm.out hb') Hv.out).mono ?_
    rintro e w2 ⟨rfl, hb2⟩
    have hB2 := hb1.trans (hb2.mono hb1.size)
    go_wp2
    go_ret2
    exact ⟨_, _, _, _, rfl, by rw [H0.out.1]; exact TO.nil, H0.out.2.symm, hB2⟩
  have H0 := Lib.hid (mul_yes hok hv)
  have Hv := Lib.hid hv
  have HBd := Lib.hid (polyOk_mons hok)
  have HBe := Lib.hid (polyOk_mons hv)
  clear hok hv
  go_enter Try.func50, Try.ntmps50
  go_wp2_with fail
  refine (is (implPolyOk_any _ _ _ xs _ hx Hn.out hb) Hok.out).mono ?_
  rintro e w1 ⟨rfl, hb1⟩
  have hy1 := hy.below hb1
  go_wp2_with fail
  refine (is (implPolyOk_any _ _ _ ys _ hy1 Hm.out hb') Hv.out).mono ?_
  rintro e w2 ⟨rfl, hb2⟩
  have hB2 := hb1.trans (hb2.mono hb1.size)
  have hx2 := hx.below hB2
  have hy2 := hy.below hB2
  go_wp2_with fail
  refine (open_any _ _ _ xs _ hx2 Hn.out Hok.out).mono ?_
  rintro e w3 ⟨r3, rfl, hr3, hF3, hb3⟩
  have hB3 := hB2.trans (hb3.mono hB2.size)
  have hy3 := hy2.below hb3
  go_wp2_with fail
  refine (open_any _ _ _ ys _ hy3 Hm.out Hv.out).mono ?_
  rintro e w4 ⟨r4, rfl, hr4, hG4, hb4⟩
  have hB4 := hB3.trans (hb4.mono hB3.size)
  have hF4 := hF3.below hb4
  go_wp2_with fail
  refine (times_any r3 r4 (monsOf xs) (monsOf ys) _ hF4 hG4 (fun p hp q hq i hi => by
    have h1 := (HBd.out.canon p hp).2 i hi
    have h2 := (HBe.out.canon q hq).2 i hi
    omega)).mono ?_
  rintro e w5 ⟨r5, rfl, hr5, hF5, hb5⟩
  have hB5 := hB4.trans (hb5.mono hB4.size)
  go_wp2_with fail
  refine (closed_any r5 _ _ hF5).mono ?_
  rintro e w6 ⟨a6, n6, c6, r6, rfl, ho6, hh6, hb6⟩
  have hB6 := hB5.trans (hb6.mono hB5.size)
  have Ho6 := Lib.hid (ho6.mono (B' := w.heap.size) (S' := w6.heap.size) hB5.size (Nat.le_refl _))
  clear ho6
  go_wp2
  go_ret2
  exact ⟨_, _, _, _, rfl, by rw [H0.out.1]; exact Ho6.out, by rw [H0.out.2]; exact hh6, hB6⟩
end Go.Proofs.Ytflkomgfgmephaa
