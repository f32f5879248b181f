/-
  SchubertPoly of the program.
-/
import Derived.Test.YtflkomgfgmephaaBuI1
import Derived.Test.YtflkomgfgmephaaLowered
import Derived.Test.YtflkomgfgmephaaBuI3
namespace Go.Proofs.Ytflkomgfgmephaa
open Go.RowKit

def schT (xs : List Int) : List (List Int × Int) := if isPerm xs = true then closedT (schM (trim xs) (trimLen xs xs.length)) else []
def schOk (xs : List Int) : Bool := isPerm xs && polyOk (termsM (schM (trim xs) (trimLen xs xs.length)))
theorem sch_no {xs : List Int} (h : isPerm xs = false) : schT xs = [] ∧ schOk xs = false := by
  unfold schT schOk
  rw [h]
  exact ⟨rfl, rfl⟩
theorem sch_yes {xs : List Int} (h : isPerm xs = true) : schT xs = closedT (schM (trim xs) (trimLen xs xs.length)) ∧ schOk xs = polyOk (termsM (schM (trim xs) (trimLen xs xs.length))) := by
  unfold schT schOk
  rw [h]
  exact ⟨if_pos rfl, rfl⟩
theorem sch_b7 (v : List Int) {m : Nat} (hm : m ≤ 7) (hv : v.length = m) : B7 (schM v m) :=
  (B7.stair hm).low _ fun k hk => by have := ups_lt v k hk; omega

set_option maxRecDepth 100000 in
set_option maxHeartbeats 1600000 in
theorem implSchub_any (a : Option Addr) (n c : Nat) (xs : List Int) (w : World) (hr : RI w a xs) (hn : xs.length = n) (hb : n ≤ 7) (hc : n ≤ c) (hp : isPerm xs = true) :
    Calls Try.prog 39 #[.slice a n c] w fun e w' => ∃ r, e = .returned (.map (some r)) ∧ PF w' r (schM (xs.take (trimLen xs n)) (trimLen xs n)) ∧ Below w.heap.size w w' := by
  have Hn := Lib.hid hn; clear hn
  have HT := Lib.hid (fun w (hr : RI w a xs) => implTrim_any a n c xs w hr Hn.out (by omega) hc hp)
  have hmn := trimLen_le xs n
  obtain ⟨m, hm⟩ : ∃ m, trimLen xs n = m := ⟨_, rfl⟩
  rw [hm] at HT hmn ⊢
  obtain ⟨v, hv⟩ : ∃ v, xs.take m = v := ⟨_, rfl⟩
  have Hvl := Lib.hid (show v.length = m by rw [← hv, List.length_take, Hn.out]; omega)
  rw [hv] at HT ⊢
  clear hm hv hp
  have HB7 := Lib.hid (B7.stair (n := m) (by omega))
  go_enter Try.func39, Try.ntmps39
  go_wp2_with fail
  refine (HT.out _ hr).mono ?_
  rintro e w1 ⟨a1, c1, rfl, ho1, hb1⟩
  have Ho1 := Lib.hid ho1
  clear ho1
  go_wp2_with fail
  refine (implStair_any m _ (by omega)).mono ?_
  rintro e w2 ⟨r2, rfl, hF2, hb2⟩
  have hB2 := hb1.trans (hb2.mono hb1.size)
  have HF2 := Lib.hid hF2
  have Ho12 := Lib.hid (Ho1.out.below hb2)
  clear hF2
  go_wp2_with fail
  refine (lowered_any 76 (fun args w => by kernel_rfl) dividedM B7 7 (Nat.le_refl _) (fun i F hi h => h.divided (by omega)) (fun b i I F w hF hI hi _ => divided_any b i I F w hF hI (by omega)) (nin v + 1) _ _ _ v _ r2 _ (Nat.lt_succ_self _) Ho12.out.rd Hvl.out (by omega) HF2.out HB7.out).mono ?_
  rintro e w3 ⟨r3, rfl, hF3, _, hb3⟩
  have hB3 := hB2.trans (hb3.mono hB2.size)
  have HF3 := Lib.hid hF3
  clear hF3
  go_wp2
  go_ret
  exact ⟨_, rfl, HF3.out, hB3⟩

set_option maxRecDepth 100000 in
set_option maxHeartbeats 1600000 in
theorem implSch_any (a : Option Addr) (n c : Nat) (xs : List Int) (w : World) (hr : RI w a xs) (hn : xs.length = n) (hb : n ≤ 1048576) (hc : n ≤ c) :
    Calls Try.prog 9 #[.slice a n c] w fun e w' => ∃ a' n' c' r, e = .returned (.tuple #[.slice a' n' c', .bool r]) ∧ TO w' w.heap.size w'.heap.size a' n' c' (schT xs) ∧ Hid (r = schOk xs) ∧ Below w.heap.size w w' := by
  have Hn := Lib.hid hn
  cases hp : isPerm xs
  · have H0 := Lib.hid (sch_no hp)
    have Hp := Lib.hid hp
    clear hp hn
    go_enter Try.func9, Try.ntmps9
    go_wp2_with fail
    refine (is (implIsPerm_any _ _ _ xs _ hr Hn.out (by omega)) Hp.out).mono ?_
    rintro e w1 ⟨rfl, hB1⟩
    go_wp2
    go_ret2
    exact ⟨_, _, _, _, rfl, by rw [H0.out.1]; exact TO.nil, H0.out.2.symm, hB1⟩
  have h7 : n ≤ 7 := by rw [← hn]; exact ((isPerm_iff xs).1 hp).2.1
  have H0 := Lib.hid (sch_yes hp)
  have Hp := Lib.hid hp
  unfold trim at H0
  rw [hn] at H0
  clear hp hn
  go_enter Try.func9, Try.ntmps9
  go_wp2_with fail
  refine (is (implIsPerm_any _ _ _ xs _ hr Hn.out (by omega)) Hp.out).mono ?_
  rintro e w1 ⟨rfl, hB1⟩
  have hr1 := hr.below hB1
  go_wp2_with fail
  refine (implSchub_any _ _ _ xs _ hr1 Hn.out h7 hc Hp.out).mono ?_
  rintro e w4 ⟨r4, rfl, hF4, hb4⟩
  have hB4 := hB1.trans (hb4.mono hB1.size)
  have HF4 := Lib.hid hF4
  clear hF4
  go_wp2_with fail
  refine (closed_any r4 _ _ HF4.out).mono ?_
  rintro e w9 ⟨a9, n9, c9, r9, rfl, ho9, hh9, hb9⟩
  have hB9 := hB4.trans (hb9.mono hB4.size)
  have Ho9 := Lib.hid (ho9.mono (B' := w.heap.size) (S' := w9.heap.size) hB4.size (Nat.le_refl _))
  clear ho9
  go_wp2
  go_ret2
  exact ⟨_, _, _, _, rfl, by rw [H0.out.1]; exact Ho9.out, by rw [H0.out.2]; exact hh9, hB9⟩
end Go.Proofs.Ytflkomgfgmephaa
