/-
  Contracts of the draws of polynomials: dPoly, DrawPolys.
-/
import Derived.Test.YtcminkcoifkbgaaGreatDoorDrawPoly
import Derived.Test.YtcminkcoifkbgaaGreatDoorBuH4
import Derived.Test.YtcminkcoifkbgaaGreatDoorSchG
namespace Go.Proofs.YtcminkcoifkbgaaGreatDoor
open Go.RowKit

def drawnB (F : Mons) : Bool := decide (F.length ≤ 5) && F.all fun p => decide (0 ≤ p.1 ∧ p.1 < 562949953421312) && decide (degK p.1 ≤ 6) && decide (p.2.natAbs ≤ 4)
theorem drawn_of {F : Mons} (h : drawnB F = true) : Drawn F := by
  unfold drawnB at h
  rw [Bool.and_eq_true, decide_eq_true_eq, List.all_eq_true] at h
  have h2 : ∀ p ∈ F, (0 ≤ p.1 ∧ p.1 < 562949953421312) ∧ degK p.1 ≤ 6 ∧ p.2.natAbs ≤ 4 := by
    intro p hp
    have := h.2 p hp
    simp only [Bool.and_eq_true, decide_eq_true_eq] at this
    exact ⟨this.1.1, this.1.2, this.2⟩
  exact ⟨h.1, fun p hp => ⟨(h2 p hp).1, (h2 p hp).2.1⟩, fun p hp => (h2 p hp).2.2⟩
set_option maxRecDepth 100000 in
theorem schDrawn_all : ([1, 2, 3, 4].all fun n => (perms n).all fun u => drawnB (schG (u.take (trimLen u n)) (trimLen u n))) = true := by kernel_rfl
theorem sch_drawn {n : Nat} {u : List Int} (h1 : 1 ≤ n) (h4 : n ≤ 4) (hu : u ∈ perms n) : ∃ F, Drawn F ∧ Eqv (schM (u.take (trimLen u n)) (trimLen u n)) F := by
  have h2 := schDrawn_all
  rw [List.all_eq_true] at h2
  have h3 := h2 n (by
    have hc : n = 1 ∨ n = 2 ∨ n = 3 ∨ n = 4 := by omega
    rcases hc with rfl | rfl | rfl | rfl <;> decide)
  rw [List.all_eq_true] at h3
  exact ⟨_, drawn_of (h3 u hu), (schG_same _ _).symm.eqv⟩
def PolyPost (g : Nat) (a : Option Addr) (m c : Nat) (xs : List Int) (w : World) (e : Ending) (w' : World) : Prop :=
  ∃ F a' n' c', e = .returned (.slice a' n' c') ∧ Drawn F ∧ TO w' w.heap.size w'.heap.size a' n' c' (termsM F) ∧ Cur w' g a m c xs ∧ Only g (g + 1) w w'

set_option maxRecDepth 100000 in
set_option maxHeartbeats 3200000 in
theorem dPoly_any (g : Nat) (a : Option Addr) (m c : Nat) (xs : List Int) (w : World) (hc : Cur w g a m c xs) :
    Calls Tryz.prog 17 #[.pointer (some ⟨g, 0, none⟩)] w (PolyPost g a m c xs w) := by
  have hgw := hc.lt
  go_enter Tryz.func17, Tryz.ntmps17
  go_wp2_with fail
  refine (dMonomials_any _ _ _ _ _ _ hc).mono ?_
  rintro e w1 ⟨F, a1, n1, c1, rfl, hF, ho1, hC1, hO1⟩
  have HF := Lib.hid hF
  have Ho1 := Lib.hid ho1
  have hz1 := hO1.size
  clear hF ho1
  go_wp2_with fail
  refine (l1Once_any 3 (by omega) (by omega) _ _ _ _ _ _ hC1).mono ?_
  rintro e w2 ⟨bb, rfl, hC2, hO2⟩
  have hO2' := hO1.trans hO2
  have hz2 := hO2.size
  cases bb
  · have Ho2 := Lib.hid (Ho1.out.only hO2 (.inr (by omega)))
    have hk := Lib.hid (show ∀ p ∈ canon F, inK p.1 from fun p hp => (HF.out.bd.canon p hp).1)
    have Hok := Lib.hid (closedT_ok HF.out.okp.ok)
    clear Ho1 hC1 hO1 hO2
    go_wp2_with fail
    refine (l2Shut_any _ _ _ F _ Ho2.out.rd Ho2.out.len hk.out).mono ?_
    rintro e w3 ⟨a3, n3, c3, r3, rfl, ho3, hr3, hB3⟩
    rw [Hok.out] at ho3
    have Ho3 := Lib.hid (ho3.mono (B' := w.heap.size) (S' := w3.heap.size) (by omega) (Nat.le_refl _))
    have hC3 := hC2.below hB3
    have hO3 := hO2'.laid hB3
    clear ho3 hr3
    go_wp2
    go_ret
    exact ⟨F, _, _, _, rfl, HF.out, Ho3.out, hC3, hO3⟩
  · clear Ho1 HF hC1 hO1 hO2
    go_wp2_with fail
    refine (l1Below_any 4 (by omega) (by omega) _ _ _ _ _ _ hC2).mono ?_
    rintro e w3 ⟨r, rfl, hr4, hC3, hO3⟩
    have h1 : 1 ≤ 1 + r := by omega
    have h5 : 1 + r ≤ 5 := by omega
    have hO3' := hO2'.trans hO3
    have hz3 := hO3.size
    clear hC2 hO2' hO3
    go_wp2_with fail
    refine (dPerm_at _ (1 + r) (by omega) h1 h5 _ _ _ _ _ _ hC3).mono ?_
    rintro e w4 ⟨u, a4, c4, rfl, hu, ho4, hC4, hO4⟩
    obtain ⟨F, hF, he⟩ := sch_drawn h1 (by omega) hu
    have HF := Lib.hid hF
    have He := Lib.hid (canon_eqv he)
    have hO4' := hO3'.trans hO4
    have hz4 := hO4.size
    have hl4 := ho4.len
    have Ho4 := Lib.hid ho4
    clear hF he hu ho4 hC3 hO3' hO4
    go_wp2_with fail
    refine (l3Schubert_any _ _ _ u _ Ho4.out.rd Ho4.out.len (by omega) Ho4.out.1.lt).mono ?_
    rintro e w5 ⟨a5, n5, c5, rfl, ho5, hB5⟩
    rw [He.out] at ho5
    have Ho5 := Lib.hid ho5
    have hC5 := hC4.below hB5
    have hO5 := hO4'.laid hB5
    have hz5 := hB5.size
    have hk := Lib.hid (show ∀ p ∈ canon F, inK p.1 from fun p hp => (HF.out.bd.canon p hp).1)
    have Hok := Lib.hid (closedT_ok HF.out.okp.ok)
    clear ho5 Ho4 hC4 hO4' hB5
    go_wp2_with fail
    refine (l2Shut_any _ _ _ F _ Ho5.out.rd Ho5.out.len hk.out).mono ?_
    rintro e w6 ⟨a6, n6, c6, r6, rfl, ho6, hr6, hB6⟩
    rw [Hok.out] at ho6
    have Ho6 := Lib.hid (ho6.mono (B' := w.heap.size) (S' := w6.heap.size) (by omega) (Nat.le_refl _))
    have hC6 := hC5.below hB6
    have hO6 := hO5.laid hB6
    clear ho6 hr6
    go_wp2
    go_ret
    exact ⟨F, _, _, _, rfl, HF.out, Ho6.out, hC6, hO6⟩
theorem results_tmp4 {fn : Func} {t u v x : Tmp} (h : fn.results = #[.tmp t, .tmp u, .tmp v, .tmp x]) (tmps : Array Value) (P : Program) (w : World) :
    (results fn tmps).run P w = .ok (.tuple #[tmps.getD t undef, tmps.getD u undef, tmps.getD v undef, tmps.getD x undef]) w := by
  simp [results, h]
/-- three polynomials and the number of a variable -/
def ThreePost (w : World) (e : Ending) (w' : World) : Prop :=
  ∃ F G H a1 n1 c1 a2 n2 c2 a3 n3 c3, ∃ i : Nat, e = .returned (.tuple #[.slice a1 n1 c1, .slice a2 n2 c2, .slice a3 n3 c3, .int .i64 i]) ∧ Drawn F ∧ Drawn G ∧ Drawn H ∧ i ≤ 3 ∧
    PT w' a1 n1 F ∧ PT w' a2 n2 G ∧ PT w' a3 n3 H ∧ Below w.heap.size w w'
end Go.Proofs.YtcminkcoifkbgaaGreatDoor
