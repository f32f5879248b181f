/-
  Contracts of the draws of polynomials: dMonomials, dPoly, DrawPolys.
-/
import Derived.Test.YtcminkcoifkbgaaGreatDoorBraidLaw
import Derived.Test.YtcminkcoifkbgaaGreatDoorBuH3
import Derived.Test.YtcminkcoifkbgaaGreatDoorBuH1
import Derived.Test.YtcminkcoifkbgaaGreatDoorSpecShut
namespace Go.Proofs.YtcminkcoifkbgaaGreatDoor
open Go.RowKit

/-- a key of four digits whose sum is at most s -/
def KeyD (s : Nat) (K : Int) : Prop := ∃ a b c d : Nat, K = (a : Int) + 128 * (b : Int) + 16384 * (c : Int) + 2097152 * (d : Int) ∧ a + b + c + d ≤ s
theorem KeyD.zero : KeyD 0 0 := ⟨0, 0, 0, 0, by simp, by simp⟩
theorem KeyD.add {s : Nat} {K : Int} (h : KeyD s K) {x y : Nat} (hx : x ≤ 2) (hy : y ≤ 3) : KeyD (s + 2) (K + (x : Int) * unit y) := by
  obtain ⟨a, b, c, d, rfl, hs⟩ := h
  have hc : y = 0 ∨ y = 1 ∨ y = 2 ∨ y = 3 := by omega
  rcases hc with rfl | rfl | rfl | rfl
  · exact ⟨a + x, b, c, d, by rw [unit0]; omega, by omega⟩
  · exact ⟨a, b + x, c, d, by rw [unit1]; omega, by omega⟩
  · exact ⟨a, b, c + x, d, by rw [unit2]; omega, by omega⟩
  · exact ⟨a, b, c, d + x, by rw [unit3]; omega, by omega⟩
theorem KeyD.range {s : Nat} {K : Int} (h : KeyD s K) (hs : s ≤ 8) : 0 ≤ K ∧ K ≤ 33554432 := by
  obtain ⟨a, b, c, d, rfl, h⟩ := h
  omega
theorem KeyD.deg {K : Int} (h : KeyD 6 K) : inK K ∧ degK K ≤ 6 := by
  obtain ⟨a, b, c, d, e, hs⟩ := h
  have z : isD 0 := by unfold isD; omega
  have q := pack_digs (a := a) (b := b) (c := c) (d := d) (by unfold isD; omega) (by unfold isD; omega) (by unfold isD; omega) (by unfold isD; omega) z z z
  have e2 : K = pack a b c d 0 0 0 := by rw [e]; unfold pack; omega
  rw [← e2] at q
  obtain ⟨h1, h2, h3, h4, h5, h6, h7, h8⟩ := q
  refine ⟨h1, ?_⟩
  unfold degK
  rw [h2, h3, h4, h5, h6, h7, h8]
  omega
theorem unit_le3 {y : Nat} (h : y ≤ 3) : 1 ≤ unit y ∧ unit y ≤ 2097152 := by
  have hc : y = 0 ∨ y = 1 ∨ y = 2 ∨ y = 3 := by omega
  rcases hc with rfl | rfl | rfl | rfl
  · rw [unit0]; omega
  · rw [unit1]; omega
  · rw [unit2]; omega
  · rw [unit3]; omega
theorem mul_small {x : Nat} {u : Int} (hx : x ≤ 2) (h : 1 ≤ u ∧ u ≤ 2097152) : 0 ≤ (x : Int) * u ∧ (x : Int) * u ≤ 4194304 := by
  have hc : x = 0 ∨ x = 1 ∨ x = 2 := by omega
  rcases hc with rfl | rfl | rfl <;> omega
theorem nrm_le {F : Mons} {D : Nat} (h : ∀ p ∈ F, p.2.natAbs ≤ D) : nrm F ≤ F.length * D := by
  induction F with
  | nil => simp [nrm]
  | cons p F ih =>
    have e : nrm (p :: F) = p.2.natAbs + nrm F := rfl
    have := ih fun q hq => h q (List.mem_cons_of_mem _ hq)
    have := h p List.mem_cons_self
    rw [e, List.length_cons, Nat.add_mul]
    omega
theorem Drawn.okp {F : Mons} (h : Drawn F) : OKp F := by
  have h1 := nrm_le h.low
  have h2 := h.few
  exact (GoodM.list (h.bd.mono (by decide))).okp (by omega) (by omega)
def MonsPost (g : Nat) (a : Option Addr) (m c : Nat) (xs : List Int) (w : World) (e : Ending) (w' : World) : Prop :=
  ∃ F a' n' c', e = .returned (.slice a' n' c') ∧ Drawn F ∧ MO w' w.heap.size w'.heap.size a' n' c' (canon F) ∧ Cur w' g a m c xs ∧ Only g (g + 1) w w'

set_option maxRecDepth 100000 in
set_option maxHeartbeats 3200000 in
theorem dMonomials_any (g : Nat) (a : Option Addr) (m c : Nat) (xs : List Int) (w : World) (hc : Cur w g a m c xs) :
    Calls Tryz.prog 39 #[.pointer (some ⟨g, 0, none⟩), .int .i64 4, .int .i64 5] w (MonsPost g a m c xs w) := by
  have hgw := hc.lt
  have hM0 := MO.made w
  have hB0 : Below w.heap.size w (w.alloc (.cells #[] 88)) := (Below.refl _ _).alloc (Nat.le_refl _) _
  have hO0 := (Only.refl g (g + 1) w).laid hB0
  have hC0 := hc.below hB0
  have hs0 := hB0.size
  have H1 := Lib.hid hM0; clear hM0 hB0
  go_enter Tryz.func39, Tryz.ntmps39
  go_wp2_with fail
  refine (l1Below_any 6 (by omega) (by omega) _ _ _ _ _ _ hC0).mono ?_
  rintro e w1 ⟨sz, rfl, hsz, hC1, hO1⟩
  have hO1' := hO0.trans hO1
  have hM1 := H1.out.only hO1 (.inr (by omega))
  have hz1 := hO1'.size
  have HM1 := Lib.hid (hM1.mono (Nat.le_refl _) hO1.size)
  clear hM1 hO0 hC0 hO1 H1
  go_wp2
  go_loopw [7, 9] (fun v i wr => ∃ j : Nat, j ≤ sz ∧ i = .int .i64 j ∧ Hid (∃ a' c' F, v = .slice a' j c' ∧ MO wr w.heap.size wr.heap.size a' j c' F ∧ ∀ p ∈ F, KeyD 6 p.1 ∧ -4 ≤ p.2 ∧ p.2 ≤ 4) ∧ Cur wr g a m c xs ∧ Only g (g + 1) w wr) (fun _ i _ => sz - (intOf i).toNat)
  case atStart => exact ⟨0, Nat.zero_le _, rfl, ⟨_, _, [], rfl, HM1.out, fun p hp => by cases hp⟩, hC1, hO1'⟩
  case round =>
    clear HM1 hO1' hC1
    obtain ⟨j, hj, rfl, HV, hC, hO⟩ := hrel
    obtain ⟨wo, rfl⟩ : ∃ wo : World, wo = wr := ⟨_, rfl⟩
    obtain ⟨a', c', F, rfl, ho, hF⟩ := HV.out
    clear HV
    have hzo := hO.size
    have HF := Lib.hid hF
    have Ho := Lib.hid ho
    clear hF ho
    by_cases hlt : j < sz
    · go_wp2
      go_loopw [10, 11] (fun kv tv wr => ∃ t : Nat, t ≤ 3 ∧ tv = .int .i64 t ∧ Hid (∃ K : Int, kv = .int .i64 K ∧ KeyD (2 * t) K) ∧ Cur wr g a m c xs ∧ Only g (g + 1) wo wr) (fun _ tv _ => 3 - (intOf tv).toNat)
      case atStart => exact ⟨0, by omega, rfl, ⟨0, rfl, KeyD.zero⟩, hC, Only.refl _ _ _⟩
      case round =>
        clear hC
        obtain ⟨t, ht, rfl, HK, hCi, hOi⟩ := hrel
        obtain ⟨wi, rfl⟩ : ∃ wi : World, wi = wr := ⟨_, rfl⟩
        obtain ⟨K, rfl, hK⟩ := HK.out
        clear HK
        have hzi := hOi.size
        have HK := Lib.hid hK
        by_cases ht3 : t < 3
        · have hKr := hK.range (by omega)
          clear hK
          go_wp2_with fail
          refine (l1Below_any 3 (by omega) (by omega) _ _ _ _ _ _ hCi).mono ?_
          rintro e w2 ⟨x, rfl, hx, hC2, hO2⟩
          go_wp2_with fail
          refine (l1Below_any 4 (by omega) (by omega) _ _ _ _ _ _ hC2).mono ?_
          rintro e w3 ⟨y, rfl, hy, hC3, hO3⟩
          have hO3' := (hOi.trans hO2).trans hO3
          clear hCi hOi hC2 hO2 hO3
          go_wp2_with fail
          refine (l2Unit_any y _ _ rfl (by omega)).mono ?_
          rintro e w4 ⟨rfl, rfl⟩
          have hu := unit_le3 (y := y) (by omega)
          have hm := mul_small (x := x) (by omega) hu
          have HK2 := Lib.hid (HK.out.add (x := x) (y := y) (by omega) (by omega))
          generalize unit y = u at *
          have q1 : IntKind.i64.wrap ((x : Int) * u) = (x : Int) * u := IntWalk.i64_in _ (by omega)
          have q2 : IntKind.i64.wrap (K + (x : Int) * u) = K + (x : Int) * u := IntWalk.i64_in _ (by omega)
          go_wp2
          go_roundw
          case rel => exact ⟨t + 1, by omega, by go_num, ⟨_, rfl, by rw [show 2 * (t + 1) = 2 * t + 2 by omega]; exact HK2.out⟩, hC3, hO3'⟩
          case measure => simp [intOf]; omega
        · obtain rfl : t = 3 := by omega
          clear hK
          go_wp2_with fail
          refine (l1Below_any 9 (by omega) (by omega) _ _ _ _ _ _ hCi).mono ?_
          rintro e w2 ⟨x, rfl, hx, hC2, hO2⟩
          have hO2' := hOi.trans hO2
          have hz2 := hO2'.size
          have ho2 := Ho.out.only hO2' (.inr (by omega))
          have hOw := hO.trans hO2'
          have q1 : IntKind.i64.wrap ((x : Int) - 4) = (x : Int) - 4 := IntWalk.i64_in _ (by omega)
          clear hCi hOi hO2
          go_wp2_with (first | (at_builtin; go_loud (refine wpList_pushM (by rfl) (by rfl) _ _ (by rfl) ho2 (by rfl) (by rfl) (by omega) (by omega) ?_)))
          intro a3 c3 w3 ho3 hg3
          have hO3 : Only w.heap.size w2.heap.size w2 w3 := Only.of_grown hg3 ho2.lo (fun k hk => Nat.lt_of_lt_of_le (ho2.2 k hk) hz2)
          have hO4 := hOw.new hO3 (Nat.le_refl _)
          have hC3 := hC2.only hO3 hgw
          have HF3 := Lib.hid (show ∀ p ∈ F ++ [(K, (x : Int) - 4)], KeyD 6 p.1 ∧ -4 ≤ p.2 ∧ p.2 ≤ 4 by
            intro p hp
            rcases List.mem_append.1 hp with hp | hp
            · exact HF.out p hp
            · rw [List.mem_singleton] at hp
              subst hp
              exact ⟨HK.out, by simp only; omega, by simp only; omega⟩)
          clear hg3 ho2 q1
          go_wp2
          go_roundw
          case rel => exact ⟨j + 1, by omega, by go_num, ⟨_, _, _, rfl, ho3, HF3.out⟩, hC3, hO4⟩
          case measure => simp [intOf]; omega
    · obtain rfl : j = sz := by omega
      have hD : Drawn F := ⟨by rw [Ho.out.len]; omega, fun p hp => (HF.out p hp).1.deg, fun p hp => by have := (HF.out p hp).2; omega⟩
      have HD := Lib.hid hD
      have H64 := Lib.hid (show ∀ p ∈ F, in64 p.2 by intro p hp; have := (HF.out p hp).2; unfold in64; omega)
      clear hD
      go_wp2_with fail
      refine (gather_any _ _ _ _ _ F _ Ho.out (by omega) H64.out).mono ?_
      rintro e w2 ⟨a2, n2, c2, rfl, ho2, hB2⟩
      have hC2 := hC.below hB2
      have hO2 := hO.laid hB2
      have Ho3 := Lib.hid (ho2.mono (B' := w.heap.size) hzo (Nat.le_refl _))
      clear ho2
      go_wp2
      go_ret
      exact ⟨F, _, _, _, rfl, HD.out, Ho3.out, hC2, hO2⟩
end Go.Proofs.YtcminkcoifkbgaaGreatDoor
