/-
  Contracts of dApart and DrawMoved.
-/
import Derived.Test.YtjljacmepidgcaaBuK26
namespace Go.Proofs.Ytjljacmepidgcaa
open Go.RowKit

def lenS : Value → Nat
  | .slice _ n _ => n
  | _ => 0
theorem spare {ys : List Int} (h : ys.length ≤ 3) : ∃ r : Nat, r ≤ 3 ∧ (r : Int) - 9 ∉ ys := by
  by_cases h0 : (-9 : Int) ∈ ys
  · by_cases h1 : (-8 : Int) ∈ ys
    · by_cases h2 : (-7 : Int) ∈ ys
      · by_cases h3 : (-6 : Int) ∈ ys
        · have := List.Nodup.length_le_of_subset (l₁ := [(-9 : Int), -8, -7, -6]) (l₂ := ys) (by decide) (fun x hx => by
            simp only [List.mem_cons, List.not_mem_nil, or_false] at hx
            rcases hx with rfl | rfl | rfl | rfl <;> assumption)
          simp at this
          omega
        · exact ⟨3, by omega, h3⟩
      · exact ⟨2, by omega, h2⟩
    · exact ⟨1, by omega, h1⟩
  · exact ⟨0, by omega, h0⟩
set_option maxRecDepth 100000 in
set_option maxHeartbeats 3200000 in
theorem dApart_any (k : Nat) (h4 : k ≤ 4) (g : Nat) (a : Option Addr) (m c : Nat) (xs : List Int) (w : World) (hc : Cur w g a m c xs) :
    Calls Try.prog 18 #[.pointer (some ⟨g, 0, none⟩), .int .i64 k] w (ShiftPost k g a m c xs w) := by
  have hgw := hc.lt
  have hI0 : OwI (w.alloc (.cells #[] 3)) w.heap.size (w.alloc (.cells #[] 3)).heap.size (some ⟨w.heap.size, 0, none⟩) 0 0 [] := OwI.mk (World.ownsRow_made _ #[] 0 (Nat.le_refl _) (Nat.zero_le _) rfl)
  have hB0 : Below w.heap.size w (w.alloc (.cells #[] 3)) := (Below.refl _ _).alloc (Nat.le_refl _) _
  have hO0 := (Only.refl g (g + 1) w).laid hB0
  have hC0 := hc.below hB0
  have H1 := Lib.hid hI0; clear hI0
  go_enter Try.func18, Try.ntmps18
  go_wp2
  go_loopw [5] (fun v wr => Hid (∃ (j : Nat) (a' : Option Addr) (c' : Nat) (ys : List Int), j ≤ k ∧ v = .slice a' j c' ∧ OwI wr w.heap.size wr.heap.size a' j c' ys ∧ ∀ y ∈ ys, -9 ≤ y ∧ y ≤ 9) ∧ Cur wr g a m c xs ∧ Only g (g + 1) w wr) (fun v _ => k - lenS v)
  case atStart => exact ⟨⟨0, _, _, [], Nat.zero_le _, rfl, H1.out, by simp⟩, hC0, hO0⟩
  case round =>
    clear hB0 hO0 hC0 H1
    obtain ⟨HV, hC, hO⟩ := hrel
    obtain ⟨wo, rfl⟩ : ∃ wo : World, wo = wr := ⟨_, rfl⟩
    obtain ⟨j, a', c', ys, hj, rfl, ho, hys⟩ := HV.out
    clear HV
    have hsz := hO.size
    have HY := Lib.hid hys; clear hys
    by_cases hlt : j < k
    · have q0 : (j : Int) < (k : Int) := by omega
      obtain ⟨rv, hrv, hno⟩ := spare (ys := ys) (by rw [ho.len]; omega)
      have Hno := Lib.hid hno
      have Hyl := Lib.hid ho.len
      clear hno
      go_wp2_with fail
      refine (l1Below_any 19 (by omega) (by omega) g a m c xs _ hC).mono ?_
      rintro e w1 ⟨r, rfl, hr, hC1, hO1⟩
      have ho1 := ho.only hO1 (.inr (by omega))
      have hO2 := hO.trans hO1
      have hsz1 := hO1.size
      have q1 : IntKind.i64.wrap ((r : Int) - 9) = (r : Int) - 9 := IntWalk.i64_in _ (by omega)
      have Ho1 := Lib.hid ho1
      clear ho ho1
      go_wp2
      go_loopw [6] (fun xv wr => Hid (∃ t : Nat, t ≤ 18 ∧ xv = .int .i64 ((t : Int) - 9)) ∧ Drew w1 wr) (fun xv _ => (rv + 19 - (intOf xv + 9).toNat) % 19)
      case atStart => exact ⟨⟨r, by omega, rfl⟩, Drew.refl _⟩
      case round =>
        clear q1 hr
        obtain ⟨HT, hd⟩ := hrel
        obtain ⟨wi, rfl⟩ : ∃ wi : World, wi = wr := ⟨_, rfl⟩
        obtain ⟨t, ht, rfl⟩ := HT.out
        clear HT
        have hdb := hd.below w1.heap.size
        have Hoi := Lib.hid (Ho1.out.below hdb)
        have hCi := hC1.below hdb
        cases hh : ys.contains ((t : Int) - 9)
        · have Hh := Lib.hid hh
          clear hh
          go_wp2_with fail
          refine (is (l1Has_any _ _ _ ys ((t : Int) - 9) _ Hoi.out.rd Hyl.out (by omega)) Hh.out).mono ?_
          rintro e w2 ⟨rfl, hd2⟩
          have hd3 := hd.trans hd2
          have hs3 := (hd3.below w1.heap.size).size
          have Ho2 := Lib.hid (Ho1.out.below (hd3.below w1.heap.size))
          have hC2 := hC1.below (hd3.below w1.heap.size)
          have hO3 := hO2.laid (hd3.below w1.heap.size)
          have HY2 := Lib.hid (show ∀ y ∈ ys ++ [(t : Int) - 9], -9 ≤ y ∧ y ≤ 9 by
            intro y hy
            rcases List.mem_append.1 hy with hy | hy
            · exact HY.out y hy
            · rw [List.mem_singleton] at hy
              omega)
          clear Hoi hCi hdb
          go_wp2_with (first | (at_builtin; go_loud (refine wpList_pushI (by rfl) (by rfl) _ _ (by rfl) Ho2.out (by rfl) (by rfl) (by omega) (by omega) ?_)))
          intro a2 c2 w4 ho4 hg4
          have hO4 := hg4.only (B := w.heap.size) (S := w2.heap.size) (fun q hq => Ho2.out.1.lo q hq) (fun q hq => Nat.lt_of_lt_of_le (Ho2.out.2 q hq) (Nat.le_trans hsz1 hs3))
          have hO5 := hO3.new hO4 (Nat.le_refl _)
          have hC5 := hC2.only hO4 hgw
          have Ho4 := Lib.hid ho4
          clear ho4 hg4
          go_wp2
          go_roundw
          case rel => exact ⟨⟨j + 1, _, _, _, by omega, rfl, Ho4.out, HY2.out⟩, hC5, hO5⟩
          case measure => simp [lenS]; omega
        · have Hh := Lib.hid hh
          have hne : t ≠ rv := by
            rintro rfl
            rw [List.contains_iff_mem] at hh
            exact Hno.out hh
          clear hh
          obtain ⟨t2, ht2⟩ : ∃ t2, (t + 1) % 19 = t2 := ⟨_, rfl⟩
          have q2 : IntKind.i64.wrap ((t : Int) - 9 + 10) = ((t + 1 : Nat) : Int) := by rw [IntWalk.i64_in _ (by omega)]; omega
          have q3 : (((t + 1 : Nat) : Int)).tmod 19 = (t2 : Int) := by rw [← ht2]; exact (Int.ofNat_tmod (t + 1) 19).symm
          have q4 : IntKind.i64.wrap ((t2 : Int) - 9) = (t2 : Int) - 9 := IntWalk.i64_in _ (by omega)
          have hm : (rv + 19 - t2) % 19 < (rv + 19 - t) % 19 := by omega
          have ht18 : t2 ≤ 18 := by omega
          go_wp2_with fail
          refine (is (l1Has_any _ _ _ ys ((t : Int) - 9) _ Hoi.out.rd Hyl.out (by omega)) Hh.out).mono ?_
          rintro e w2 ⟨rfl, hd2⟩
          have hd3 := hd.trans hd2
          have Ht2 := Lib.hid ht2
          clear ht2
          go_wp2
          go_roundw
          case rel => exact ⟨⟨t2, ht18, by have := Ht2.out; congr 1; omega⟩, hd3⟩
          case measure => have := Ht2.out; simp [intOf]; omega
    · obtain rfl : j = k := by omega
      have Ho := Lib.hid ho
      clear ho
      go_wp2
      go_ret
      exact ⟨ys, _, _, rfl, HY.out, Ho.out, hC, hO⟩
theorem dShifts_at (K : Int) (k : Nat) (hK : K = (k : Int)) (h5 : k ≤ 100) (g : Nat) (a : Option Addr) (m c : Nat) (xs : List Int) (w : World) (hc : Cur w g a m c xs) :
    Calls Try.prog 17 #[.pointer (some ⟨g, 0, none⟩), .int .i64 K] w (ShiftPost k g a m c xs w) := by subst hK; exact dShifts_any k h5 g a m c xs w hc
theorem dApart_at (K : Int) (k : Nat) (hK : K = (k : Int)) (h4 : k ≤ 4) (g : Nat) (a : Option Addr) (m c : Nat) (xs : List Int) (w : World) (hc : Cur w g a m c xs) :
    Calls Try.prog 18 #[.pointer (some ⟨g, 0, none⟩), .int .i64 K] w (ShiftPost k g a m c xs w) := by subst hK; exact dApart_any k h4 g a m c xs w hc
def MovedPost (w : World) (e : Ending) (w' : World) : Prop :=
  ∃ n u ys zs a1 c1 a2 c2 a3 c3, e = .returned (.tuple #[.slice a1 n c1, .slice a2 n c2, .slice a3 n c3]) ∧ (1 ≤ n ∧ n ≤ 4) ∧ u ∈ perms n ∧ (∀ y ∈ ys, -9 ≤ y ∧ y ≤ 9) ∧ (∀ y ∈ zs, -9 ≤ y ∧ y ≤ 9) ∧ OwI w' w.heap.size w'.heap.size a1 n c1 u ∧ OwI w' w.heap.size w'.heap.size a2 n c2 ys ∧ OwI w' w.heap.size w'.heap.size a3 n c3 zs ∧ Below w.heap.size w w'
set_option maxRecDepth 100000 in
set_option maxHeartbeats 3200000 in
theorem drawMoved_any (a : Option Addr) (m c : Nat) (xs : List Int) (w : World) (hr : RB w a xs) (hm : xs.length = m) (hb : m ≤ 1048576) (hx : Bytes xs) :
    Calls Try.prog 5 #[.slice a m c] w (MovedPost w) := by
  go_enter Try.func5, Try.ntmps5
  go_wp2_with fail
  refine (l1New_any _ _ _ xs _ hr hm hb hx).mono ?_
  rintro e w1 ⟨rfl, hC1, hB1, hz1⟩
  clear hr
  go_wp2_with fail
  refine (l1Below_any 4 (by omega) (by omega) _ _ _ _ _ _ hC1).mono ?_
  rintro e w2 ⟨r, rfl, hr3, hC2, hO2⟩
  have hz2 := hO2.size
  have h1 : 1 ≤ 1 + r := by omega
  have h4 : 1 + r ≤ 4 := by omega
  clear hC1
  go_wp2_with fail
  refine (dPerm_at _ (1 + r) (by omega) h1 (by omega) _ _ _ _ _ _ hC2).mono ?_
  rintro e w3 ⟨u, a3, c3, rfl, hu, ho3, hC3, hO3⟩
  have HU := Lib.hid hu; clear hu
  have hO3' := hO2.trans hO3
  have hz3 := hO3.size
  clear hC2
  go_wp2_with fail
  refine (dShifts_at _ (1 + r) (by omega) (by omega) _ _ _ _ _ _ hC3).mono ?_
  rintro e w4 ⟨v, a4, c4, rfl, hv, ho4, hC4, hO4⟩
  have HV := Lib.hid hv; clear hv
  have hO4' := hO3'.trans hO4
  have ho34 := ho3.only hO4 (.inr (by omega))
  have hz4 := hO4.size
  clear hC3 ho3
  go_wp2_with fail
  refine (dApart_at _ (1 + r) (by omega) h4 _ _ _ _ _ _ hC4).mono ?_
  rintro e w5 ⟨z, a5, c5, rfl, hz, ho5, hC5, hO5⟩
  have HZ := Lib.hid hz; clear hz
  have hz5 := hO5.size
  have ho6 := (ho34.only hO5 (.inr (by omega))).mono (B' := w.heap.size) (S' := w5.heap.size) (by omega) (by omega)
  have ho7 := (ho4.only hO5 (.inr (by omega))).mono (B' := w.heap.size) (S' := w5.heap.size) (by omega) (by omega)
  have ho8 := ho5.mono (B' := w.heap.size) (S' := w5.heap.size) (by omega) (Nat.le_refl _)
  have hBf := (hO4'.trans hO5).below hB1 (Nat.le_refl _) (by omega)
  go_wp2
  go_ret3
  exact ⟨_, _, _, _, _, _, _, _, _, _, rfl, ⟨by omega, h4⟩, HU.out, HV.out, HZ.out, ho6, ho7, ho8, hBf⟩
end Go.Proofs.Ytjljacmepidgcaa
