/-
  Contract of lowered.
-/
import Derived.Test.YtflkomgfgmephaaBuI1
import Derived.Test.YtflkomgfgmephaaOperated
namespace Go.Proofs.Ytflkomgfgmephaa
open Go.RowKit Go.MapKept

set_option maxRecDepth 100000 in
set_option maxHeartbeats 6400000 in
theorem lowered_any (f : Nat) (ef : ∀ args w, (callFunc f args).run Try.prog w = .ok (.enter f args) w) (op : Nat → Mons → Mons) (P : Mons → Prop) (M : Nat) (hM : M ≤ 7) (hP : ∀ i F, i + 1 < M → P F → P (op i F))
    (hop : ∀ (b i : Nat) (I : Int) (F : Mons) (w : World), PF w b F → I = (i : Int) → i + 1 < M → P F → Calls Try.prog f #[.map (some b), .int .i64 I] w fun e w' => ∃ r, e = .returned (.map (some r)) ∧ w.heap.size ≤ r ∧ PF w' r (op i F) ∧ Below w.heap.size w w') :
    ∀ (N : Nat) (a : Option Addr) (n c : Nat) (xs : List Int) (w : World) (b : Nat) (F : Mons), nin xs < N → RI w a xs → xs.length = n → n ≤ M → PF w b F → P F →
    Calls Try.prog 56 #[.slice a n c, .map (some b), .func (.func f) #[] #[]] w fun e w' => ∃ r, e = .returned (.map (some r)) ∧ PF w' r ((ups xs).foldr op F) ∧ P ((ups xs).foldr op F) ∧ Below w.heap.size w w' := by
  intro N
  induction N with
  | zero =>
    intro a n c xs w b F hN
    omega
  | succ N ih =>
    intro a n c xs w b F hN hr hn hb hF hPF
    have Hn := Lib.hid hn; clear hn
    have HF := Lib.hid (fun d : Nat => hF.below (Drew.below (Drew.drewN w d) _))
    have q0 : IntKind.i64.wrap ((n : Int) - 1) = (n : Int) - 1 := IntWalk.i64_in _ (by omega)
    have IH := Lib.hid ih
    have HPF := Lib.hid hPF
    clear hF ih hPF
    go_enter Try.func56, Try.ntmps56
    go_wp2
    go_loopw [11] (fun kv wr => ∃ k : Nat, kv = .int .i64 k ∧ k ≤ n ∧ Hid (flat xs k) ∧ Drew w wr) (fun kv _ => n - (intOf kv).toNat)
    case atStart => exact ⟨0, rfl, Nat.zero_le _, fun j _ _ hj => by omega, Drew.refl _⟩
    case round =>
      obtain ⟨k, rfl, hk, Hfl, hd⟩ := hrel
      obtain ⟨wo, rfl⟩ : ∃ wo : World, wo = wr := ⟨_, rfl⟩
      have hB := hd.below w.heap.size
      by_cases hlt : k + 1 < n
      · obtain ⟨x, hx⟩ := some_at Hn.out (show k < n by omega)
        obtain ⟨y, hy⟩ := some_at Hn.out hlt
        obtain ⟨b1, off, rfl, hcell⟩ := (hr.below hB).at (k := k) (by rw [Hn.out]; omega)
        have p1 := hcell k x hx
        have p2 := hcell (k + 1) y hy
        have q1 : (k : Int) < (n : Int) - 1 := by omega
        have q2 : (k : Int) < (n : Int) := by omega
        have q3 : IntKind.i64.wrap ((k : Int) + 1) = ((k + 1 : Nat) : Int) := by rw [IntWalk.i64_in _ (by omega)]; omega
        have q4 : ((k + 1 : Nat) : Int) < (n : Int) := by omega
        have Hx := Lib.hid hx
        have Hy := Lib.hid hy
        clear hcell hx hy
        by_cases hxy : x < y
        · have Hasc := Lib.hid (asc_at Hx.out Hy.out hxy Hfl.out)
          have Hnin := Lib.hid (nin_sw Hasc.out)
          have Hus := Lib.hid (ups_some Hasc.out).1
          have Hsw := Lib.hid (sw_swp (w := xs) (k := k) (by rw [Hn.out]; exact hlt))
          have HD := Lib.hid (fun d : Nat => hd.trans (Drew.drewN wo d))
          have Hr := Lib.hid hr
          have hg : decide (x < y) = true := by simp [hxy]
          have hN2 := Lib.hid hN
          clear hd hB hr hN
          go_wp2
          go_quiet (fail)
          go_wp2_with fail
          refine (exchanged_any _ _ _ xs k (k + 1) _ _ _ (Hr.out.below ((HD.out _).below _)) Hn.out (by omega) rfl rfl (by omega) hlt (by omega)).mono ?_
          rintro e w2 ⟨a3, c3, rfl, ho3, hb3⟩
          rw [Hsw.out] at ho3
          have hB2 := ((HD.out _).below w.heap.size).trans (hb3.mono ((HD.out _).below w.heap.size).size)
          have Ho3 := Lib.hid ho3
          have HF2 := Lib.hid ((HF.out 0).below hB2)
          have Hl3 := Lib.hid (show (sw xs k).length = n by rw [sw_length, Hn.out])
          have Hn3 := Lib.hid (show nin (sw xs k) < N by have := Hnin.out; have := hN2.out; omega)
          clear ho3 hb3
          go_wp2_with fail
          refine (IH.out _ _ _ (sw xs k) _ b F Hn3.out Ho3.out.rd Hl3.out hb HF2.out HPF.out).mono ?_
          rintro e w3 ⟨r3, rfl, hF3, hP3, hb3⟩
          have hB3 := hB2.trans (hb3.mono hB2.size)
          have HF3 := Lib.hid hF3
          have HP3 := Lib.hid hP3
          clear hF3 hP3 hb3
          go_wp2_with fail
          refine (hop r3 k _ _ _ HF3.out rfl (by omega) HP3.out).mono ?_
          rintro e w4 ⟨r4, rfl, _, hF4, hb4⟩
          have hB4 := hB3.trans (hb4.mono hB3.size)
          have HF4 := Lib.hid hF4
          have HP4 := Lib.hid (hP k _ (by omega) HP3.out)
          clear hF4 hb4
          go_wp2
          go_ret
          exact ⟨_, rfl, by rw [Hus.out]; exact HF4.out, by rw [Hus.out]; exact HP4.out, hB4⟩
        · have Hfl2 := Lib.hid (show flat xs (k + 1) from fun j p q hj hp hq => by
            rcases Nat.lt_or_ge j k with h | h
            · exact Hfl.out j p q h hp hq
            · obtain rfl : j = k := by omega
              rw [Hx.out] at hp
              rw [Hy.out] at hq
              obtain rfl := Option.some.inj hp
              obtain rfl := Option.some.inj hq
              exact hxy)
          have HD := Lib.hid (fun d : Nat => hd.trans (Drew.drewN wo d))
          have hg : decide (x < y) = false := by simp [hxy]
          clear hd hB
          go_wp2
          go_quiet (fail)
          go_wp2
          go_roundw
          case rel => exact ⟨k + 1, by go_num, by omega, Hfl2.out, HD.out _⟩
          case measure => simp [intOf]; omega
      · have Hnone := Lib.hid (ups_none (asc_all (w := xs) (fun j p q hp hq => by
          have := (List.getElem?_eq_some_iff.1 hq).1
          rw [Hn.out] at this
          exact Hfl.out j p q (by omega) hp hq))).1
        have q1 : ¬ (k : Int) < (n : Int) - 1 := by omega
        have HF2 := Lib.hid ((HF.out 0).below hB)
        clear hr
        go_wp2
        go_ret
        exact ⟨_, rfl, by rw [Hnone.out]; exact HF2.out, by rw [Hnone.out]; exact HPF.out, hB⟩
end Go.Proofs.Ytflkomgfgmephaa
