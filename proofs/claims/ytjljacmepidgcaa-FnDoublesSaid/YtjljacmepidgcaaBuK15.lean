/-
  Contract of l3Stair.
  Contract of l3Schubert.
  Contract of staircase.
  Contract of lowered.
  Contracts of isSize and IdentityPerm.
-/
import Derived.Test.YtjljacmepidgcaaBuK14
import Derived.Test.YtjljacmepidgcaaBuK10
import Derived.Test.YtjljacmepidgcaaBuK12
import Derived.Test.YtjljacmepidgcaaBuK11
import Derived.Test.YtjljacmepidgcaaBuK7
import Derived.Test.YtjljacmepidgcaaOperated
import Derived.Test.YtjljacmepidgcaaBuK9
import Derived.Test.YtjljacmepidgcaaBuK1
import Derived.RegionTactic
import Derived.ChangeAlike
namespace Go.Proofs.Ytjljacmepidgcaa
open Go.RowKit

theorem MO.one (w : World) (p q : Int) : MO (w.alloc (.cells #[.int .i64 p, .int .i64 q] 67)) w.heap.size (w.alloc (.cells #[.int .i64 p, .int .i64 q] 67)).heap.size (some ⟨w.heap.size, 0, none⟩) 1 1 [(p, q)] :=
  MO.mk ⟨rfl, .inr ⟨w.heap.size, 1, #[.int .i64 p, .int .i64 q], rfl, Nat.le_refl _, heap_alloc_new w _, Nat.le_refl _, by unfold maxLen; omega, rfl, rfl⟩⟩
end Go.Proofs.Ytjljacmepidgcaa

namespace Go.Proofs.Ytjljacmepidgcaa
open Go.RowKit

end Go.Proofs.Ytjljacmepidgcaa

namespace Go.Proofs.Ytjljacmepidgcaa
open Go.RowKit Go.MapKept Go.ChangeMaps

theorem partK_free : ∀ n, n < 8 → ∀ j, j < 8 → j < n → dig (partK n j) j = 0 := by decide
theorem partK_step {n j : Nat} (hn : n ≤ 7) (hj : j < n) : dset (partK n j) j ((n : Int) - 1 - j) = partK n (j + 1) := by
  unfold dset
  rw [partK_free n (by omega) j (by omega) hj, partK_succ, Int.sub_zero]
set_option maxRecDepth 100000 in
set_option maxHeartbeats 3200000 in
theorem implStair_any (n : Nat) (w : World) (hn : n ≤ 7) :
    Calls Try.prog 56 #[.int .i64 n] w fun e w' => ∃ r, e = .returned (.map (some r)) ∧ PF w' r [(partK n n, 1)] ∧ Below w.heap.size w w' := by
  have hmm := @run_makeMap Try.prog
  have g0 : Hid ((w.alloc (.cells #[.int .i64 0, .int .i64 0, .int .i64 0, .int .i64 0, .int .i64 0, .int .i64 0, .int .i64 0] 56)).heap[w.heap.size]? = some (.cells (cells7 (partK n 0)) 56)) := heap_alloc_new w _
  have hBW : Below w.heap.size w (w.alloc (.cells #[.int .i64 0, .int .i64 0, .int .i64 0, .int .i64 0, .int .i64 0, .int .i64 0, .int .i64 0] 56)) := (Below.refl _ _).alloc (Nat.le_refl _) _
  have q0 : IntKind.i64.wrap ((n : Int) - 1) = (n : Int) - 1 := IntWalk.i64_in _ (by omega)
  go_enter Try.func56, Try.ntmps56
  go_wp2
  go_loopw [7] (fun iv wr => ∃ j : Nat, j ≤ n ∧ iv = .int .i64 j ∧ wr.heap[w.heap.size]? = some (.cells (cells7 (partK n j)) 56) ∧ Below w.heap.size w wr) (fun iv _ => n - (intOf iv).toNat)
  case atStart => exact ⟨0, Nat.zero_le _, rfl, g0.out, hBW⟩
  case round =>
    clear g0 hBW
    obtain ⟨j, hj, rfl, g1, hB⟩ := hrel
    obtain ⟨wo, rfl⟩ : ∃ wo : World, wo = wr := ⟨_, rfl⟩
    obtain ⟨b1, b2, _, _⟩ := partK_in n (by omega) j (by omega) hj
    by_cases hlt : j < n
    · have g2 := cells7_set g1 ⟨b1, b2⟩ (i := j) (by omega) (x := (n : Int) - 1 - j) (by unfold isD; omega)
      rw [partK_step hn hlt] at g2
      obtain ⟨p0, f0⟩ := cells7_cell g1 (i := j) (by omega)
      have q1 : (j : Int) < (n : Int) := by omega
      have q2 : IntKind.i64.wrap ((n : Int) - 1 - j) = (n : Int) - 1 - j := IntWalk.i64_in _ (by omega)
      have q3 : (j : Int) < 7 := by omega
      have HF := Lib.hid (And.intro g2 (hB.trans (below_setCell j (.int .i64 ((n : Int) - 1 - j)) (Nat.le_refl _))))
      clear g2 hB g1
      go_wp2
      go_roundw
      case rel => exact ⟨j + 1, by omega, by go_num, HF.out.1, HF.out.2⟩
      case measure => clear q2; simp [intOf]; omega
    · obtain rfl : j = n := by omega
      obtain ⟨a0, a1, a2, a3, a4, a5, a6⟩ := cells7_at g1
      obtain ⟨U, hU⟩ : ∃ U, wo.alloc (.map #[] 0) = U := ⟨_, rfl⟩
      have hBU : Below wo.heap.size wo U := by rw [← hU]; exact (Below.refl _ _).alloc (Nat.le_refl _) _
      have hM : PF U wo.heap.size [] := by rw [← hU]; exact PF.made wo
      have g2 : U.heap[w.heap.size]? = some (.cells (cells7 (partK j j)) 56) := by rw [hBU.block _ (Array.getElem?_eq_some_iff.1 g1).1]; exact g1
      obtain ⟨d0, d1, d2, d3, d4, d5, d6⟩ := cells7_at g2
      obtain ⟨w3, hup, hM3, hg3⟩ := hM.store (k := partK j j) (c := 1) ⟨b1, b2⟩ (by unfold in64; omega) (by decide) (coef_miss (by simp))
      have hB3 := Lib.hid (below_of_grown (hB.trans (hBU.mono hB.size)) hg3 (Nat.le_trans hB.size hBU.size) hB.size)
      have HM3 := Lib.hid hM3
      unfold kV at hup
      clear hM3 hM hg3 hB g1 g2 hBU a0 a1 a2 a3 a4 a5 a6
      go_wp2
      go_ret
      exact ⟨_, rfl, HM3.out, hB3.out⟩
end Go.Proofs.Ytjljacmepidgcaa

namespace Go.Proofs.Ytjljacmepidgcaa
open Go.RowKit Go.MapKept

set_option maxRecDepth 100000 in
set_option maxHeartbeats 6400000 in
theorem lowered_any (f : Nat) (ef : ∀ args w, (callFunc f args).run Try.prog w = .ok (.enter f args) w) (op : Nat → Mons → Mons) (P : Mons → Prop) (M : Nat) (hM : M ≤ 7) (hP : ∀ i F, i + 1 < M → P F → P (op i F))
    (hop : ∀ (b i : Nat) (I : Int) (F : Mons) (w : World), PF w b F → I = (i : Int) → i + 1 < M → P F → Calls Try.prog f #[.map (some b), .int .i64 I] w fun e w' => ∃ r, e = .returned (.map (some r)) ∧ w.heap.size ≤ r ∧ PF w' r (op i F) ∧ Below w.heap.size w w') :
    ∀ (N : Nat) (a : Option Addr) (n c : Nat) (xs : List Int) (w : World) (b : Nat) (F : Mons), nin xs < N → RI w a xs → xs.length = n → n ≤ M → PF w b F → P F →
    Calls Try.prog 40 #[.slice a n c, .map (some b), .func (.func f) #[] #[]] w fun e w' => ∃ r, e = .returned (.map (some r)) ∧ PF w' r ((ups xs).foldr op F) ∧ P ((ups xs).foldr op F) ∧ Below w.heap.size w w' := by
  intro N
  induction N with
  | zero =>
    intro a n c xs w b F hN
    omega
  | succ N ih =>
    intro a n c xs w b F hN hr hn hb hF hPF
    have Hn := Lib.hid hn; clear hn
    have HF := Lib.hid (fun d : Nat => hF.below (Drew.below (Drew.drewN w d) _))
    have q0 : IntKind.i64.wrap ((n : Int) - 1) = (n : Int) - 1 := IntWalk.i64_in _ (by omega)
    have IH := Lib.hid ih
    have HPF := Lib.hid hPF
    clear hF ih hPF
    go_enter Try.func40, Try.ntmps40
    go_wp2
    go_loopw [11] (fun kv wr => ∃ k : Nat, kv = .int .i64 k ∧ k ≤ n ∧ Hid (flat xs k) ∧ Drew w wr) (fun kv _ => n - (intOf kv).toNat)
    case atStart => exact ⟨0, rfl, Nat.zero_le _, fun j _ _ hj => by omega, Drew.refl _⟩
    case round =>
      obtain ⟨k, rfl, hk, Hfl, hd⟩ := hrel
      obtain ⟨wo, rfl⟩ : ∃ wo : World, wo = wr := ⟨_, rfl⟩
      have hB := hd.below w.heap.size
      by_cases hlt : k + 1 < n
      · obtain ⟨x, hx⟩ := some_at Hn.out (show k < n by omega)
        obtain ⟨y, hy⟩ := some_at Hn.out hlt
        obtain ⟨b1, off, rfl, hcell⟩ := (hr.below hB).at (k := k) (by rw [Hn.out]; omega)
        have p1 := hcell k x hx
        have p2 := hcell (k + 1) y hy
        have q1 : (k : Int) < (n : Int) - 1 := by omega
        have q2 : (k : Int) < (n : Int) := by omega
        have q3 : IntKind.i64.wrap ((k : Int) + 1) = ((k + 1 : Nat) : Int) := by rw [IntWalk.i64_in _ (by omega)]; omega
        have q4 : ((k + 1 : Nat) : Int) < (n : Int) := by omega
        have Hx := Lib.hid hx
        have Hy := Lib.hid hy
        clear hcell hx hy
        by_cases hxy : x < y
        · have Hasc := Lib.hid (asc_at Hx.out Hy.out hxy Hfl.out)
          have Hnin := Lib.hid (nin_sw Hasc.out)
          have Hus := Lib.hid (ups_some Hasc.out).1
          have Hsw := Lib.hid (sw_swp (w := xs) (k := k) (by rw [Hn.out]; exact hlt))
          have HD := Lib.hid (fun d : Nat => hd.trans (Drew.drewN wo d))
          have Hr := Lib.hid hr
          have hg : decide (x < y) = true := by simp [hxy]
          have hN2 := Lib.hid hN
          clear hd hB hr hN
          go_wp2
          go_quiet (fail)
          go_wp2_with fail
          refine (exchanged_any _ _ _ xs k (k + 1) _ _ _ (Hr.out.below ((HD.out _).below _)) Hn.out (by omega) rfl rfl (by omega) hlt (by omega)).mono ?_
          rintro e w2 ⟨a3, c3, rfl, ho3, hb3⟩
          rw [Hsw.out] at ho3
          have hB2 := ((HD.out _).below w.heap.size).trans (hb3.mono ((HD.out _).below w.heap.size).size)
          have Ho3 := Lib.hid ho3
          have HF2 := Lib.hid ((HF.out 0).below hB2)
          have Hl3 := Lib.hid (show (sw xs k).length = n by rw [sw_length, Hn.out])
          have Hn3 := Lib.hid (show nin (sw xs k) < N by have := Hnin.out; have := hN2.out; omega)
          clear ho3 hb3
          go_wp2_with fail
          refine (IH.out _ _ _ (sw xs k) _ b F Hn3.out Ho3.out.rd Hl3.out hb HF2.out HPF.out).mono ?_
          rintro e w3 ⟨r3, rfl, hF3, hP3, hb3⟩
          have hB3 := hB2.trans (hb3.mono hB2.size)
          have HF3 := Lib.hid hF3
          have HP3 := Lib.hid hP3
          clear hF3 hP3 hb3
          go_wp2_with fail
          refine (hop r3 k _ _ _ HF3.out rfl (by omega) HP3.out).mono ?_
          rintro e w4 ⟨r4, rfl, _, hF4, hb4⟩
          have hB4 := hB3.trans (hb4.mono hB3.size)
          have HF4 := Lib.hid hF4
          have HP4 := Lib.hid (hP k _ (by omega) HP3.out)
          clear hF4 hb4
          go_wp2
          go_ret
          exact ⟨_, rfl, by rw [Hus.out]; exact HF4.out, by rw [Hus.out]; exact HP4.out, hB4⟩
        · have Hfl2 := Lib.hid (show flat xs (k + 1) from fun j p q hj hp hq => by
            rcases Nat.lt_or_ge j k with h | h
            · exact Hfl.out j p q h hp hq
            · obtain rfl : j = k := by omega
              rw [Hx.out] at hp
              rw [Hy.out] at hq
              obtain rfl := Option.some.inj hp
              obtain rfl := Option.some.inj hq
              exact hxy)
          have HD := Lib.hid (fun d : Nat => hd.trans (Drew.drewN wo d))
          have hg : decide (x < y) = false := by simp [hxy]
          clear hd hB
          go_wp2
          go_quiet (fail)
          go_wp2
          go_roundw
          case rel => exact ⟨k + 1, by go_num, by omega, Hfl2.out, HD.out _⟩
          case measure => simp [intOf]; omega
      · have Hnone := Lib.hid (ups_none (asc_all (w := xs) (fun j p q hp hq => by
          have := (List.getElem?_eq_some_iff.1 hq).1
          rw [Hn.out] at this
          exact Hfl.out j p q (by omega) hp hq))).1
        have q1 : ¬ (k : Int) < (n : Int) - 1 := by omega
        have HF2 := Lib.hid ((HF.out 0).below hB)
        clear hr
        go_wp2
        go_ret
        exact ⟨_, rfl, by rw [Hnone.out]; exact HF2.out, by rw [Hnone.out]; exact HPF.out, hB⟩
end Go.Proofs.Ytjljacmepidgcaa

namespace Go.Proofs.Ytjljacmepidgcaa
open Go.RowKit

def ident (n : Nat) : List Int := (List.range n).map fun (i : Nat) => (i : Int)
theorem ident_length (n : Nat) : (ident n).length = n := by simp [ident]
theorem ident_at {n i : Nat} (h : i < n) : (ident n)[i]? = some (i : Int) := by simp [ident, h]
theorem ident_succ (n : Nat) : ident (n + 1) = ident n ++ [(n : Int)] := by simp [ident, List.range_succ]

end Go.Proofs.Ytjljacmepidgcaa
