/-
  Contracts of the program's sum, and of the factorial.
  Contract of the program's layer: all fillings from one on, counted in the box. Printed by a program of ours (lrlayer.py).
  make([]int, 16).
-/
import Derived.Test.YtpjkhkoecgjjbaaBuL7
import Derived.Test.YtpjkhkoecgjjbaaBuL8
import Derived.Test.YtpjkhkoecgjjbaaBuL5
import Derived.Test.YtpjkhkoecgjjbaaBuL1
import Derived.Deep.RegionHeld3
import Derived.Test.YtpjkhkoecgjjbaaBuL2
namespace Go.Proofs.Ytpjkhkoecgjjbaa
open Go.RowKit

set_option maxHeartbeats 400000 in
theorem sumImpl_any (a : Option Addr) (n c : Nat) (xs : List Int) (w : World) (hr : RI w a xs) (hn : xs.length = n) (hb : n ≤ 1048576) (hs : Small xs) :
    Calls Try.prog 32 #[.slice a n c] w fun e w' => e = .returned (.int .i64 (sumI xs)) ∧ w = w' := by
  have Hn := Lib.hid hn; clear hn
  have HS := Lib.hid hs; clear hs
  go_enter Try.func32, Try.ntmps32
  go_wp2
  go_loop [3, 8] (fun s i => ∃ k : Nat, k ≤ n ∧ i = .int .i64 k ∧ s = .int .i64 (sumI (xs.take k))) (fun _ i => n - (intOf i).toNat)
  case atStart => exact ⟨0, Nat.zero_le _, rfl, rfl⟩
  case round =>
    obtain ⟨k, hk, rfl, rfl⟩ := hrel
    by_cases hlt : k < n
    · obtain ⟨b, off, rfl, hcell⟩ := hr.at (k := k) (by rw [Hn.out]; exact hlt)
      obtain ⟨x, hx⟩ := some_at Hn.out hlt
      have hc := hcell k x hx
      have hxb := HS.out.at hx
      have hsb := sumI_bd (HS.out.take k)
      have hst := Lib.hid (sumI_take hx)
      have hlk : (xs.take k).length = k := by rw [List.length_take, Hn.out]; omega
      rw [hlk] at hsb
      clear hcell hx hlk
      obtain ⟨s, hsv⟩ : ∃ s, sumI (xs.take k) = s := ⟨_, rfl⟩
      rw [hsv] at hsb ⊢
      have Hv := Lib.hid hsv; clear hsv
      go_wp2
      go_round
      case rel => exact ⟨k + 1, by omega, by go_num, by rw [hst.out, Hv.out]⟩
      case measure => simp [intOf]; omega
    · obtain rfl : k = n := by omega
      go_wp2
      go_ret
      exact ⟨ret_int (by rw [List.take_of_length_le (by rw [Hn.out]; omega)]), rfl⟩

def fact : Nat → Nat
  | 0 => 1
  | n + 1 => (n + 1) * fact n
theorem fact_pos (n : Nat) : 1 ≤ fact n := by
  induction n with
  | zero => exact Nat.le_refl _
  | succ n ih => rw [fact]; exact Nat.le_trans ih (Nat.le_mul_of_pos_left _ (by omega))
theorem fact_mono {m n : Nat} (h : m ≤ n) : fact m ≤ fact n := by
  induction n with
  | zero => obtain rfl : m = 0 := (by omega); exact Nat.le_refl _
  | succ n ih =>
    rcases Nat.lt_or_ge m (n + 1) with h1 | h1
    · have := ih (by omega)
      rw [fact]; exact Nat.le_trans this (Nat.le_mul_of_pos_left _ (by omega))
    · obtain rfl : m = n + 1 := (by omega); exact Nat.le_refl _
theorem fact_20 : fact 20 = 2432902008176640000 := by rfl
theorem fact_bd {n : Nat} (h : n ≤ 20) : fact n ≤ 2432902008176640000 := by rw [← fact_20]; exact fact_mono h

end Go.Proofs.Ytpjkhkoecgjjbaa

namespace Go.Proofs.Ytpjkhkoecgjjbaa
open Go.RowKit

theorem RT.keep {A : Nat} {w : World} {b off k : Nat} {xs : List Int} {x : Int} (h : RT A w (some ⟨b, off, none⟩) xs) (hx : xs[k]? = some x) (wr : World) (hl : Lay A w wr) : wr.cell? ⟨b, off + k, none⟩ = some (.int .i64 x) := by
  obtain ⟨b', off', e, hc⟩ := (h.lay hl).rd.at (lt_of_some hx)
  simp only [Option.some.injEq, Addr.mk.injEq, and_true] at e
  obtain ⟨rfl, rfl⟩ := e
  exact hc k x hx
theorem ite_minL (a b : Int) : (if b < a then b else a) = min a b := by split <;> omega

set_option maxRecDepth 100000 in
set_option maxHeartbeats 12800000 in
theorem layer_00 (M : Nat) (ih : LayIh M) (A : Nat) (cs : List Int) (first : Bool) (k r N : Nat) (L : List (List Int × Int)) (P old put last : List Int) (left : Int) (ap acs aold aund aput al : Option Addr) (cp ncs ccs cold nund cund cput n c : Nat) (w : World)
    (hM : ncs * 18 + (k + 1) < M + 1) (hcc : ncs ≤ ccs) (hp : LayPre A cs first (k + 1) r N L P old put last left ap acs aold aund aput al cp ncs nund cund cput n c w) (hf : first = true) (hr0 : r = 0) :
    Calls Try.prog 49 #[.slice ap 16 cp, .slice acs ncs ccs, .slice aold 16 cold, .int .i64 r, .int .i64 left, .slice aund nund cund, .slice aput 16 cput, .int .i64 16, .func (.func 43) #[] #[.pointer (some ⟨A, 0, none⟩)]] w
      (SeePost A (N + (lrStrip (restP cs) first last (k + 1) P put left).length) (insAll (lrStrip (restP cs) first last (k + 1) P put left) L) w) := by
  have hok := hp.ok
  have hrk := hp.rk
  obtain ⟨pr, hpr⟩ : ∃ pr, P.getD r 0 = pr := ⟨_, rfl⟩
  obtain ⟨oq, hoq⟩ : ∃ oq, old.getD (r - 1) 0 = oq := ⟨_, rfl⟩
  obtain ⟨S1, hS1⟩ : ∃ S, sumI (last.take r) = S := ⟨_, rfl⟩
  obtain ⟨S2, hS2⟩ : ∃ S, sumI (put.take r) = S := ⟨_, rfl⟩
  obtain ⟨T, hT⟩ : ∃ T, lrTop first last P put r left = T := ⟨_, rfl⟩
  have hprb := hok.P0 r
  rw [hpr] at hprb
  have hold : old.getD r 0 = pr := by rw [hp.oldE, hpr, hok.rest0 r (by omega)]; omega
  have hoqe := hp.oldE (r - 1)
  rw [hoq] at hoqe
  have hoqb : -16 ≤ oq ∧ oq ≤ 16 := by have := hok.P0 (r - 1); have := hok.put0 (r - 1); omega
  have hS1b := sum16_bd hok.llast hok.last0 r
  have hS2b := sum16_bd hok.lput hok.put0 r
  rw [hS1] at hS1b
  rw [hS2] at hS2b
  have hlb := hok.left0
  have hlb8 := hok.left8
  have hr16 : r < 16 := by omega
  have hTe : T = min (min left (16 - pr)) (min (if first = true then left else S1 - S2) (if r = 0 then left else oq - pr)) := by
    rw [← hT]; unfold lrTop; rw [hpr, hS1, hS2, hoqe]
  rw [hf, if_pos rfl, if_pos (show r = 0 by omega)] at hTe
  obtain ⟨bo, oo, haold, _⟩ := hp.rold.rd.at (k := r) (by rw [hp.lold]; exact hr16)
  subst haold
  obtain ⟨rfl, rfl, rfl⟩ := hp.und.1 hf
  have HC1 := Lib.hid (hp.rold.keep (k := r) (x := pr) (by obtain ⟨y, hy⟩ := some_at (k := r) hp.lold hr16; rw [hy, ← getD_of hy, hold]))
  have z0 : ((r : Int) == 16) = false := by rw [beq_eq_false_iff_ne]; omega
  have z5 : ¬ (0 : Int) < (r : Int) := by omega
  have z17 : decide (0 < r) = false := by simp; omega
  have z6 : (0 : Int) ≤ (r : Int) := by omega
  have z7 : (r : Int) < 16 := by omega
  have z12 : (r : Int) ≤ (cput : Int) := by have := hp.pcput; omega
  have z13 : IntKind.i64.wrap ((r : Int) + 1) = ((r + 1 : Nat) : Int) := by rw [IntWalk.i64_in _ (by omega)]; omega
  have Hp := Lib.hid hp
  have HT := Lib.hid hT
  have Hpr := Lib.hid hpr
  have HM := Lib.hid hM
  have Hih := Lib.hid ih
  have Hrk := Lib.hid hrk
  have HTe := Lib.hid hTe
  have HS2 := Lib.hid hS2
  have Hlput := Lib.hid hok.lput
  have HlP := Lib.hid hok.lP
  have HSm := Lib.hid (small_of_getD hok.put0)
  clear hp hok hrk hT hpr hM ih hS1 hS2 hTe hold hoq hoqe hr0 hf
  go_enter Try.func49, Try.ntmps49
  go_wp2_with fail
  refine (isInt (sumImpl_any _ r _ (put.take r) _ (Hp.out.rput.rd.taken r) (by rw [List.length_take, Hlput.out]; omega) (by omega) (HSm.out.take r)) HS2.out).mono ?_
  rintro e w1 ⟨rfl, rfl⟩
  go_wp2
  go_loopw [23] (fun nv wr => Hid (LayAt A cs first k N L P put last left T w nv wr)) (fun nv _ => (left + 1 - intOf nv).toNat)
  case atStart => exact LayAt.start T Hp.out
  case round =>
    obtain ⟨j, a', n', c', rfl, hs, hj, hL⟩ := hrel.out
    clear hrel
    have Hs := Lib.hid hs
    have HL := Lib.hid hL
    have hj16 : (j : Int) ≤ 17 := by have := HTe.out; omega
    clear hs hL
    by_cases hjl : (j : Int) ≤ left
    · have k1 := HC1.out _ HL.out
      have w1 : IntKind.i64.wrap (pr + (j : Int)) = pr + (j : Int) := IntWalk.i64_in _ (by omega)
      by_cases hjT : (j : Int) ≤ T
      · have hTj := HTe.out
        have cc2 : decide (16 < pr + (j : Int)) = false := decide_eq_false (by omega)
        clear hTj
        go_wp2
        go_quiet (fail)
        obtain ⟨wd, hwd⟩ : ∃ wd, wr.drewN nq = wd := ⟨_, rfl⟩
        have hd : Below wr.heap.size wr wd := Drew.below ⟨nq, hwd.symm⟩ _
        rw [hwd]
        have Hs2 := Lib.hid (Hs.out.below hd)
        have HL2 := Lib.hid (HL.out.trans (Lay.of_below hd))
        have hpI := Lib.hid (Hp.out.rP.lay HL2.out).rd
        have hputI := Lib.hid (Hp.out.rput.lay HL2.out).rd
        have z21 : IntKind.i64.wrap (left - (j : Int)) = left - (j : Int) := IntWalk.i64_in _ (by omega)
        clear hwd hd Hs HL k1
        go_wp2_with fail
        refine (cloneI_any _ _ _ P _ hpI.out HlP.out (by omega)).mono ?_
        rintro e w2 ⟨a2, c2, rfl, ho2, hb2⟩
        have hs1 := hb2.size
        have hcap := ho2.1.lt
        obtain ⟨g, rfl, hBg, ⟨x, hx, hcx⟩, hfx⟩ := OI.cons ho2.1 hr16
        have hx2 : x = pr := by rw [← Hpr.out, getD_of hx]
        subst hx2
        have hst := ho2.1.store r (x + (j : Int))
        have hb3 : Below wd.heap.size wd (w2.setCell ⟨g, r, none⟩ (.int .i64 (x + (j : Int)))) := hb2.grown hst.2 hs1 (by intro q hq; obtain rfl := Option.some.inj hq; exact hBg)
        have hgA : g ≠ A := by have := Hs2.out.box.lt; omega
        have Hs3 := Lib.hid hst.1
        have Hb3 := Lib.hid hb3
        have hputI2 := Lib.hid (hputI.out.below hb3)
        have hs3 := hb3.size
        clear hx hst hb3 ho2 hb2 hputI hpI
        go_wp2_with fail
        refine (cloneI_any _ _ _ put _ hputI2.out Hlput.out (by omega)).mono ?_
        rintro e w4 ⟨a4, c4, rfl, ho4, hb4⟩
        obtain ⟨g4, rfl, hBg4, ⟨x4, hx4, hcx4⟩, hfx4⟩ := OI.cons ho4.1 hr16
        have hst4 := ho4.1.store r (j : Int)
        have hs4 := hb4.size
        have hcap4 := ho4.1.lt
        have hb5 : Below (w2.setCell ⟨g, r, none⟩ (.int .i64 (x + (j : Int)))).heap.size (w2.setCell ⟨g, r, none⟩ (.int .i64 (x + (j : Int)))) (w4.setCell ⟨g4, r, none⟩ (.int .i64 (j : Int))) := hb4.grown hst4.2 hs4 (by intro q hq; obtain rfl := Option.some.inj hq; exact hBg4)
        have hg4A : g4 ≠ A := by have := Hs2.out.box.lt; omega
        have Hb5 := Lib.hid (Hb3.out.trans (hb5.mono hs3))
        have HN := Lib.hid (LayPre.next Hp.out Hpr.out (by rw [HT.out]; exact hjT) Hs2.out HL2.out Hb5.out
          ((RT.of_os (A := A) Hs3.out (by intro q hq; obtain rfl : g = q := (by simpa [Value.ownBlock] using hq); exact hgA)).below hb5)
          (RT.of_os (A := A) hst4.1 (by intro q hq; obtain rfl : g4 = q := (by simpa [Value.ownBlock] using hq); exact hg4A)) hcap hcap4)
        have HL5 := Lib.hid (HL2.out.trans (Lay.of_below Hb5.out))
        clear hx4 hst4 hb4 hb5 ho4 hcx hfx
        go_wp2_with fail
        refine (Hih.out A cs first k (r + 1) _ _ _ old _ last _ _ _ _ _ _ _ c2 ncs ccs cold _ _ c4 n' c' _ (by have := HM.out; omega) hcc HN.out).mono ?_
        rintro e w6 h6
        obtain ⟨a6, n6, c6, rfl, h6a, h6b⟩ := h6
        have HE := Lib.hid (LayAt.step (T := T) Hrk.out Hpr.out hjT HL5.out ⟨a6, n6, c6, rfl, h6a, h6b⟩)
        clear h6a h6b hcx4 hfx4 HN
        go_wp2
        go_roundw
        case rel => exact HE
        case measure => simp [intOf]; omega
      · by_cases d2 : 16 < pr + (j : Int)
        · have ed2 : decide (16 < pr + (j : Int)) = true := decide_eq_true d2
          go_wp2
          go_quiet (fail)
          have HE := Lib.hid (LayAt.done Hrk.out HT.out.symm hj (by omega) (Hs.out.below (Drew.below (Drew.drewN wr nq) _)) (HL.out.trans (Lay.of_below (Drew.below (Drew.drewN wr nq) _))))
          go_wp2
          go_end0
          exact HE.out
        · exfalso
          have := HTe.out
          omega
    · have hjT : ¬ (j : Int) ≤ T := by have := HTe.out; omega
      have HE := Lib.hid (LayAt.done Hrk.out HT.out.symm hj (by omega) Hs.out HL.out)
      go_wp2
      go_end0
      exact HE.out

set_option maxRecDepth 100000 in
set_option maxHeartbeats 12800000 in
theorem layer_01 (M : Nat) (ih : LayIh M) (A : Nat) (cs : List Int) (first : Bool) (k r N : Nat) (L : List (List Int × Int)) (P old put last : List Int) (left : Int) (ap acs aold aund aput al : Option Addr) (cp ncs ccs cold nund cund cput n c : Nat) (w : World)
    (hM : ncs * 18 + (k + 1) < M + 1) (hcc : ncs ≤ ccs) (hp : LayPre A cs first (k + 1) r N L P old put last left ap acs aold aund aput al cp ncs nund cund cput n c w) (hf : first = true) (hr0 : 0 < r) :
    Calls Try.prog 49 #[.slice ap 16 cp, .slice acs ncs ccs, .slice aold 16 cold, .int .i64 r, .int .i64 left, .slice aund nund cund, .slice aput 16 cput, .int .i64 16, .func (.func 43) #[] #[.pointer (some ⟨A, 0, none⟩)]] w
      (SeePost A (N + (lrStrip (restP cs) first last (k + 1) P put left).length) (insAll (lrStrip (restP cs) first last (k + 1) P put left) L) w) := by
  have hok := hp.ok
  have hrk := hp.rk
  obtain ⟨pr, hpr⟩ : ∃ pr, P.getD r 0 = pr := ⟨_, rfl⟩
  obtain ⟨oq, hoq⟩ : ∃ oq, old.getD (r - 1) 0 = oq := ⟨_, rfl⟩
  obtain ⟨S1, hS1⟩ : ∃ S, sumI (last.take r) = S := ⟨_, rfl⟩
  obtain ⟨S2, hS2⟩ : ∃ S, sumI (put.take r) = S := ⟨_, rfl⟩
  obtain ⟨T, hT⟩ : ∃ T, lrTop first last P put r left = T := ⟨_, rfl⟩
  have hprb := hok.P0 r
  rw [hpr] at hprb
  have hold : old.getD r 0 = pr := by rw [hp.oldE, hpr, hok.rest0 r (by omega)]; omega
  have hoqe := hp.oldE (r - 1)
  rw [hoq] at hoqe
  have hoqb : -16 ≤ oq ∧ oq ≤ 16 := by have := hok.P0 (r - 1); have := hok.put0 (r - 1); omega
  have hS1b := sum16_bd hok.llast hok.last0 r
  have hS2b := sum16_bd hok.lput hok.put0 r
  rw [hS1] at hS1b
  rw [hS2] at hS2b
  have hlb := hok.left0
  have hlb8 := hok.left8
  have hr16 : r < 16 := by omega
  have hTe : T = min (min left (16 - pr)) (min (if first = true then left else S1 - S2) (if r = 0 then left else oq - pr)) := by
    rw [← hT]; unfold lrTop; rw [hpr, hS1, hS2, hoqe]
  rw [hf, if_pos rfl, if_neg (show ¬ r = 0 by omega)] at hTe
  obtain ⟨bo, oo, haold, _⟩ := hp.rold.rd.at (k := r) (by rw [hp.lold]; exact hr16)
  subst haold
  obtain ⟨rfl, rfl, rfl⟩ := hp.und.1 hf
  have HC1 := Lib.hid (hp.rold.keep (k := r) (x := pr) (by obtain ⟨y, hy⟩ := some_at (k := r) hp.lold hr16; rw [hy, ← getD_of hy, hold]))
  have z0 : ((r : Int) == 16) = false := by rw [beq_eq_false_iff_ne]; omega
  have z5 : (0 : Int) < (r : Int) := by omega
  have z17 : decide (0 < r) = true := by simp; omega
  have z6 : (0 : Int) ≤ (r : Int) := by omega
  have z7 : (r : Int) < 16 := by omega
  have z12 : (r : Int) ≤ (cput : Int) := by have := hp.pcput; omega
  have z13 : IntKind.i64.wrap ((r : Int) + 1) = ((r + 1 : Nat) : Int) := by rw [IntWalk.i64_in _ (by omega)]; omega
  obtain ⟨r1, hr1⟩ : ∃ r1 : Nat, r = r1 + 1 := ⟨r - 1, by omega⟩
  have z8 : IntKind.i64.wrap ((r : Int) - 1) = (r1 : Int) := by rw [IntWalk.i64_in _ (by omega)]; omega
  have z14 : (0 : Int) ≤ (r1 : Int) := by omega
  have z15 : (r1 : Int) < 16 := by omega
  have HC2 := Lib.hid (hp.rold.keep (k := r1) (x := oq) (by obtain ⟨y, hy⟩ := some_at (k := r1) hp.lold (by omega); rw [hy, ← getD_of hy, ← hoq, show r - 1 = r1 by omega]))
  have Hp := Lib.hid hp
  have HT := Lib.hid hT
  have Hpr := Lib.hid hpr
  have HM := Lib.hid hM
  have Hih := Lib.hid ih
  have Hrk := Lib.hid hrk
  have HTe := Lib.hid hTe
  have HS2 := Lib.hid hS2
  have Hlput := Lib.hid hok.lput
  have HlP := Lib.hid hok.lP
  have HSm := Lib.hid (small_of_getD hok.put0)
  clear hp hok hrk hT hpr hM ih hS1 hS2 hTe hold hoq hoqe hr0 hf hr1
  go_enter Try.func49, Try.ntmps49
  go_wp2_with fail
  refine (isInt (sumImpl_any _ r _ (put.take r) _ (Hp.out.rput.rd.taken r) (by rw [List.length_take, Hlput.out]; omega) (by omega) (HSm.out.take r)) HS2.out).mono ?_
  rintro e w1 ⟨rfl, rfl⟩
  go_wp2
  go_loopw [23] (fun nv wr => Hid (LayAt A cs first k N L P put last left T w nv wr)) (fun nv _ => (left + 1 - intOf nv).toNat)
  case atStart => exact LayAt.start T Hp.out
  case round =>
    obtain ⟨j, a', n', c', rfl, hs, hj, hL⟩ := hrel.out
    clear hrel
    have Hs := Lib.hid hs
    have HL := Lib.hid hL
    have hj16 : (j : Int) ≤ 17 := by have := HTe.out; omega
    clear hs hL
    by_cases hjl : (j : Int) ≤ left
    · have k1 := HC1.out _ HL.out
      have k2 := HC2.out _ HL.out
      have w1 : IntKind.i64.wrap (pr + (j : Int)) = pr + (j : Int) := IntWalk.i64_in _ (by omega)
      by_cases hjT : (j : Int) ≤ T
      · have hTj := HTe.out
        have cc1 : decide (oq < pr + (j : Int)) = false := decide_eq_false (by omega)
        have cc2 : decide (16 < pr + (j : Int)) = false := decide_eq_false (by omega)
        clear hTj
        go_wp2
        go_quiet (fail)
        obtain ⟨wd, hwd⟩ : ∃ wd, wr.drewN nq = wd := ⟨_, rfl⟩
        have hd : Below wr.heap.size wr wd := Drew.below ⟨nq, hwd.symm⟩ _
        rw [hwd]
        have Hs2 := Lib.hid (Hs.out.below hd)
        have HL2 := Lib.hid (HL.out.trans (Lay.of_below hd))
        have hpI := Lib.hid (Hp.out.rP.lay HL2.out).rd
        have hputI := Lib.hid (Hp.out.rput.lay HL2.out).rd
        have z21 : IntKind.i64.wrap (left - (j : Int)) = left - (j : Int) := IntWalk.i64_in _ (by omega)
        clear hwd hd Hs HL k1 k2
        go_wp2_with fail
        refine (cloneI_any _ _ _ P _ hpI.out HlP.out (by omega)).mono ?_
        rintro e w2 ⟨a2, c2, rfl, ho2, hb2⟩
        have hs1 := hb2.size
        have hcap := ho2.1.lt
        obtain ⟨g, rfl, hBg, ⟨x, hx, hcx⟩, hfx⟩ := OI.cons ho2.1 hr16
        have hx2 : x = pr := by rw [← Hpr.out, getD_of hx]
        subst hx2
        have hst := ho2.1.store r (x + (j : Int))
        have hb3 : Below wd.heap.size wd (w2.setCell ⟨g, r, none⟩ (.int .i64 (x + (j : Int)))) := hb2.grown hst.2 hs1 (by intro q hq; obtain rfl := Option.some.inj hq; exact hBg)
        have hgA : g ≠ A := by have := Hs2.out.box.lt; omega
        have Hs3 := Lib.hid hst.1
        have Hb3 := Lib.hid hb3
        have hputI2 := Lib.hid (hputI.out.below hb3)
        have hs3 := hb3.size
        clear hx hst hb3 ho2 hb2 hputI hpI
        go_wp2_with fail
        refine (cloneI_any _ _ _ put _ hputI2.out Hlput.out (by omega)).mono ?_
        rintro e w4 ⟨a4, c4, rfl, ho4, hb4⟩
        obtain ⟨g4, rfl, hBg4, ⟨x4, hx4, hcx4⟩, hfx4⟩ := OI.cons ho4.1 hr16
        have hst4 := ho4.1.store r (j : Int)
        have hs4 := hb4.size
        have hcap4 := ho4.1.lt
        have hb5 : Below (w2.setCell ⟨g, r, none⟩ (.int .i64 (x + (j : Int)))).heap.size (w2.setCell ⟨g, r, none⟩ (.int .i64 (x + (j : Int)))) (w4.setCell ⟨g4, r, none⟩ (.int .i64 (j : Int))) := hb4.grown hst4.2 hs4 (by intro q hq; obtain rfl := Option.some.inj hq; exact hBg4)
        have hg4A : g4 ≠ A := by have := Hs2.out.box.lt; omega
        have Hb5 := Lib.hid (Hb3.out.trans (hb5.mono hs3))
        have HN := Lib.hid (LayPre.next Hp.out Hpr.out (by rw [HT.out]; exact hjT) Hs2.out HL2.out Hb5.out
          ((RT.of_os (A := A) Hs3.out (by intro q hq; obtain rfl : g = q := (by simpa [Value.ownBlock] using hq); exact hgA)).below hb5)
          (RT.of_os (A := A) hst4.1 (by intro q hq; obtain rfl : g4 = q := (by simpa [Value.ownBlock] using hq); exact hg4A)) hcap hcap4)
        have HL5 := Lib.hid (HL2.out.trans (Lay.of_below Hb5.out))
        clear hx4 hst4 hb4 hb5 ho4 hcx hfx
        go_wp2_with fail
        refine (Hih.out A cs first k (r + 1) _ _ _ old _ last _ _ _ _ _ _ _ c2 ncs ccs cold _ _ c4 n' c' _ (by have := HM.out; omega) hcc HN.out).mono ?_
        rintro e w6 h6
        obtain ⟨a6, n6, c6, rfl, h6a, h6b⟩ := h6
        have HE := Lib.hid (LayAt.step (T := T) Hrk.out Hpr.out hjT HL5.out ⟨a6, n6, c6, rfl, h6a, h6b⟩)
        clear h6a h6b hcx4 hfx4 HN
        go_wp2
        go_roundw
        case rel => exact HE
        case measure => simp [intOf]; omega
      · by_cases d1 : oq < pr + (j : Int)
        · have ed1 : decide (oq < pr + (j : Int)) = true := decide_eq_true d1
          go_wp2
          go_quiet (fail)
          have HE := Lib.hid (LayAt.done Hrk.out HT.out.symm hj (by omega) (Hs.out.below (Drew.below (Drew.drewN wr nq) _)) (HL.out.trans (Lay.of_below (Drew.below (Drew.drewN wr nq) _))))
          go_wp2
          go_end0
          exact HE.out
        · by_cases d2 : 16 < pr + (j : Int)
          · have ed2 : decide (16 < pr + (j : Int)) = true := decide_eq_true d2
            have ed1 : decide (oq < pr + (j : Int)) = false := decide_eq_false d1
            go_wp2
            go_quiet (fail)
            have HE := Lib.hid (LayAt.done Hrk.out HT.out.symm hj (by omega) (Hs.out.below (Drew.below (Drew.drewN wr nq) _)) (HL.out.trans (Lay.of_below (Drew.below (Drew.drewN wr nq) _))))
            go_wp2
            go_end0
            exact HE.out
          · exfalso
            have := HTe.out
            omega
    · have hjT : ¬ (j : Int) ≤ T := by have := HTe.out; omega
      have HE := Lib.hid (LayAt.done Hrk.out HT.out.symm hj (by omega) Hs.out HL.out)
      go_wp2
      go_end0
      exact HE.out

set_option maxRecDepth 100000 in
set_option maxHeartbeats 12800000 in
theorem layer_10 (M : Nat) (ih : LayIh M) (A : Nat) (cs : List Int) (first : Bool) (k r N : Nat) (L : List (List Int × Int)) (P old put last : List Int) (left : Int) (ap acs aold aund aput al : Option Addr) (cp ncs ccs cold nund cund cput n c : Nat) (w : World)
    (hM : ncs * 18 + (k + 1) < M + 1) (hcc : ncs ≤ ccs) (hp : LayPre A cs first (k + 1) r N L P old put last left ap acs aold aund aput al cp ncs nund cund cput n c w) (hf : first = false) (hr0 : r = 0) :
    Calls Try.prog 49 #[.slice ap 16 cp, .slice acs ncs ccs, .slice aold 16 cold, .int .i64 r, .int .i64 left, .slice aund nund cund, .slice aput 16 cput, .int .i64 16, .func (.func 43) #[] #[.pointer (some ⟨A, 0, none⟩)]] w
      (SeePost A (N + (lrStrip (restP cs) first last (k + 1) P put left).length) (insAll (lrStrip (restP cs) first last (k + 1) P put left) L) w) := by
  have hok := hp.ok
  have hrk := hp.rk
  obtain ⟨pr, hpr⟩ : ∃ pr, P.getD r 0 = pr := ⟨_, rfl⟩
  obtain ⟨oq, hoq⟩ : ∃ oq, old.getD (r - 1) 0 = oq := ⟨_, rfl⟩
  obtain ⟨S1, hS1⟩ : ∃ S, sumI (last.take r) = S := ⟨_, rfl⟩
  obtain ⟨S2, hS2⟩ : ∃ S, sumI (put.take r) = S := ⟨_, rfl⟩
  obtain ⟨T, hT⟩ : ∃ T, lrTop first last P put r left = T := ⟨_, rfl⟩
  have hprb := hok.P0 r
  rw [hpr] at hprb
  have hold : old.getD r 0 = pr := by rw [hp.oldE, hpr, hok.rest0 r (by omega)]; omega
  have hoqe := hp.oldE (r - 1)
  rw [hoq] at hoqe
  have hoqb : -16 ≤ oq ∧ oq ≤ 16 := by have := hok.P0 (r - 1); have := hok.put0 (r - 1); omega
  have hS1b := sum16_bd hok.llast hok.last0 r
  have hS2b := sum16_bd hok.lput hok.put0 r
  rw [hS1] at hS1b
  rw [hS2] at hS2b
  have hlb := hok.left0
  have hlb8 := hok.left8
  have hr16 : r < 16 := by omega
  have hTe : T = min (min left (16 - pr)) (min (if first = true then left else S1 - S2) (if r = 0 then left else oq - pr)) := by
    rw [← hT]; unfold lrTop; rw [hpr, hS1, hS2, hoqe]
  rw [hf, if_neg (show ¬ false = true by simp), if_pos (show r = 0 by omega)] at hTe
  obtain ⟨bo, oo, haold, _⟩ := hp.rold.rd.at (k := r) (by rw [hp.lold]; exact hr16)
  subst haold
  obtain ⟨⟨bu, ou, haund⟩, hnu, hru⟩ := hp.und.2 hf
  subst haund hnu
  have HC1 := Lib.hid (hp.rold.keep (k := r) (x := pr) (by obtain ⟨y, hy⟩ := some_at (k := r) hp.lold hr16; rw [hy, ← getD_of hy, hold]))
  have HC3 := Lib.hid (hru.keep (k := r) (x := S1) (by rw [prefs_at last hr16, hS1]))
  have z0 : ((r : Int) == 16) = false := by rw [beq_eq_false_iff_ne]; omega
  have z5 : ¬ (0 : Int) < (r : Int) := by omega
  have z17 : decide (0 < r) = false := by simp; omega
  have z6 : (0 : Int) ≤ (r : Int) := by omega
  have z7 : (r : Int) < 16 := by omega
  have z12 : (r : Int) ≤ (cput : Int) := by have := hp.pcput; omega
  have z13 : IntKind.i64.wrap ((r : Int) + 1) = ((r + 1 : Nat) : Int) := by rw [IntWalk.i64_in _ (by omega)]; omega
  have Hp := Lib.hid hp
  have HT := Lib.hid hT
  have Hpr := Lib.hid hpr
  have HM := Lib.hid hM
  have Hih := Lib.hid ih
  have Hrk := Lib.hid hrk
  have HTe := Lib.hid hTe
  have HS2 := Lib.hid hS2
  have Hlput := Lib.hid hok.lput
  have HlP := Lib.hid hok.lP
  have HSm := Lib.hid (small_of_getD hok.put0)
  clear hp hok hrk hT hpr hM ih hS1 hS2 hTe hold hoq hoqe hr0 hf hru
  go_enter Try.func49, Try.ntmps49
  go_wp2_with fail
  refine (isInt (sumImpl_any _ r _ (put.take r) _ (Hp.out.rput.rd.taken r) (by rw [List.length_take, Hlput.out]; omega) (by omega) (HSm.out.take r)) HS2.out).mono ?_
  rintro e w1 ⟨rfl, rfl⟩
  go_wp2
  go_loopw [23] (fun nv wr => Hid (LayAt A cs first k N L P put last left T w nv wr)) (fun nv _ => (left + 1 - intOf nv).toNat)
  case atStart => exact LayAt.start T Hp.out
  case round =>
    obtain ⟨j, a', n', c', rfl, hs, hj, hL⟩ := hrel.out
    clear hrel
    have Hs := Lib.hid hs
    have HL := Lib.hid hL
    have hj16 : (j : Int) ≤ 17 := by have := HTe.out; omega
    clear hs hL
    by_cases hjl : (j : Int) ≤ left
    · have k1 := HC1.out _ HL.out
      have k3 := HC3.out _ HL.out
      have w1 : IntKind.i64.wrap (pr + (j : Int)) = pr + (j : Int) := IntWalk.i64_in _ (by omega)
      have w3 : IntKind.i64.wrap (S2 + (j : Int)) = S2 + (j : Int) := IntWalk.i64_in _ (by omega)
      by_cases hjT : (j : Int) ≤ T
      · have hTj := HTe.out
        have cc3 : decide (S1 < S2 + (j : Int)) = false := decide_eq_false (by omega)
        have cc2 : decide (16 < pr + (j : Int)) = false := decide_eq_false (by omega)
        clear hTj
        go_wp2
        go_quiet (fail)
        obtain ⟨wd, hwd⟩ : ∃ wd, wr.drewN nq = wd := ⟨_, rfl⟩
        have hd : Below wr.heap.size wr wd := Drew.below ⟨nq, hwd.symm⟩ _
        rw [hwd]
        have Hs2 := Lib.hid (Hs.out.below hd)
        have HL2 := Lib.hid (HL.out.trans (Lay.of_below hd))
        have hpI := Lib.hid (Hp.out.rP.lay HL2.out).rd
        have hputI := Lib.hid (Hp.out.rput.lay HL2.out).rd
        have z21 : IntKind.i64.wrap (left - (j : Int)) = left - (j : Int) := IntWalk.i64_in _ (by omega)
        clear hwd hd Hs HL k1 k3
        go_wp2_with fail
        refine (cloneI_any _ _ _ P _ hpI.out HlP.out (by omega)).mono ?_
        rintro e w2 ⟨a2, c2, rfl, ho2, hb2⟩
        have hs1 := hb2.size
        have hcap := ho2.1.lt
        obtain ⟨g, rfl, hBg, ⟨x, hx, hcx⟩, hfx⟩ := OI.cons ho2.1 hr16
        have hx2 : x = pr := by rw [← Hpr.out, getD_of hx]
        subst hx2
        have hst := ho2.1.store r (x + (j : Int))
        have hb3 : Below wd.heap.size wd (w2.setCell ⟨g, r, none⟩ (.int .i64 (x + (j : Int)))) := hb2.grown hst.2 hs1 (by intro q hq; obtain rfl := Option.some.inj hq; exact hBg)
        have hgA : g ≠ A := by have := Hs2.out.box.lt; omega
        have Hs3 := Lib.hid hst.1
        have Hb3 := Lib.hid hb3
        have hputI2 := Lib.hid (hputI.out.below hb3)
        have hs3 := hb3.size
        clear hx hst hb3 ho2 hb2 hputI hpI
        go_wp2_with fail
        refine (cloneI_any _ _ _ put _ hputI2.out Hlput.out (by omega)).mono ?_
        rintro e w4 ⟨a4, c4, rfl, ho4, hb4⟩
        obtain ⟨g4, rfl, hBg4, ⟨x4, hx4, hcx4⟩, hfx4⟩ := OI.cons ho4.1 hr16
        have hst4 := ho4.1.store r (j : Int)
        have hs4 := hb4.size
        have hcap4 := ho4.1.lt
        have hb5 : Below (w2.setCell ⟨g, r, none⟩ (.int .i64 (x + (j : Int)))).heap.size (w2.setCell ⟨g, r, none⟩ (.int .i64 (x + (j : Int)))) (w4.setCell ⟨g4, r, none⟩ (.int .i64 (j : Int))) := hb4.grown hst4.2 hs4 (by intro q hq; obtain rfl := Option.some.inj hq; exact hBg4)
        have hg4A : g4 ≠ A := by have := Hs2.out.box.lt; omega
        have Hb5 := Lib.hid (Hb3.out.trans (hb5.mono hs3))
        have HN := Lib.hid (LayPre.next Hp.out Hpr.out (by rw [HT.out]; exact hjT) Hs2.out HL2.out Hb5.out
          ((RT.of_os (A := A) Hs3.out (by intro q hq; obtain rfl : g = q := (by simpa [Value.ownBlock] using hq); exact hgA)).below hb5)
          (RT.of_os (A := A) hst4.1 (by intro q hq; obtain rfl : g4 = q := (by simpa [Value.ownBlock] using hq); exact hg4A)) hcap hcap4)
        have HL5 := Lib.hid (HL2.out.trans (Lay.of_below Hb5.out))
        clear hx4 hst4 hb4 hb5 ho4 hcx hfx
        go_wp2_with fail
        refine (Hih.out A cs first k (r + 1) _ _ _ old _ last _ _ _ _ _ _ _ c2 ncs ccs cold _ _ c4 n' c' _ (by have := HM.out; omega) hcc HN.out).mono ?_
        rintro e w6 h6
        obtain ⟨a6, n6, c6, rfl, h6a, h6b⟩ := h6
        have HE := Lib.hid (LayAt.step (T := T) Hrk.out Hpr.out hjT HL5.out ⟨a6, n6, c6, rfl, h6a, h6b⟩)
        clear h6a h6b hcx4 hfx4 HN
        go_wp2
        go_roundw
        case rel => exact HE
        case measure => simp [intOf]; omega
      · by_cases d2 : 16 < pr + (j : Int)
        · have ed2 : decide (16 < pr + (j : Int)) = true := decide_eq_true d2
          go_wp2
          go_quiet (fail)
          have HE := Lib.hid (LayAt.done Hrk.out HT.out.symm hj (by omega) (Hs.out.below (Drew.below (Drew.drewN wr nq) _)) (HL.out.trans (Lay.of_below (Drew.below (Drew.drewN wr nq) _))))
          go_wp2
          go_end0
          exact HE.out
        · by_cases d3 : S1 < S2 + (j : Int)
          · have ed3 : decide (S1 < S2 + (j : Int)) = true := decide_eq_true d3
            have ed2 : decide (16 < pr + (j : Int)) = false := decide_eq_false d2
            go_wp2
            go_quiet (fail)
            have HE := Lib.hid (LayAt.done Hrk.out HT.out.symm hj (by omega) (Hs.out.below (Drew.below (Drew.drewN wr nq) _)) (HL.out.trans (Lay.of_below (Drew.below (Drew.drewN wr nq) _))))
            go_wp2
            go_end0
            exact HE.out
          · exfalso
            have := HTe.out
            omega
    · have hjT : ¬ (j : Int) ≤ T := by have := HTe.out; omega
      have HE := Lib.hid (LayAt.done Hrk.out HT.out.symm hj (by omega) Hs.out HL.out)
      go_wp2
      go_end0
      exact HE.out

set_option maxRecDepth 100000 in
set_option maxHeartbeats 12800000 in
theorem layer_11 (M : Nat) (ih : LayIh M) (A : Nat) (cs : List Int) (first : Bool) (k r N : Nat) (L : List (List Int × Int)) (P old put last : List Int) (left : Int) (ap acs aold aund aput al : Option Addr) (cp ncs ccs cold nund cund cput n c : Nat) (w : World)
    (hM : ncs * 18 + (k + 1) < M + 1) (hcc : ncs ≤ ccs) (hp : LayPre A cs first (k + 1) r N L P old put last left ap acs aold aund aput al cp ncs nund cund cput n c w) (hf : first = false) (hr0 : 0 < r) :
    Calls Try.prog 49 #[.slice ap 16 cp, .slice acs ncs ccs, .slice aold 16 cold, .int .i64 r, .int .i64 left, .slice aund nund cund, .slice aput 16 cput, .int .i64 16, .func (.func 43) #[] #[.pointer (some ⟨A, 0, none⟩)]] w
      (SeePost A (N + (lrStrip (restP cs) first last (k + 1) P put left).length) (insAll (lrStrip (restP cs) first last (k + 1) P put left) L) w) := by
  have hok := hp.ok
  have hrk := hp.rk
  obtain ⟨pr, hpr⟩ : ∃ pr, P.getD r 0 = pr := ⟨_, rfl⟩
  obtain ⟨oq, hoq⟩ : ∃ oq, old.getD (r - 1) 0 = oq := ⟨_, rfl⟩
  obtain ⟨S1, hS1⟩ : ∃ S, sumI (last.take r) = S := ⟨_, rfl⟩
  obtain ⟨S2, hS2⟩ : ∃ S, sumI (put.take r) = S := ⟨_, rfl⟩
  obtain ⟨T, hT⟩ : ∃ T, lrTop first last P put r left = T := ⟨_, rfl⟩
  have hprb := hok.P0 r
  rw [hpr] at hprb
  have hold : old.getD r 0 = pr := by rw [hp.oldE, hpr, hok.rest0 r (by omega)]; omega
  have hoqe := hp.oldE (r - 1)
  rw [hoq] at hoqe
  have hoqb : -16 ≤ oq ∧ oq ≤ 16 := by have := hok.P0 (r - 1); have := hok.put0 (r - 1); omega
  have hS1b := sum16_bd hok.llast hok.last0 r
  have hS2b := sum16_bd hok.lput hok.put0 r
  rw [hS1] at hS1b
  rw [hS2] at hS2b
  have hlb := hok.left0
  have hlb8 := hok.left8
  have hr16 : r < 16 := by omega
  have hTe : T = min (min left (16 - pr)) (min (if first = true then left else S1 - S2) (if r = 0 then left else oq - pr)) := by
    rw [← hT]; unfold lrTop; rw [hpr, hS1, hS2, hoqe]
  rw [hf, if_neg (show ¬ false = true by simp), if_neg (show ¬ r = 0 by omega)] at hTe
  obtain ⟨bo, oo, haold, _⟩ := hp.rold.rd.at (k := r) (by rw [hp.lold]; exact hr16)
  subst haold
  obtain ⟨⟨bu, ou, haund⟩, hnu, hru⟩ := hp.und.2 hf
  subst haund hnu
  have HC1 := Lib.hid (hp.rold.keep (k := r) (x := pr) (by obtain ⟨y, hy⟩ := some_at (k := r) hp.lold hr16; rw [hy, ← getD_of hy, hold]))
  have HC3 := Lib.hid (hru.keep (k := r) (x := S1) (by rw [prefs_at last hr16, hS1]))
  have z0 : ((r : Int) == 16) = false := by rw [beq_eq_false_iff_ne]; omega
  have z5 : (0 : Int) < (r : Int) := by omega
  have z17 : decide (0 < r) = true := by simp; omega
  have z6 : (0 : Int) ≤ (r : Int) := by omega
  have z7 : (r : Int) < 16 := by omega
  have z12 : (r : Int) ≤ (cput : Int) := by have := hp.pcput; omega
  have z13 : IntKind.i64.wrap ((r : Int) + 1) = ((r + 1 : Nat) : Int) := by rw [IntWalk.i64_in _ (by omega)]; omega
  obtain ⟨r1, hr1⟩ : ∃ r1 : Nat, r = r1 + 1 := ⟨r - 1, by omega⟩
  have z8 : IntKind.i64.wrap ((r : Int) - 1) = (r1 : Int) := by rw [IntWalk.i64_in _ (by omega)]; omega
  have z14 : (0 : Int) ≤ (r1 : Int) := by omega
  have z15 : (r1 : Int) < 16 := by omega
  have HC2 := Lib.hid (hp.rold.keep (k := r1) (x := oq) (by obtain ⟨y, hy⟩ := some_at (k := r1) hp.lold (by omega); rw [hy, ← getD_of hy, ← hoq, show r - 1 = r1 by omega]))
  have Hp := Lib.hid hp
  have HT := Lib.hid hT
  have Hpr := Lib.hid hpr
  have HM := Lib.hid hM
  have Hih := Lib.hid ih
  have Hrk := Lib.hid hrk
  have HTe := Lib.hid hTe
  have HS2 := Lib.hid hS2
  have Hlput := Lib.hid hok.lput
  have HlP := Lib.hid hok.lP
  have HSm := Lib.hid (small_of_getD hok.put0)
  clear hp hok hrk hT hpr hM ih hS1 hS2 hTe hold hoq hoqe hr0 hf hru hr1
  go_enter Try.func49, Try.ntmps49
  go_wp2_with fail
  refine (isInt (sumImpl_any _ r _ (put.take r) _ (Hp.out.rput.rd.taken r) (by rw [List.length_take, Hlput.out]; omega) (by omega) (HSm.out.take r)) HS2.out).mono ?_
  rintro e w1 ⟨rfl, rfl⟩
  go_wp2
  go_loopw [23] (fun nv wr => Hid (LayAt A cs first k N L P put last left T w nv wr)) (fun nv _ => (left + 1 - intOf nv).toNat)
  case atStart => exact LayAt.start T Hp.out
  case round =>
    obtain ⟨j, a', n', c', rfl, hs, hj, hL⟩ := hrel.out
    clear hrel
    have Hs := Lib.hid hs
    have HL := Lib.hid hL
    have hj16 : (j : Int) ≤ 17 := by have := HTe.out; omega
    clear hs hL
    by_cases hjl : (j : Int) ≤ left
    · have k1 := HC1.out _ HL.out
      have k3 := HC3.out _ HL.out
      have k2 := HC2.out _ HL.out
      have w1 : IntKind.i64.wrap (pr + (j : Int)) = pr + (j : Int) := IntWalk.i64_in _ (by omega)
      have w3 : IntKind.i64.wrap (S2 + (j : Int)) = S2 + (j : Int) := IntWalk.i64_in _ (by omega)
      by_cases hjT : (j : Int) ≤ T
      · have hTj := HTe.out
        have cc3 : decide (S1 < S2 + (j : Int)) = false := decide_eq_false (by omega)
        have cc1 : decide (oq < pr + (j : Int)) = false := decide_eq_false (by omega)
        have cc2 : decide (16 < pr + (j : Int)) = false := decide_eq_false (by omega)
        clear hTj
        go_wp2
        go_quiet (fail)
        obtain ⟨wd, hwd⟩ : ∃ wd, wr.drewN nq = wd := ⟨_, rfl⟩
        have hd : Below wr.heap.size wr wd := Drew.below ⟨nq, hwd.symm⟩ _
        rw [hwd]
        have Hs2 := Lib.hid (Hs.out.below hd)
        have HL2 := Lib.hid (HL.out.trans (Lay.of_below hd))
        have hpI := Lib.hid (Hp.out.rP.lay HL2.out).rd
        have hputI := Lib.hid (Hp.out.rput.lay HL2.out).rd
        have z21 : IntKind.i64.wrap (left - (j : Int)) = left - (j : Int) := IntWalk.i64_in _ (by omega)
        clear hwd hd Hs HL k1 k3 k2
        go_wp2_with fail
        refine (cloneI_any _ _ _ P _ hpI.out HlP.out (by omega)).mono ?_
        rintro e w2 ⟨a2, c2, rfl, ho2, hb2⟩
        have hs1 := hb2.size
        have hcap := ho2.1.lt
        obtain ⟨g, rfl, hBg, ⟨x, hx, hcx⟩, hfx⟩ := OI.cons ho2.1 hr16
        have hx2 : x = pr := by rw [← Hpr.out, getD_of hx]
        subst hx2
        have hst := ho2.1.store r (x + (j : Int))
        have hb3 : Below wd.heap.size wd (w2.setCell ⟨g, r, none⟩ (.int .i64 (x + (j : Int)))) := hb2.grown hst.2 hs1 (by intro q hq; obtain rfl := Option.some.inj hq; exact hBg)
        have hgA : g ≠ A := by have := Hs2.out.box.lt; omega
        have Hs3 := Lib.hid hst.1
        have Hb3 := Lib.hid hb3
        have hputI2 := Lib.hid (hputI.out.below hb3)
        have hs3 := hb3.size
        clear hx hst hb3 ho2 hb2 hputI hpI
        go_wp2_with fail
        refine (cloneI_any _ _ _ put _ hputI2.out Hlput.out (by omega)).mono ?_
        rintro e w4 ⟨a4, c4, rfl, ho4, hb4⟩
        obtain ⟨g4, rfl, hBg4, ⟨x4, hx4, hcx4⟩, hfx4⟩ := OI.cons ho4.1 hr16
        have hst4 := ho4.1.store r (j : Int)
        have hs4 := hb4.size
        have hcap4 := ho4.1.lt
        have hb5 : Below (w2.setCell ⟨g, r, none⟩ (.int .i64 (x + (j : Int)))).heap.size (w2.setCell ⟨g, r, none⟩ (.int .i64 (x + (j : Int)))) (w4.setCell ⟨g4, r, none⟩ (.int .i64 (j : Int))) := hb4.grown hst4.2 hs4 (by intro q hq; obtain rfl := Option.some.inj hq; exact hBg4)
        have hg4A : g4 ≠ A := by have := Hs2.out.box.lt; omega
        have Hb5 := Lib.hid (Hb3.out.trans (hb5.mono hs3))
        have HN := Lib.hid (LayPre.next Hp.out Hpr.out (by rw [HT.out]; exact hjT) Hs2.out HL2.out Hb5.out
          ((RT.of_os (A := A) Hs3.out (by intro q hq; obtain rfl : g = q := (by simpa [Value.ownBlock] using hq); exact hgA)).below hb5)
          (RT.of_os (A := A) hst4.1 (by intro q hq; obtain rfl : g4 = q := (by simpa [Value.ownBlock] using hq); exact hg4A)) hcap hcap4)
        have HL5 := Lib.hid (HL2.out.trans (Lay.of_below Hb5.out))
        clear hx4 hst4 hb4 hb5 ho4 hcx hfx
        go_wp2_with fail
        refine (Hih.out A cs first k (r + 1) _ _ _ old _ last _ _ _ _ _ _ _ c2 ncs ccs cold _ _ c4 n' c' _ (by have := HM.out; omega) hcc HN.out).mono ?_
        rintro e w6 h6
        obtain ⟨a6, n6, c6, rfl, h6a, h6b⟩ := h6
        have HE := Lib.hid (LayAt.step (T := T) Hrk.out Hpr.out hjT HL5.out ⟨a6, n6, c6, rfl, h6a, h6b⟩)
        clear h6a h6b hcx4 hfx4 HN
        go_wp2
        go_roundw
        case rel => exact HE
        case measure => simp [intOf]; omega
      · by_cases d1 : oq < pr + (j : Int)
        · have ed1 : decide (oq < pr + (j : Int)) = true := decide_eq_true d1
          go_wp2
          go_quiet (fail)
          have HE := Lib.hid (LayAt.done Hrk.out HT.out.symm hj (by omega) (Hs.out.below (Drew.below (Drew.drewN wr nq) _)) (HL.out.trans (Lay.of_below (Drew.below (Drew.drewN wr nq) _))))
          go_wp2
          go_end0
          exact HE.out
        · by_cases d2 : 16 < pr + (j : Int)
          · have ed2 : decide (16 < pr + (j : Int)) = true := decide_eq_true d2
            have ed1 : decide (oq < pr + (j : Int)) = false := decide_eq_false d1
            go_wp2
            go_quiet (fail)
            have HE := Lib.hid (LayAt.done Hrk.out HT.out.symm hj (by omega) (Hs.out.below (Drew.below (Drew.drewN wr nq) _)) (HL.out.trans (Lay.of_below (Drew.below (Drew.drewN wr nq) _))))
            go_wp2
            go_end0
            exact HE.out
          · by_cases d3 : S1 < S2 + (j : Int)
            · have ed3 : decide (S1 < S2 + (j : Int)) = true := decide_eq_true d3
              have ed1 : decide (oq < pr + (j : Int)) = false := decide_eq_false d1
              have ed2 : decide (16 < pr + (j : Int)) = false := decide_eq_false d2
              go_wp2
              go_quiet (fail)
              have HE := Lib.hid (LayAt.done Hrk.out HT.out.symm hj (by omega) (Hs.out.below (Drew.below (Drew.drewN wr nq) _)) (HL.out.trans (Lay.of_below (Drew.below (Drew.drewN wr nq) _))))
              go_wp2
              go_end0
              exact HE.out
            · exfalso
              have := HTe.out
              omega
    · have hjT : ¬ (j : Int) ≤ T := by have := HTe.out; omega
      have HE := Lib.hid (LayAt.done Hrk.out HT.out.symm hj (by omega) Hs.out HL.out)
      go_wp2
      go_end0
      exact HE.out
end Go.Proofs.Ytpjkhkoecgjjbaa

namespace Go.Proofs.Ytpjkhkoecgjjbaa
open Go.RowKit

theorem made16 (w : World) : OS (w.alloc (.cells (madeCells #[.int .i64 0] 16) 3)) w.heap.size (some ⟨w.heap.size, 0, none⟩) 16 16 zeros16 := by
  have e : (madeCells #[Value.int .i64 0] 16).toList = List.replicate 16 (Value.int .i64 0) := toList_madeCells_one (.int .i64 0) 16
  have e2 : (madeCells #[Value.int .i64 0] 16).size = 16 := by rw [← Array.length_toList, e]; simp
  refine OS.of ⟨by simp [ints, zeros16], .inr ⟨w.heap.size, 16, madeCells #[.int .i64 0] 16, rfl, Nat.le_refl _, heap_alloc_new w _, Nat.le_refl _, by unfold maxLen; omega, e2, by rw [e]; simp [ints, zeros16]⟩⟩
theorem mk16 (w : World) : (Instr.makeSlice 22 (.int .i64 16) (.int .i64 16)).run Try.prog w = .ok (.slice (some ⟨w.heap.size, 0, none⟩) 16 16) (w.alloc (.cells (madeCells #[.int .i64 0] 16) 3)) := by
  obtain ⟨i0, hi, hz0, hz1, hz2⟩ := info_parts Try.info3
  have hr := run_make (P := Try.prog) w 22 3 i0 (.int .i64 0) Try.underlying22 hi hz0 .i64 .i64 16 16 (by omega) (Int.le_refl _) (by rw [hz2]; omega) (by omega)
  rw [hz1] at hr
  exact hr
end Go.Proofs.Ytpjkhkoecgjjbaa
