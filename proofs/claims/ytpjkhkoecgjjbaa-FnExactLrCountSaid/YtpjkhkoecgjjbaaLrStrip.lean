/-
  Contract of l4Strip and l4Lattice of the reference: all fillings from one on, counted. Printed by a program of ours (lrstrip.py).
-/
import Derived.Test.YtpjkhkoecgjjbaaBuL7
import Derived.Test.YtpjkhkoecgjjbaaBuL10
import Derived.Test.YtpjkhkoecgjjbaaBuL1
import Derived.Test.YtpjkhkoecgjjbaaBuL9
namespace Go.Proofs.Ytpjkhkoecgjjbaa
open Go.RowKit

theorem ite_min (a b : Int) : (if b < a then b else a) = min a b := by split <;> omega
theorem lrPre_mem {mu : List Int} {i : Nat} {first : Bool} {last : List Int} {k : Nat} {P put : List Int} {left : Int} {j : Nat} (h : P.length = 16) : ∀ Q ∈ lrPre (restD mu i) first last k P put left j, Q.length = 16 := fun Q hQ => by
  unfold lrPre at hQ
  obtain ⟨n, _, h2⟩ := List.mem_flatMap.1 hQ
  exact lrStrip_mem (restD_mem mu i) k _ _ _ (by rw [List.length_set]; exact h) Q h2
/-- the next call's lists -/
theorem LrMem.next {mu : List Int} {i k r j N : Nat} {fi : Bool} {L L' : List (List Int × Int)} {s s1 put last : List Int} {left pr : Int} {ash amu alast al al' a1 : Option Addr} {ls ls1 nmu clast nl nl' : Nat} {w wr w2 : World}
    (h : LrMem mu N L (lrStrip (restD mu i) fi last (k + 1) (pad16 s) put left) ash ls s amu nmu alast clast last al nl w) (hok : LrOk fi last (k + 1) (pad16 s) put left) (hk : r + (k + 1) = 16) (hpr : s.getD r 0 = pr) (hT : (j : Int) ≤ lrTop fi last (pad16 s) put r left)
    (hb : Below w.heap.size w wr) (hrl : RP wr al' L') (hL' : L' = insAll (lrPre (restD mu i) fi last k (pad16 s) put left j) L) (hnl : L'.length = nl') (hb2 : Below wr.heap.size wr w2) (hs1 : RI w2 a1 s1) (hl1 : s1.length = ls1) (h16 : ls1 ≤ 16) (hp : pad16 s1 = (pad16 s).set r (pr + (j : Int))) :
    LrMem mu (N + (lrPre (restD mu i) fi last k (pad16 s) put left j).length) L' (lrStrip (restD mu i) fi last k (pad16 s1) (put.set r (j : Int)) (left - (j : Int))) a1 ls1 s1 amu nmu alast clast last al' nl' w2 ∧ LrOk fi last k (pad16 s1) (put.set r (j : Int)) (left - (j : Int)) := by
  obtain rfl : r = 15 - k := by omega
  have hB := hb.trans (hb2.mono hb.size)
  have e : (pad16 s).getD (15 - k) 0 = pr := by rw [pad16_getD]; exact hpr
  have hn := hok.next hT
  rw [e] at hn
  have hbig := h.big
  have h1 := lrPre_le (next := restD mu i) (first := fi) (last := last) (k := k) (P := pad16 s) (put := put) (left := left) (i := j + 1) (by omega)
  rw [lrPre_succ, List.length_append, e] at h1
  rw [hp]
  exact ⟨⟨hs1, hl1, h16, h.rmu.below hB, h.mul, h.nmu16, h.mu0, h.rlast.below hB, h.pcl, hrl.below hb2, hnl, by rw [hL']; exact h.good.all (lrPre_mem (pad16_length (by rw [h.sl]; exact h.ls16))), by omega⟩, hn⟩
theorem insAll_step {mu : List Int} {i k r j : Nat} {fi : Bool} {L : List (List Int × Int)} {s s1 put last : List Int} {left pr : Int} (hk : r + (k + 1) = 16) (hpr : s.getD r 0 = pr) (hp : pad16 s1 = (pad16 s).set r (pr + (j : Int))) :
    insAll (lrStrip (restD mu i) fi last k (pad16 s1) (put.set r (j : Int)) (left - (j : Int))) (insAll (lrPre (restD mu i) fi last k (pad16 s) put left j) L) = insAll (lrPre (restD mu i) fi last k (pad16 s) put left (j + 1)) L := by
  obtain rfl : r = 15 - k := by omega
  rw [lrPre_succ, insAll_append, hp, pad16_getD, hpr]
/-- the state ahead of a round -/
def StripAt (mu : List Int) (i k : Nat) (L : List (List Int × Int)) (s put last : List Int) (left T : Int) (w : World) (nv lv : Value) (wr : World) : Prop :=
  ∃ (j : Nat) (a' : Option Addr) (n' c' : Nat) (L' : List (List Int × Int)), nv = .int .i64 j ∧ lv = .slice a' n' c' ∧ RP wr a' L' ∧ L' = insAll (lrPre (restD mu i) (i == 0) last k (pad16 s) put left j) L ∧ L'.length = n' ∧ (j = 0 ∨ (j : Int) ≤ T + 1) ∧ Below w.heap.size w wr

set_option maxRecDepth 100000 in
set_option maxHeartbeats 12800000 in
theorem strip_00 (mu : List Int) (M : Nat) (ihS : StripIh mu M) (i k r : Nat) (N : Nat) (L : List (List Int × Int)) (s put last : List Int) (left : Int) (ash amu aput alast al : Option Addr) (ls csh nmu cmu cput clast nl cl : Nat) (w : World)
    (hM : (mu.length - i) * 18 + (k + 1) < M + 1) (hm : LrMem mu N L (lrStrip (restD mu i) (i == 0) last (k + 1) (pad16 s) put left) ash ls s amu nmu alast clast last al nl w) (hput : RI w aput put) (_hcput : 16 ≤ cput) (hok : LrOk (i == 0) last (k + 1) (pad16 s) put left) (hrk : r + (k + 1) = 16) (hrl : r ≤ ls) (hi : i < nmu) (hl0 : left ≠ 0) (hi0 : i = 0) (hr0 : r = 0) :
    Calls Try.prog 52 #[.slice ash ls csh, .slice amu nmu cmu, .int .i64 16, .int .i64 16, .int .i64 i, .int .i64 r, .int .i64 left, .slice aput 16 cput, .slice alast 16 clast, .slice al nl cl] w (LrPost w (lrStrip (restD mu i) (i == 0) last (k + 1) (pad16 s) put left) L) := by
  obtain ⟨pr, hpr⟩ : ∃ pr, s.getD r 0 = pr := ⟨_, rfl⟩
  obtain ⟨pq, hpq⟩ : ∃ pq, s.getD (r - 1) 0 = pq := ⟨_, rfl⟩
  obtain ⟨uq, huq⟩ : ∃ uq, put.getD (r - 1) 0 = uq := ⟨_, rfl⟩
  obtain ⟨S1, hS1⟩ : ∃ S, sumI (last.take r) = S := ⟨_, rfl⟩
  obtain ⟨S2, hS2⟩ : ∃ S, sumI (put.take r) = S := ⟨_, rfl⟩
  obtain ⟨T, hT⟩ : ∃ T, lrTop (i == 0) last (pad16 s) put r left = T := ⟨_, rfl⟩
  have hprb : 0 ≤ pr ∧ pr ≤ 16 := by rw [← hpr, ← pad16_getD]; exact hok.P0 r
  have hpqb : 0 ≤ pq ∧ pq ≤ 16 := by rw [← hpq, ← pad16_getD]; exact hok.P0 (r - 1)
  have huqb : 0 ≤ uq ∧ uq ≤ 8 := by rw [← huq]; exact hok.put0 (r - 1)
  have hS1b := sum16_bd hok.llast hok.last0 r
  have hS2b := sum16_bd hok.lput hok.put0 r
  rw [hS1] at hS1b
  rw [hS2] at hS2b
  have hlb := hok.left0
  have hlb8 := hok.left8
  have hTe : T = min (min left (16 - pr)) (min (if (i == 0) = true then left else S1 - S2) (if r = 0 then left else pq - uq - pr)) := by
    rw [← hT]; unfold lrTop; rw [pad16_getD, pad16_getD, hpr, hpq, huq, hS1, hS2]
  rw [if_pos (show (i == 0) = true by simp; omega), if_pos (show r = 0 by omega)] at hTe
  obtain ⟨m1, hm1⟩ : ∃ m1, (if 16 - pr < left then 16 - pr else left) = m1 := ⟨_, rfl⟩
  have e1 := hm1
  rw [ite_min] at e1
  have hm3 : T = m1 := by omega
  subst hm3
  have hTb : T ≤ 16 - pr ∧ T ≤ left := by omega
  have hls16 := hm.ls16
  have hnl := hm.nl
  have hr16 : r < 16 := by omega
  have HrL := Lib.hid (by rw [hm.sl]; exact hrl : r ≤ s.length)
  have z0 : (left == 0) = false := by simpa using hl0
  have z1 : ¬ (ls : Int) < (r : Int) := by omega
  have z2 : ¬ (16 : Int) ≤ (r : Int) := by omega
  have z3 : IntKind.i64.wrap (16 - pr) = 16 - pr := IntWalk.i64_in _ (by omega)
  have z4 : ¬ (0 : Int) < (i : Int) := by omega
  have z5 : ¬ (0 : Int) < (r : Int) := by omega
  have z16 : decide (0 < i) = false := by simp; omega
  have z17 : decide (0 < r) = false := by simp; omega
  have z6 : (0 : Int) ≤ (r : Int) := by omega
  have z13 : IntKind.i64.wrap ((r : Int) + 1) = ((r + 1 : Nat) : Int) := by rw [IntWalk.i64_in _ (by omega)]; omega
  have Hm := Lib.hid hm
  have Hok := Lib.hid hok
  have HT := Lib.hid hT
  have Hpr := Lib.hid hpr
  have HM := Lib.hid hM
  have Hih := Lib.hid ihS
  have Hput := Lib.hid hput
  have Hrk := Lib.hid hrk
  have Hlput := Lib.hid hok.lput
  have HTb := Lib.hid hTb
  have HTR := Lib.hid (show T = lrTop (i == 0) last (pad16 s) put (15 - k) left by rw [← hT, show 15 - k = r by omega])
  clear hm hok hT hpr hM ihS hput hrk hl0 hS1 hS2 huq e1 hTe hS1b hS2b hpq hTb hrl hi0 hr0
  go_enter Try.func52, Try.ntmps52
  go_wp2_with fail
  refine (l4At_is _ _ _ s r _ pr _ Hm.out.rs Hm.out.sl (by omega) (by omega) rfl Hpr.out).mono ?_
  rintro e w1 ⟨rfl, rfl⟩
  go_wp2
  skip
  go_loopw [22, 9] (fun nv lv wr => Hid (StripAt mu i k L s put last left T w nv lv wr)) (fun nv _ _ => (T + 1 - intOf nv).toNat)
  case atStart => exact ⟨0, al, nl, cl, L, rfl, rfl, Hm.out.rL.below (Below.refl _ _), rfl, Hm.out.pnl, .inl rfl, (Below.refl _ _)⟩
  case round =>
    obtain ⟨j, a', n', c', L', rfl, rfl, hrL, hL', hn', hj, hB⟩ := hrel.out
    clear hrel
    have HL := Lib.hid hrL
    have HL' := Lib.hid hL'
    have Hn' := Lib.hid hn'
    have HB := Lib.hid hB
    have hbs := hB.size
    clear hrL hL' hn' hB
    by_cases hjT : (j : Int) ≤ T
    · have z20 : IntKind.i64.wrap (pr + (j : Int)) = pr + (j : Int) := IntWalk.i64_in _ (by omega)
      have z21 : IntKind.i64.wrap (left - (j : Int)) = left - (j : Int) := IntWalk.i64_in _ (by have := HTb.out; omega)
      by_cases hrl : r = ls
      · subst hrl
        have z22 : ((r : Int) == (r : Int)) = true := by simp
        go_wp2_with fail
        refine (l1Ints_any _ _ _ s _ (Hm.out.rs.below HB.out) Hm.out.sl (by omega)).mono ?_
        rintro e w1 ⟨a1, c1, rfl, ho1, hb1⟩
        have Hb1 := Lib.hid hb1
        have hs1 := hb1.size
        clear hb1
        go_wp2_with (first | (at_builtin; go_loud (refine wpList_pushI (by rfl) (by rfl) _ _ (by rfl) ho1 (by rfl) (by rfl) (by omega) (by omega) ?_)))
        intro a2 c2 w2 ho2 hg2
        have hb2 : Below wr.heap.size wr w2 := hg2.below Hb1.out hs1 ho1.1.lo
        have hxl : r < r + 1 := by omega
        have hgx : (s ++ [0])[r]? = some pr := by
          have e0 : pr = 0 := by
            rw [← Hpr.out, List.getD_eq_getElem?_getD, List.getElem?_eq_none (by rw [Hm.out.sl]; omega)]
            rfl
          rw [e0, List.getElem?_append_right (by rw [Hm.out.sl]; omega), Hm.out.sl, Nat.sub_self]
          rfl
        have hpd : pad16 ((s ++ [0]).set r (pr + (j : Int))) = (pad16 s).set r (pr + (j : Int)) := by
          rw [pad16_set _ (by rw [List.length_append, Hm.out.sl]; simp), pad16_push (by rw [Hm.out.sl]; omega)]
        have hsl : ((s ++ [0]).set r (pr + (j : Int))).length = r + 1 := by rw [List.length_set, List.length_append, Hm.out.sl]; rfl
        have hl16 : r + 1 ≤ 16 := by omega
        have hcap := ho2.1.lt
        obtain ⟨g, rfl, hBg, ⟨x, hx, hcx⟩, hfx⟩ := OI.cons ho2.1 hxl
        rw [hgx] at hx
        obtain rfl := Option.some.inj hx
        have hst := ho2.1.store r (pr + (j : Int))
        have hs2 := hb2.size
        have hb3 : Below wr.heap.size wr (w2.setCell ⟨g, r, none⟩ (.int .i64 (pr + (j : Int)))) := hb2.grown hst.2 hs2 (by intro q hq; obtain rfl := Option.some.inj hq; exact hBg)
        have Hs3 := Lib.hid hst.1
        have Hb3 := Lib.hid hb3
        have HB3 := Lib.hid (HB.out.trans (hb3.mono hbs))
        have Hpd := Lib.hid hpd
        have Hsl := Lib.hid hsl
        have hs3 := hb3.size
        clear hx hst hb3 hgx hpd hsl ho2 hb2 hg2 Hb1 ho1
        go_wp2_with fail
        refine (l1Ints_any _ _ _ put _ (Hput.out.below HB3.out) Hlput.out (by omega)).mono ?_
        rintro e w4 ⟨a4, c4, rfl, ho4, hb4⟩
        obtain ⟨g4, rfl, hBg4, ⟨x4, hx4, hcx4⟩, hfx4⟩ := OI.cons ho4.1 hr16
        have hst4 := ho4.1.store r (j : Int)
        have hs4 := hb4.size
        have hb5 : Below (w2.setCell ⟨g, r, none⟩ (.int .i64 (pr + (j : Int)))).heap.size (w2.setCell ⟨g, r, none⟩ (.int .i64 (pr + (j : Int)))) (w4.setCell ⟨g4, r, none⟩ (.int .i64 (j : Int))) := hb4.grown hst4.2 hs4 (by intro q hq; obtain rfl := Option.some.inj hq; exact hBg4)
        have Hput5 := Lib.hid hst4.1.ri
        have Hs5 := Lib.hid ((OS.ri Hs3.out).below hb5)
        have Hb5 := Lib.hid (Hb3.out.trans (hb5.mono hs3))
        have HB5 := Lib.hid (HB.out.trans (Hb5.out.mono hbs))
        have hcap4 := ho4.1.lt
        obtain ⟨hmm, hokk⟩ := Hm.out.next Hok.out Hrk.out Hpr.out (by rw [HT.out]; exact hjT) HB.out HL.out HL'.out Hn'.out Hb5.out Hs5.out Hsl.out hl16 Hpd.out
        have Hmm := Lib.hid hmm
        have Hokk := Lib.hid hokk
        clear hx4 hst4 hb4 hb5 hmm hokk ho4 hcx hfx
        go_wp2_with fail
        refine (Hih.out i k (r + 1) _ _ _ _ _ _ _ _ _ _ _ _ _ _ _ _ _ n' c' _ (by have := HM.out; omega) Hmm.out Hput5.out hcap4 Hokk.out (by have := Hrk.out; omega) (by omega) hi hcap).mono ?_
        rintro e w6 ⟨a6, n6, c6, rfl, hp6, hb6⟩
        have hs5 := HB5.out.size
        have HL6 := Lib.hid hp6.out.1
        have Hn6 := Lib.hid hp6.out.2
        have HE6 := Lib.hid (show insAll (lrStrip (restD mu i) (i == 0) last k (pad16 ((s ++ [0]).set r (pr + (j : Int)))) (put.set r (j : Int)) (left - (j : Int))) L' = insAll (lrPre (restD mu i) (i == 0) last k (pad16 s) put left (j + 1)) L from by rw [HL'.out]; exact insAll_step Hrk.out Hpr.out Hpd.out)
        have HB6 := Lib.hid (HB5.out.trans (hb6.mono hs5))
        clear hp6 hb6 hcx4 hfx4
        go_wp2
        go_roundw
        case rel => exact ⟨j + 1, a6, n6, c6, _, by go_num, rfl, HL6.out, HE6.out, Hn6.out, .inr (by omega), HB6.out⟩
        case measure => simp [intOf]; omega
      · have z22 : ((r : Int) == (ls : Int)) = false := by rw [beq_eq_false_iff_ne]; omega
        have hrl2 : r < ls := by have := HrL.out; rw [Hm.out.sl] at this; omega
        go_wp2_with fail
        refine (l1Ints_any _ _ _ s _ (Hm.out.rs.below HB.out) Hm.out.sl (by omega)).mono ?_
        rintro e w2 ⟨a2, c2, rfl, ho2, hb2⟩
        have hs1 := hb2.size
        have hxl : r < ls := hrl2
        have hgx : s[r]? = some pr := by
          obtain ⟨y, hy⟩ := some_at Hm.out.sl hrl2
          rw [hy, ← getD_of hy, Hpr.out]
        have hpd : pad16 (s.set r (pr + (j : Int))) = (pad16 s).set r (pr + (j : Int)) := pad16_set _ (by rw [Hm.out.sl]; exact hrl2)
        have hsl : (s.set r (pr + (j : Int))).length = ls := by rw [List.length_set]; exact Hm.out.sl
        have hl16 : ls ≤ 16 := hls16
        have hcap := ho2.1.lt
        obtain ⟨g, rfl, hBg, ⟨x, hx, hcx⟩, hfx⟩ := OI.cons ho2.1 hxl
        rw [hgx] at hx
        obtain rfl := Option.some.inj hx
        have hst := ho2.1.store r (pr + (j : Int))
        have hs2 := hb2.size
        have hb3 : Below wr.heap.size wr (w2.setCell ⟨g, r, none⟩ (.int .i64 (pr + (j : Int)))) := hb2.grown hst.2 hs2 (by intro q hq; obtain rfl := Option.some.inj hq; exact hBg)
        have Hs3 := Lib.hid hst.1
        have Hb3 := Lib.hid hb3
        have HB3 := Lib.hid (HB.out.trans (hb3.mono hbs))
        have Hpd := Lib.hid hpd
        have Hsl := Lib.hid hsl
        have hs3 := hb3.size
        clear hx hst hb3 hgx hpd hsl ho2 hb2
        go_wp2_with fail
        refine (l1Ints_any _ _ _ put _ (Hput.out.below HB3.out) Hlput.out (by omega)).mono ?_
        rintro e w4 ⟨a4, c4, rfl, ho4, hb4⟩
        obtain ⟨g4, rfl, hBg4, ⟨x4, hx4, hcx4⟩, hfx4⟩ := OI.cons ho4.1 hr16
        have hst4 := ho4.1.store r (j : Int)
        have hs4 := hb4.size
        have hb5 : Below (w2.setCell ⟨g, r, none⟩ (.int .i64 (pr + (j : Int)))).heap.size (w2.setCell ⟨g, r, none⟩ (.int .i64 (pr + (j : Int)))) (w4.setCell ⟨g4, r, none⟩ (.int .i64 (j : Int))) := hb4.grown hst4.2 hs4 (by intro q hq; obtain rfl := Option.some.inj hq; exact hBg4)
        have Hput5 := Lib.hid hst4.1.ri
        have Hs5 := Lib.hid ((OS.ri Hs3.out).below hb5)
        have Hb5 := Lib.hid (Hb3.out.trans (hb5.mono hs3))
        have HB5 := Lib.hid (HB.out.trans (Hb5.out.mono hbs))
        have hcap4 := ho4.1.lt
        obtain ⟨hmm, hokk⟩ := Hm.out.next Hok.out Hrk.out Hpr.out (by rw [HT.out]; exact hjT) HB.out HL.out HL'.out Hn'.out Hb5.out Hs5.out Hsl.out hl16 Hpd.out
        have Hmm := Lib.hid hmm
        have Hokk := Lib.hid hokk
        clear hx4 hst4 hb4 hb5 hmm hokk ho4 hcx hfx
        go_wp2_with fail
        refine (Hih.out i k (r + 1) _ _ _ _ _ _ _ _ _ _ _ _ _ _ _ _ _ n' c' _ (by have := HM.out; omega) Hmm.out Hput5.out hcap4 Hokk.out (by have := Hrk.out; omega) (by omega) hi hcap).mono ?_
        rintro e w6 ⟨a6, n6, c6, rfl, hp6, hb6⟩
        have hs5 := HB5.out.size
        have HL6 := Lib.hid hp6.out.1
        have Hn6 := Lib.hid hp6.out.2
        have HE6 := Lib.hid (show insAll (lrStrip (restD mu i) (i == 0) last k (pad16 (s.set r (pr + (j : Int)))) (put.set r (j : Int)) (left - (j : Int))) L' = insAll (lrPre (restD mu i) (i == 0) last k (pad16 s) put left (j + 1)) L from by rw [HL'.out]; exact insAll_step Hrk.out Hpr.out Hpd.out)
        have HB6 := Lib.hid (HB5.out.trans (hb6.mono hs5))
        clear hp6 hb6 hcx4 hfx4
        go_wp2
        go_roundw
        case rel => exact ⟨j + 1, a6, n6, c6, _, by go_num, rfl, HL6.out, HE6.out, Hn6.out, .inr (by omega), HB6.out⟩
        case measure => simp [intOf]; omega
    · have HD := Lib.hid (show L' = insAll (lrStrip (restD mu i) (i == 0) last (k + 1) (pad16 s) put left) L by
        rw [HL'.out, lrPre_all (by have := HTR.out; omega)])
      go_wp2
      go_ret
      exact ⟨_, _, _, rfl, Lib.hid ⟨by rw [← HD.out]; exact HL.out, by rw [← HD.out]; exact Hn'.out⟩, HB.out⟩

set_option maxRecDepth 100000 in
set_option maxHeartbeats 12800000 in
theorem strip_01 (mu : List Int) (M : Nat) (ihS : StripIh mu M) (i k r : Nat) (N : Nat) (L : List (List Int × Int)) (s put last : List Int) (left : Int) (ash amu aput alast al : Option Addr) (ls csh nmu cmu cput clast nl cl : Nat) (w : World)
    (hM : (mu.length - i) * 18 + (k + 1) < M + 1) (hm : LrMem mu N L (lrStrip (restD mu i) (i == 0) last (k + 1) (pad16 s) put left) ash ls s amu nmu alast clast last al nl w) (hput : RI w aput put) (_hcput : 16 ≤ cput) (hok : LrOk (i == 0) last (k + 1) (pad16 s) put left) (hrk : r + (k + 1) = 16) (hrl : r ≤ ls) (hi : i < nmu) (hl0 : left ≠ 0) (hi0 : i = 0) (hr0 : 0 < r) :
    Calls Try.prog 52 #[.slice ash ls csh, .slice amu nmu cmu, .int .i64 16, .int .i64 16, .int .i64 i, .int .i64 r, .int .i64 left, .slice aput 16 cput, .slice alast 16 clast, .slice al nl cl] w (LrPost w (lrStrip (restD mu i) (i == 0) last (k + 1) (pad16 s) put left) L) := by
  obtain ⟨pr, hpr⟩ : ∃ pr, s.getD r 0 = pr := ⟨_, rfl⟩
  obtain ⟨pq, hpq⟩ : ∃ pq, s.getD (r - 1) 0 = pq := ⟨_, rfl⟩
  obtain ⟨uq, huq⟩ : ∃ uq, put.getD (r - 1) 0 = uq := ⟨_, rfl⟩
  obtain ⟨S1, hS1⟩ : ∃ S, sumI (last.take r) = S := ⟨_, rfl⟩
  obtain ⟨S2, hS2⟩ : ∃ S, sumI (put.take r) = S := ⟨_, rfl⟩
  obtain ⟨T, hT⟩ : ∃ T, lrTop (i == 0) last (pad16 s) put r left = T := ⟨_, rfl⟩
  have hprb : 0 ≤ pr ∧ pr ≤ 16 := by rw [← hpr, ← pad16_getD]; exact hok.P0 r
  have hpqb : 0 ≤ pq ∧ pq ≤ 16 := by rw [← hpq, ← pad16_getD]; exact hok.P0 (r - 1)
  have huqb : 0 ≤ uq ∧ uq ≤ 8 := by rw [← huq]; exact hok.put0 (r - 1)
  have hS1b := sum16_bd hok.llast hok.last0 r
  have hS2b := sum16_bd hok.lput hok.put0 r
  rw [hS1] at hS1b
  rw [hS2] at hS2b
  have hlb := hok.left0
  have hlb8 := hok.left8
  have hTe : T = min (min left (16 - pr)) (min (if (i == 0) = true then left else S1 - S2) (if r = 0 then left else pq - uq - pr)) := by
    rw [← hT]; unfold lrTop; rw [pad16_getD, pad16_getD, hpr, hpq, huq, hS1, hS2]
  rw [if_pos (show (i == 0) = true by simp; omega), if_neg (show ¬ r = 0 by omega)] at hTe
  obtain ⟨m1, hm1⟩ : ∃ m1, (if 16 - pr < left then 16 - pr else left) = m1 := ⟨_, rfl⟩
  have e1 := hm1
  rw [ite_min] at e1
  have hm3 : (if pq - uq - pr < m1 then pq - uq - pr else m1) = T := by
    rw [ite_min]
    clear hm1
    omega
  have hTb : T ≤ 16 - pr ∧ T ≤ left := by omega
  have hls16 := hm.ls16
  have hnl := hm.nl
  have hr16 : r < 16 := by omega
  have HrL := Lib.hid (by rw [hm.sl]; exact hrl : r ≤ s.length)
  have z0 : (left == 0) = false := by simpa using hl0
  have z1 : ¬ (ls : Int) < (r : Int) := by omega
  have z2 : ¬ (16 : Int) ≤ (r : Int) := by omega
  have z3 : IntKind.i64.wrap (16 - pr) = 16 - pr := IntWalk.i64_in _ (by omega)
  have z4 : ¬ (0 : Int) < (i : Int) := by omega
  have z5 : (0 : Int) < (r : Int) := by omega
  have z16 : decide (0 < i) = false := by simp; omega
  have z17 : decide (0 < r) = true := by simp; omega
  have z6 : (0 : Int) ≤ (r : Int) := by omega
  have z13 : IntKind.i64.wrap ((r : Int) + 1) = ((r + 1 : Nat) : Int) := by rw [IntWalk.i64_in _ (by omega)]; omega
  obtain ⟨r1, hr1⟩ : ∃ r1 : Nat, r = r1 + 1 := ⟨r - 1, by omega⟩
  have z8 : IntKind.i64.wrap ((r : Int) - 1) = (r1 : Int) := by rw [IntWalk.i64_in _ (by omega)]; omega
  have z9 : IntKind.i64.wrap (pq - uq) = pq - uq := IntWalk.i64_in _ (by omega)
  have z10 : IntKind.i64.wrap (pq - uq - pr) = pq - uq - pr := IntWalk.i64_in _ (by omega)
  have z14 : (0 : Int) ≤ (r1 : Int) := by omega
  have z15 : (r1 : Int) < 16 := by omega
  have Hpq1 := Lib.hid (show s.getD r1 0 = pq by rw [← hpq, show r - 1 = r1 by omega])
  obtain ⟨bp, op, hap, hcp⟩ := hput.at (k := r1) (by rw [hok.lput]; omega)
  subst hap
  have Hcu := Lib.hid (hcp r1 uq (by
    obtain ⟨y, hy⟩ := some_at (k := r1) hok.lput (by omega)
    rw [hy, ← getD_of hy, ← huq, show r - 1 = r1 by omega]))
  have HA := Lib.hid (show ∀ wd, Drew w wd → ∀ (q : Nat) (x : Int), s.getD q 0 = x → q ≤ 16 → ∀ n, Calls Try.prog 58 #[.slice ash ls csh, .int .i64 q] (wd.drewN n) fun e w'' => e = .returned (.int .i64 x) ∧ ∃ m, w'' = wd.drewN m from fun wd hd q x hx hq n => (l4At_is _ _ _ s q _ x _ ((hm.rs.drew hd).drew (Drew.drewN wd n)) hm.sl (by omega) (by omega) rfl hx).mono fun e w'' h => ⟨h.1, n, h.2.symm⟩)
  have Hm := Lib.hid hm
  have Hok := Lib.hid hok
  have HT := Lib.hid hT
  have Hpr := Lib.hid hpr
  have HM := Lib.hid hM
  have Hih := Lib.hid ihS
  have Hput := Lib.hid hput
  have Hrk := Lib.hid hrk
  have Hlput := Lib.hid hok.lput
  have HTb := Lib.hid hTb
  have HTR := Lib.hid (show T = lrTop (i == 0) last (pad16 s) put (15 - k) left by rw [← hT, show 15 - k = r by omega])
  clear hm hok hT hpr hM ihS hput hrk hl0 hS1 hS2 huq e1 hTe hS1b hS2b hpq hTb hrl hi0 hr0 hr1 hcp
  go_enter Try.func52, Try.ntmps52
  go_wp2_with fail
  refine (l4At_is _ _ _ s r _ pr _ Hm.out.rs Hm.out.sl (by omega) (by omega) rfl Hpr.out).mono ?_
  rintro e w1 ⟨rfl, rfl⟩
  go_wp2
  have hcu : w.cell? ⟨bp, op + r1, none⟩ = some (.int .i64 uq) := by rw [(Drew.refl _).cell]; exact Hcu.out
  have HA1 := Lib.hid (HA.out w (Drew.refl _) r1 pq Hpq1.out (by omega))
  have HA2 := Lib.hid (HA.out w (Drew.refl _) r pr Hpr.out (by omega))
  go_quiet ((first | (go_at_call 58; with_reducible exact HA1.out _) | (go_at_call 58; with_reducible exact HA2.out _)))
  obtain ⟨we, hwe⟩ : ∃ we, w.drewN nq = we := ⟨_, rfl⟩
  have hE : Drew w we := ⟨nq, hwe.symm⟩
  rw [hwe]
  have HE := Lib.hid ((Drew.refl _).trans hE)
  clear hwe hE hcu HA1 HA2
  go_wp2
  go_loopw [22, 9] (fun nv lv wr => Hid (StripAt mu i k L s put last left T w nv lv wr)) (fun nv _ _ => (T + 1 - intOf nv).toNat)
  case atStart => exact ⟨0, al, nl, cl, L, rfl, rfl, Hm.out.rL.below (HE.out.below _), rfl, Hm.out.pnl, .inl rfl, (HE.out.below _)⟩
  case round =>
    obtain ⟨j, a', n', c', L', rfl, rfl, hrL, hL', hn', hj, hB⟩ := hrel.out
    clear hrel HE
    have HL := Lib.hid hrL
    have HL' := Lib.hid hL'
    have Hn' := Lib.hid hn'
    have HB := Lib.hid hB
    have hbs := hB.size
    clear hrL hL' hn' hB
    by_cases hjT : (j : Int) ≤ T
    · have z20 : IntKind.i64.wrap (pr + (j : Int)) = pr + (j : Int) := IntWalk.i64_in _ (by omega)
      have z21 : IntKind.i64.wrap (left - (j : Int)) = left - (j : Int) := IntWalk.i64_in _ (by have := HTb.out; omega)
      by_cases hrl : r = ls
      · subst hrl
        have z22 : ((r : Int) == (r : Int)) = true := by simp
        go_wp2_with fail
        refine (l1Ints_any _ _ _ s _ (Hm.out.rs.below HB.out) Hm.out.sl (by omega)).mono ?_
        rintro e w1 ⟨a1, c1, rfl, ho1, hb1⟩
        have Hb1 := Lib.hid hb1
        have hs1 := hb1.size
        clear hb1
        go_wp2_with (first | (at_builtin; go_loud (refine wpList_pushI (by rfl) (by rfl) _ _ (by rfl) ho1 (by rfl) (by rfl) (by omega) (by omega) ?_)))
        intro a2 c2 w2 ho2 hg2
        have hb2 : Below wr.heap.size wr w2 := hg2.below Hb1.out hs1 ho1.1.lo
        have hxl : r < r + 1 := by omega
        have hgx : (s ++ [0])[r]? = some pr := by
          have e0 : pr = 0 := by
            rw [← Hpr.out, List.getD_eq_getElem?_getD, List.getElem?_eq_none (by rw [Hm.out.sl]; omega)]
            rfl
          rw [e0, List.getElem?_append_right (by rw [Hm.out.sl]; omega), Hm.out.sl, Nat.sub_self]
          rfl
        have hpd : pad16 ((s ++ [0]).set r (pr + (j : Int))) = (pad16 s).set r (pr + (j : Int)) := by
          rw [pad16_set _ (by rw [List.length_append, Hm.out.sl]; simp), pad16_push (by rw [Hm.out.sl]; omega)]
        have hsl : ((s ++ [0]).set r (pr + (j : Int))).length = r + 1 := by rw [List.length_set, List.length_append, Hm.out.sl]; rfl
        have hl16 : r + 1 ≤ 16 := by omega
        have hcap := ho2.1.lt
        obtain ⟨g, rfl, hBg, ⟨x, hx, hcx⟩, hfx⟩ := OI.cons ho2.1 hxl
        rw [hgx] at hx
        obtain rfl := Option.some.inj hx
        have hst := ho2.1.store r (pr + (j : Int))
        have hs2 := hb2.size
        have hb3 : Below wr.heap.size wr (w2.setCell ⟨g, r, none⟩ (.int .i64 (pr + (j : Int)))) := hb2.grown hst.2 hs2 (by intro q hq; obtain rfl := Option.some.inj hq; exact hBg)
        have Hs3 := Lib.hid hst.1
        have Hb3 := Lib.hid hb3
        have HB3 := Lib.hid (HB.out.trans (hb3.mono hbs))
        have Hpd := Lib.hid hpd
        have Hsl := Lib.hid hsl
        have hs3 := hb3.size
        clear hx hst hb3 hgx hpd hsl ho2 hb2 hg2 Hb1 ho1
        go_wp2_with fail
        refine (l1Ints_any _ _ _ put _ (Hput.out.below HB3.out) Hlput.out (by omega)).mono ?_
        rintro e w4 ⟨a4, c4, rfl, ho4, hb4⟩
        obtain ⟨g4, rfl, hBg4, ⟨x4, hx4, hcx4⟩, hfx4⟩ := OI.cons ho4.1 hr16
        have hst4 := ho4.1.store r (j : Int)
        have hs4 := hb4.size
        have hb5 : Below (w2.setCell ⟨g, r, none⟩ (.int .i64 (pr + (j : Int)))).heap.size (w2.setCell ⟨g, r, none⟩ (.int .i64 (pr + (j : Int)))) (w4.setCell ⟨g4, r, none⟩ (.int .i64 (j : Int))) := hb4.grown hst4.2 hs4 (by intro q hq; obtain rfl := Option.some.inj hq; exact hBg4)
        have Hput5 := Lib.hid hst4.1.ri
        have Hs5 := Lib.hid ((OS.ri Hs3.out).below hb5)
        have Hb5 := Lib.hid (Hb3.out.trans (hb5.mono hs3))
        have HB5 := Lib.hid (HB.out.trans (Hb5.out.mono hbs))
        have hcap4 := ho4.1.lt
        obtain ⟨hmm, hokk⟩ := Hm.out.next Hok.out Hrk.out Hpr.out (by rw [HT.out]; exact hjT) HB.out HL.out HL'.out Hn'.out Hb5.out Hs5.out Hsl.out hl16 Hpd.out
        have Hmm := Lib.hid hmm
        have Hokk := Lib.hid hokk
        clear hx4 hst4 hb4 hb5 hmm hokk ho4 hcx hfx
        go_wp2_with fail
        refine (Hih.out i k (r + 1) _ _ _ _ _ _ _ _ _ _ _ _ _ _ _ _ _ n' c' _ (by have := HM.out; omega) Hmm.out Hput5.out hcap4 Hokk.out (by have := Hrk.out; omega) (by omega) hi hcap).mono ?_
        rintro e w6 ⟨a6, n6, c6, rfl, hp6, hb6⟩
        have hs5 := HB5.out.size
        have HL6 := Lib.hid hp6.out.1
        have Hn6 := Lib.hid hp6.out.2
        have HE6 := Lib.hid (show insAll (lrStrip (restD mu i) (i == 0) last k (pad16 ((s ++ [0]).set r (pr + (j : Int)))) (put.set r (j : Int)) (left - (j : Int))) L' = insAll (lrPre (restD mu i) (i == 0) last k (pad16 s) put left (j + 1)) L from by rw [HL'.out]; exact insAll_step Hrk.out Hpr.out Hpd.out)
        have HB6 := Lib.hid (HB5.out.trans (hb6.mono hs5))
        clear hp6 hb6 hcx4 hfx4
        go_wp2
        go_roundw
        case rel => exact ⟨j + 1, a6, n6, c6, _, by go_num, rfl, HL6.out, HE6.out, Hn6.out, .inr (by omega), HB6.out⟩
        case measure => simp [intOf]; omega
      · have z22 : ((r : Int) == (ls : Int)) = false := by rw [beq_eq_false_iff_ne]; omega
        have hrl2 : r < ls := by have := HrL.out; rw [Hm.out.sl] at this; omega
        go_wp2_with fail
        refine (l1Ints_any _ _ _ s _ (Hm.out.rs.below HB.out) Hm.out.sl (by omega)).mono ?_
        rintro e w2 ⟨a2, c2, rfl, ho2, hb2⟩
        have hs1 := hb2.size
        have hxl : r < ls := hrl2
        have hgx : s[r]? = some pr := by
          obtain ⟨y, hy⟩ := some_at Hm.out.sl hrl2
          rw [hy, ← getD_of hy, Hpr.out]
        have hpd : pad16 (s.set r (pr + (j : Int))) = (pad16 s).set r (pr + (j : Int)) := pad16_set _ (by rw [Hm.out.sl]; exact hrl2)
        have hsl : (s.set r (pr + (j : Int))).length = ls := by rw [List.length_set]; exact Hm.out.sl
        have hl16 : ls ≤ 16 := hls16
        have hcap := ho2.1.lt
        obtain ⟨g, rfl, hBg, ⟨x, hx, hcx⟩, hfx⟩ := OI.cons ho2.1 hxl
        rw [hgx] at hx
        obtain rfl := Option.some.inj hx
        have hst := ho2.1.store r (pr + (j : Int))
        have hs2 := hb2.size
        have hb3 : Below wr.heap.size wr (w2.setCell ⟨g, r, none⟩ (.int .i64 (pr + (j : Int)))) := hb2.grown hst.2 hs2 (by intro q hq; obtain rfl := Option.some.inj hq; exact hBg)
        have Hs3 := Lib.hid hst.1
        have Hb3 := Lib.hid hb3
        have HB3 := Lib.hid (HB.out.trans (hb3.mono hbs))
        have Hpd := Lib.hid hpd
        have Hsl := Lib.hid hsl
        have hs3 := hb3.size
        clear hx hst hb3 hgx hpd hsl ho2 hb2
        go_wp2_with fail
        refine (l1Ints_any _ _ _ put _ (Hput.out.below HB3.out) Hlput.out (by omega)).mono ?_
        rintro e w4 ⟨a4, c4, rfl, ho4, hb4⟩
        obtain ⟨g4, rfl, hBg4, ⟨x4, hx4, hcx4⟩, hfx4⟩ := OI.cons ho4.1 hr16
        have hst4 := ho4.1.store r (j : Int)
        have hs4 := hb4.size
        have hb5 : Below (w2.setCell ⟨g, r, none⟩ (.int .i64 (pr + (j : Int)))).heap.size (w2.setCell ⟨g, r, none⟩ (.int .i64 (pr + (j : Int)))) (w4.setCell ⟨g4, r, none⟩ (.int .i64 (j : Int))) := hb4.grown hst4.2 hs4 (by intro q hq; obtain rfl := Option.some.inj hq; exact hBg4)
        have Hput5 := Lib.hid hst4.1.ri
        have Hs5 := Lib.hid ((OS.ri Hs3.out).below hb5)
        have Hb5 := Lib.hid (Hb3.out.trans (hb5.mono hs3))
        have HB5 := Lib.hid (HB.out.trans (Hb5.out.mono hbs))
        have hcap4 := ho4.1.lt
        obtain ⟨hmm, hokk⟩ := Hm.out.next Hok.out Hrk.out Hpr.out (by rw [HT.out]; exact hjT) HB.out HL.out HL'.out Hn'.out Hb5.out Hs5.out Hsl.out hl16 Hpd.out
        have Hmm := Lib.hid hmm
        have Hokk := Lib.hid hokk
        clear hx4 hst4 hb4 hb5 hmm hokk ho4 hcx hfx
        go_wp2_with fail
        refine (Hih.out i k (r + 1) _ _ _ _ _ _ _ _ _ _ _ _ _ _ _ _ _ n' c' _ (by have := HM.out; omega) Hmm.out Hput5.out hcap4 Hokk.out (by have := Hrk.out; omega) (by omega) hi hcap).mono ?_
        rintro e w6 ⟨a6, n6, c6, rfl, hp6, hb6⟩
        have hs5 := HB5.out.size
        have HL6 := Lib.hid hp6.out.1
        have Hn6 := Lib.hid hp6.out.2
        have HE6 := Lib.hid (show insAll (lrStrip (restD mu i) (i == 0) last k (pad16 (s.set r (pr + (j : Int)))) (put.set r (j : Int)) (left - (j : Int))) L' = insAll (lrPre (restD mu i) (i == 0) last k (pad16 s) put left (j + 1)) L from by rw [HL'.out]; exact insAll_step Hrk.out Hpr.out Hpd.out)
        have HB6 := Lib.hid (HB5.out.trans (hb6.mono hs5))
        clear hp6 hb6 hcx4 hfx4
        go_wp2
        go_roundw
        case rel => exact ⟨j + 1, a6, n6, c6, _, by go_num, rfl, HL6.out, HE6.out, Hn6.out, .inr (by omega), HB6.out⟩
        case measure => simp [intOf]; omega
    · have HD := Lib.hid (show L' = insAll (lrStrip (restD mu i) (i == 0) last (k + 1) (pad16 s) put left) L by
        rw [HL'.out, lrPre_all (by have := HTR.out; omega)])
      go_wp2
      go_ret
      exact ⟨_, _, _, rfl, Lib.hid ⟨by rw [← HD.out]; exact HL.out, by rw [← HD.out]; exact Hn'.out⟩, HB.out⟩

set_option maxRecDepth 100000 in
set_option maxHeartbeats 12800000 in
theorem strip_10 (mu : List Int) (M : Nat) (ihS : StripIh mu M) (i k r : Nat) (N : Nat) (L : List (List Int × Int)) (s put last : List Int) (left : Int) (ash amu aput alast al : Option Addr) (ls csh nmu cmu cput clast nl cl : Nat) (w : World)
    (hM : (mu.length - i) * 18 + (k + 1) < M + 1) (hm : LrMem mu N L (lrStrip (restD mu i) (i == 0) last (k + 1) (pad16 s) put left) ash ls s amu nmu alast clast last al nl w) (hput : RI w aput put) (hcput : 16 ≤ cput) (hok : LrOk (i == 0) last (k + 1) (pad16 s) put left) (hrk : r + (k + 1) = 16) (hrl : r ≤ ls) (hi : i < nmu) (hl0 : left ≠ 0) (hi0 : 0 < i) (hr0 : r = 0) :
    Calls Try.prog 52 #[.slice ash ls csh, .slice amu nmu cmu, .int .i64 16, .int .i64 16, .int .i64 i, .int .i64 r, .int .i64 left, .slice aput 16 cput, .slice alast 16 clast, .slice al nl cl] w (LrPost w (lrStrip (restD mu i) (i == 0) last (k + 1) (pad16 s) put left) L) := by
  obtain ⟨pr, hpr⟩ : ∃ pr, s.getD r 0 = pr := ⟨_, rfl⟩
  obtain ⟨pq, hpq⟩ : ∃ pq, s.getD (r - 1) 0 = pq := ⟨_, rfl⟩
  obtain ⟨uq, huq⟩ : ∃ uq, put.getD (r - 1) 0 = uq := ⟨_, rfl⟩
  obtain ⟨S1, hS1⟩ : ∃ S, sumI (last.take r) = S := ⟨_, rfl⟩
  obtain ⟨S2, hS2⟩ : ∃ S, sumI (put.take r) = S := ⟨_, rfl⟩
  obtain ⟨T, hT⟩ : ∃ T, lrTop (i == 0) last (pad16 s) put r left = T := ⟨_, rfl⟩
  have hprb : 0 ≤ pr ∧ pr ≤ 16 := by rw [← hpr, ← pad16_getD]; exact hok.P0 r
  have hpqb : 0 ≤ pq ∧ pq ≤ 16 := by rw [← hpq, ← pad16_getD]; exact hok.P0 (r - 1)
  have huqb : 0 ≤ uq ∧ uq ≤ 8 := by rw [← huq]; exact hok.put0 (r - 1)
  have hS1b := sum16_bd hok.llast hok.last0 r
  have hS2b := sum16_bd hok.lput hok.put0 r
  rw [hS1] at hS1b
  rw [hS2] at hS2b
  have hlb := hok.left0
  have hlb8 := hok.left8
  have hTe : T = min (min left (16 - pr)) (min (if (i == 0) = true then left else S1 - S2) (if r = 0 then left else pq - uq - pr)) := by
    rw [← hT]; unfold lrTop; rw [pad16_getD, pad16_getD, hpr, hpq, huq, hS1, hS2]
  rw [if_neg (show ¬ (i == 0) = true by simp; omega), if_pos (show r = 0 by omega)] at hTe
  obtain ⟨m1, hm1⟩ : ∃ m1, (if 16 - pr < left then 16 - pr else left) = m1 := ⟨_, rfl⟩
  have e1 := hm1
  rw [ite_min] at e1
  have hm3 : (if S1 - S2 < m1 then S1 - S2 else m1) = T := by
    rw [ite_min]
    clear hm1
    omega
  have hTb : T ≤ 16 - pr ∧ T ≤ left := by omega
  have hls16 := hm.ls16
  have hnl := hm.nl
  have hr16 : r < 16 := by omega
  have HrL := Lib.hid (by rw [hm.sl]; exact hrl : r ≤ s.length)
  have z0 : (left == 0) = false := by simpa using hl0
  have z1 : ¬ (ls : Int) < (r : Int) := by omega
  have z2 : ¬ (16 : Int) ≤ (r : Int) := by omega
  have z3 : IntKind.i64.wrap (16 - pr) = 16 - pr := IntWalk.i64_in _ (by omega)
  have z4 : (0 : Int) < (i : Int) := by omega
  have z5 : ¬ (0 : Int) < (r : Int) := by omega
  have z16 : decide (0 < i) = true := by simp; omega
  have z17 : decide (0 < r) = false := by simp; omega
  have z6 : (0 : Int) ≤ (r : Int) := by omega
  have z13 : IntKind.i64.wrap ((r : Int) + 1) = ((r + 1 : Nat) : Int) := by rw [IntWalk.i64_in _ (by omega)]; omega
  have z7 : IntKind.i64.wrap (S1 - S2) = S1 - S2 := IntWalk.i64_in _ (by omega)
  have z11 : (r : Int) ≤ (clast : Int) := by have := hm.pcl; omega
  have z12 : (r : Int) ≤ (cput : Int) := by omega
  have HS1 := Lib.hid (show ∀ n, Calls Try.prog 16 #[.slice alast r clast] (w.drewN n) fun e w'' => e = .returned (.int .i64 S1) ∧ ∃ m, w'' = w.drewN m from fun n => (isInt (l1Sum_any _ r _ (last.take r) _ ((hm.rlast.drew (Drew.drewN w n)).taken r) (by rw [List.length_take, hok.llast]; omega) (by omega) ((small_of_getD hok.last0).take r)) hS1).mono fun e w'' h => ⟨h.1, n, h.2.symm⟩)
  have HS2 := Lib.hid (show ∀ n, Calls Try.prog 16 #[.slice aput r cput] (w.drewN n) fun e w'' => e = .returned (.int .i64 S2) ∧ ∃ m, w'' = w.drewN m from fun n => (isInt (l1Sum_any _ r _ (put.take r) _ ((hput.drew (Drew.drewN w n)).taken r) (by rw [List.length_take, hok.lput]; omega) (by omega) ((small_of_getD hok.put0).take r)) hS2).mono fun e w'' h => ⟨h.1, n, h.2.symm⟩)
  have Hm := Lib.hid hm
  have Hok := Lib.hid hok
  have HT := Lib.hid hT
  have Hpr := Lib.hid hpr
  have HM := Lib.hid hM
  have Hih := Lib.hid ihS
  have Hput := Lib.hid hput
  have Hrk := Lib.hid hrk
  have Hlput := Lib.hid hok.lput
  have HTb := Lib.hid hTb
  have HTR := Lib.hid (show T = lrTop (i == 0) last (pad16 s) put (15 - k) left by rw [← hT, show 15 - k = r by omega])
  clear hm hok hT hpr hM ihS hput hrk hl0 hS1 hS2 huq e1 hTe hS1b hS2b hpq hTb hrl hi0 hr0
  go_enter Try.func52, Try.ntmps52
  go_wp2_with fail
  refine (l4At_is _ _ _ s r _ pr _ Hm.out.rs Hm.out.sl (by omega) (by omega) rfl Hpr.out).mono ?_
  rintro e w1 ⟨rfl, rfl⟩
  go_wp2
  go_quiet ((first | (go_at_call 16; with_reducible exact HS1.out _) | (go_at_call 16; with_reducible exact HS2.out _)))
  obtain ⟨wd, hwd⟩ : ∃ wd, w.drewN nq = wd := ⟨_, rfl⟩
  have hD : Drew w wd := ⟨nq, hwd.symm⟩
  rw [hwd]
  have HD := Lib.hid hD
  clear hwd hD
  go_wp2
  go_loopw [22, 9] (fun nv lv wr => Hid (StripAt mu i k L s put last left T w nv lv wr)) (fun nv _ _ => (T + 1 - intOf nv).toNat)
  case atStart => exact ⟨0, al, nl, cl, L, rfl, rfl, Hm.out.rL.below (HD.out.below _), rfl, Hm.out.pnl, .inl rfl, (HD.out.below _)⟩
  case round =>
    obtain ⟨j, a', n', c', L', rfl, rfl, hrL, hL', hn', hj, hB⟩ := hrel.out
    clear hrel HD
    have HL := Lib.hid hrL
    have HL' := Lib.hid hL'
    have Hn' := Lib.hid hn'
    have HB := Lib.hid hB
    have hbs := hB.size
    clear hrL hL' hn' hB
    by_cases hjT : (j : Int) ≤ T
    · have z20 : IntKind.i64.wrap (pr + (j : Int)) = pr + (j : Int) := IntWalk.i64_in _ (by omega)
      have z21 : IntKind.i64.wrap (left - (j : Int)) = left - (j : Int) := IntWalk.i64_in _ (by have := HTb.out; omega)
      by_cases hrl : r = ls
      · subst hrl
        have z22 : ((r : Int) == (r : Int)) = true := by simp
        go_wp2_with fail
        refine (l1Ints_any _ _ _ s _ (Hm.out.rs.below HB.out) Hm.out.sl (by omega)).mono ?_
        rintro e w1 ⟨a1, c1, rfl, ho1, hb1⟩
        have Hb1 := Lib.hid hb1
        have hs1 := hb1.size
        clear hb1
        go_wp2_with (first | (at_builtin; go_loud (refine wpList_pushI (by rfl) (by rfl) _ _ (by rfl) ho1 (by rfl) (by rfl) (by omega) (by omega) ?_)))
        intro a2 c2 w2 ho2 hg2
        have hb2 : Below wr.heap.size wr w2 := hg2.below Hb1.out hs1 ho1.1.lo
        have hxl : r < r + 1 := by omega
        have hgx : (s ++ [0])[r]? = some pr := by
          have e0 : pr = 0 := by
            rw [← Hpr.out, List.getD_eq_getElem?_getD, List.getElem?_eq_none (by rw [Hm.out.sl]; omega)]
            rfl
          rw [e0, List.getElem?_append_right (by rw [Hm.out.sl]; omega), Hm.out.sl, Nat.sub_self]
          rfl
        have hpd : pad16 ((s ++ [0]).set r (pr + (j : Int))) = (pad16 s).set r (pr + (j : Int)) := by
          rw [pad16_set _ (by rw [List.length_append, Hm.out.sl]; simp), pad16_push (by rw [Hm.out.sl]; omega)]
        have hsl : ((s ++ [0]).set r (pr + (j : Int))).length = r + 1 := by rw [List.length_set, List.length_append, Hm.out.sl]; rfl
        have hl16 : r + 1 ≤ 16 := by omega
        have hcap := ho2.1.lt
        obtain ⟨g, rfl, hBg, ⟨x, hx, hcx⟩, hfx⟩ := OI.cons ho2.1 hxl
        rw [hgx] at hx
        obtain rfl := Option.some.inj hx
        have hst := ho2.1.store r (pr + (j : Int))
        have hs2 := hb2.size
        have hb3 : Below wr.heap.size wr (w2.setCell ⟨g, r, none⟩ (.int .i64 (pr + (j : Int)))) := hb2.grown hst.2 hs2 (by intro q hq; obtain rfl := Option.some.inj hq; exact hBg)
        have Hs3 := Lib.hid hst.1
        have Hb3 := Lib.hid hb3
        have HB3 := Lib.hid (HB.out.trans (hb3.mono hbs))
        have Hpd := Lib.hid hpd
        have Hsl := Lib.hid hsl
        have hs3 := hb3.size
        clear hx hst hb3 hgx hpd hsl ho2 hb2 hg2 Hb1 ho1
        go_wp2_with fail
        refine (l1Ints_any _ _ _ put _ (Hput.out.below HB3.out) Hlput.out (by omega)).mono ?_
        rintro e w4 ⟨a4, c4, rfl, ho4, hb4⟩
        obtain ⟨g4, rfl, hBg4, ⟨x4, hx4, hcx4⟩, hfx4⟩ := OI.cons ho4.1 hr16
        have hst4 := ho4.1.store r (j : Int)
        have hs4 := hb4.size
        have hb5 : Below (w2.setCell ⟨g, r, none⟩ (.int .i64 (pr + (j : Int)))).heap.size (w2.setCell ⟨g, r, none⟩ (.int .i64 (pr + (j : Int)))) (w4.setCell ⟨g4, r, none⟩ (.int .i64 (j : Int))) := hb4.grown hst4.2 hs4 (by intro q hq; obtain rfl := Option.some.inj hq; exact hBg4)
        have Hput5 := Lib.hid hst4.1.ri
        have Hs5 := Lib.hid ((OS.ri Hs3.out).below hb5)
        have Hb5 := Lib.hid (Hb3.out.trans (hb5.mono hs3))
        have HB5 := Lib.hid (HB.out.trans (Hb5.out.mono hbs))
        have hcap4 := ho4.1.lt
        obtain ⟨hmm, hokk⟩ := Hm.out.next Hok.out Hrk.out Hpr.out (by rw [HT.out]; exact hjT) HB.out HL.out HL'.out Hn'.out Hb5.out Hs5.out Hsl.out hl16 Hpd.out
        have Hmm := Lib.hid hmm
        have Hokk := Lib.hid hokk
        clear hx4 hst4 hb4 hb5 hmm hokk ho4 hcx hfx
        go_wp2_with fail
        refine (Hih.out i k (r + 1) _ _ _ _ _ _ _ _ _ _ _ _ _ _ _ _ _ n' c' _ (by have := HM.out; omega) Hmm.out Hput5.out hcap4 Hokk.out (by have := Hrk.out; omega) (by omega) hi hcap).mono ?_
        rintro e w6 ⟨a6, n6, c6, rfl, hp6, hb6⟩
        have hs5 := HB5.out.size
        have HL6 := Lib.hid hp6.out.1
        have Hn6 := Lib.hid hp6.out.2
        have HE6 := Lib.hid (show insAll (lrStrip (restD mu i) (i == 0) last k (pad16 ((s ++ [0]).set r (pr + (j : Int)))) (put.set r (j : Int)) (left - (j : Int))) L' = insAll (lrPre (restD mu i) (i == 0) last k (pad16 s) put left (j + 1)) L from by rw [HL'.out]; exact insAll_step Hrk.out Hpr.out Hpd.out)
        have HB6 := Lib.hid (HB5.out.trans (hb6.mono hs5))
        clear hp6 hb6 hcx4 hfx4
        go_wp2
        go_roundw
        case rel => exact ⟨j + 1, a6, n6, c6, _, by go_num, rfl, HL6.out, HE6.out, Hn6.out, .inr (by omega), HB6.out⟩
        case measure => simp [intOf]; omega
      · have z22 : ((r : Int) == (ls : Int)) = false := by rw [beq_eq_false_iff_ne]; omega
        have hrl2 : r < ls := by have := HrL.out; rw [Hm.out.sl] at this; omega
        go_wp2_with fail
        refine (l1Ints_any _ _ _ s _ (Hm.out.rs.below HB.out) Hm.out.sl (by omega)).mono ?_
        rintro e w2 ⟨a2, c2, rfl, ho2, hb2⟩
        have hs1 := hb2.size
        have hxl : r < ls := hrl2
        have hgx : s[r]? = some pr := by
          obtain ⟨y, hy⟩ := some_at Hm.out.sl hrl2
          rw [hy, ← getD_of hy, Hpr.out]
        have hpd : pad16 (s.set r (pr + (j : Int))) = (pad16 s).set r (pr + (j : Int)) := pad16_set _ (by rw [Hm.out.sl]; exact hrl2)
        have hsl : (s.set r (pr + (j : Int))).length = ls := by rw [List.length_set]; exact Hm.out.sl
        have hl16 : ls ≤ 16 := hls16
        have hcap := ho2.1.lt
        obtain ⟨g, rfl, hBg, ⟨x, hx, hcx⟩, hfx⟩ := OI.cons ho2.1 hxl
        rw [hgx] at hx
        obtain rfl := Option.some.inj hx
        have hst := ho2.1.store r (pr + (j : Int))
        have hs2 := hb2.size
        have hb3 : Below wr.heap.size wr (w2.setCell ⟨g, r, none⟩ (.int .i64 (pr + (j : Int)))) := hb2.grown hst.2 hs2 (by intro q hq; obtain rfl := Option.some.inj hq; exact hBg)
        have Hs3 := Lib.hid hst.1
        have Hb3 := Lib.hid hb3
        have HB3 := Lib.hid (HB.out.trans (hb3.mono hbs))
        have Hpd := Lib.hid hpd
        have Hsl := Lib.hid hsl
        have hs3 := hb3.size
        clear hx hst hb3 hgx hpd hsl ho2 hb2
        go_wp2_with fail
        refine (l1Ints_any _ _ _ put _ (Hput.out.below HB3.out) Hlput.out (by omega)).mono ?_
        rintro e w4 ⟨a4, c4, rfl, ho4, hb4⟩
        obtain ⟨g4, rfl, hBg4, ⟨x4, hx4, hcx4⟩, hfx4⟩ := OI.cons ho4.1 hr16
        have hst4 := ho4.1.store r (j : Int)
        have hs4 := hb4.size
        have hb5 : Below (w2.setCell ⟨g, r, none⟩ (.int .i64 (pr + (j : Int)))).heap.size (w2.setCell ⟨g, r, none⟩ (.int .i64 (pr + (j : Int)))) (w4.setCell ⟨g4, r, none⟩ (.int .i64 (j : Int))) := hb4.grown hst4.2 hs4 (by intro q hq; obtain rfl := Option.some.inj hq; exact hBg4)
        have Hput5 := Lib.hid hst4.1.ri
        have Hs5 := Lib.hid ((OS.ri Hs3.out).below hb5)
        have Hb5 := Lib.hid (Hb3.out.trans (hb5.mono hs3))
        have HB5 := Lib.hid (HB.out.trans (Hb5.out.mono hbs))
        have hcap4 := ho4.1.lt
        obtain ⟨hmm, hokk⟩ := Hm.out.next Hok.out Hrk.out Hpr.out (by rw [HT.out]; exact hjT) HB.out HL.out HL'.out Hn'.out Hb5.out Hs5.out Hsl.out hl16 Hpd.out
        have Hmm := Lib.hid hmm
        have Hokk := Lib.hid hokk
        clear hx4 hst4 hb4 hb5 hmm hokk ho4 hcx hfx
        go_wp2_with fail
        refine (Hih.out i k (r + 1) _ _ _ _ _ _ _ _ _ _ _ _ _ _ _ _ _ n' c' _ (by have := HM.out; omega) Hmm.out Hput5.out hcap4 Hokk.out (by have := Hrk.out; omega) (by omega) hi hcap).mono ?_
        rintro e w6 ⟨a6, n6, c6, rfl, hp6, hb6⟩
        have hs5 := HB5.out.size
        have HL6 := Lib.hid hp6.out.1
        have Hn6 := Lib.hid hp6.out.2
        have HE6 := Lib.hid (show insAll (lrStrip (restD mu i) (i == 0) last k (pad16 (s.set r (pr + (j : Int)))) (put.set r (j : Int)) (left - (j : Int))) L' = insAll (lrPre (restD mu i) (i == 0) last k (pad16 s) put left (j + 1)) L from by rw [HL'.out]; exact insAll_step Hrk.out Hpr.out Hpd.out)
        have HB6 := Lib.hid (HB5.out.trans (hb6.mono hs5))
        clear hp6 hb6 hcx4 hfx4
        go_wp2
        go_roundw
        case rel => exact ⟨j + 1, a6, n6, c6, _, by go_num, rfl, HL6.out, HE6.out, Hn6.out, .inr (by omega), HB6.out⟩
        case measure => simp [intOf]; omega
    · have HD := Lib.hid (show L' = insAll (lrStrip (restD mu i) (i == 0) last (k + 1) (pad16 s) put left) L by
        rw [HL'.out, lrPre_all (by have := HTR.out; omega)])
      go_wp2
      go_ret
      exact ⟨_, _, _, rfl, Lib.hid ⟨by rw [← HD.out]; exact HL.out, by rw [← HD.out]; exact Hn'.out⟩, HB.out⟩

set_option maxRecDepth 100000 in
set_option maxHeartbeats 12800000 in
theorem strip_11 (mu : List Int) (M : Nat) (ihS : StripIh mu M) (i k r : Nat) (N : Nat) (L : List (List Int × Int)) (s put last : List Int) (left : Int) (ash amu aput alast al : Option Addr) (ls csh nmu cmu cput clast nl cl : Nat) (w : World)
    (hM : (mu.length - i) * 18 + (k + 1) < M + 1) (hm : LrMem mu N L (lrStrip (restD mu i) (i == 0) last (k + 1) (pad16 s) put left) ash ls s amu nmu alast clast last al nl w) (hput : RI w aput put) (hcput : 16 ≤ cput) (hok : LrOk (i == 0) last (k + 1) (pad16 s) put left) (hrk : r + (k + 1) = 16) (hrl : r ≤ ls) (hi : i < nmu) (hl0 : left ≠ 0) (hi0 : 0 < i) (hr0 : 0 < r) :
    Calls Try.prog 52 #[.slice ash ls csh, .slice amu nmu cmu, .int .i64 16, .int .i64 16, .int .i64 i, .int .i64 r, .int .i64 left, .slice aput 16 cput, .slice alast 16 clast, .slice al nl cl] w (LrPost w (lrStrip (restD mu i) (i == 0) last (k + 1) (pad16 s) put left) L) := by
  obtain ⟨pr, hpr⟩ : ∃ pr, s.getD r 0 = pr := ⟨_, rfl⟩
  obtain ⟨pq, hpq⟩ : ∃ pq, s.getD (r - 1) 0 = pq := ⟨_, rfl⟩
  obtain ⟨uq, huq⟩ : ∃ uq, put.getD (r - 1) 0 = uq := ⟨_, rfl⟩
  obtain ⟨S1, hS1⟩ : ∃ S, sumI (last.take r) = S := ⟨_, rfl⟩
  obtain ⟨S2, hS2⟩ : ∃ S, sumI (put.take r) = S := ⟨_, rfl⟩
  obtain ⟨T, hT⟩ : ∃ T, lrTop (i == 0) last (pad16 s) put r left = T := ⟨_, rfl⟩
  have hprb : 0 ≤ pr ∧ pr ≤ 16 := by rw [← hpr, ← pad16_getD]; exact hok.P0 r
  have hpqb : 0 ≤ pq ∧ pq ≤ 16 := by rw [← hpq, ← pad16_getD]; exact hok.P0 (r - 1)
  have huqb : 0 ≤ uq ∧ uq ≤ 8 := by rw [← huq]; exact hok.put0 (r - 1)
  have hS1b := sum16_bd hok.llast hok.last0 r
  have hS2b := sum16_bd hok.lput hok.put0 r
  rw [hS1] at hS1b
  rw [hS2] at hS2b
  have hlb := hok.left0
  have hlb8 := hok.left8
  have hTe : T = min (min left (16 - pr)) (min (if (i == 0) = true then left else S1 - S2) (if r = 0 then left else pq - uq - pr)) := by
    rw [← hT]; unfold lrTop; rw [pad16_getD, pad16_getD, hpr, hpq, huq, hS1, hS2]
  rw [if_neg (show ¬ (i == 0) = true by simp; omega), if_neg (show ¬ r = 0 by omega)] at hTe
  obtain ⟨m1, hm1⟩ : ∃ m1, (if 16 - pr < left then 16 - pr else left) = m1 := ⟨_, rfl⟩
  have e1 := hm1
  rw [ite_min] at e1
  obtain ⟨m2, hm2⟩ : ∃ m2, (if S1 - S2 < m1 then S1 - S2 else m1) = m2 := ⟨_, rfl⟩
  have e2 := hm2
  rw [ite_min] at e2
  have hm3 : (if pq - uq - pr < m2 then pq - uq - pr else m2) = T := by
    rw [ite_min]
    clear hm1 hm2
    omega
  have hTb : T ≤ 16 - pr ∧ T ≤ left := by omega
  have hls16 := hm.ls16
  have hnl := hm.nl
  have hr16 : r < 16 := by omega
  have HrL := Lib.hid (by rw [hm.sl]; exact hrl : r ≤ s.length)
  have z0 : (left == 0) = false := by simpa using hl0
  have z1 : ¬ (ls : Int) < (r : Int) := by omega
  have z2 : ¬ (16 : Int) ≤ (r : Int) := by omega
  have z3 : IntKind.i64.wrap (16 - pr) = 16 - pr := IntWalk.i64_in _ (by omega)
  have z4 : (0 : Int) < (i : Int) := by omega
  have z5 : (0 : Int) < (r : Int) := by omega
  have z16 : decide (0 < i) = true := by simp; omega
  have z17 : decide (0 < r) = true := by simp; omega
  have z6 : (0 : Int) ≤ (r : Int) := by omega
  have z13 : IntKind.i64.wrap ((r : Int) + 1) = ((r + 1 : Nat) : Int) := by rw [IntWalk.i64_in _ (by omega)]; omega
  have z7 : IntKind.i64.wrap (S1 - S2) = S1 - S2 := IntWalk.i64_in _ (by omega)
  have z11 : (r : Int) ≤ (clast : Int) := by have := hm.pcl; omega
  have z12 : (r : Int) ≤ (cput : Int) := by omega
  have HS1 := Lib.hid (show ∀ n, Calls Try.prog 16 #[.slice alast r clast] (w.drewN n) fun e w'' => e = .returned (.int .i64 S1) ∧ ∃ m, w'' = w.drewN m from fun n => (isInt (l1Sum_any _ r _ (last.take r) _ ((hm.rlast.drew (Drew.drewN w n)).taken r) (by rw [List.length_take, hok.llast]; omega) (by omega) ((small_of_getD hok.last0).take r)) hS1).mono fun e w'' h => ⟨h.1, n, h.2.symm⟩)
  have HS2 := Lib.hid (show ∀ n, Calls Try.prog 16 #[.slice aput r cput] (w.drewN n) fun e w'' => e = .returned (.int .i64 S2) ∧ ∃ m, w'' = w.drewN m from fun n => (isInt (l1Sum_any _ r _ (put.take r) _ ((hput.drew (Drew.drewN w n)).taken r) (by rw [List.length_take, hok.lput]; omega) (by omega) ((small_of_getD hok.put0).take r)) hS2).mono fun e w'' h => ⟨h.1, n, h.2.symm⟩)
  obtain ⟨r1, hr1⟩ : ∃ r1 : Nat, r = r1 + 1 := ⟨r - 1, by omega⟩
  have z8 : IntKind.i64.wrap ((r : Int) - 1) = (r1 : Int) := by rw [IntWalk.i64_in _ (by omega)]; omega
  have z9 : IntKind.i64.wrap (pq - uq) = pq - uq := IntWalk.i64_in _ (by omega)
  have z10 : IntKind.i64.wrap (pq - uq - pr) = pq - uq - pr := IntWalk.i64_in _ (by omega)
  have z14 : (0 : Int) ≤ (r1 : Int) := by omega
  have z15 : (r1 : Int) < 16 := by omega
  have Hpq1 := Lib.hid (show s.getD r1 0 = pq by rw [← hpq, show r - 1 = r1 by omega])
  obtain ⟨bp, op, hap, hcp⟩ := hput.at (k := r1) (by rw [hok.lput]; omega)
  subst hap
  have Hcu := Lib.hid (hcp r1 uq (by
    obtain ⟨y, hy⟩ := some_at (k := r1) hok.lput (by omega)
    rw [hy, ← getD_of hy, ← huq, show r - 1 = r1 by omega]))
  have HA := Lib.hid (show ∀ wd, Drew w wd → ∀ (q : Nat) (x : Int), s.getD q 0 = x → q ≤ 16 → ∀ n, Calls Try.prog 58 #[.slice ash ls csh, .int .i64 q] (wd.drewN n) fun e w'' => e = .returned (.int .i64 x) ∧ ∃ m, w'' = wd.drewN m from fun wd hd q x hx hq n => (l4At_is _ _ _ s q _ x _ ((hm.rs.drew hd).drew (Drew.drewN wd n)) hm.sl (by omega) (by omega) rfl hx).mono fun e w'' h => ⟨h.1, n, h.2.symm⟩)
  have Hm := Lib.hid hm
  have Hok := Lib.hid hok
  have HT := Lib.hid hT
  have Hpr := Lib.hid hpr
  have HM := Lib.hid hM
  have Hih := Lib.hid ihS
  have Hput := Lib.hid hput
  have Hrk := Lib.hid hrk
  have Hlput := Lib.hid hok.lput
  have HTb := Lib.hid hTb
  have HTR := Lib.hid (show T = lrTop (i == 0) last (pad16 s) put (15 - k) left by rw [← hT, show 15 - k = r by omega])
  clear hm hok hT hpr hM ihS hput hrk hl0 hS1 hS2 huq e1 hTe hS1b hS2b hpq hTb hrl hi0 hr0 e2 hr1 hcp
  go_enter Try.func52, Try.ntmps52
  go_wp2_with fail
  refine (l4At_is _ _ _ s r _ pr _ Hm.out.rs Hm.out.sl (by omega) (by omega) rfl Hpr.out).mono ?_
  rintro e w1 ⟨rfl, rfl⟩
  go_wp2
  go_quiet ((first | (go_at_call 16; with_reducible exact HS1.out _) | (go_at_call 16; with_reducible exact HS2.out _)))
  obtain ⟨wd, hwd⟩ : ∃ wd, w.drewN nq = wd := ⟨_, rfl⟩
  have hD : Drew w wd := ⟨nq, hwd.symm⟩
  rw [hwd]
  have HD := Lib.hid hD
  clear hwd hD
  go_wp2
  have hcu : wd.cell? ⟨bp, op + r1, none⟩ = some (.int .i64 uq) := by rw [(HD.out).cell]; exact Hcu.out
  have HA1 := Lib.hid (HA.out wd (HD.out) r1 pq Hpq1.out (by omega))
  have HA2 := Lib.hid (HA.out wd (HD.out) r pr Hpr.out (by omega))
  go_quiet ((first | (go_at_call 58; with_reducible exact HA1.out _) | (go_at_call 58; with_reducible exact HA2.out _)))
  obtain ⟨we, hwe⟩ : ∃ we, wd.drewN nq = we := ⟨_, rfl⟩
  have hE : Drew wd we := ⟨nq, hwe.symm⟩
  rw [hwe]
  have HE := Lib.hid ((HD.out).trans hE)
  clear hwe hE hcu HA1 HA2
  go_wp2
  go_loopw [22, 9] (fun nv lv wr => Hid (StripAt mu i k L s put last left T w nv lv wr)) (fun nv _ _ => (T + 1 - intOf nv).toNat)
  case atStart => exact ⟨0, al, nl, cl, L, rfl, rfl, Hm.out.rL.below (HE.out.below _), rfl, Hm.out.pnl, .inl rfl, (HE.out.below _)⟩
  case round =>
    obtain ⟨j, a', n', c', L', rfl, rfl, hrL, hL', hn', hj, hB⟩ := hrel.out
    clear hrel HE HD
    have HL := Lib.hid hrL
    have HL' := Lib.hid hL'
    have Hn' := Lib.hid hn'
    have HB := Lib.hid hB
    have hbs := hB.size
    clear hrL hL' hn' hB
    by_cases hjT : (j : Int) ≤ T
    · have z20 : IntKind.i64.wrap (pr + (j : Int)) = pr + (j : Int) := IntWalk.i64_in _ (by omega)
      have z21 : IntKind.i64.wrap (left - (j : Int)) = left - (j : Int) := IntWalk.i64_in _ (by have := HTb.out; omega)
      by_cases hrl : r = ls
      · subst hrl
        have z22 : ((r : Int) == (r : Int)) = true := by simp
        go_wp2_with fail
        refine (l1Ints_any _ _ _ s _ (Hm.out.rs.below HB.out) Hm.out.sl (by omega)).mono ?_
        rintro e w1 ⟨a1, c1, rfl, ho1, hb1⟩
        have Hb1 := Lib.hid hb1
        have hs1 := hb1.size
        clear hb1
        go_wp2_with (first | (at_builtin; go_loud (refine wpList_pushI (by rfl) (by rfl) _ _ (by rfl) ho1 (by rfl) (by rfl) (by omega) (by omega) ?_)))
        intro a2 c2 w2 ho2 hg2
        have hb2 : Below wr.heap.size wr w2 := hg2.below Hb1.out hs1 ho1.1.lo
        have hxl : r < r + 1 := by omega
        have hgx : (s ++ [0])[r]? = some pr := by
          have e0 : pr = 0 := by
            rw [← Hpr.out, List.getD_eq_getElem?_getD, List.getElem?_eq_none (by rw [Hm.out.sl]; omega)]
            rfl
          rw [e0, List.getElem?_append_right (by rw [Hm.out.sl]; omega), Hm.out.sl, Nat.sub_self]
          rfl
        have hpd : pad16 ((s ++ [0]).set r (pr + (j : Int))) = (pad16 s).set r (pr + (j : Int)) := by
          rw [pad16_set _ (by rw [List.length_append, Hm.out.sl]; simp), pad16_push (by rw [Hm.out.sl]; omega)]
        have hsl : ((s ++ [0]).set r (pr + (j : Int))).length = r + 1 := by rw [List.length_set, List.length_append, Hm.out.sl]; rfl
        have hl16 : r + 1 ≤ 16 := by omega
        have hcap := ho2.1.lt
        obtain ⟨g, rfl, hBg, ⟨x, hx, hcx⟩, hfx⟩ := OI.cons ho2.1 hxl
        rw [hgx] at hx
        obtain rfl := Option.some.inj hx
        have hst := ho2.1.store r (pr + (j : Int))
        have hs2 := hb2.size
        have hb3 : Below wr.heap.size wr (w2.setCell ⟨g, r, none⟩ (.int .i64 (pr + (j : Int)))) := hb2.grown hst.2 hs2 (by intro q hq; obtain rfl := Option.some.inj hq; exact hBg)
        have Hs3 := Lib.hid hst.1
        have Hb3 := Lib.hid hb3
        have HB3 := Lib.hid (HB.out.trans (hb3.mono hbs))
        have Hpd := Lib.hid hpd
        have Hsl := Lib.hid hsl
        have hs3 := hb3.size
        clear hx hst hb3 hgx hpd hsl ho2 hb2 hg2 Hb1 ho1
        go_wp2_with fail
        refine (l1Ints_any _ _ _ put _ (Hput.out.below HB3.out) Hlput.out (by omega)).mono ?_
        rintro e w4 ⟨a4, c4, rfl, ho4, hb4⟩
        obtain ⟨g4, rfl, hBg4, ⟨x4, hx4, hcx4⟩, hfx4⟩ := OI.cons ho4.1 hr16
        have hst4 := ho4.1.store r (j : Int)
        have hs4 := hb4.size
        have hb5 : Below (w2.setCell ⟨g, r, none⟩ (.int .i64 (pr + (j : Int)))).heap.size (w2.setCell ⟨g, r, none⟩ (.int .i64 (pr + (j : Int)))) (w4.setCell ⟨g4, r, none⟩ (.int .i64 (j : Int))) := hb4.grown hst4.2 hs4 (by intro q hq; obtain rfl := Option.some.inj hq; exact hBg4)
        have Hput5 := Lib.hid hst4.1.ri
        have Hs5 := Lib.hid ((OS.ri Hs3.out).below hb5)
        have Hb5 := Lib.hid (Hb3.out.trans (hb5.mono hs3))
        have HB5 := Lib.hid (HB.out.trans (Hb5.out.mono hbs))
        have hcap4 := ho4.1.lt
        obtain ⟨hmm, hokk⟩ := Hm.out.next Hok.out Hrk.out Hpr.out (by rw [HT.out]; exact hjT) HB.out HL.out HL'.out Hn'.out Hb5.out Hs5.out Hsl.out hl16 Hpd.out
        have Hmm := Lib.hid hmm
        have Hokk := Lib.hid hokk
        clear hx4 hst4 hb4 hb5 hmm hokk ho4 hcx hfx
        go_wp2_with fail
        refine (Hih.out i k (r + 1) _ _ _ _ _ _ _ _ _ _ _ _ _ _ _ _ _ n' c' _ (by have := HM.out; omega) Hmm.out Hput5.out hcap4 Hokk.out (by have := Hrk.out; omega) (by omega) hi hcap).mono ?_
        rintro e w6 ⟨a6, n6, c6, rfl, hp6, hb6⟩
        have hs5 := HB5.out.size
        have HL6 := Lib.hid hp6.out.1
        have Hn6 := Lib.hid hp6.out.2
        have HE6 := Lib.hid (show insAll (lrStrip (restD mu i) (i == 0) last k (pad16 ((s ++ [0]).set r (pr + (j : Int)))) (put.set r (j : Int)) (left - (j : Int))) L' = insAll (lrPre (restD mu i) (i == 0) last k (pad16 s) put left (j + 1)) L from by rw [HL'.out]; exact insAll_step Hrk.out Hpr.out Hpd.out)
        have HB6 := Lib.hid (HB5.out.trans (hb6.mono hs5))
        clear hp6 hb6 hcx4 hfx4
        go_wp2
        go_roundw
        case rel => exact ⟨j + 1, a6, n6, c6, _, by go_num, rfl, HL6.out, HE6.out, Hn6.out, .inr (by omega), HB6.out⟩
        case measure => simp [intOf]; omega
      · have z22 : ((r : Int) == (ls : Int)) = false := by rw [beq_eq_false_iff_ne]; omega
        have hrl2 : r < ls := by have := HrL.out; rw [Hm.out.sl] at this; omega
        go_wp2_with fail
        refine (l1Ints_any _ _ _ s _ (Hm.out.rs.below HB.out) Hm.out.sl (by omega)).mono ?_
        rintro e w2 ⟨a2, c2, rfl, ho2, hb2⟩
        have hs1 := hb2.size
        have hxl : r < ls := hrl2
        have hgx : s[r]? = some pr := by
          obtain ⟨y, hy⟩ := some_at Hm.out.sl hrl2
          rw [hy, ← getD_of hy, Hpr.out]
        have hpd : pad16 (s.set r (pr + (j : Int))) = (pad16 s).set r (pr + (j : Int)) := pad16_set _ (by rw [Hm.out.sl]; exact hrl2)
        have hsl : (s.set r (pr + (j : Int))).length = ls := by rw [List.length_set]; exact Hm.out.sl
        have hl16 : ls ≤ 16 := hls16
        have hcap := ho2.1.lt
        obtain ⟨g, rfl, hBg, ⟨x, hx, hcx⟩, hfx⟩ := OI.cons ho2.1 hxl
        rw [hgx] at hx
        obtain rfl := Option.some.inj hx
        have hst := ho2.1.store r (pr + (j : Int))
        have hs2 := hb2.size
        have hb3 : Below wr.heap.size wr (w2.setCell ⟨g, r, none⟩ (.int .i64 (pr + (j : Int)))) := hb2.grown hst.2 hs2 (by intro q hq; obtain rfl := Option.some.inj hq; exact hBg)
        have Hs3 := Lib.hid hst.1
        have Hb3 := Lib.hid hb3
        have HB3 := Lib.hid (HB.out.trans (hb3.mono hbs))
        have Hpd := Lib.hid hpd
        have Hsl := Lib.hid hsl
        have hs3 := hb3.size
        clear hx hst hb3 hgx hpd hsl ho2 hb2
        go_wp2_with fail
        refine (l1Ints_any _ _ _ put _ (Hput.out.below HB3.out) Hlput.out (by omega)).mono ?_
        rintro e w4 ⟨a4, c4, rfl, ho4, hb4⟩
        obtain ⟨g4, rfl, hBg4, ⟨x4, hx4, hcx4⟩, hfx4⟩ := OI.cons ho4.1 hr16
        have hst4 := ho4.1.store r (j : Int)
        have hs4 := hb4.size
        have hb5 : Below (w2.setCell ⟨g, r, none⟩ (.int .i64 (pr + (j : Int)))).heap.size (w2.setCell ⟨g, r, none⟩ (.int .i64 (pr + (j : Int)))) (w4.setCell ⟨g4, r, none⟩ (.int .i64 (j : Int))) := hb4.grown hst4.2 hs4 (by intro q hq; obtain rfl := Option.some.inj hq; exact hBg4)
        have Hput5 := Lib.hid hst4.1.ri
        have Hs5 := Lib.hid ((OS.ri Hs3.out).below hb5)
        have Hb5 := Lib.hid (Hb3.out.trans (hb5.mono hs3))
        have HB5 := Lib.hid (HB.out.trans (Hb5.out.mono hbs))
        have hcap4 := ho4.1.lt
        obtain ⟨hmm, hokk⟩ := Hm.out.next Hok.out Hrk.out Hpr.out (by rw [HT.out]; exact hjT) HB.out HL.out HL'.out Hn'.out Hb5.out Hs5.out Hsl.out hl16 Hpd.out
        have Hmm := Lib.hid hmm
        have Hokk := Lib.hid hokk
        clear hx4 hst4 hb4 hb5 hmm hokk ho4 hcx hfx
        go_wp2_with fail
        refine (Hih.out i k (r + 1) _ _ _ _ _ _ _ _ _ _ _ _ _ _ _ _ _ n' c' _ (by have := HM.out; omega) Hmm.out Hput5.out hcap4 Hokk.out (by have := Hrk.out; omega) (by omega) hi hcap).mono ?_
        rintro e w6 ⟨a6, n6, c6, rfl, hp6, hb6⟩
        have hs5 := HB5.out.size
        have HL6 := Lib.hid hp6.out.1
        have Hn6 := Lib.hid hp6.out.2
        have HE6 := Lib.hid (show insAll (lrStrip (restD mu i) (i == 0) last k (pad16 (s.set r (pr + (j : Int)))) (put.set r (j : Int)) (left - (j : Int))) L' = insAll (lrPre (restD mu i) (i == 0) last k (pad16 s) put left (j + 1)) L from by rw [HL'.out]; exact insAll_step Hrk.out Hpr.out Hpd.out)
        have HB6 := Lib.hid (HB5.out.trans (hb6.mono hs5))
        clear hp6 hb6 hcx4 hfx4
        go_wp2
        go_roundw
        case rel => exact ⟨j + 1, a6, n6, c6, _, by go_num, rfl, HL6.out, HE6.out, Hn6.out, .inr (by omega), HB6.out⟩
        case measure => simp [intOf]; omega
    · have HD := Lib.hid (show L' = insAll (lrStrip (restD mu i) (i == 0) last (k + 1) (pad16 s) put left) L by
        rw [HL'.out, lrPre_all (by have := HTR.out; omega)])
      go_wp2
      go_ret
      exact ⟨_, _, _, rfl, Lib.hid ⟨by rw [← HD.out]; exact HL.out, by rw [← HD.out]; exact Hn'.out⟩, HB.out⟩

set_option maxRecDepth 100000 in
set_option maxHeartbeats 3200000 in
theorem strip_none (mu : List Int) (M : Nat) (ihL : LatIh mu M) (i k r : Nat) (N : Nat) (L : List (List Int × Int)) (s put last : List Int) (ash amu aput alast al : Option Addr) (ls csh nmu cmu cput clast nl cl : Nat) (w : World)
    (hM : (mu.length - i) * 18 + k < M + 1) (hm : LrMem mu N L (lrStrip (restD mu i) (i == 0) last k (pad16 s) put 0) ash ls s amu nmu alast clast last al nl w) (hput : RI w aput put) (hcput : 16 ≤ cput) (hok : LrOk (i == 0) last k (pad16 s) put 0) (hi : i < nmu) (hcs : ls ≤ csh) :
    Calls Try.prog 52 #[.slice ash ls csh, .slice amu nmu cmu, .int .i64 16, .int .i64 16, .int .i64 i, .int .i64 r, .int .i64 0, .slice aput 16 cput, .slice alast 16 clast, .slice al nl cl] w (LrPost w (lrStrip (restD mu i) (i == 0) last k (pad16 s) put 0) L) := by
  have hD := lrStrip_zero (next := restD mu i) hok rfl
  have hnm := hm.mul
  have hn16 := hm.nmu16
  have e : ((i + 1 == 0) : Bool) = false := by simp
  have HC := Lib.hid (ihL (i + 1) N L s put ash amu aput al ls csh nmu cmu cput nl cl w (by omega)
    ⟨hm.rs, hm.sl, hm.ls16, hm.rmu, hm.mul, hm.nmu16, hm.mu0, hput, hcput, hm.rL, hm.pnl, hm.good, by rw [e]; have := hm.big; rw [hD] at this; exact this⟩ hok.shL (by omega) hcs)
  rw [e] at HC
  have z1 : IntKind.i64.wrap ((i : Int) + 1) = ((i + 1 : Nat) : Int) := by rw [IntWalk.i64_in _ (by omega)]; omega
  rw [hD]
  obtain ⟨D, hDD⟩ : ∃ D, restD mu i (pad16 s) put = D := ⟨_, rfl⟩
  have hDD2 : lrAll (mu.drop (i + 1)) false put (pad16 s) = D := hDD
  rw [hDD2] at HC
  rw [hDD]
  clear hD hm hput hok hM hDD hDD2 ihL hnm
  go_enter Try.func52, Try.ntmps52
  go_wp2_with fail
  refine HC.out.mono ?_
  rintro e w1 ⟨a1, n1, c1, rfl, h1, hb1⟩
  go_wp2
  go_ret
  exact ⟨_, _, _, rfl, h1, hb1⟩

set_option maxRecDepth 100000 in
set_option maxHeartbeats 3200000 in
theorem strip_out (mu : List Int) (i r : Nat) (N : Nat) (L : List (List Int × Int)) (s put last : List Int) (left : Int) (ash amu aput alast al : Option Addr) (ls csh nmu cmu cput clast nl cl : Nat) (w : World)
    (hm : LrMem mu N L (lrStrip (restD mu i) (i == 0) last 0 (pad16 s) put left) ash ls s amu nmu alast clast last al nl w) (hok : LrOk (i == 0) last 0 (pad16 s) put left) (hr : r = 16) (hrl : r ≤ ls) (hl0 : left ≠ 0) :
    Calls Try.prog 52 #[.slice ash ls csh, .slice amu nmu cmu, .int .i64 16, .int .i64 16, .int .i64 i, .int .i64 r, .int .i64 left, .slice aput 16 cput, .slice alast 16 clast, .slice al nl cl] w (LrPost w (lrStrip (restD mu i) (i == 0) last 0 (pad16 s) put left) L) := by
  have h0 := hok.left0
  have hD : lrStrip (restD mu i) (i == 0) last 0 (pad16 s) put left = [] := by rw [lrStrip, if_pos (by omega)]
  rw [hD]
  have HL := Lib.hid hm.rL
  have Hn := Lib.hid hm.pnl
  have z0 : (left == 0) = false := by simpa using hl0
  have z1 : ¬ (ls : Int) < (r : Int) := by omega
  have z2 : (16 : Int) ≤ (r : Int) := by omega
  clear hD hm hok hr hrl hl0
  go_enter Try.func52, Try.ntmps52
  go_wp2
  go_ret
  exact ⟨_, _, _, rfl, Lib.hid ⟨HL.out, Hn.out⟩, Below.refl _ _⟩

theorem strip_all (mu : List Int) (M : Nat) (ihS : StripIh mu M) (ihL : LatIh mu M) : StripIh mu (M + 1) := by
  intro i k r N L s put last left ash amu aput alast al ls csh nmu cmu cput clast nl cl w hM hm hput hcput hok hrk hrl hi hcs
  by_cases hl0 : left = 0
  · subst hl0
    exact strip_none mu M ihL i k r N L s put last ash amu aput alast al ls csh nmu cmu cput clast nl cl w hM hm hput hcput hok hi hcs
  · rcases k with _ | k
    · exact strip_out mu i r N L s put last left ash amu aput alast al ls csh nmu cmu cput clast nl cl w hm hok (by omega) hrl hl0
    · rcases Nat.eq_zero_or_pos i with hi0 | hi0 <;> rcases Nat.eq_zero_or_pos r with hr0 | hr0
      · exact strip_00 mu M ihS i k r N L s put last left ash amu aput alast al ls csh nmu cmu cput clast nl cl w hM hm hput hcput hok hrk hrl hi hl0 hi0 hr0
      · exact strip_01 mu M ihS i k r N L s put last left ash amu aput alast al ls csh nmu cmu cput clast nl cl w hM hm hput hcput hok hrk hrl hi hl0 hi0 hr0
      · exact strip_10 mu M ihS i k r N L s put last left ash amu aput alast al ls csh nmu cmu cput clast nl cl w hM hm hput hcput hok hrk hrl hi hl0 hi0 hr0
      · exact strip_11 mu M ihS i k r N L s put last left ash amu aput alast al ls csh nmu cmu cput clast nl cl w hM hm hput hcput hok hrk hrl hi hl0 hi0 hr0

set_option maxRecDepth 100000 in
set_option maxHeartbeats 3200000 in
theorem lat_end (mu : List Int) (i : Nat) (N : Nat) (L : List (List Int × Int)) (s last : List Int) (ash amu alast al : Option Addr) (ls csh nmu cmu clast nl cl : Nat) (w : World)
    (hm : LrMem mu N L (lrAll (mu.drop i) (i == 0) last (pad16 s)) ash ls s amu nmu alast clast last al nl w) (hi : i = nmu) (hcs : ls ≤ csh) :
    Calls Try.prog 42 #[.slice ash ls csh, .slice amu nmu cmu, .int .i64 16, .int .i64 16, .int .i64 i, .slice alast 16 clast, .slice al nl cl] w (LrPost w (lrAll (mu.drop i) (i == 0) last (pad16 s)) L) := by
  have hD : lrAll (mu.drop i) (i == 0) last (pad16 s) = [pad16 s] := lrAll_end (by rw [hm.mul]; omega) _ _ _
  have hI : insAll [pad16 s] L = insL (bare s) L := by rw [insAll_one, bare_pad]
  have Hm := Lib.hid hm
  have hnl := hm.nl
  have hls16 := hm.ls16
  have hbl : (bare s).length ≤ 16 := bare_short (by rw [hm.sl]; exact hm.ls16)
  have Hsh := Lib.hid (show ∀ p ∈ L, 1 ≤ p.2 ∧ p.2 ≤ (4294967296 : Int) ∧ p.1.length ≤ 16 from fun p hp => by
    have := hm.good.each p hp
    have := hm.big
    omega)
  rw [hD]
  have HI := Lib.hid hI
  subst hi
  clear hD hI hm
  go_enter Try.func42, Try.ntmps42
  go_wp2_with fail
  refine (l4Bare_any _ _ _ s _ Hm.out.rs Hm.out.sl (by omega) hcs).mono ?_
  rintro e w1 ⟨a1, n1, c1, rfl, ho1, hb1⟩
  have hl1 := ho1.len
  have Ho1 := Lib.hid ho1.rd
  have Hl1 := Lib.hid hl1
  have Hb1 := Lib.hid hb1
  have hs1 := hb1.size
  have hn1 : n1 ≤ 16 := by rw [← hl1]; exact hbl
  clear ho1 hb1 hl1
  go_wp2_with fail
  refine (l4Add_any _ _ _ L _ _ _ (bare s) _ (Hm.out.rL.below Hb1.out) Hm.out.pnl hnl Hsh.out Ho1.out Hl1.out hn1).mono ?_
  rintro e w2 ⟨a2, n2, c2, rfl, ho2, hb2⟩
  have H2 := Lib.hid ho2.rd
  have Hn2 := Lib.hid ho2.len
  have HB := Lib.hid (Hb1.out.trans (hb2.mono hs1))
  clear ho2 hb2
  go_wp2
  go_ret
  exact ⟨_, _, _, rfl, Lib.hid ⟨by rw [HI.out]; exact H2.out, by rw [HI.out]; exact Hn2.out⟩, HB.out⟩

theorem LrMem.below {mu : List Int} {N : Nat} {L : List (List Int × Int)} {D : List (List Int)} {ash amu alast al : Option Addr} {ls nmu clast nl : Nat} {s last : List Int} {w w' : World} (h : LrMem mu N L D ash ls s amu nmu alast clast last al nl w) (hb : Below w.heap.size w w') : LrMem mu N L D ash ls s amu nmu alast clast last al nl w' :=
  ⟨h.rs.below hb, h.sl, h.ls16, h.rmu.below hb, h.mul, h.nmu16, h.mu0, h.rlast.below hb, h.pcl, h.rL.below hb, h.pnl, h.good, h.big⟩
set_option maxRecDepth 100000 in
set_option maxHeartbeats 6400000 in
theorem lat_on (mu : List Int) (M : Nat) (ihS : StripIh mu M) (i : Nat) (N : Nat) (L : List (List Int × Int)) (s last : List Int) (ash amu alast al : Option Addr) (ls csh nmu cmu clast nl cl : Nat) (w : World)
    (hM : (mu.length - i) * 18 + 17 < M + 1) (hm : LrMem mu N L (lrAll (mu.drop i) (i == 0) last (pad16 s)) ash ls s amu nmu alast clast last al nl w) (hs : ShL last (pad16 s)) (hi : i < nmu) (hcs : ls ≤ csh) :
    Calls Try.prog 42 #[.slice ash ls csh, .slice amu nmu cmu, .int .i64 16, .int .i64 16, .int .i64 i, .slice alast 16 clast, .slice al nl cl] w (LrPost w (lrAll (mu.drop i) (i == 0) last (pad16 s)) L) := by
  obtain ⟨c, hc⟩ := some_at hm.mul hi
  obtain ⟨bm, om, ham, hcm⟩ := hm.rmu.at (k := i) (by rw [hm.mul]; exact hi)
  have hcc := hcm i c hc
  have hcb := hm.mu0 c (List.mem_of_getElem? hc)
  have hD := lrAll_at hc (i == 0) last (pad16 s)
  have hn16 := hm.nmu16
  have Hm := Lib.hid hm
  have Hok := Lib.hid (hs.ok (i == 0) hcb.1 hcb.2)
  have HM := Lib.hid hM
  have Hih := Lib.hid ihS
  subst ham
  rw [hD] at Hm ⊢
  have hmk := mk16
  obtain ⟨cz, hcz⟩ : ∃ cz, madeCells #[.int .i64 0] 16 = cz := ⟨_, rfl⟩
  have hmz := fun w => made16 w
  rw [hcz] at hmz
  simp only [hcz] at hmk
  have Hmz := Lib.hid hmz
  have hbz : bm < w.heap.size := World.block_lt_of_cell? _ _ hcc
  have S_of : ∀ w2, Below w.heap.size w w2 → w2.cell? ⟨bm, om + i, none⟩ = some (.int .i64 c) := fun w2 hb2 => by rw [hb2.cell (p := ⟨bm, om + i, none⟩) hbz]; exact hcc
  have d0 : Below w.heap.size w w := Below.refl _ _
  have d1 : Below w.heap.size w w.drew := Drew.below ⟨1, rfl⟩ _
  have z1 : (i : Int) < (nmu : Int) := by omega
  have z2 : (0 : Int) ≤ (i : Int) := by omega
  clear hc hcm hD hm hs hM ihS hmz hcz
  go_enter Try.func42, Try.ntmps42
  go_wp2
  go_region_held3 (fun w' => w'.cell? ⟨bm, om + i, none⟩ = some (.int .i64 c)) ((first | exact S_of _ d0 | exact S_of _ d1 | exact S_of _ hB2 | exact S_of _ (d1.alloc (Nat.le_refl _) _)))
    ((first | (go_at_call 52; refine (Hih.out i 16 0 N L s zeros16 last c _ _ _ _ _ ls csh nmu cmu 16 clast nl cl _ (by have := HM.out; omega) (Hm.out.below (Below.alloc (Drew.below ⟨1, rfl⟩ _) (Nat.le_refl _) _)) (OS.ri (Hmz.out _)) (Nat.le_refl _) Hok.out (by omega) (by omega) hi hcs).mono ?_; rintro e w2 ⟨a2, n2, c2, rfl, h2, hb2⟩; have hB2 := (Below.alloc d1 (Nat.le_refl _) _).trans (Below.mono hb2 (by simp)))))
  all_goals
    have HB2 := Lib.hid hB2
    have H2 := Lib.hid h2
    clear hB2 h2 hb2 S_of
    go_wp2
    go_ret
    exact ⟨_, _, _, rfl, H2.out, HB2.out⟩
theorem lat_all (mu : List Int) (M : Nat) (ihS : StripIh mu M) : LatIh mu (M + 1) := by
  intro i N L s last ash amu alast al ls csh nmu cmu clast nl cl w hM hm hs hi hcs
  rcases Nat.eq_or_lt_of_le hi with h | h
  · exact lat_end mu i N L s last ash amu alast al ls csh nmu cmu clast nl cl w hm h hcs
  · exact lat_on mu M ihS i N L s last ash amu alast al ls csh nmu cmu clast nl cl w hM hm hs h hcs
theorem lr_both (mu : List Int) : ∀ M, StripIh mu M ∧ LatIh mu M
  | 0 => ⟨fun _ _ _ _ _ _ _ _ _ _ _ _ _ _ _ _ _ _ _ _ _ _ _ h => absurd h (Nat.not_lt_zero _), fun _ _ _ _ _ _ _ _ _ _ _ _ _ _ _ _ _ h => absurd h (Nat.not_lt_zero _)⟩
  | M + 1 => ⟨strip_all mu M (lr_both mu M).1 (lr_both mu M).2, lat_all mu M (lr_both mu M).1⟩
end Go.Proofs.Ytpjkhkoecgjjbaa
