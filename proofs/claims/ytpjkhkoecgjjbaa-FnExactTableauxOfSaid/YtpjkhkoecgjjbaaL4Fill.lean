/-
  Contract of l4Fill of the reference: all fillings from one on, till there are more than 400. The parts.
-/
import Derived.Test.YtpjkhkoecgjjbaaTabG
import Derived.Test.YtpjkhkoecgjjbaaCopy
namespace Go.Proofs.Ytpjkhkoecgjjbaa
open Go.RowKit

def FillPost (w : World) (B : Nat) (al : Option Addr) (k cl : Nat) (L D : List (List (List Int))) (e : Ending) (w' : World) : Prop :=
  ∃ a' k' c' L', e = .returned (.slice a' k' c') ∧ IIIO w' B w'.heap.size a' k' c' L' ∧ Hid (Cut L D L') ∧ Grows w w' (.slice al k cl) (.slice a' k' c')
/-- what is known when the reference fills on -/
structure FillPre (shape : List Int) (B T H : Nat) (ash : Option Addr) (ns : Nat) (at' : Option Addr) (m ct : Nat) (t : List (List Int)) (al : Option Addr) (k cl : Nat) (L : List (List (List Int))) (w : World) : Prop where
  psh : ShB w B ash shape
  pns : shape.length = ns
  pt : IIO w T H at' m ct t
  pH : H ≤ w.heap.size
  pT : B ≤ T
  pl : IIIO w B w.heap.size al k cl L
  poff : ∀ q, (Value.slice al k cl).ownBlock = some q → q < T ∨ H ≤ q
  pB : B ≤ w.heap.size
  pok : TOk shape t
  pk : k ≤ 400
def FillIh (shape : List Int) (n : Int) (N : Nat) : Prop := ∀ (B T H : Nat) (ash : Option Addr) (ns csh : Nat) (at' : Option Addr) (m ct : Nat) (t : List (List Int)) (al : Option Addr) (k cl : Nat) (L : List (List (List Int))) (w : World), FillPre shape B T H ash ns at' m ct t al k cl L w → leftT shape t < N →
    Calls Try.prog 18 #[.slice ash ns csh, .int .i64 n, .slice at' m ct, .slice al k cl] w (FillPost w B al k cl L (tabsOf shape n t))
/-- what holds whenever the loop begins a round -/
def FillAt (shape : List Int) (n : Int) (B : Nat) (tt : List (List Int)) (al : Option Addr) (k cl : Nat) (L : List (List (List Int))) (w0 : World) (x l : Value) (wr : World) : Prop :=
  ∃ (i : Nat) (ak : Option Addr) (kk ck : Nat) (L' : List (List (List Int))), x = .int .i64 (lowT tt + i) ∧ l = .slice ak kk ck ∧ IIIO wr B wr.heap.size ak kk ck L' ∧ Cut L (preT shape n tt i) L' ∧ Grows w0 wr (.slice al k cl) (.slice ak kk ck) ∧ (i = 0 ∨ lowT tt + i ≤ n)
theorem FillAt.start {shape : List Int} {n : Int} {B : Nat} {tt : List (List Int)} {al : Option Addr} {k cl : Nat} {L : List (List (List Int))} {w0 w1 : World} {x : Int} (hx : x = lowT tt) (hb : Below w0.heap.size w0 w1) (hl : IIIO w0 B w0.heap.size al k cl L) (hk : k ≤ 400) : FillAt shape n B tt al k cl L w0 (.int .i64 x) (.slice al k cl) w1 :=
  ⟨0, al, k, cl, L, by subst hx; simp, rfl, (hl.below hb).mono (Nat.le_refl _) hb.size, by rw [preT_zero]; exact Cut.nil (by rw [hl.len]; omega), Grows.of_below _ hb, .inl rfl⟩
theorem FillPre.next {shape : List Int} {B m c1 ns : Nat} {ash at2 ak : Option Addr} {kk ck S3 : Nat} {tt : List (List Int)} {L' : List (List (List Int))} {w0 wr w5 : World} {x : Int} (hp : ShB w0 B ash shape) (hns : shape.length = ns) (hBr : Below B w0 wr) (hB0 : B ≤ w0.heap.size) (hok : TOk shape tt) (hf : fullT shape tt = false) (hx : 0 ≤ x ∧ x ≤ 7) (hl : IIIO wr B wr.heap.size ak kk ck L') (hkk : kk ≤ 400) (hb5 : Below wr.heap.size wr w5) (h3 : IIO w5 wr.heap.size S3 at2 m c1 (putT tt x)) (hS : S3 ≤ w5.heap.size) :
    FillPre shape B wr.heap.size S3 ash ns at2 m c1 (putT tt x) ak kk ck L' w5 :=
  ⟨(hp.below hBr).below (hb5.mono (Nat.le_trans hB0 hBr.size)), hns, h3, hS, Nat.le_trans hB0 hBr.size, (hl.below hb5).mono (Nat.le_refl _) hb5.size, fun q hq => .inl (hl.hi q hq), Nat.le_trans hB0 (Nat.le_trans hBr.size hb5.size), hok.put (notFull hok hf).1 hf hx, hkk⟩
theorem FillAt.step {shape : List Int} {n : Int} {B : Nat} {tt : List (List Int)} {al ak a4 : Option Addr} {k cl kk ck k4 c4 i : Nat} {L L' L4 : List (List (List Int))} {w0 wr w5 w4 : World} {x : Int} (hi : lowT tt + (i : Int) = x) (hx : x < n) (hcut : Cut L (preT shape n tt i) L') (hkl : L'.length = kk) (hkk : kk ≤ 400) (hgr : Grows w0 wr (.slice al k cl) (.slice ak kk ck)) (hb5 : Below wr.heap.size wr w5) (hl4 : IIIO w4 B w4.heap.size a4 k4 c4 L4) (hc4 : Cut L' (tabsOf shape n (putT tt x)) L4) (hg4 : Grows w5 w4 (.slice ak kk ck) (.slice a4 k4 c4)) (hr : -100 ≤ x ∧ x ≤ 100) :
    FillAt shape n B tt al k cl L w0 (.int .i64 (IntKind.i64.wrap (x + 1))) (.slice a4 k4 c4) w4 := by
  refine ⟨i + 1, a4, k4, c4, L4, by rw [IntWalk.i64_in _ (by omega)]; congr 1; omega, rfl, hl4, ?_, (hgr.trans (Grows.of_below _ hb5)).trans hg4, .inr (by omega)⟩
  rw [preT_succ (by omega), hi]
  exact hcut.then (by omega) hc4
theorem FillPost.over {shape : List Int} {n : Int} {B : Nat} {t tt : List (List Int)} {al ak : Option Addr} {k cl kk ck i : Nat} {L L' : List (List (List Int))} {w w0 wr : World} (hs : ShOk shape) (hn : n ≤ 7) (hok : TOk shape tt) (hf : fullT shape tt = false) (he : tabsOf shape n t = tabsOf shape n tt) (hb : Below w.heap.size w w0) (hcut : Cut L (preT shape n tt i) L') (hkl : L'.length = kk) (h : 400 < kk ∨ n ≤ lowT tt + i) (hgr : Grows w0 wr (.slice al k cl) (.slice ak kk ck)) (hl : IIIO wr B wr.heap.size ak kk ck L') :
    FillPost w B al k cl L (tabsOf shape n t) (.returned (.slice ak kk ck)) wr := by
  refine ⟨ak, kk, ck, L', rfl, hl, ?_, (Grows.of_below _ hb).trans hgr⟩
  refine Lib.hid ?_
  rw [he]
  rcases h with h | h
  · exact hcut.over (by omega) (preT_le hs hn hok hf i)
  · rw [← preT_all hs hn hok hf h]; exact hcut

set_option maxRecDepth 100000 in
set_option maxHeartbeats 12800000 in
theorem l4Fill_a00 (shape : List Int) (n : Int) (hs : ShOk shape) (hn : 0 ≤ n ∧ n ≤ 7) (N : Nat) (ih : FillIh shape n N) (B T H : Nat) (ash : Option Addr) (ns csh : Nat) (at' : Option Addr) (m ct : Nat) (t : List (List Int)) (al : Option Addr) (k cl : Nat) (L : List (List (List Int))) (w : World)
    (hp : FillPre shape B T H ash ns at' m ct t al k cl L w) (hN : leftT shape t < N + 1) (j c : Nat) (hj : m = j + 1) (hcl : (lastT t).length = c) (hf : fullT shape t = false) (hc0 : ¬ 0 < c) (hj0 : ¬ 0 < j) :
    Calls Try.prog 18 #[.slice ash ns csh, .int .i64 n, .slice at' m ct, .slice al k cl] w (FillPost w B al k cl L (tabsOf shape n t)) := by
  have Hs := Lib.hid hs
  have Hp := Lib.hid hp
  have HN := Lib.hid hN
  have Hih := Lib.hid ih
  have hns := hp.pns
  have hml := hp.pt.len
  have hns16 : ns ≤ 16 := by rw [← hns]; exact hs.few
  have hmn : m ≤ ns := by rw [← hns, ← hml]; exact hp.pok.len
  have hk := hp.pk
  have hszB := hp.pB
  have hH := hp.pH
  have hjl : j < t.length := by omega
  have hjs : j < shape.length := by omega
  have hjm : j < m := by omega
  have hjn : j < ns := by omega
  have hjmI : (j : Int) < (m : Int) := by omega
  have hjnI : (j : Int) < (ns : Int) := by omega
  have q0 : IntKind.i64.wrap ((m : Int) - 1) = (j : Int) := by rw [IntWalk.i64_in _ (by omega)]; omega
  have hlast : lastT t = rowAt t j := by unfold lastT; rw [hml, hj]; rfl
  obtain ⟨gt, ot, hat, hct⟩ := hp.pt.rd.at hjl
  obtain ⟨ar, cr, hcr, hrr⟩ := hct j (rowAt t j) (rowAt_some hjl)
  obtain ⟨bs, os, hash, hcs⟩ := hp.psh.1.at hjs
  obtain ⟨sj, hsj⟩ := some_at rfl hjs
  have hcsj := hcs j sj hsj
  have hsg : shape.getD j 0 = sj := getD_of hsj
  have hc : (rowAt t j).length = c := by rw [← hlast]; exact hcl
  rw [hc] at hcr
  have hc16 : c ≤ 16 := by rw [← hcl]; exact lastT_len hs hp.pok
  have k0 : (0 : Int) ≤ (j : Int) := by omega
  have k3 : (-1 : Int) < (j : Int) := by omega
  have hnf := notFull hp.pok hf
  rw [hcl, hml, show m - 1 = j by omega, hsg] at hnf
  have hfe : ((c : Int) == sj) = false := by rw [beq_eq_false_iff_ne]; omega
  clear hnf
  have hlow : lowT t = 0 := by
    unfold lowT
    simp only
    rw [hlast, hc, if_neg (by omega), if_neg (by omega)]
  have k1 : ¬ (0 : Int) < (c : Int) := by omega
  have k2 : ¬ (0 : Int) < (j : Int) := by omega
  subst hat hash
  have hput : ∀ x, putT t x = t.set j (rowAt t j ++ [x]) := fun x => by unfold putT; rw [hlast, hml, hj]; rfl
  have Hput := Lib.hid hput
  clear hput
  have Hlast := Lib.hid hlast
  have Hlow := Lib.hid hlow
  have Hj := Lib.hid hj
  have Hcl := Lib.hid hcl
  have Hc := Lib.hid hc
  have Hml := Lib.hid hml
  have Hns := Lib.hid hns
  have Hf := Lib.hid hf
  clear hct hcs hlast hlow hp hs ih hN hml hns hj hcl hc hf hsj hsg
  go_enter Try.func18, Try.ntmps18
  go_wp2
  go_region
  go_wp2
  skip
  go_loopw [12, 3] (fun xv lv wr => Hid (FillAt shape n B t al k cl L w xv lv wr)) (fun xv _ _ => (n - intOf xv).toNat)
  case atStart => exact FillAt.start Hlow.out.symm ((Drew.drewN w 1).below _) Hp.out.pl hk
  case round =>
    obtain ⟨i, ak, kk, ck, L', rfl, rfl, hl', hcut, hgr, hin⟩ := hrel.out
    clear hrel
    have hkl := hl'.len
    have hsz := hgr.grown.size
    have ht' := IIO.grows3 Hp.out.pt hgr Hp.out.poff
    have hBr : Below B w wr := hgr.below (Below.refl _ _) hszB (Hp.out.pl).lo
    have hlr := lowT_range Hp.out.pok
    have hsi := TOk.short Hs.out Hp.out.pok
    by_cases hx : lowT t + i < n
    · obtain ⟨x, hxe⟩ : ∃ x, lowT t + (i : Int) = x := ⟨_, rfl⟩
      have hx07 : 0 ≤ x ∧ x ≤ 7 := by omega
      have HX := Lib.hid hxe
      have HL' := Lib.hid hl'
      have HCut := Lib.hid hcut
      have HGr := Lib.hid hgr
      have HT' := Lib.hid ht'
      have HBr := Lib.hid hBr
      have HSi := Lib.hid hsi
      have hkL := Lib.hid hkl
      rw [hxe] at hx ⊢
      clear hxe hl' hcut hgr ht' hBr hsi hkl hlr
      by_cases hkk : kk ≤ 400
      · have hkkI : (kk : Int) ≤ 400 := by omega
        go_wp2_with fail
        refine (l4Copy_any _ _ _ t _ HT'.out.rd Hml.out (by omega) HSi.out).mono ?_
        rintro e w1 ⟨a1, c1, rfl, ho1, hB1⟩
        obtain ⟨g, a2, c2, rfl, hc2, hfz, hio, hgrow⟩ := ho1.grow (rowAt_some hjl) (Nat.le_refl _)
        rw [Hc.out] at hc2 hio hgrow
        have Hgrow := Lib.hid hgrow
        have HB1 := Lib.hid hB1
        have hs1 := hB1.size
        clear hgrow hB1 ho1
        go_wp2_with (first | (at_builtin; go_loud (refine wpList_pushI (by rfl) (by rfl) _ _ (by rfl) (hio.mono (Nat.le_refl _) (Nat.le_refl _)) (by rfl) (by rfl) (by omega) (by omega) ?_)))
        intro a3 c3 w3 ho3 hg3
        obtain ⟨h1, h2, h3, h4⟩ := Hgrow.out w3 a3 _ c3 _ ho3 hg3
        have hs3 := hg3.grown.size
        have hb5 : Below wr.heap.size wr (w3.setCell ⟨g, j, none⟩ (.slice a3 (c + 1) c3)) := h4.below HB1.out (Nat.le_refl _) hs1
        have H3 := Lib.hid (show IIO _ _ _ _ _ _ (putT t x) by rw [Hput.out x]; exact h3)
        have Hb5 := Lib.hid hb5
        clear h3 h4 hb5
        go_wp2_with fail
        refine (Hih.out B wr.heap.size w3.heap.size _ ns csh _ _ c1 (putT t x) ak kk ck L' _ (FillPre.next Hp.out.psh Hns.out HBr.out hszB Hp.out.pok Hf.out hx07 HL'.out hkk Hb5.out H3.out (by simp)) (by have := leftT_put (shape := shape) (t := t) (x := x) (notFull Hp.out.pok Hf.out).1 (notFull_len Hs.out Hp.out.pok Hf.out); have := HN.out; omega)).mono ?_
        rintro e w4 ⟨a4, k4, c4, L4, rfl, hl4, HC4, hg4⟩
        have HS := Lib.hid (FillAt.step HX.out hx HCut.out hkL.out hkk HGr.out Hb5.out hl4 HC4.out hg4 (by omega))
        clear hl4 hg4 HC4 H3 Hb5 h1 h2 ho3 hg3 hio hc2 hfz
        go_wp2
        go_roundw
        case rel => exact by simpa [IntWalk.i64_in (x + 1) (by omega)] using HS
        case measure => simp [intOf]; omega
      · have hkkI : ¬ (kk : Int) ≤ 400 := by omega
        go_wp2
        go_ret
        exact FillPost.over Hs.out hn.2 Hp.out.pok Hf.out rfl (Below.refl _ _) HCut.out hkL.out (.inl (by omega)) HGr.out HL'.out
    · have HEnd := Lib.hid (FillPost.over (w := w) (t := t) Hs.out hn.2 Hp.out.pok Hf.out rfl (Below.refl _ _) hcut hkl (.inr (by omega)) hgr hl')
      obtain ⟨x, hxe⟩ : ∃ x, lowT t + (i : Int) = x := ⟨_, rfl⟩
      rw [hxe] at hx ⊢
      clear hxe hl' hcut hgr ht' hBr hsi hkl hlr
      go_wp2
      go_ret
      exact HEnd.out

set_option maxRecDepth 100000 in
set_option maxHeartbeats 12800000 in
theorem l4Fill_a01 (shape : List Int) (n : Int) (hs : ShOk shape) (hn : 0 ≤ n ∧ n ≤ 7) (N : Nat) (ih : FillIh shape n N) (B T H : Nat) (ash : Option Addr) (ns csh : Nat) (at' : Option Addr) (m ct : Nat) (t : List (List Int)) (al : Option Addr) (k cl : Nat) (L : List (List (List Int))) (w : World)
    (hp : FillPre shape B T H ash ns at' m ct t al k cl L w) (hN : leftT shape t < N + 1) (j c : Nat) (hj : m = j + 1) (hcl : (lastT t).length = c) (hf : fullT shape t = false) (hc0 : ¬ 0 < c) (hj0 : 0 < j) :
    Calls Try.prog 18 #[.slice ash ns csh, .int .i64 n, .slice at' m ct, .slice al k cl] w (FillPost w B al k cl L (tabsOf shape n t)) := by
  have Hs := Lib.hid hs
  have Hp := Lib.hid hp
  have HN := Lib.hid hN
  have Hih := Lib.hid ih
  have hns := hp.pns
  have hml := hp.pt.len
  have hns16 : ns ≤ 16 := by rw [← hns]; exact hs.few
  have hmn : m ≤ ns := by rw [← hns, ← hml]; exact hp.pok.len
  have hk := hp.pk
  have hszB := hp.pB
  have hH := hp.pH
  have hjl : j < t.length := by omega
  have hjs : j < shape.length := by omega
  have hjm : j < m := by omega
  have hjn : j < ns := by omega
  have hjmI : (j : Int) < (m : Int) := by omega
  have hjnI : (j : Int) < (ns : Int) := by omega
  have q0 : IntKind.i64.wrap ((m : Int) - 1) = (j : Int) := by rw [IntWalk.i64_in _ (by omega)]; omega
  have hlast : lastT t = rowAt t j := by unfold lastT; rw [hml, hj]; rfl
  obtain ⟨gt, ot, hat, hct⟩ := hp.pt.rd.at hjl
  obtain ⟨ar, cr, hcr, hrr⟩ := hct j (rowAt t j) (rowAt_some hjl)
  obtain ⟨bs, os, hash, hcs⟩ := hp.psh.1.at hjs
  obtain ⟨sj, hsj⟩ := some_at rfl hjs
  have hcsj := hcs j sj hsj
  have hsg : shape.getD j 0 = sj := getD_of hsj
  have hc : (rowAt t j).length = c := by rw [← hlast]; exact hcl
  rw [hc] at hcr
  have hc16 : c ≤ 16 := by rw [← hcl]; exact lastT_len hs hp.pok
  have k0 : (0 : Int) ≤ (j : Int) := by omega
  have k3 : (-1 : Int) < (j : Int) := by omega
  have hnf := notFull hp.pok hf
  rw [hcl, hml, show m - 1 = j by omega, hsg] at hnf
  have hfe : ((c : Int) == sj) = false := by rw [beq_eq_false_iff_ne]; omega
  clear hnf
  obtain ⟨i', hi'⟩ : ∃ i', j = i' + 1 := ⟨j - 1, by omega⟩
  have q2 : IntKind.i64.wrap ((j : Int) - 1) = (i' : Int) := by rw [IntWalk.i64_in _ (by omega)]; omega
  have him : i' < m := by omega
  have himI : (i' : Int) < (m : Int) := by omega
  have hil : i' < t.length := by omega
  obtain ⟨au, cu, hcu, hru⟩ := hct i' (rowAt t i') (rowAt_some hil)
  obtain ⟨u, hu⟩ : ∃ u, (rowAt t i').length = u := ⟨_, rfl⟩
  rw [hu] at hcu
  have hfull := hp.pok.full i' (by omega)
  rw [hu] at hfull
  have hfall := hs.fall i' (by omega)
  rw [← hi', hsg, ← hfull] at hfall
  have hcu2 : c < u := by
    have := (notFull hp.pok hf).2
    rw [hcl, hml, show m - 1 = j by omega, hsg] at this
    omega
  have hcuI : (c : Int) < (u : Int) := by omega
  obtain ⟨bu, ou, hau, hcua⟩ := hru.at (k := c) (by omega)
  obtain ⟨y, hy⟩ := some_at hu hcu2
  have hcy := hcua c y hy
  have hyr := hp.pok.low _ (rowAt_mem hil) y (List.mem_of_getElem? hy)
  have q3 : IntKind.i64.wrap (y + 1) = y + 1 := IntWalk.i64_in _ (by omega)
  have k2 : (0 : Int) < (j : Int) := by omega
  have k4 : (0 : Int) < y + 1 := by omega
  have hlow : lowT t = y + 1 := by
    unfold lowT
    simp only
    rw [hlast, hc, if_pos (by omega), if_neg (by omega), hml, show m - 2 = i' by omega, getD_of hy, Int.max_def]
    split <;> omega
  have k1 : ¬ (0 : Int) < (c : Int) := by omega
  subst hat hash hau
  have hput : ∀ x, putT t x = t.set j (rowAt t j ++ [x]) := fun x => by unfold putT; rw [hlast, hml, hj]; rfl
  have Hput := Lib.hid hput
  clear hput
  have Hlast := Lib.hid hlast
  have Hlow := Lib.hid hlow
  have Hj := Lib.hid hj
  have Hcl := Lib.hid hcl
  have Hc := Lib.hid hc
  have Hml := Lib.hid hml
  have Hns := Lib.hid hns
  have Hf := Lib.hid hf
  clear hct hcs hlast hlow hp hs ih hN hml hns hj hcl hc hf hsj hsg hcua hru hfull hfall hi' hy hu
  go_enter Try.func18, Try.ntmps18
  go_wp2
  go_region
  go_wp2
  skip
  go_loopw [12, 3] (fun xv lv wr => Hid (FillAt shape n B t al k cl L w xv lv wr)) (fun xv _ _ => (n - intOf xv).toNat)
  case atStart => exact FillAt.start Hlow.out.symm ((Drew.drewN w 1).below _) Hp.out.pl hk
  case round =>
    obtain ⟨i, ak, kk, ck, L', rfl, rfl, hl', hcut, hgr, hin⟩ := hrel.out
    clear hrel
    have hkl := hl'.len
    have hsz := hgr.grown.size
    have ht' := IIO.grows3 Hp.out.pt hgr Hp.out.poff
    have hBr : Below B w wr := hgr.below (Below.refl _ _) hszB (Hp.out.pl).lo
    have hlr := lowT_range Hp.out.pok
    have hsi := TOk.short Hs.out Hp.out.pok
    by_cases hx : lowT t + i < n
    · obtain ⟨x, hxe⟩ : ∃ x, lowT t + (i : Int) = x := ⟨_, rfl⟩
      have hx07 : 0 ≤ x ∧ x ≤ 7 := by omega
      have HX := Lib.hid hxe
      have HL' := Lib.hid hl'
      have HCut := Lib.hid hcut
      have HGr := Lib.hid hgr
      have HT' := Lib.hid ht'
      have HBr := Lib.hid hBr
      have HSi := Lib.hid hsi
      have hkL := Lib.hid hkl
      rw [hxe] at hx ⊢
      clear hxe hl' hcut hgr ht' hBr hsi hkl hlr
      by_cases hkk : kk ≤ 400
      · have hkkI : (kk : Int) ≤ 400 := by omega
        go_wp2_with fail
        refine (l4Copy_any _ _ _ t _ HT'.out.rd Hml.out (by omega) HSi.out).mono ?_
        rintro e w1 ⟨a1, c1, rfl, ho1, hB1⟩
        obtain ⟨g, a2, c2, rfl, hc2, hfz, hio, hgrow⟩ := ho1.grow (rowAt_some hjl) (Nat.le_refl _)
        rw [Hc.out] at hc2 hio hgrow
        have Hgrow := Lib.hid hgrow
        have HB1 := Lib.hid hB1
        have hs1 := hB1.size
        clear hgrow hB1 ho1
        go_wp2_with (first | (at_builtin; go_loud (refine wpList_pushI (by rfl) (by rfl) _ _ (by rfl) (hio.mono (Nat.le_refl _) (Nat.le_refl _)) (by rfl) (by rfl) (by omega) (by omega) ?_)))
        intro a3 c3 w3 ho3 hg3
        obtain ⟨h1, h2, h3, h4⟩ := Hgrow.out w3 a3 _ c3 _ ho3 hg3
        have hs3 := hg3.grown.size
        have hb5 : Below wr.heap.size wr (w3.setCell ⟨g, j, none⟩ (.slice a3 (c + 1) c3)) := h4.below HB1.out (Nat.le_refl _) hs1
        have H3 := Lib.hid (show IIO _ _ _ _ _ _ (putT t x) by rw [Hput.out x]; exact h3)
        have Hb5 := Lib.hid hb5
        clear h3 h4 hb5
        go_wp2_with fail
        refine (Hih.out B wr.heap.size w3.heap.size _ ns csh _ _ c1 (putT t x) ak kk ck L' _ (FillPre.next Hp.out.psh Hns.out HBr.out hszB Hp.out.pok Hf.out hx07 HL'.out hkk Hb5.out H3.out (by simp)) (by have := leftT_put (shape := shape) (t := t) (x := x) (notFull Hp.out.pok Hf.out).1 (notFull_len Hs.out Hp.out.pok Hf.out); have := HN.out; omega)).mono ?_
        rintro e w4 ⟨a4, k4, c4, L4, rfl, hl4, HC4, hg4⟩
        have HS := Lib.hid (FillAt.step HX.out hx HCut.out hkL.out hkk HGr.out Hb5.out hl4 HC4.out hg4 (by omega))
        clear hl4 hg4 HC4 H3 Hb5 h1 h2 ho3 hg3 hio hc2 hfz
        go_wp2
        go_roundw
        case rel => exact by simpa [IntWalk.i64_in (x + 1) (by omega)] using HS
        case measure => simp [intOf]; omega
      · have hkkI : ¬ (kk : Int) ≤ 400 := by omega
        go_wp2
        go_ret
        exact FillPost.over Hs.out hn.2 Hp.out.pok Hf.out rfl (Below.refl _ _) HCut.out hkL.out (.inl (by omega)) HGr.out HL'.out
    · have HEnd := Lib.hid (FillPost.over (w := w) (t := t) Hs.out hn.2 Hp.out.pok Hf.out rfl (Below.refl _ _) hcut hkl (.inr (by omega)) hgr hl')
      obtain ⟨x, hxe⟩ : ∃ x, lowT t + (i : Int) = x := ⟨_, rfl⟩
      rw [hxe] at hx ⊢
      clear hxe hl' hcut hgr ht' hBr hsi hkl hlr
      go_wp2
      go_ret
      exact HEnd.out

set_option maxRecDepth 100000 in
set_option maxHeartbeats 12800000 in
theorem l4Fill_a10 (shape : List Int) (n : Int) (hs : ShOk shape) (hn : 0 ≤ n ∧ n ≤ 7) (N : Nat) (ih : FillIh shape n N) (B T H : Nat) (ash : Option Addr) (ns csh : Nat) (at' : Option Addr) (m ct : Nat) (t : List (List Int)) (al : Option Addr) (k cl : Nat) (L : List (List (List Int))) (w : World)
    (hp : FillPre shape B T H ash ns at' m ct t al k cl L w) (hN : leftT shape t < N + 1) (j c : Nat) (hj : m = j + 1) (hcl : (lastT t).length = c) (hf : fullT shape t = false) (hc0 : 0 < c) (hj0 : ¬ 0 < j) :
    Calls Try.prog 18 #[.slice ash ns csh, .int .i64 n, .slice at' m ct, .slice al k cl] w (FillPost w B al k cl L (tabsOf shape n t)) := by
  have Hs := Lib.hid hs
  have Hp := Lib.hid hp
  have HN := Lib.hid hN
  have Hih := Lib.hid ih
  have hns := hp.pns
  have hml := hp.pt.len
  have hns16 : ns ≤ 16 := by rw [← hns]; exact hs.few
  have hmn : m ≤ ns := by rw [← hns, ← hml]; exact hp.pok.len
  have hk := hp.pk
  have hszB := hp.pB
  have hH := hp.pH
  have hjl : j < t.length := by omega
  have hjs : j < shape.length := by omega
  have hjm : j < m := by omega
  have hjn : j < ns := by omega
  have hjmI : (j : Int) < (m : Int) := by omega
  have hjnI : (j : Int) < (ns : Int) := by omega
  have q0 : IntKind.i64.wrap ((m : Int) - 1) = (j : Int) := by rw [IntWalk.i64_in _ (by omega)]; omega
  have hlast : lastT t = rowAt t j := by unfold lastT; rw [hml, hj]; rfl
  obtain ⟨gt, ot, hat, hct⟩ := hp.pt.rd.at hjl
  obtain ⟨ar, cr, hcr, hrr⟩ := hct j (rowAt t j) (rowAt_some hjl)
  obtain ⟨bs, os, hash, hcs⟩ := hp.psh.1.at hjs
  obtain ⟨sj, hsj⟩ := some_at rfl hjs
  have hcsj := hcs j sj hsj
  have hsg : shape.getD j 0 = sj := getD_of hsj
  have hc : (rowAt t j).length = c := by rw [← hlast]; exact hcl
  rw [hc] at hcr
  have hc16 : c ≤ 16 := by rw [← hcl]; exact lastT_len hs hp.pok
  have k0 : (0 : Int) ≤ (j : Int) := by omega
  have k3 : (-1 : Int) < (j : Int) := by omega
  have hnf := notFull hp.pok hf
  rw [hcl, hml, show m - 1 = j by omega, hsg] at hnf
  have hfe : ((c : Int) == sj) = false := by rw [beq_eq_false_iff_ne]; omega
  clear hnf
  obtain ⟨d, hd⟩ : ∃ d, c = d + 1 := ⟨c - 1, by omega⟩
  have q1 : IntKind.i64.wrap ((c : Int) - 1) = (d : Int) := by rw [IntWalk.i64_in _ (by omega)]; omega
  have hdc : d < c := by omega
  have hdcI : (d : Int) < (c : Int) := by omega
  obtain ⟨br, or', har, hcra⟩ := hrr.at (k := d) (by omega)
  obtain ⟨z, hz⟩ := some_at hc hdc
  have hcz := hcra d z hz
  have hzr := hp.pok.low _ (rowAt_mem hjl) z (List.mem_of_getElem? hz)
  have k1 : (0 : Int) < (c : Int) := by omega
  have hlow : lowT t = z := by
    unfold lowT
    simp only
    rw [hlast, hc, if_neg (by omega), if_pos (by omega), show c - 1 = d by omega, getD_of hz]
  have k2 : ¬ (0 : Int) < (j : Int) := by omega
  subst hat hash har
  have hput : ∀ x, putT t x = t.set j (rowAt t j ++ [x]) := fun x => by unfold putT; rw [hlast, hml, hj]; rfl
  have Hput := Lib.hid hput
  clear hput
  have Hlast := Lib.hid hlast
  have Hlow := Lib.hid hlow
  have Hj := Lib.hid hj
  have Hcl := Lib.hid hcl
  have Hc := Lib.hid hc
  have Hml := Lib.hid hml
  have Hns := Lib.hid hns
  have Hf := Lib.hid hf
  clear hct hcs hlast hlow hp hs ih hN hml hns hj hcl hc hf hsj hsg hcra hd hz
  go_enter Try.func18, Try.ntmps18
  go_wp2
  go_region
  go_wp2
  skip
  go_loopw [12, 3] (fun xv lv wr => Hid (FillAt shape n B t al k cl L w xv lv wr)) (fun xv _ _ => (n - intOf xv).toNat)
  case atStart => exact FillAt.start Hlow.out.symm ((Drew.drewN w 1).below _) Hp.out.pl hk
  case round =>
    obtain ⟨i, ak, kk, ck, L', rfl, rfl, hl', hcut, hgr, hin⟩ := hrel.out
    clear hrel
    have hkl := hl'.len
    have hsz := hgr.grown.size
    have ht' := IIO.grows3 Hp.out.pt hgr Hp.out.poff
    have hBr : Below B w wr := hgr.below (Below.refl _ _) hszB (Hp.out.pl).lo
    have hlr := lowT_range Hp.out.pok
    have hsi := TOk.short Hs.out Hp.out.pok
    by_cases hx : lowT t + i < n
    · obtain ⟨x, hxe⟩ : ∃ x, lowT t + (i : Int) = x := ⟨_, rfl⟩
      have hx07 : 0 ≤ x ∧ x ≤ 7 := by omega
      have HX := Lib.hid hxe
      have HL' := Lib.hid hl'
      have HCut := Lib.hid hcut
      have HGr := Lib.hid hgr
      have HT' := Lib.hid ht'
      have HBr := Lib.hid hBr
      have HSi := Lib.hid hsi
      have hkL := Lib.hid hkl
      rw [hxe] at hx ⊢
      clear hxe hl' hcut hgr ht' hBr hsi hkl hlr
      by_cases hkk : kk ≤ 400
      · have hkkI : (kk : Int) ≤ 400 := by omega
        go_wp2_with fail
        refine (l4Copy_any _ _ _ t _ HT'.out.rd Hml.out (by omega) HSi.out).mono ?_
        rintro e w1 ⟨a1, c1, rfl, ho1, hB1⟩
        obtain ⟨g, a2, c2, rfl, hc2, hfz, hio, hgrow⟩ := ho1.grow (rowAt_some hjl) (Nat.le_refl _)
        rw [Hc.out] at hc2 hio hgrow
        have Hgrow := Lib.hid hgrow
        have HB1 := Lib.hid hB1
        have hs1 := hB1.size
        clear hgrow hB1 ho1
        go_wp2_with (first | (at_builtin; go_loud (refine wpList_pushI (by rfl) (by rfl) _ _ (by rfl) (hio.mono (Nat.le_refl _) (Nat.le_refl _)) (by rfl) (by rfl) (by omega) (by omega) ?_)))
        intro a3 c3 w3 ho3 hg3
        obtain ⟨h1, h2, h3, h4⟩ := Hgrow.out w3 a3 _ c3 _ ho3 hg3
        have hs3 := hg3.grown.size
        have hb5 : Below wr.heap.size wr (w3.setCell ⟨g, j, none⟩ (.slice a3 (c + 1) c3)) := h4.below HB1.out (Nat.le_refl _) hs1
        have H3 := Lib.hid (show IIO _ _ _ _ _ _ (putT t x) by rw [Hput.out x]; exact h3)
        have Hb5 := Lib.hid hb5
        clear h3 h4 hb5
        go_wp2_with fail
        refine (Hih.out B wr.heap.size w3.heap.size _ ns csh _ _ c1 (putT t x) ak kk ck L' _ (FillPre.next Hp.out.psh Hns.out HBr.out hszB Hp.out.pok Hf.out hx07 HL'.out hkk Hb5.out H3.out (by simp)) (by have := leftT_put (shape := shape) (t := t) (x := x) (notFull Hp.out.pok Hf.out).1 (notFull_len Hs.out Hp.out.pok Hf.out); have := HN.out; omega)).mono ?_
        rintro e w4 ⟨a4, k4, c4, L4, rfl, hl4, HC4, hg4⟩
        have HS := Lib.hid (FillAt.step HX.out hx HCut.out hkL.out hkk HGr.out Hb5.out hl4 HC4.out hg4 (by omega))
        clear hl4 hg4 HC4 H3 Hb5 h1 h2 ho3 hg3 hio hc2 hfz
        go_wp2
        go_roundw
        case rel => exact by simpa [IntWalk.i64_in (x + 1) (by omega)] using HS
        case measure => simp [intOf]; omega
      · have hkkI : ¬ (kk : Int) ≤ 400 := by omega
        go_wp2
        go_ret
        exact FillPost.over Hs.out hn.2 Hp.out.pok Hf.out rfl (Below.refl _ _) HCut.out hkL.out (.inl (by omega)) HGr.out HL'.out
    · have HEnd := Lib.hid (FillPost.over (w := w) (t := t) Hs.out hn.2 Hp.out.pok Hf.out rfl (Below.refl _ _) hcut hkl (.inr (by omega)) hgr hl')
      obtain ⟨x, hxe⟩ : ∃ x, lowT t + (i : Int) = x := ⟨_, rfl⟩
      rw [hxe] at hx ⊢
      clear hxe hl' hcut hgr ht' hBr hsi hkl hlr
      go_wp2
      go_ret
      exact HEnd.out

set_option maxRecDepth 100000 in
set_option maxHeartbeats 12800000 in
theorem l4Fill_a11 (shape : List Int) (n : Int) (hs : ShOk shape) (hn : 0 ≤ n ∧ n ≤ 7) (N : Nat) (ih : FillIh shape n N) (B T H : Nat) (ash : Option Addr) (ns csh : Nat) (at' : Option Addr) (m ct : Nat) (t : List (List Int)) (al : Option Addr) (k cl : Nat) (L : List (List (List Int))) (w : World)
    (hp : FillPre shape B T H ash ns at' m ct t al k cl L w) (hN : leftT shape t < N + 1) (j c : Nat) (hj : m = j + 1) (hcl : (lastT t).length = c) (hf : fullT shape t = false) (hc0 : 0 < c) (hj0 : 0 < j) :
    Calls Try.prog 18 #[.slice ash ns csh, .int .i64 n, .slice at' m ct, .slice al k cl] w (FillPost w B al k cl L (tabsOf shape n t)) := by
  have Hs := Lib.hid hs
  have Hp := Lib.hid hp
  have HN := Lib.hid hN
  have Hih := Lib.hid ih
  have hns := hp.pns
  have hml := hp.pt.len
  have hns16 : ns ≤ 16 := by rw [← hns]; exact hs.few
  have hmn : m ≤ ns := by rw [← hns, ← hml]; exact hp.pok.len
  have hk := hp.pk
  have hszB := hp.pB
  have hH := hp.pH
  have hjl : j < t.length := by omega
  have hjs : j < shape.length := by omega
  have hjm : j < m := by omega
  have hjn : j < ns := by omega
  have hjmI : (j : Int) < (m : Int) := by omega
  have hjnI : (j : Int) < (ns : Int) := by omega
  have q0 : IntKind.i64.wrap ((m : Int) - 1) = (j : Int) := by rw [IntWalk.i64_in _ (by omega)]; omega
  have hlast : lastT t = rowAt t j := by unfold lastT; rw [hml, hj]; rfl
  obtain ⟨gt, ot, hat, hct⟩ := hp.pt.rd.at hjl
  obtain ⟨ar, cr, hcr, hrr⟩ := hct j (rowAt t j) (rowAt_some hjl)
  obtain ⟨bs, os, hash, hcs⟩ := hp.psh.1.at hjs
  obtain ⟨sj, hsj⟩ := some_at rfl hjs
  have hcsj := hcs j sj hsj
  have hsg : shape.getD j 0 = sj := getD_of hsj
  have hc : (rowAt t j).length = c := by rw [← hlast]; exact hcl
  rw [hc] at hcr
  have hc16 : c ≤ 16 := by rw [← hcl]; exact lastT_len hs hp.pok
  have k0 : (0 : Int) ≤ (j : Int) := by omega
  have k3 : (-1 : Int) < (j : Int) := by omega
  have hnf := notFull hp.pok hf
  rw [hcl, hml, show m - 1 = j by omega, hsg] at hnf
  have hfe : ((c : Int) == sj) = false := by rw [beq_eq_false_iff_ne]; omega
  clear hnf
  obtain ⟨d, hd⟩ : ∃ d, c = d + 1 := ⟨c - 1, by omega⟩
  have q1 : IntKind.i64.wrap ((c : Int) - 1) = (d : Int) := by rw [IntWalk.i64_in _ (by omega)]; omega
  have hdc : d < c := by omega
  have hdcI : (d : Int) < (c : Int) := by omega
  obtain ⟨br, or', har, hcra⟩ := hrr.at (k := d) (by omega)
  obtain ⟨z, hz⟩ := some_at hc hdc
  have hcz := hcra d z hz
  have hzr := hp.pok.low _ (rowAt_mem hjl) z (List.mem_of_getElem? hz)
  have k1 : (0 : Int) < (c : Int) := by omega
  obtain ⟨i', hi'⟩ : ∃ i', j = i' + 1 := ⟨j - 1, by omega⟩
  have q2 : IntKind.i64.wrap ((j : Int) - 1) = (i' : Int) := by rw [IntWalk.i64_in _ (by omega)]; omega
  have him : i' < m := by omega
  have himI : (i' : Int) < (m : Int) := by omega
  have hil : i' < t.length := by omega
  obtain ⟨au, cu, hcu, hru⟩ := hct i' (rowAt t i') (rowAt_some hil)
  obtain ⟨u, hu⟩ : ∃ u, (rowAt t i').length = u := ⟨_, rfl⟩
  rw [hu] at hcu
  have hfull := hp.pok.full i' (by omega)
  rw [hu] at hfull
  have hfall := hs.fall i' (by omega)
  rw [← hi', hsg, ← hfull] at hfall
  have hcu2 : c < u := by
    have := (notFull hp.pok hf).2
    rw [hcl, hml, show m - 1 = j by omega, hsg] at this
    omega
  have hcuI : (c : Int) < (u : Int) := by omega
  obtain ⟨bu, ou, hau, hcua⟩ := hru.at (k := c) (by omega)
  obtain ⟨y, hy⟩ := some_at hu hcu2
  have hcy := hcua c y hy
  have hyr := hp.pok.low _ (rowAt_mem hil) y (List.mem_of_getElem? hy)
  have q3 : IntKind.i64.wrap (y + 1) = y + 1 := IntWalk.i64_in _ (by omega)
  have k2 : (0 : Int) < (j : Int) := by omega
  have hlow : lowT t = max z (y + 1) := by
    unfold lowT
    simp only
    rw [hlast, hc, if_pos (by omega), if_pos (by omega), hml, show m - 2 = i' by omega, show c - 1 = d by omega, getD_of hz, getD_of hy]
  subst hat hash har hau
  have hput : ∀ x, putT t x = t.set j (rowAt t j ++ [x]) := fun x => by unfold putT; rw [hlast, hml, hj]; rfl
  have Hput := Lib.hid hput
  clear hput
  have Hlast := Lib.hid hlast
  have Hlow := Lib.hid hlow
  have Hj := Lib.hid hj
  have Hcl := Lib.hid hcl
  have Hc := Lib.hid hc
  have Hml := Lib.hid hml
  have Hns := Lib.hid hns
  have Hf := Lib.hid hf
  clear hct hcs hlast hlow hp hs ih hN hml hns hj hcl hc hf hsj hsg hcra hd hz hcua hru hfull hfall hi' hy hu
  by_cases hzy : z < y + 1
  · go_enter Try.func18, Try.ntmps18
    go_wp2
    go_region
    go_wp2
    skip
    go_loopw [12, 3] (fun xv lv wr => Hid (FillAt shape n B t al k cl L w xv lv wr)) (fun xv _ _ => (n - intOf xv).toNat)
    case atStart => exact FillAt.start (by rw [Hlow.out, Int.max_def]; split <;> omega) ((Drew.drewN w 1).below _) Hp.out.pl hk
    case round =>
      obtain ⟨i, ak, kk, ck, L', rfl, rfl, hl', hcut, hgr, hin⟩ := hrel.out
      clear hrel
      have hkl := hl'.len
      have hsz := hgr.grown.size
      have ht' := IIO.grows3 Hp.out.pt hgr Hp.out.poff
      have hBr : Below B w wr := hgr.below (Below.refl _ _) hszB (Hp.out.pl).lo
      have hlr := lowT_range Hp.out.pok
      have hsi := TOk.short Hs.out Hp.out.pok
      by_cases hx : lowT t + i < n
      · obtain ⟨x, hxe⟩ : ∃ x, lowT t + (i : Int) = x := ⟨_, rfl⟩
        have hx07 : 0 ≤ x ∧ x ≤ 7 := by omega
        have HX := Lib.hid hxe
        have HL' := Lib.hid hl'
        have HCut := Lib.hid hcut
        have HGr := Lib.hid hgr
        have HT' := Lib.hid ht'
        have HBr := Lib.hid hBr
        have HSi := Lib.hid hsi
        have hkL := Lib.hid hkl
        rw [hxe] at hx ⊢
        clear hxe hl' hcut hgr ht' hBr hsi hkl hlr
        by_cases hkk : kk ≤ 400
        · have hkkI : (kk : Int) ≤ 400 := by omega
          go_wp2_with fail
          refine (l4Copy_any _ _ _ t _ HT'.out.rd Hml.out (by omega) HSi.out).mono ?_
          rintro e w1 ⟨a1, c1, rfl, ho1, hB1⟩
          obtain ⟨g, a2, c2, rfl, hc2, hfz, hio, hgrow⟩ := ho1.grow (rowAt_some hjl) (Nat.le_refl _)
          rw [Hc.out] at hc2 hio hgrow
          have Hgrow := Lib.hid hgrow
          have HB1 := Lib.hid hB1
          have hs1 := hB1.size
          clear hgrow hB1 ho1
          go_wp2_with (first | (at_builtin; go_loud (refine wpList_pushI (by rfl) (by rfl) _ _ (by rfl) (hio.mono (Nat.le_refl _) (Nat.le_refl _)) (by rfl) (by rfl) (by omega) (by omega) ?_)))
          intro a3 c3 w3 ho3 hg3
          obtain ⟨h1, h2, h3, h4⟩ := Hgrow.out w3 a3 _ c3 _ ho3 hg3
          have hs3 := hg3.grown.size
          have hb5 : Below wr.heap.size wr (w3.setCell ⟨g, j, none⟩ (.slice a3 (c + 1) c3)) := h4.below HB1.out (Nat.le_refl _) hs1
          have H3 := Lib.hid (show IIO _ _ _ _ _ _ (putT t x) by rw [Hput.out x]; exact h3)
          have Hb5 := Lib.hid hb5
          clear h3 h4 hb5
          go_wp2_with fail
          refine (Hih.out B wr.heap.size w3.heap.size _ ns csh _ _ c1 (putT t x) ak kk ck L' _ (FillPre.next Hp.out.psh Hns.out HBr.out hszB Hp.out.pok Hf.out hx07 HL'.out hkk Hb5.out H3.out (by simp)) (by have := leftT_put (shape := shape) (t := t) (x := x) (notFull Hp.out.pok Hf.out).1 (notFull_len Hs.out Hp.out.pok Hf.out); have := HN.out; omega)).mono ?_
          rintro e w4 ⟨a4, k4, c4, L4, rfl, hl4, HC4, hg4⟩
          have HS := Lib.hid (FillAt.step HX.out hx HCut.out hkL.out hkk HGr.out Hb5.out hl4 HC4.out hg4 (by omega))
          clear hl4 hg4 HC4 H3 Hb5 h1 h2 ho3 hg3 hio hc2 hfz
          go_wp2
          go_roundw
          case rel => exact by simpa [IntWalk.i64_in (x + 1) (by omega)] using HS
          case measure => simp [intOf]; omega
        · have hkkI : ¬ (kk : Int) ≤ 400 := by omega
          go_wp2
          go_ret
          exact FillPost.over Hs.out hn.2 Hp.out.pok Hf.out rfl (Below.refl _ _) HCut.out hkL.out (.inl (by omega)) HGr.out HL'.out
      · have HEnd := Lib.hid (FillPost.over (w := w) (t := t) Hs.out hn.2 Hp.out.pok Hf.out rfl (Below.refl _ _) hcut hkl (.inr (by omega)) hgr hl')
        obtain ⟨x, hxe⟩ : ∃ x, lowT t + (i : Int) = x := ⟨_, rfl⟩
        rw [hxe] at hx ⊢
        clear hxe hl' hcut hgr ht' hBr hsi hkl hlr
        go_wp2
        go_ret
        exact HEnd.out
  · go_enter Try.func18, Try.ntmps18
    go_wp2
    go_region
    go_wp2
    skip
    go_loopw [12, 3] (fun xv lv wr => Hid (FillAt shape n B t al k cl L w xv lv wr)) (fun xv _ _ => (n - intOf xv).toNat)
    case atStart => exact FillAt.start (by rw [Hlow.out, Int.max_def]; split <;> omega) ((Drew.drewN w 1).below _) Hp.out.pl hk
    case round =>
      obtain ⟨i, ak, kk, ck, L', rfl, rfl, hl', hcut, hgr, hin⟩ := hrel.out
      clear hrel
      have hkl := hl'.len
      have hsz := hgr.grown.size
      have ht' := IIO.grows3 Hp.out.pt hgr Hp.out.poff
      have hBr : Below B w wr := hgr.below (Below.refl _ _) hszB (Hp.out.pl).lo
      have hlr := lowT_range Hp.out.pok
      have hsi := TOk.short Hs.out Hp.out.pok
      by_cases hx : lowT t + i < n
      · obtain ⟨x, hxe⟩ : ∃ x, lowT t + (i : Int) = x := ⟨_, rfl⟩
        have hx07 : 0 ≤ x ∧ x ≤ 7 := by omega
        have HX := Lib.hid hxe
        have HL' := Lib.hid hl'
        have HCut := Lib.hid hcut
        have HGr := Lib.hid hgr
        have HT' := Lib.hid ht'
        have HBr := Lib.hid hBr
        have HSi := Lib.hid hsi
        have hkL := Lib.hid hkl
        rw [hxe] at hx ⊢
        clear hxe hl' hcut hgr ht' hBr hsi hkl hlr
        by_cases hkk : kk ≤ 400
        · have hkkI : (kk : Int) ≤ 400 := by omega
          go_wp2_with fail
          refine (l4Copy_any _ _ _ t _ HT'.out.rd Hml.out (by omega) HSi.out).mono ?_
          rintro e w1 ⟨a1, c1, rfl, ho1, hB1⟩
          obtain ⟨g, a2, c2, rfl, hc2, hfz, hio, hgrow⟩ := ho1.grow (rowAt_some hjl) (Nat.le_refl _)
          rw [Hc.out] at hc2 hio hgrow
          have Hgrow := Lib.hid hgrow
          have HB1 := Lib.hid hB1
          have hs1 := hB1.size
          clear hgrow hB1 ho1
          go_wp2_with (first | (at_builtin; go_loud (refine wpList_pushI (by rfl) (by rfl) _ _ (by rfl) (hio.mono (Nat.le_refl _) (Nat.le_refl _)) (by rfl) (by rfl) (by omega) (by omega) ?_)))
          intro a3 c3 w3 ho3 hg3
          obtain ⟨h1, h2, h3, h4⟩ := Hgrow.out w3 a3 _ c3 _ ho3 hg3
          have hs3 := hg3.grown.size
          have hb5 : Below wr.heap.size wr (w3.setCell ⟨g, j, none⟩ (.slice a3 (c + 1) c3)) := h4.below HB1.out (Nat.le_refl _) hs1
          have H3 := Lib.hid (show IIO _ _ _ _ _ _ (putT t x) by rw [Hput.out x]; exact h3)
          have Hb5 := Lib.hid hb5
          clear h3 h4 hb5
          go_wp2_with fail
          refine (Hih.out B wr.heap.size w3.heap.size _ ns csh _ _ c1 (putT t x) ak kk ck L' _ (FillPre.next Hp.out.psh Hns.out HBr.out hszB Hp.out.pok Hf.out hx07 HL'.out hkk Hb5.out H3.out (by simp)) (by have := leftT_put (shape := shape) (t := t) (x := x) (notFull Hp.out.pok Hf.out).1 (notFull_len Hs.out Hp.out.pok Hf.out); have := HN.out; omega)).mono ?_
          rintro e w4 ⟨a4, k4, c4, L4, rfl, hl4, HC4, hg4⟩
          have HS := Lib.hid (FillAt.step HX.out hx HCut.out hkL.out hkk HGr.out Hb5.out hl4 HC4.out hg4 (by omega))
          clear hl4 hg4 HC4 H3 Hb5 h1 h2 ho3 hg3 hio hc2 hfz
          go_wp2
          go_roundw
          case rel => exact by simpa [IntWalk.i64_in (x + 1) (by omega)] using HS
          case measure => simp [intOf]; omega
        · have hkkI : ¬ (kk : Int) ≤ 400 := by omega
          go_wp2
          go_ret
          exact FillPost.over Hs.out hn.2 Hp.out.pok Hf.out rfl (Below.refl _ _) HCut.out hkL.out (.inl (by omega)) HGr.out HL'.out
      · have HEnd := Lib.hid (FillPost.over (w := w) (t := t) Hs.out hn.2 Hp.out.pok Hf.out rfl (Below.refl _ _) hcut hkl (.inr (by omega)) hgr hl')
        obtain ⟨x, hxe⟩ : ∃ x, lowT t + (i : Int) = x := ⟨_, rfl⟩
        rw [hxe] at hx ⊢
        clear hxe hl' hcut hgr ht' hBr hsi hkl hlr
        go_wp2
        go_ret
        exact HEnd.out

set_option maxRecDepth 100000 in
set_option maxHeartbeats 12800000 in
theorem l4Fill_c0 (shape : List Int) (n : Int) (hs : ShOk shape) (_hn : 0 ≤ n ∧ n ≤ 7) (N : Nat) (ih : FillIh shape n N) (B T H : Nat) (ash : Option Addr) (ns csh : Nat) (at' : Option Addr) (m ct : Nat) (t : List (List Int)) (al : Option Addr) (k cl : Nat) (L : List (List (List Int))) (w : World)
    (hp : FillPre shape B T H ash ns at' m ct t al k cl L w) (hN : leftT shape t < N + 1) (hm : m = 0) (hns0 : ns = 0) :
    Calls Try.prog 18 #[.slice ash ns csh, .int .i64 n, .slice at' m ct, .slice al k cl] w (FillPost w B al k cl L (tabsOf shape n t)) := by
  have Hs := Lib.hid hs
  have Hp := Lib.hid hp
  have HN := Lib.hid hN
  have Hih := Lib.hid ih
  have hns := hp.pns
  have hml := hp.pt.len
  have hns16 : ns ≤ 16 := by rw [← hns]; exact hs.few
  have hmn : m ≤ ns := by rw [← hns, ← hml]; exact hp.pok.len
  have hk := hp.pk
  have hszB := hp.pB
  have hH := hp.pH
  subst hm hns0
  have hf : fullT shape t = true := by unfold fullT; rw [hml]; rfl
  have Hdone := Lib.hid (tabsOf_done (n := n) hf (by rw [hml, hns]))
  have Hml := Lib.hid hml
  have q0 : IntKind.i64.wrap (((0 : Nat) : Int) - 1) = -1 := by rw [IntWalk.i64_in _ (by omega)]; omega
  have q1 : IntKind.i64.wrap ((-1 : Int) + 1) = 0 := by rw [IntWalk.i64_in _ (by omega)]; omega
  clear hp hs ih hN hml hns hf
  go_enter Try.func18, Try.ntmps18
  go_wp2
  go_region
  go_wp2_with fail
  skip
  refine (l4Copy_any _ _ _ t _ (Hp.out.pt.rd.drew (Drew.drewN w 1)) Hml.out (by omega) (TOk.short Hs.out Hp.out.pok)).mono ?_
  rintro e w1 ⟨a1, c1, rfl, ho1, hB1⟩
  have hB : Below w.heap.size w w1 := ((Drew.drewN w 1).below _).trans hB1
  have hs1 := hB.size
  have ho1' : IIO w1 w.heap.size w1.heap.size a1 0 c1 t := ho1
  have HB := Lib.hid hB
  have HL := Lib.hid (Hp.out.pl.below hB)
  clear hB1 hB ho1
  go_wp2_with (first | (at_builtin; go_loud (refine wpList_push3 (by rfl) (by rfl) _ _ (by rfl) HL.out (by rfl) ho1' hszB hs1 (by rfl) (by omega) (by omega) hs1 (Nat.le_refl _) ?_)))
  intro a2 c2 w2 h2 hg2
  have HE := Lib.hid (show FillPost w B al k cl L (tabsOf shape n t) (.returned (.slice a2 (k + 1) c2)) w2 from ⟨a2, k + 1, c2, L ++ [t], rfl, h2, by rw [Hdone.out]; exact Lib.hid (Cut.one (by rw [Hp.out.pl.len]; exact hk)), (Grows.of_below _ HB.out).trans hg2⟩)
  clear h2 hg2
  go_wp2
  go_ret
  exact HE.out

set_option maxRecDepth 100000 in
set_option maxHeartbeats 12800000 in
theorem l4Fill_c1 (shape : List Int) (n : Int) (hs : ShOk shape) (_hn : 0 ≤ n ∧ n ≤ 7) (N : Nat) (ih : FillIh shape n N) (B T H : Nat) (ash : Option Addr) (ns csh : Nat) (at' : Option Addr) (m ct : Nat) (t : List (List Int)) (al : Option Addr) (k cl : Nat) (L : List (List (List Int))) (w : World)
    (hp : FillPre shape B T H ash ns at' m ct t al k cl L w) (hN : leftT shape t < N + 1) (j c : Nat) (hj : m = j + 1) (hcl : (lastT t).length = c) (hf : fullT shape t = true) (hmns : m = ns) :
    Calls Try.prog 18 #[.slice ash ns csh, .int .i64 n, .slice at' m ct, .slice al k cl] w (FillPost w B al k cl L (tabsOf shape n t)) := by
  have Hs := Lib.hid hs
  have Hp := Lib.hid hp
  have HN := Lib.hid hN
  have Hih := Lib.hid ih
  have hns := hp.pns
  have hml := hp.pt.len
  have hns16 : ns ≤ 16 := by rw [← hns]; exact hs.few
  have hmn : m ≤ ns := by rw [← hns, ← hml]; exact hp.pok.len
  have hk := hp.pk
  have hszB := hp.pB
  have hH := hp.pH
  have hjl : j < t.length := by omega
  have hjs : j < shape.length := by omega
  have hjm : j < m := by omega
  have hjn : j < ns := by omega
  have hjmI : (j : Int) < (m : Int) := by omega
  have hjnI : (j : Int) < (ns : Int) := by omega
  have q0 : IntKind.i64.wrap ((m : Int) - 1) = (j : Int) := by rw [IntWalk.i64_in _ (by omega)]; omega
  have hlast : lastT t = rowAt t j := by unfold lastT; rw [hml, hj]; rfl
  obtain ⟨gt, ot, hat, hct⟩ := hp.pt.rd.at hjl
  obtain ⟨ar, cr, hcr, hrr⟩ := hct j (rowAt t j) (rowAt_some hjl)
  obtain ⟨bs, os, hash, hcs⟩ := hp.psh.1.at hjs
  obtain ⟨sj, hsj⟩ := some_at rfl hjs
  have hcsj := hcs j sj hsj
  have hsg : shape.getD j 0 = sj := getD_of hsj
  have hc : (rowAt t j).length = c := by rw [← hlast]; exact hcl
  rw [hc] at hcr
  have hc16 : c ≤ 16 := by rw [← hcl]; exact lastT_len hs hp.pok
  have k0 : (0 : Int) ≤ (j : Int) := by omega
  have k3 : (-1 : Int) < (j : Int) := by omega
  have hfe : (c : Int) = sj := by
    unfold fullT at hf
    rw [hcl, hml, show m - 1 = j by omega, hsg] at hf
    simp at hf
    omega
  have hfb : ((c : Int) == sj) = true := by rw [beq_iff_eq]; exact hfe
  have q1 : IntKind.i64.wrap ((j : Int) + 1) = (j : Int) + 1 := IntWalk.i64_in _ (by omega)
  have Hdone := Lib.hid (tabsOf_done (n := n) hf (by omega))
  have hmnI : ((j : Int) + 1 == (ns : Int)) = true := by rw [beq_iff_eq]; omega
  have Hml := Lib.hid hml
  subst hat hash
  clear hct hcs hlast hp hs ih hN hml hns hj hcl hc hf hsj hsg hmns
  go_enter Try.func18, Try.ntmps18
  go_wp2
  go_region
  go_wp2_with fail
  skip
  refine (l4Copy_any _ _ _ t _ (Hp.out.pt.rd.drew (Drew.drewN w 1)) Hml.out (by omega) (TOk.short Hs.out Hp.out.pok)).mono ?_
  rintro e w1 ⟨a1, c1, rfl, ho1, hB1⟩
  have hB : Below w.heap.size w w1 := ((Drew.drewN w 1).below _).trans hB1
  have hs1 := hB.size
  have ho1' : IIO w1 w.heap.size w1.heap.size a1 m c1 t := ho1
  have HB := Lib.hid hB
  have HL := Lib.hid (Hp.out.pl.below hB)
  clear hB1 hB ho1
  go_wp2_with (first | (at_builtin; go_loud (refine wpList_push3 (by rfl) (by rfl) _ _ (by rfl) HL.out (by rfl) ho1' hszB hs1 (by rfl) (by omega) (by omega) hs1 (Nat.le_refl _) ?_)))
  intro a2 c2 w2 h2 hg2
  have HE := Lib.hid (show FillPost w B al k cl L (tabsOf shape n t) (.returned (.slice a2 (k + 1) c2)) w2 from ⟨a2, k + 1, c2, L ++ [t], rfl, h2, by rw [Hdone.out]; exact Lib.hid (Cut.one (by rw [Hp.out.pl.len]; exact hk)), (Grows.of_below _ HB.out).trans hg2⟩)
  clear h2 hg2
  go_wp2
  go_ret
  exact HE.out

set_option maxRecDepth 100000 in
set_option maxHeartbeats 12800000 in
theorem l4Fill_b0 (shape : List Int) (n : Int) (hs : ShOk shape) (hn : 0 ≤ n ∧ n ≤ 7) (N : Nat) (ih : FillIh shape n N) (B T H : Nat) (ash : Option Addr) (ns csh : Nat) (at' : Option Addr) (m ct : Nat) (t : List (List Int)) (al : Option Addr) (k cl : Nat) (L : List (List (List Int))) (w : World)
    (hp : FillPre shape B T H ash ns at' m ct t al k cl L w) (hN : leftT shape t < N + 1) (hm : m = 0) (hns0 : 0 < ns) :
    Calls Try.prog 18 #[.slice ash ns csh, .int .i64 n, .slice at' m ct, .slice al k cl] w (FillPost w B al k cl L (tabsOf shape n t)) := by
  have Hs := Lib.hid hs
  have Hp := Lib.hid hp
  have HN := Lib.hid hN
  have Hih := Lib.hid ih
  have hns := hp.pns
  have hml := hp.pt.len
  have hns16 : ns ≤ 16 := by rw [← hns]; exact hs.few
  have hmn : m ≤ ns := by rw [← hns, ← hml]; exact hp.pok.len
  have hk := hp.pk
  have hszB := hp.pB
  have hH := hp.pH
  subst hm
  have hf : fullT shape t = true := by unfold fullT; rw [hml]; rfl
  have Hs := Lib.hid hs
  have hnf2 := fullT_new hs (t := t) (by omega)
  have Hnf2 := Lib.hid hnf2
  have hok2 := hp.pok.row hs hf (by omega)
  have Hok2 := Lib.hid hok2
  have Hrow := Lib.hid (tabsOf_row (n := n) hs hn.2 hp.pok hf (by omega))
  have Hleft := Lib.hid (leftT_row (shape := shape) (t := t) (by omega) (lastT_len hs hp.pok))
  have Hml := Lib.hid hml
  have Hns := Lib.hid hns
  have q0 : IntKind.i64.wrap (((0 : Nat) : Int) - 1) = -1 := by rw [IntWalk.i64_in _ (by omega)]; omega
  have q1 : IntKind.i64.wrap ((-1 : Int) + 1) = 0 := by rw [IntWalk.i64_in _ (by omega)]; omega
  have hne : ((0 : Int) == (ns : Int)) = false := by rw [beq_eq_false_iff_ne]; omega
  clear hp hs ih hN hml hns hf hok2 hnf2
  go_enter Try.func18, Try.ntmps18
  go_wp2
  go_region
  go_wp2_with fail
  refine (l4Copy_any _ _ _ t _ (Hp.out.pt.rd.drew (Drew.drewN w 1)) Hml.out (by omega) (TOk.short Hs.out Hp.out.pok)).mono ?_
  rintro e w1 ⟨a1, c1, rfl, ho1, hB1⟩
  have hB : Below w.heap.size w w1 := ((Drew.drewN w 1).below _).trans hB1
  have hs1 := hB.size
  have ho1' : IIO w1 w.heap.size w1.heap.size a1 0 c1 t := ho1
  clear hB1 ho1
  have H1 : OwI (w1.alloc (.cells #[] 3)) w1.heap.size (w1.alloc (.cells #[] 3)).heap.size (some ⟨w1.heap.size, 0, none⟩) 0 0 [] := OwI.mk (World.ownsRow_made _ #[] 0 (Nat.le_refl _) (Nat.zero_le _) rfl)
  have hb0 : Below w1.heap.size w1 (w1.alloc (.cells #[] 3)) := (Below.refl _ _).alloc (Nat.le_refl _) _
  have hB2 := hB.trans (hb0.mono hs1)
  have ho2 := ho1'.below hb0
  have hsz1 : (w1.alloc (.cells #[] 3)).heap.size = w1.heap.size + 1 := by simp
  go_wp2_with (first | (at_builtin; go_loud (refine wpList_pushII (by rfl) (by rfl) _ _ (by rfl) ho2 (by rfl) H1 (by omega) (by rw [hsz1]; rfl) (by omega) (by omega) (by omega) (Nat.le_refl _) ?_)))
  intro a2 c2 w2 ht2 hg2
  have hB3 : Below w.heap.size w w2 := hg2.below hB2 (by omega) ho2.base
  have hs3 := hB3.size
  have HB3 := Lib.hid hB3
  have HL2 := Lib.hid ((Hp.out.pl.below hB3).mono (Nat.le_refl B) hs3)
  have HT2 := Lib.hid ht2
  have hB2s : B ≤ w2.heap.size := by omega
  have HOff := Lib.hid (show ∀ q, (Value.slice al k cl).ownBlock = some q → q < w.heap.size ∨ w2.heap.size ≤ q from fun q hq => .inl (Hp.out.pl.hi q hq))
  have HSh := Lib.hid (Hp.out.psh.below (hB3.mono hszB))
  have hml2 := ht2.len
  have hmt : 0 < (t ++ [[]]).length := by omega
  obtain ⟨g2, o2, hat2, hct2⟩ := ht2.rd.at hmt
  obtain ⟨ar, cr, hcr2, hrr2⟩ := hct2 0 (rowAt (t ++ [[]]) 0) (rowAt_some hmt)
  have hlast : lastT (t ++ [[]]) = rowAt (t ++ [[]]) 0 := by unfold lastT; rw [hml2] <;> rfl
  obtain ⟨cc, hcc⟩ : ∃ cc, (rowAt (t ++ [[]]) 0).length = cc := ⟨_, rfl⟩
  have hcc0 : cc = 0 := by rw [← hcc, ← hlast, lastT_new]; rfl
  have k1 : ¬ (0 : Int) < (cc : Int) := by omega
  rw [hcc] at hcr2
  have Hcc := Lib.hid hcc
  have hput : ∀ x, putT (t ++ [[]]) x = (t ++ [[]]).set 0 (rowAt (t ++ [[]]) 0 ++ [x]) := fun x => by unfold putT; rw [hlast, hml2] <;> rfl
  have Hput := Lib.hid hput
  have Hml2 := Lib.hid hml2
  have hlow : lowT (t ++ [[]]) = 0 := by
    unfold lowT
    simp only
    rw [hlast, hcc, if_neg (by omega), if_neg (by omega)]
  have Hlow := Lib.hid hlow
  rw [Nat.add_zero] at hcr2
  subst hat2
  clear hlow hlast hct2 hput hml2 ht2 hB3 hg2 H1 ho2 hB2 hb0 hB hcc hcc0 hrr2 ho1' hsz1
  skip
  go_wp2
  skip
  go_loopw [12, 3] (fun xv lv wr => Hid (FillAt shape n B (t ++ [[]]) al k cl L w2 xv lv wr)) (fun xv _ _ => (n - intOf xv).toNat)
  case atStart => exact FillAt.start Hlow.out.symm (Below.refl _ _) HL2.out hk
  case round =>
    obtain ⟨i, ak, kk, ck, L', rfl, rfl, hl', hcut, hgr, hin⟩ := hrel.out
    clear hrel
    have hkl := hl'.len
    have hsz := hgr.grown.size
    have ht' := IIO.grows3 HT2.out hgr HOff.out
    have hBr : Below B w2 wr := hgr.below (Below.refl _ _) hB2s (HL2.out).lo
    have hlr := lowT_range Hok2.out
    have hsi := TOk.short Hs.out Hok2.out
    by_cases hx : lowT (t ++ [[]]) + i < n
    · obtain ⟨x, hxe⟩ : ∃ x, lowT (t ++ [[]]) + (i : Int) = x := ⟨_, rfl⟩
      have hx07 : 0 ≤ x ∧ x ≤ 7 := by omega
      have HX := Lib.hid hxe
      have HL' := Lib.hid hl'
      have HCut := Lib.hid hcut
      have HGr := Lib.hid hgr
      have HT' := Lib.hid ht'
      have HBr := Lib.hid hBr
      have HSi := Lib.hid hsi
      have hkL := Lib.hid hkl
      rw [hxe] at hx ⊢
      clear hxe hl' hcut hgr ht' hBr hsi hkl hlr
      by_cases hkk : kk ≤ 400
      · have hkkI : (kk : Int) ≤ 400 := by omega
        go_wp2_with fail
        refine (l4Copy_any _ _ _ (t ++ [[]]) _ HT'.out.rd Hml2.out (by omega) HSi.out).mono ?_
        rintro e w1 ⟨a1, c1, rfl, ho1, hB1⟩
        obtain ⟨g, a2, c2, rfl, hc2, hfz, hio, hgrow⟩ := ho1.grow (rowAt_some hmt) (Nat.le_refl _)
        rw [Hcc.out] at hc2 hio hgrow
        have Hgrow := Lib.hid hgrow
        have HB1 := Lib.hid hB1
        have hs1 := hB1.size
        clear hgrow hB1 ho1
        go_wp2_with (first | (at_builtin; go_loud (refine wpList_pushI (by rfl) (by rfl) _ _ (by rfl) (hio.mono (Nat.le_refl _) (Nat.le_refl _)) (by rfl) (by rfl) (by omega) (by omega) ?_)))
        intro a3 c3 w3 ho3 hg3
        obtain ⟨h1, h2, h3, h4⟩ := Hgrow.out w3 a3 _ c3 _ ho3 hg3
        have hs3 := hg3.grown.size
        have hb5 : Below wr.heap.size wr (w3.setCell ⟨g, 0, none⟩ (.slice a3 (cc + 1) c3)) := h4.below HB1.out (Nat.le_refl _) hs1
        have H3 := Lib.hid (show IIO _ _ _ _ _ _ (putT (t ++ [[]]) x) by rw [Hput.out x]; exact h3)
        have Hb5 := Lib.hid hb5
        clear h3 h4 hb5
        go_wp2_with fail
        refine (Hih.out B wr.heap.size w3.heap.size _ ns csh _ _ c1 (putT (t ++ [[]]) x) ak kk ck L' _ (FillPre.next HSh.out Hns.out HBr.out hB2s Hok2.out Hnf2.out hx07 HL'.out hkk Hb5.out H3.out (by simp)) (by have := leftT_put (shape := shape) (t := (t ++ [[]])) (x := x) (notFull Hok2.out Hnf2.out).1 (notFull_len Hs.out Hok2.out Hnf2.out); have := Hleft.out; have := HN.out; omega)).mono ?_
        rintro e w4 ⟨a4, k4, c4, L4, rfl, hl4, HC4, hg4⟩
        have HS := Lib.hid (FillAt.step HX.out hx HCut.out hkL.out hkk HGr.out Hb5.out hl4 HC4.out hg4 (by omega))
        clear hl4 hg4 HC4 H3 Hb5 h1 h2 ho3 hg3 hio hc2 hfz
        go_wp2
        go_roundw
        case rel => exact by simpa [IntWalk.i64_in (x + 1) (by omega)] using HS
        case measure => simp [intOf]; omega
      · have hkkI : ¬ (kk : Int) ≤ 400 := by omega
        go_wp2
        go_ret
        exact FillPost.over Hs.out hn.2 Hok2.out Hnf2.out Hrow.out HB3.out HCut.out hkL.out (.inl (by omega)) HGr.out HL'.out
    · have HEnd := Lib.hid (FillPost.over (w := w) (t := t) Hs.out hn.2 Hok2.out Hnf2.out Hrow.out HB3.out hcut hkl (.inr (by omega)) hgr hl')
      obtain ⟨x, hxe⟩ : ∃ x, lowT (t ++ [[]]) + (i : Int) = x := ⟨_, rfl⟩
      rw [hxe] at hx ⊢
      clear hxe hl' hcut hgr ht' hBr hsi hkl hlr
      go_wp2
      go_ret
      exact HEnd.out

set_option maxRecDepth 100000 in
set_option maxHeartbeats 12800000 in
theorem l4Fill_b1 (shape : List Int) (n : Int) (hs : ShOk shape) (hn : 0 ≤ n ∧ n ≤ 7) (N : Nat) (ih : FillIh shape n N) (B T H : Nat) (ash : Option Addr) (ns csh : Nat) (at' : Option Addr) (m ct : Nat) (t : List (List Int)) (al : Option Addr) (k cl : Nat) (L : List (List (List Int))) (w : World)
    (hp : FillPre shape B T H ash ns at' m ct t al k cl L w) (hN : leftT shape t < N + 1) (j c : Nat) (hj : m = j + 1) (hcl : (lastT t).length = c) (hf : fullT shape t = true) (hmns : m < ns) :
    Calls Try.prog 18 #[.slice ash ns csh, .int .i64 n, .slice at' m ct, .slice al k cl] w (FillPost w B al k cl L (tabsOf shape n t)) := by
  have Hs := Lib.hid hs
  have Hp := Lib.hid hp
  have HN := Lib.hid hN
  have Hih := Lib.hid ih
  have hns := hp.pns
  have hml := hp.pt.len
  have hns16 : ns ≤ 16 := by rw [← hns]; exact hs.few
  have hmn : m ≤ ns := by rw [← hns, ← hml]; exact hp.pok.len
  have hk := hp.pk
  have hszB := hp.pB
  have hH := hp.pH
  have hjl : j < t.length := by omega
  have hjs : j < shape.length := by omega
  have hjm : j < m := by omega
  have hjn : j < ns := by omega
  have hjmI : (j : Int) < (m : Int) := by omega
  have hjnI : (j : Int) < (ns : Int) := by omega
  have q0 : IntKind.i64.wrap ((m : Int) - 1) = (j : Int) := by rw [IntWalk.i64_in _ (by omega)]; omega
  have hlast : lastT t = rowAt t j := by unfold lastT; rw [hml, hj]; rfl
  obtain ⟨gt, ot, hat, hct⟩ := hp.pt.rd.at hjl
  obtain ⟨ar, cr, hcr, hrr⟩ := hct j (rowAt t j) (rowAt_some hjl)
  obtain ⟨bs, os, hash, hcs⟩ := hp.psh.1.at hjs
  obtain ⟨sj, hsj⟩ := some_at rfl hjs
  have hcsj := hcs j sj hsj
  have hsg : shape.getD j 0 = sj := getD_of hsj
  have hc : (rowAt t j).length = c := by rw [← hlast]; exact hcl
  rw [hc] at hcr
  have hc16 : c ≤ 16 := by rw [← hcl]; exact lastT_len hs hp.pok
  have k0 : (0 : Int) ≤ (j : Int) := by omega
  have k3 : (-1 : Int) < (j : Int) := by omega
  have hfe : (c : Int) = sj := by
    unfold fullT at hf
    rw [hcl, hml, show m - 1 = j by omega, hsg] at hf
    simp at hf
    omega
  have hfb : ((c : Int) == sj) = true := by rw [beq_iff_eq]; exact hfe
  have q1 : IntKind.i64.wrap ((j : Int) + 1) = (j : Int) + 1 := IntWalk.i64_in _ (by omega)
  have Hs := Lib.hid hs
  have hnf2 := fullT_new hs (t := t) (by omega)
  have Hnf2 := Lib.hid hnf2
  have hok2 := hp.pok.row hs hf (by omega)
  have Hok2 := Lib.hid hok2
  have Hrow := Lib.hid (tabsOf_row (n := n) hs hn.2 hp.pok hf (by omega))
  have Hleft := Lib.hid (leftT_row (shape := shape) (t := t) (by omega) (lastT_len hs hp.pok))
  have Hml := Lib.hid hml
  have Hns := Lib.hid hns
  have hsj1 := (hs.pos j hjs).1
  have hc1 : 0 < c := by omega
  have Hj := Lib.hid hj
  have Hcl := Lib.hid (show (rowAt t j).length = c from hc)
  have q2 : IntKind.i64.wrap ((j : Int) + 1) = (m : Int) := by rw [q1]; omega
  have hmnI : ((m : Int) == (ns : Int)) = false := by rw [beq_eq_false_iff_ne]; omega
  have k2 : (0 : Int) < (m : Int) := by omega
  subst hat hash
  clear q1 hct hcs hlast hp hs ih hN hml hns hj hcl hc hf hsj hsg hok2 hnf2 hsj1
  go_enter Try.func18, Try.ntmps18
  go_wp2
  go_region
  go_wp2_with fail
  refine (l4Copy_any _ _ _ t _ (Hp.out.pt.rd.drew (Drew.drewN w 1)) Hml.out (by omega) (TOk.short Hs.out Hp.out.pok)).mono ?_
  rintro e w1 ⟨a1, c1, rfl, ho1, hB1⟩
  have hB : Below w.heap.size w w1 := ((Drew.drewN w 1).below _).trans hB1
  have hs1 := hB.size
  have ho1' : IIO w1 w.heap.size w1.heap.size a1 m c1 t := ho1
  clear hB1 ho1
  have H1 : OwI (w1.alloc (.cells #[] 3)) w1.heap.size (w1.alloc (.cells #[] 3)).heap.size (some ⟨w1.heap.size, 0, none⟩) 0 0 [] := OwI.mk (World.ownsRow_made _ #[] 0 (Nat.le_refl _) (Nat.zero_le _) rfl)
  have hb0 : Below w1.heap.size w1 (w1.alloc (.cells #[] 3)) := (Below.refl _ _).alloc (Nat.le_refl _) _
  have hB2 := hB.trans (hb0.mono hs1)
  have ho2 := ho1'.below hb0
  have hsz1 : (w1.alloc (.cells #[] 3)).heap.size = w1.heap.size + 1 := by simp
  go_wp2_with (first | (at_builtin; go_loud (refine wpList_pushII (by rfl) (by rfl) _ _ (by rfl) ho2 (by rfl) H1 (by omega) (by rw [hsz1]; rfl) (by omega) (by omega) (by omega) (Nat.le_refl _) ?_)))
  intro a2 c2 w2 ht2 hg2
  have hB3 : Below w.heap.size w w2 := hg2.below hB2 (by omega) ho2.base
  have hs3 := hB3.size
  have HB3 := Lib.hid hB3
  have HL2 := Lib.hid ((Hp.out.pl.below hB3).mono (Nat.le_refl B) hs3)
  have HT2 := Lib.hid ht2
  have hB2s : B ≤ w2.heap.size := by omega
  have HOff := Lib.hid (show ∀ q, (Value.slice al k cl).ownBlock = some q → q < w.heap.size ∨ w2.heap.size ≤ q from fun q hq => .inl (Hp.out.pl.hi q hq))
  have HSh := Lib.hid (Hp.out.psh.below (hB3.mono hszB))
  have hml2 := ht2.len
  have hmt : m < (t ++ [[]]).length := by omega
  obtain ⟨g2, o2, hat2, hct2⟩ := ht2.rd.at hmt
  obtain ⟨ar, cr, hcr2, hrr2⟩ := hct2 m (rowAt (t ++ [[]]) m) (rowAt_some hmt)
  have hlast : lastT (t ++ [[]]) = rowAt (t ++ [[]]) m := by unfold lastT; rw [hml2] <;> rfl
  obtain ⟨cc, hcc⟩ : ∃ cc, (rowAt (t ++ [[]]) m).length = cc := ⟨_, rfl⟩
  have hcc0 : cc = 0 := by rw [← hcc, ← hlast, lastT_new]; rfl
  have k1 : ¬ (0 : Int) < (cc : Int) := by omega
  rw [hcc] at hcr2
  have Hcc := Lib.hid hcc
  have hput : ∀ x, putT (t ++ [[]]) x = (t ++ [[]]).set m (rowAt (t ++ [[]]) m ++ [x]) := fun x => by unfold putT; rw [hlast, hml2] <;> rfl
  have Hput := Lib.hid hput
  have Hml2 := Lib.hid hml2
  have hjt2 : j < (t ++ [[]]).length := by omega
  obtain ⟨au, cu, hcu, hru⟩ := hct2 j (rowAt (t ++ [[]]) j) (rowAt_some hjt2)
  have hrj : rowAt (t ++ [[]]) j = rowAt t j := by
    unfold rowAt
    rw [List.getD_eq_getElem?_getD, List.getD_eq_getElem?_getD, List.getElem?_append_left hjl]
  rw [hrj, Hcl.out] at hcu
  rw [hrj] at hru
  obtain ⟨bu, ou, hau, hcua⟩ := hru.at (k := 0) (by rw [Hcl.out]; exact hc1)
  obtain ⟨y, hy⟩ := some_at Hcl.out hc1
  have hcy := hcua 0 y hy
  have hyr := Hp.out.pok.low _ (rowAt_mem hjl) y (List.mem_of_getElem? hy)
  have q3 : IntKind.i64.wrap (y + 1) = y + 1 := IntWalk.i64_in _ (by omega)
  have k4 : (0 : Int) < y + 1 := by omega
  have hccI : (cc : Int) < (c : Int) := by omega
  have hccn : cc < c := by omega
  have hlow : lowT (t ++ [[]]) = y + 1 := by
    unfold lowT
    simp only
    rw [hlast, hcc, if_pos (by omega), if_neg (by omega), hml2, hcc0, show m + 1 - 2 = j by have := Hj.out; omega, hrj, getD_of hy, Int.max_def]
    split <;> omega
  rw [← hcc0] at hcy
  have Hlow := Lib.hid hlow
  subst hat2 hau
  clear hlow hlast hct2 hput hml2 ht2 hB3 hg2 H1 ho2 hB2 hb0 hB hcc hcc0 hrr2 ho1' hsz1 hcua hy hru hrj
  skip
  go_wp2
  skip
  go_loopw [12, 3] (fun xv lv wr => Hid (FillAt shape n B (t ++ [[]]) al k cl L w2 xv lv wr)) (fun xv _ _ => (n - intOf xv).toNat)
  case atStart => exact FillAt.start Hlow.out.symm (Below.refl _ _) HL2.out hk
  case round =>
    obtain ⟨i, ak, kk, ck, L', rfl, rfl, hl', hcut, hgr, hin⟩ := hrel.out
    clear hrel
    have hkl := hl'.len
    have hsz := hgr.grown.size
    have ht' := IIO.grows3 HT2.out hgr HOff.out
    have hBr : Below B w2 wr := hgr.below (Below.refl _ _) hB2s (HL2.out).lo
    have hlr := lowT_range Hok2.out
    have hsi := TOk.short Hs.out Hok2.out
    by_cases hx : lowT (t ++ [[]]) + i < n
    · obtain ⟨x, hxe⟩ : ∃ x, lowT (t ++ [[]]) + (i : Int) = x := ⟨_, rfl⟩
      have hx07 : 0 ≤ x ∧ x ≤ 7 := by omega
      have HX := Lib.hid hxe
      have HL' := Lib.hid hl'
      have HCut := Lib.hid hcut
      have HGr := Lib.hid hgr
      have HT' := Lib.hid ht'
      have HBr := Lib.hid hBr
      have HSi := Lib.hid hsi
      have hkL := Lib.hid hkl
      rw [hxe] at hx ⊢
      clear hxe hl' hcut hgr ht' hBr hsi hkl hlr
      by_cases hkk : kk ≤ 400
      · have hkkI : (kk : Int) ≤ 400 := by omega
        go_wp2_with fail
        refine (l4Copy_any _ _ _ (t ++ [[]]) _ HT'.out.rd Hml2.out (by omega) HSi.out).mono ?_
        rintro e w1 ⟨a1, c1, rfl, ho1, hB1⟩
        obtain ⟨g, a2, c2, rfl, hc2, hfz, hio, hgrow⟩ := ho1.grow (rowAt_some hmt) (Nat.le_refl _)
        rw [Hcc.out] at hc2 hio hgrow
        have Hgrow := Lib.hid hgrow
        have HB1 := Lib.hid hB1
        have hs1 := hB1.size
        clear hgrow hB1 ho1
        go_wp2_with (first | (at_builtin; go_loud (refine wpList_pushI (by rfl) (by rfl) _ _ (by rfl) (hio.mono (Nat.le_refl _) (Nat.le_refl _)) (by rfl) (by rfl) (by omega) (by omega) ?_)))
        intro a3 c3 w3 ho3 hg3
        obtain ⟨h1, h2, h3, h4⟩ := Hgrow.out w3 a3 _ c3 _ ho3 hg3
        have hs3 := hg3.grown.size
        have hb5 : Below wr.heap.size wr (w3.setCell ⟨g, m, none⟩ (.slice a3 (cc + 1) c3)) := h4.below HB1.out (Nat.le_refl _) hs1
        have H3 := Lib.hid (show IIO _ _ _ _ _ _ (putT (t ++ [[]]) x) by rw [Hput.out x]; exact h3)
        have Hb5 := Lib.hid hb5
        clear h3 h4 hb5
        go_wp2_with fail
        refine (Hih.out B wr.heap.size w3.heap.size _ ns csh _ _ c1 (putT (t ++ [[]]) x) ak kk ck L' _ (FillPre.next HSh.out Hns.out HBr.out hB2s Hok2.out Hnf2.out hx07 HL'.out hkk Hb5.out H3.out (by simp)) (by have := leftT_put (shape := shape) (t := (t ++ [[]])) (x := x) (notFull Hok2.out Hnf2.out).1 (notFull_len Hs.out Hok2.out Hnf2.out); have := Hleft.out; have := HN.out; omega)).mono ?_
        rintro e w4 ⟨a4, k4, c4, L4, rfl, hl4, HC4, hg4⟩
        have HS := Lib.hid (FillAt.step HX.out hx HCut.out hkL.out hkk HGr.out Hb5.out hl4 HC4.out hg4 (by omega))
        clear hl4 hg4 HC4 H3 Hb5 h1 h2 ho3 hg3 hio hc2 hfz
        go_wp2
        go_roundw
        case rel => exact by simpa [IntWalk.i64_in (x + 1) (by omega)] using HS
        case measure => simp [intOf]; omega
      · have hkkI : ¬ (kk : Int) ≤ 400 := by omega
        go_wp2
        go_ret
        exact FillPost.over Hs.out hn.2 Hok2.out Hnf2.out Hrow.out HB3.out HCut.out hkL.out (.inl (by omega)) HGr.out HL'.out
    · have HEnd := Lib.hid (FillPost.over (w := w) (t := t) Hs.out hn.2 Hok2.out Hnf2.out Hrow.out HB3.out hcut hkl (.inr (by omega)) hgr hl')
      obtain ⟨x, hxe⟩ : ∃ x, lowT (t ++ [[]]) + (i : Int) = x := ⟨_, rfl⟩
      rw [hxe] at hx ⊢
      clear hxe hl' hcut hgr ht' hBr hsi hkl hlr
      go_wp2
      go_ret
      exact HEnd.out

theorem l4Fill_any (shape : List Int) (n : Int) (hs : ShOk shape) (hn : 0 ≤ n ∧ n ≤ 7) : ∀ N, FillIh shape n N
  | 0 => by
    intro B T H ash ns csh at' m ct t al k cl L w hp h
    omega
  | N + 1 => by
    intro B T H ash ns csh at' m ct t al k cl L w hp h
    have ih := l4Fill_any shape n hs hn N
    have hml := hp.pt.len
    have hns := hp.pns
    have hle := hp.pok.len
    by_cases hm : m = 0
    · by_cases h0 : ns = 0
      · exact l4Fill_c0 shape n hs hn N ih B T H ash ns csh at' m ct t al k cl L w hp h hm h0
      · exact l4Fill_b0 shape n hs hn N ih B T H ash ns csh at' m ct t al k cl L w hp h hm (by omega)
    · have hj : m = (m - 1) + 1 := by omega
      by_cases hf : fullT shape t = true
      · by_cases h0 : m = ns
        · exact l4Fill_c1 shape n hs hn N ih B T H ash ns csh at' m ct t al k cl L w hp h (m - 1) _ hj rfl hf h0
        · exact l4Fill_b1 shape n hs hn N ih B T H ash ns csh at' m ct t al k cl L w hp h (m - 1) _ hj rfl hf (by omega)
      · rw [Bool.not_eq_true] at hf
        by_cases hc : 0 < (lastT t).length
        · by_cases h0 : 0 < m - 1
          · exact l4Fill_a11 shape n hs hn N ih B T H ash ns csh at' m ct t al k cl L w hp h (m - 1) _ hj rfl hf hc h0
          · exact l4Fill_a10 shape n hs hn N ih B T H ash ns csh at' m ct t al k cl L w hp h (m - 1) _ hj rfl hf hc h0
        · by_cases h0 : 0 < m - 1
          · exact l4Fill_a01 shape n hs hn N ih B T H ash ns csh at' m ct t al k cl L w hp h (m - 1) _ hj rfl hf hc h0
          · exact l4Fill_a00 shape n hs hn N ih B T H ash ns csh at' m ct t al k cl L w hp h (m - 1) _ hj rfl hf hc h0
end Go.Proofs.Ytpjkhkoecgjjbaa
