/-
  Contract of the program's fill with the closure of TableauxOf.
-/
import Derived.Test.YtpjkhkoecgjjbaaTabPI
namespace Go.Proofs.Ytpjkhkoecgjjbaa
open Go.RowKit

set_option maxRecDepth 100000 in
set_option maxHeartbeats 12800000 in
theorem fill_a00 (shape : List Int) (n : Int) (hs : ShOk shape) (hn : 0 ≤ n ∧ n ≤ 7) (N : Nat) (ih : FillIhI shape n N) (A B T : Nat) (ash : Option Addr) (ns csh : Nat) (at' : Option Addr) (m ct : Nat) (t : List (List Int)) (al : Option Addr) (k cl : Nat) (L : List (List (List Int))) (w : World)
    (hp : FillPreI shape A B T ash ns at' m ct t al k cl L w) (hN : leftT shape t < N + 1) (j c : Nat) (hj : m = j + 1) (hcl : (lastT t).length = c) (hf : fullT shape t = false) (hc0 : ¬ 0 < c) (hj0 : ¬ 0 < j) :
    Calls Try.prog 20 #[.slice ash ns csh, .int .i64 n, .slice at' m ct, .func (.func 21) #[] #[.pointer (some ⟨A, 0, none⟩)]] w (FillPostI w A B at' m ct al k cl L (tabsOf shape n t)) := by
  have Hs := Lib.hid hs
  have Hp := Lib.hid hp
  have HN := Lib.hid hN
  have Hih := Lib.hid ih
  have hns := hp.pns
  have hml := hp.pt.len
  have hns16 : ns ≤ 16 := by rw [← hns]; exact hs.few
  have hmn : m ≤ ns := by rw [← hns, ← hml]; exact hp.pok.len
  have hk := hp.pk
  have hszB := hp.pB
  have hA := hp.pA
  have hT := hp.pT
  have hjl : j < t.length := by omega
  have hjs : j < shape.length := by omega
  have hjm : j < m := by omega
  have hjn : j < ns := by omega
  have hjmI : (j : Int) < (m : Int) := by omega
  have hjnI : (j : Int) < (ns : Int) := by omega
  have q0 : IntKind.i64.wrap ((m : Int) - 1) = (j : Int) := by rw [IntWalk.i64_in _ (by omega)]; omega
  have hlast : lastT t = rowAt t j := by unfold lastT; rw [hml, hj]; rfl
  obtain ⟨gt, hat, hct⟩ := hp.pt.at hjl
  obtain ⟨ar, cr, hcr, hrr⟩ := hct j (rowAt t j) (rowAt_some hjl)
  obtain ⟨bs, os, hash, hcs⟩ := hp.psh.1.at hjs
  obtain ⟨sj, hsj⟩ := some_at rfl hjs
  have hcsj := hcs j sj hsj
  have hsg : shape.getD j 0 = sj := getD_of hsj
  have hc : (rowAt t j).length = c := by rw [← hlast]; exact hcl
  rw [hc] at hcr
  have hc16 : c ≤ 16 := by rw [← hcl]; exact lastT_len hs hp.pok
  have k0 : (0 : Int) ≤ (j : Int) := by omega
  have k3 : (-1 : Int) < (j : Int) := by omega
  have k5 : decide ((j : Int) < 0) = false := by simp
  have hnf := notFull hp.pok hf
  rw [hcl, hml, show m - 1 = j by omega, hsg] at hnf
  have hfe : ((c : Int) == sj) = false := by rw [beq_eq_false_iff_ne]; omega
  clear hnf
  have hlow : lowT t = 0 := by
    unfold lowT
    simp only
    rw [hlast, hc, if_neg (by omega), if_neg (by omega)]
  have k1 : ¬ (0 : Int) < (c : Int) := by omega
  have k2 : ¬ (0 : Int) < (j : Int) := by omega
  have hput : ∀ x, putT t x = t.set j (rowAt t j ++ [x]) := fun x => by unfold putT; rw [hlast, hml, hj]; rfl
  have Hput := Lib.hid hput
  have Hlow := Lib.hid hlow
  have Hj := Lib.hid hj
  have Hcl := Lib.hid hcl
  have Hc := Lib.hid hc
  have Hml := Lib.hid hml
  have Hns := Lib.hid hns
  have Hf := Lib.hid hf
  subst hat hash
  clear hput hct hcs hlast hlow hp hs ih hN hml hns hj hcl hc hf hsj hsg
  go_enter Try.func20, Try.ntmps20
  go_wp2
  go_region
  go_wp2
  skip
  go_loopw [12] (fun xv wr => Hid (FillAtI shape n A B t al k cl L w xv wr)) (fun xv _ => (n - intOf xv).toNat)
  case atStart => exact FillAtI.start Hp.out Hlow.out.symm 1
  case round =>
    obtain ⟨i, ak, kk, ck, L', rfl, hbox, hfz, hl', hcut, hkk, hbut, hhome, hin⟩ := hrel.out
    clear hrel
    have hkl := hl'.len
    have hsz := hbut.size
    have ht' := Hp.out.pt.keep Hp.out.pl hA hbut
    have hlr := lowT_range Hp.out.pok
    by_cases hx : lowT t + i < n
    · obtain ⟨x, hxe⟩ : ∃ x, lowT t + (i : Int) = x := ⟨_, rfl⟩
      have hx07 : 0 ≤ x ∧ x ≤ 7 := by omega
      have HX := Lib.hid hxe
      have HL' := Lib.hid hl'
      have HCut := Lib.hid hcut
      have HBut := Lib.hid hbut
      have HHome := Lib.hid hhome
      have HT' := Lib.hid ht'
      have Hbox := Lib.hid hbox
      have Hfz := Lib.hid hfz
      have hkL := Lib.hid hkl
      rw [hxe] at hx ⊢
      clear hxe hl' hcut hbut hhome ht' hbox hfz hkl hlr
      go_wp2_with fail
      refine (cloneIIS_any B w.heap.size gt m ct t _ HT'.out (by omega) (by omega) hsz).mono ?_
      rintro e w1 ⟨a1, c1, rfl, ho1, hlo1, hB1⟩
      obtain ⟨g0, hg0, hct1⟩ := (HT'.out.below hB1).at hjl
      obtain ⟨a2, c2, hc2, hr2⟩ := hct1 j (rowAt t j) (rowAt_some hjl)
      obtain rfl : gt = g0 := by simpa using hg0
      rw [Hc.out] at hc2
      have HO1 := Lib.hid ho1
      have HB1 := Lib.hid hB1
      have Hlo1 := Lib.hid hlo1
      have hs1 := hB1.size
      obtain ⟨g1, rfl, _⟩ := ho1.at hjl
      clear ho1 hB1 hlo1 hct1 hg0
      go_wp2_with fail
      refine (cloneI_any a2 c c2 (rowAt t j) w1 hr2 Hc.out (by omega)).mono ?_
      rintro e w2 ⟨a3, c3, rfl, ho3, hb3⟩
      have HO3 := Lib.hid ho3
      have hb3' := Lib.hid hb3
      have hs2 := hb3.size
      clear ho3 hb3 hc2 hr2
      go_wp2_with (first | (at_builtin; go_loud (refine wpList_pushI (by rfl) (by rfl) _ _ (by rfl) HO3.out (by rfl) (by rfl) (by omega) hs2 ?_)))
      intro a4 c4 w3 ho4 hg4
      have hb4 : Below w1.heap.size w1 w3 := hg4.below hb3'.out hs2 HO3.out.1.lo
      have hs3 := hb4.size
      obtain ⟨g, hgg, hv, hfz, hS, hGr⟩ := ((HO1.out.below hb4).mono hs3).store hjl (ho4.mono (B' := B) (S' := w3.heap.size) (by omega) (Nat.le_refl _))
      obtain rfl : g1 = g := by simpa using hgg
      obtain ⟨v0, hv0⟩ := hv
      have hlo2 : wr.heap.size ≤ g1 := Hlo1.out g1 rfl
      have Hb5 := Lib.hid (show Below wr.heap.size wr (w3.setCell ⟨g1, j, none⟩ (.slice a4 (c + 1) c4)) from (But.of_grown (p := fun q => q = g1) hGr fun k h => by simpa using h.symm).below (HB1.out.trans (hb4.mono hs1)) (by omega) fun k h => by omega)
      have H3 := Lib.hid (show IIS (w3.setCell ⟨g1, j, none⟩ (.slice a4 (c + 1) c4)) B w3.heap.size (some ⟨g1, 0, none⟩) m c1 (putT t x) by rw [Hput.out x]; exact hS)
      clear hgg hS hGr ho4 hg4 hb4
      go_wp2_with fail
      skip
      refine (Hih.out A B wr.heap.size _ ns csh _ m c1 (putT t x) ak kk ck L' _ (FillPreI.next Hp.out Hf.out hx07 HBut.out HL'.out Hbox.out Hfz.out hkk Hb5.out H3.out (by simp) Hlo1.out) (by have := leftT_put (shape := shape) (t := t) (x := x) (notFull Hp.out.pok Hf.out).1 (notFull_len Hs.out Hp.out.pok Hf.out); have := HN.out; omega)).mono ?_
      rintro e w4 ⟨a5, k5', c5, L5, rfl, hbx5, hfz5, hl5, HC5, hb5, hh5⟩
      by_cases hk5 : k5' ≤ 400
      · have HS := Lib.hid (FillAtI.step HX.out hx HCut.out hkL.out hkk HBut.out HHome.out Hb5.out Hlo1.out hbx5 hfz5 hl5 HC5.out hk5 hb5 hh5 (by omega))
        rw [show decide ((k5' : Int) ≤ 400) = true from by rw [decide_eq_true_eq]; omega]
        clear hbx5 hfz5 hl5 HC5 hb5 hh5 H3 Hb5 hv0 hfz hb3' HO3
        go_wp2
        go_roundw
        case rel => exact by simpa [IntWalk.i64_in (x + 1) (by omega)] using HS
        case measure => simp [intOf]; omega
      · have HS := Lib.hid (FillPostI.gone (at' := some ⟨gt, 0, none⟩) (ct := ct) HX.out hx HCut.out hkL.out hkk HBut.out HHome.out Hb5.out Hlo1.out hbx5 hfz5 hl5 HC5.out Hs.out hn.2 Hp.out.pok Hf.out hk5 hb5 hh5)
        rw [show decide ((k5' : Int) ≤ 400) = false from by rw [decide_eq_false_iff_not]; omega]
        clear hbx5 hfz5 hl5 HC5 hb5 hh5 H3 Hb5 hv0 hfz hb3' HO3
        go_wp2
        go_ret
        exact HS.out
    · have HEnd := Lib.hid (FillPostI.done (b := true) (at' := some ⟨gt, 0, none⟩) (m := m) (ct := ct) Hs.out hn.2 Hp.out.pok Hf.out hbut hhome hcut hkl (.inr (by omega)) (by rw [eq_comm, decide_eq_true_eq]; omega) hbox hfz hl')
      obtain ⟨x, hxe⟩ : ∃ x, lowT t + (i : Int) = x := ⟨_, rfl⟩
      rw [hxe] at hx ⊢
      clear hxe hl' hcut hbut hhome ht' hbox hfz hkl hlr
      go_wp2
      go_ret
      exact HEnd.out

set_option maxRecDepth 100000 in
set_option maxHeartbeats 12800000 in
theorem fill_a01 (shape : List Int) (n : Int) (hs : ShOk shape) (hn : 0 ≤ n ∧ n ≤ 7) (N : Nat) (ih : FillIhI shape n N) (A B T : Nat) (ash : Option Addr) (ns csh : Nat) (at' : Option Addr) (m ct : Nat) (t : List (List Int)) (al : Option Addr) (k cl : Nat) (L : List (List (List Int))) (w : World)
    (hp : FillPreI shape A B T ash ns at' m ct t al k cl L w) (hN : leftT shape t < N + 1) (j c : Nat) (hj : m = j + 1) (hcl : (lastT t).length = c) (hf : fullT shape t = false) (hc0 : ¬ 0 < c) (hj0 : 0 < j) :
    Calls Try.prog 20 #[.slice ash ns csh, .int .i64 n, .slice at' m ct, .func (.func 21) #[] #[.pointer (some ⟨A, 0, none⟩)]] w (FillPostI w A B at' m ct al k cl L (tabsOf shape n t)) := by
  have Hs := Lib.hid hs
  have Hp := Lib.hid hp
  have HN := Lib.hid hN
  have Hih := Lib.hid ih
  have hns := hp.pns
  have hml := hp.pt.len
  have hns16 : ns ≤ 16 := by rw [← hns]; exact hs.few
  have hmn : m ≤ ns := by rw [← hns, ← hml]; exact hp.pok.len
  have hk := hp.pk
  have hszB := hp.pB
  have hA := hp.pA
  have hT := hp.pT
  have hjl : j < t.length := by omega
  have hjs : j < shape.length := by omega
  have hjm : j < m := by omega
  have hjn : j < ns := by omega
  have hjmI : (j : Int) < (m : Int) := by omega
  have hjnI : (j : Int) < (ns : Int) := by omega
  have q0 : IntKind.i64.wrap ((m : Int) - 1) = (j : Int) := by rw [IntWalk.i64_in _ (by omega)]; omega
  have hlast : lastT t = rowAt t j := by unfold lastT; rw [hml, hj]; rfl
  obtain ⟨gt, hat, hct⟩ := hp.pt.at hjl
  obtain ⟨ar, cr, hcr, hrr⟩ := hct j (rowAt t j) (rowAt_some hjl)
  obtain ⟨bs, os, hash, hcs⟩ := hp.psh.1.at hjs
  obtain ⟨sj, hsj⟩ := some_at rfl hjs
  have hcsj := hcs j sj hsj
  have hsg : shape.getD j 0 = sj := getD_of hsj
  have hc : (rowAt t j).length = c := by rw [← hlast]; exact hcl
  rw [hc] at hcr
  have hc16 : c ≤ 16 := by rw [← hcl]; exact lastT_len hs hp.pok
  have k0 : (0 : Int) ≤ (j : Int) := by omega
  have k3 : (-1 : Int) < (j : Int) := by omega
  have k5 : decide ((j : Int) < 0) = false := by simp
  have hnf := notFull hp.pok hf
  rw [hcl, hml, show m - 1 = j by omega, hsg] at hnf
  have hfe : ((c : Int) == sj) = false := by rw [beq_eq_false_iff_ne]; omega
  clear hnf
  obtain ⟨i', hi'⟩ : ∃ i', j = i' + 1 := ⟨j - 1, by omega⟩
  have q2 : IntKind.i64.wrap ((j : Int) - 1) = (i' : Int) := by rw [IntWalk.i64_in _ (by omega)]; omega
  have him : i' < m := by omega
  have himI : (i' : Int) < (m : Int) := by omega
  have hil : i' < t.length := by omega
  obtain ⟨au, cu, hcu, hru⟩ := hct i' (rowAt t i') (rowAt_some hil)
  obtain ⟨u, hu⟩ : ∃ u, (rowAt t i').length = u := ⟨_, rfl⟩
  rw [hu] at hcu
  have hfull := hp.pok.full i' (by omega)
  rw [hu] at hfull
  have hfall := hs.fall i' (by omega)
  rw [← hi', hsg, ← hfull] at hfall
  have hcu2 : c < u := by
    have := (notFull hp.pok hf).2
    rw [hcl, hml, show m - 1 = j by omega, hsg] at this
    omega
  have hcuI : (c : Int) < (u : Int) := by omega
  obtain ⟨bu, ou, hau, hcua⟩ := hru.at (k := c) (by omega)
  obtain ⟨y, hy⟩ := some_at hu hcu2
  have hcy := hcua c y hy
  have hyr := hp.pok.low _ (rowAt_mem hil) y (List.mem_of_getElem? hy)
  have q3 : IntKind.i64.wrap (y + 1) = y + 1 := IntWalk.i64_in _ (by omega)
  have k2 : (0 : Int) < (j : Int) := by omega
  have k4 : (0 : Int) < y + 1 := by omega
  have hlow : lowT t = y + 1 := by
    unfold lowT
    simp only
    rw [hlast, hc, if_pos (by omega), if_neg (by omega), hml, show m - 2 = i' by omega, getD_of hy, Int.max_def]
    split <;> omega
  have k1 : ¬ (0 : Int) < (c : Int) := by omega
  have hput : ∀ x, putT t x = t.set j (rowAt t j ++ [x]) := fun x => by unfold putT; rw [hlast, hml, hj]; rfl
  have Hput := Lib.hid hput
  have Hlow := Lib.hid hlow
  have Hj := Lib.hid hj
  have Hcl := Lib.hid hcl
  have Hc := Lib.hid hc
  have Hml := Lib.hid hml
  have Hns := Lib.hid hns
  have Hf := Lib.hid hf
  subst hat hash hau
  clear hput hct hcs hlast hlow hp hs ih hN hml hns hj hcl hc hf hsj hsg hcua hru hfull hfall hi' hy hu
  go_enter Try.func20, Try.ntmps20
  go_wp2
  go_region
  go_wp2
  skip
  go_loopw [12] (fun xv wr => Hid (FillAtI shape n A B t al k cl L w xv wr)) (fun xv _ => (n - intOf xv).toNat)
  case atStart => exact FillAtI.start Hp.out Hlow.out.symm 1
  case round =>
    obtain ⟨i, ak, kk, ck, L', rfl, hbox, hfz, hl', hcut, hkk, hbut, hhome, hin⟩ := hrel.out
    clear hrel
    have hkl := hl'.len
    have hsz := hbut.size
    have ht' := Hp.out.pt.keep Hp.out.pl hA hbut
    have hlr := lowT_range Hp.out.pok
    by_cases hx : lowT t + i < n
    · obtain ⟨x, hxe⟩ : ∃ x, lowT t + (i : Int) = x := ⟨_, rfl⟩
      have hx07 : 0 ≤ x ∧ x ≤ 7 := by omega
      have HX := Lib.hid hxe
      have HL' := Lib.hid hl'
      have HCut := Lib.hid hcut
      have HBut := Lib.hid hbut
      have HHome := Lib.hid hhome
      have HT' := Lib.hid ht'
      have Hbox := Lib.hid hbox
      have Hfz := Lib.hid hfz
      have hkL := Lib.hid hkl
      rw [hxe] at hx ⊢
      clear hxe hl' hcut hbut hhome ht' hbox hfz hkl hlr
      go_wp2_with fail
      refine (cloneIIS_any B w.heap.size gt m ct t _ HT'.out (by omega) (by omega) hsz).mono ?_
      rintro e w1 ⟨a1, c1, rfl, ho1, hlo1, hB1⟩
      obtain ⟨g0, hg0, hct1⟩ := (HT'.out.below hB1).at hjl
      obtain ⟨a2, c2, hc2, hr2⟩ := hct1 j (rowAt t j) (rowAt_some hjl)
      obtain rfl : gt = g0 := by simpa using hg0
      rw [Hc.out] at hc2
      have HO1 := Lib.hid ho1
      have HB1 := Lib.hid hB1
      have Hlo1 := Lib.hid hlo1
      have hs1 := hB1.size
      obtain ⟨g1, rfl, _⟩ := ho1.at hjl
      clear ho1 hB1 hlo1 hct1 hg0
      go_wp2_with fail
      refine (cloneI_any a2 c c2 (rowAt t j) w1 hr2 Hc.out (by omega)).mono ?_
      rintro e w2 ⟨a3, c3, rfl, ho3, hb3⟩
      have HO3 := Lib.hid ho3
      have hb3' := Lib.hid hb3
      have hs2 := hb3.size
      clear ho3 hb3 hc2 hr2
      go_wp2_with (first | (at_builtin; go_loud (refine wpList_pushI (by rfl) (by rfl) _ _ (by rfl) HO3.out (by rfl) (by rfl) (by omega) hs2 ?_)))
      intro a4 c4 w3 ho4 hg4
      have hb4 : Below w1.heap.size w1 w3 := hg4.below hb3'.out hs2 HO3.out.1.lo
      have hs3 := hb4.size
      obtain ⟨g, hgg, hv, hfz, hS, hGr⟩ := ((HO1.out.below hb4).mono hs3).store hjl (ho4.mono (B' := B) (S' := w3.heap.size) (by omega) (Nat.le_refl _))
      obtain rfl : g1 = g := by simpa using hgg
      obtain ⟨v0, hv0⟩ := hv
      have hlo2 : wr.heap.size ≤ g1 := Hlo1.out g1 rfl
      have Hb5 := Lib.hid (show Below wr.heap.size wr (w3.setCell ⟨g1, j, none⟩ (.slice a4 (c + 1) c4)) from (But.of_grown (p := fun q => q = g1) hGr fun k h => by simpa using h.symm).below (HB1.out.trans (hb4.mono hs1)) (by omega) fun k h => by omega)
      have H3 := Lib.hid (show IIS (w3.setCell ⟨g1, j, none⟩ (.slice a4 (c + 1) c4)) B w3.heap.size (some ⟨g1, 0, none⟩) m c1 (putT t x) by rw [Hput.out x]; exact hS)
      clear hgg hS hGr ho4 hg4 hb4
      go_wp2_with fail
      skip
      refine (Hih.out A B wr.heap.size _ ns csh _ m c1 (putT t x) ak kk ck L' _ (FillPreI.next Hp.out Hf.out hx07 HBut.out HL'.out Hbox.out Hfz.out hkk Hb5.out H3.out (by simp) Hlo1.out) (by have := leftT_put (shape := shape) (t := t) (x := x) (notFull Hp.out.pok Hf.out).1 (notFull_len Hs.out Hp.out.pok Hf.out); have := HN.out; omega)).mono ?_
      rintro e w4 ⟨a5, k5', c5, L5, rfl, hbx5, hfz5, hl5, HC5, hb5, hh5⟩
      by_cases hk5 : k5' ≤ 400
      · have HS := Lib.hid (FillAtI.step HX.out hx HCut.out hkL.out hkk HBut.out HHome.out Hb5.out Hlo1.out hbx5 hfz5 hl5 HC5.out hk5 hb5 hh5 (by omega))
        rw [show decide ((k5' : Int) ≤ 400) = true from by rw [decide_eq_true_eq]; omega]
        clear hbx5 hfz5 hl5 HC5 hb5 hh5 H3 Hb5 hv0 hfz hb3' HO3
        go_wp2
        go_roundw
        case rel => exact by simpa [IntWalk.i64_in (x + 1) (by omega)] using HS
        case measure => simp [intOf]; omega
      · have HS := Lib.hid (FillPostI.gone (at' := some ⟨gt, 0, none⟩) (ct := ct) HX.out hx HCut.out hkL.out hkk HBut.out HHome.out Hb5.out Hlo1.out hbx5 hfz5 hl5 HC5.out Hs.out hn.2 Hp.out.pok Hf.out hk5 hb5 hh5)
        rw [show decide ((k5' : Int) ≤ 400) = false from by rw [decide_eq_false_iff_not]; omega]
        clear hbx5 hfz5 hl5 HC5 hb5 hh5 H3 Hb5 hv0 hfz hb3' HO3
        go_wp2
        go_ret
        exact HS.out
    · have HEnd := Lib.hid (FillPostI.done (b := true) (at' := some ⟨gt, 0, none⟩) (m := m) (ct := ct) Hs.out hn.2 Hp.out.pok Hf.out hbut hhome hcut hkl (.inr (by omega)) (by rw [eq_comm, decide_eq_true_eq]; omega) hbox hfz hl')
      obtain ⟨x, hxe⟩ : ∃ x, lowT t + (i : Int) = x := ⟨_, rfl⟩
      rw [hxe] at hx ⊢
      clear hxe hl' hcut hbut hhome ht' hbox hfz hkl hlr
      go_wp2
      go_ret
      exact HEnd.out

set_option maxRecDepth 100000 in
set_option maxHeartbeats 12800000 in
theorem fill_a10 (shape : List Int) (n : Int) (hs : ShOk shape) (hn : 0 ≤ n ∧ n ≤ 7) (N : Nat) (ih : FillIhI shape n N) (A B T : Nat) (ash : Option Addr) (ns csh : Nat) (at' : Option Addr) (m ct : Nat) (t : List (List Int)) (al : Option Addr) (k cl : Nat) (L : List (List (List Int))) (w : World)
    (hp : FillPreI shape A B T ash ns at' m ct t al k cl L w) (hN : leftT shape t < N + 1) (j c : Nat) (hj : m = j + 1) (hcl : (lastT t).length = c) (hf : fullT shape t = false) (hc0 : 0 < c) (hj0 : ¬ 0 < j) :
    Calls Try.prog 20 #[.slice ash ns csh, .int .i64 n, .slice at' m ct, .func (.func 21) #[] #[.pointer (some ⟨A, 0, none⟩)]] w (FillPostI w A B at' m ct al k cl L (tabsOf shape n t)) := by
  have Hs := Lib.hid hs
  have Hp := Lib.hid hp
  have HN := Lib.hid hN
  have Hih := Lib.hid ih
  have hns := hp.pns
  have hml := hp.pt.len
  have hns16 : ns ≤ 16 := by rw [← hns]; exact hs.few
  have hmn : m ≤ ns := by rw [← hns, ← hml]; exact hp.pok.len
  have hk := hp.pk
  have hszB := hp.pB
  have hA := hp.pA
  have hT := hp.pT
  have hjl : j < t.length := by omega
  have hjs : j < shape.length := by omega
  have hjm : j < m := by omega
  have hjn : j < ns := by omega
  have hjmI : (j : Int) < (m : Int) := by omega
  have hjnI : (j : Int) < (ns : Int) := by omega
  have q0 : IntKind.i64.wrap ((m : Int) - 1) = (j : Int) := by rw [IntWalk.i64_in _ (by omega)]; omega
  have hlast : lastT t = rowAt t j := by unfold lastT; rw [hml, hj]; rfl
  obtain ⟨gt, hat, hct⟩ := hp.pt.at hjl
  obtain ⟨ar, cr, hcr, hrr⟩ := hct j (rowAt t j) (rowAt_some hjl)
  obtain ⟨bs, os, hash, hcs⟩ := hp.psh.1.at hjs
  obtain ⟨sj, hsj⟩ := some_at rfl hjs
  have hcsj := hcs j sj hsj
  have hsg : shape.getD j 0 = sj := getD_of hsj
  have hc : (rowAt t j).length = c := by rw [← hlast]; exact hcl
  rw [hc] at hcr
  have hc16 : c ≤ 16 := by rw [← hcl]; exact lastT_len hs hp.pok
  have k0 : (0 : Int) ≤ (j : Int) := by omega
  have k3 : (-1 : Int) < (j : Int) := by omega
  have k5 : decide ((j : Int) < 0) = false := by simp
  have hnf := notFull hp.pok hf
  rw [hcl, hml, show m - 1 = j by omega, hsg] at hnf
  have hfe : ((c : Int) == sj) = false := by rw [beq_eq_false_iff_ne]; omega
  clear hnf
  obtain ⟨d, hd⟩ : ∃ d, c = d + 1 := ⟨c - 1, by omega⟩
  have q1 : IntKind.i64.wrap ((c : Int) - 1) = (d : Int) := by rw [IntWalk.i64_in _ (by omega)]; omega
  have hdc : d < c := by omega
  have hdcI : (d : Int) < (c : Int) := by omega
  obtain ⟨br, or', har, hcra⟩ := hrr.at (k := d) (by omega)
  obtain ⟨z, hz⟩ := some_at hc hdc
  have hcz := hcra d z hz
  have hzr := hp.pok.low _ (rowAt_mem hjl) z (List.mem_of_getElem? hz)
  have k1 : (0 : Int) < (c : Int) := by omega
  have hlow : lowT t = z := by
    unfold lowT
    simp only
    rw [hlast, hc, if_neg (by omega), if_pos (by omega), show c - 1 = d by omega, getD_of hz]
  have k2 : ¬ (0 : Int) < (j : Int) := by omega
  have hput : ∀ x, putT t x = t.set j (rowAt t j ++ [x]) := fun x => by unfold putT; rw [hlast, hml, hj]; rfl
  have Hput := Lib.hid hput
  have Hlow := Lib.hid hlow
  have Hj := Lib.hid hj
  have Hcl := Lib.hid hcl
  have Hc := Lib.hid hc
  have Hml := Lib.hid hml
  have Hns := Lib.hid hns
  have Hf := Lib.hid hf
  subst hat hash har
  clear hput hct hcs hlast hlow hp hs ih hN hml hns hj hcl hc hf hsj hsg hcra hd hz
  go_enter Try.func20, Try.ntmps20
  go_wp2
  go_region
  go_wp2
  skip
  go_loopw [12] (fun xv wr => Hid (FillAtI shape n A B t al k cl L w xv wr)) (fun xv _ => (n - intOf xv).toNat)
  case atStart => exact FillAtI.start Hp.out Hlow.out.symm 1
  case round =>
    obtain ⟨i, ak, kk, ck, L', rfl, hbox, hfz, hl', hcut, hkk, hbut, hhome, hin⟩ := hrel.out
    clear hrel
    have hkl := hl'.len
    have hsz := hbut.size
    have ht' := Hp.out.pt.keep Hp.out.pl hA hbut
    have hlr := lowT_range Hp.out.pok
    by_cases hx : lowT t + i < n
    · obtain ⟨x, hxe⟩ : ∃ x, lowT t + (i : Int) = x := ⟨_, rfl⟩
      have hx07 : 0 ≤ x ∧ x ≤ 7 := by omega
      have HX := Lib.hid hxe
      have HL' := Lib.hid hl'
      have HCut := Lib.hid hcut
      have HBut := Lib.hid hbut
      have HHome := Lib.hid hhome
      have HT' := Lib.hid ht'
      have Hbox := Lib.hid hbox
      have Hfz := Lib.hid hfz
      have hkL := Lib.hid hkl
      rw [hxe] at hx ⊢
      clear hxe hl' hcut hbut hhome ht' hbox hfz hkl hlr
      go_wp2_with fail
      refine (cloneIIS_any B w.heap.size gt m ct t _ HT'.out (by omega) (by omega) hsz).mono ?_
      rintro e w1 ⟨a1, c1, rfl, ho1, hlo1, hB1⟩
      obtain ⟨g0, hg0, hct1⟩ := (HT'.out.below hB1).at hjl
      obtain ⟨a2, c2, hc2, hr2⟩ := hct1 j (rowAt t j) (rowAt_some hjl)
      obtain rfl : gt = g0 := by simpa using hg0
      rw [Hc.out] at hc2
      have HO1 := Lib.hid ho1
      have HB1 := Lib.hid hB1
      have Hlo1 := Lib.hid hlo1
      have hs1 := hB1.size
      obtain ⟨g1, rfl, _⟩ := ho1.at hjl
      clear ho1 hB1 hlo1 hct1 hg0
      go_wp2_with fail
      refine (cloneI_any a2 c c2 (rowAt t j) w1 hr2 Hc.out (by omega)).mono ?_
      rintro e w2 ⟨a3, c3, rfl, ho3, hb3⟩
      have HO3 := Lib.hid ho3
      have hb3' := Lib.hid hb3
      have hs2 := hb3.size
      clear ho3 hb3 hc2 hr2
      go_wp2_with (first | (at_builtin; go_loud (refine wpList_pushI (by rfl) (by rfl) _ _ (by rfl) HO3.out (by rfl) (by rfl) (by omega) hs2 ?_)))
      intro a4 c4 w3 ho4 hg4
      have hb4 : Below w1.heap.size w1 w3 := hg4.below hb3'.out hs2 HO3.out.1.lo
      have hs3 := hb4.size
      obtain ⟨g, hgg, hv, hfz, hS, hGr⟩ := ((HO1.out.below hb4).mono hs3).store hjl (ho4.mono (B' := B) (S' := w3.heap.size) (by omega) (Nat.le_refl _))
      obtain rfl : g1 = g := by simpa using hgg
      obtain ⟨v0, hv0⟩ := hv
      have hlo2 : wr.heap.size ≤ g1 := Hlo1.out g1 rfl
      have Hb5 := Lib.hid (show Below wr.heap.size wr (w3.setCell ⟨g1, j, none⟩ (.slice a4 (c + 1) c4)) from (But.of_grown (p := fun q => q = g1) hGr fun k h => by simpa using h.symm).below (HB1.out.trans (hb4.mono hs1)) (by omega) fun k h => by omega)
      have H3 := Lib.hid (show IIS (w3.setCell ⟨g1, j, none⟩ (.slice a4 (c + 1) c4)) B w3.heap.size (some ⟨g1, 0, none⟩) m c1 (putT t x) by rw [Hput.out x]; exact hS)
      clear hgg hS hGr ho4 hg4 hb4
      go_wp2_with fail
      skip
      refine (Hih.out A B wr.heap.size _ ns csh _ m c1 (putT t x) ak kk ck L' _ (FillPreI.next Hp.out Hf.out hx07 HBut.out HL'.out Hbox.out Hfz.out hkk Hb5.out H3.out (by simp) Hlo1.out) (by have := leftT_put (shape := shape) (t := t) (x := x) (notFull Hp.out.pok Hf.out).1 (notFull_len Hs.out Hp.out.pok Hf.out); have := HN.out; omega)).mono ?_
      rintro e w4 ⟨a5, k5', c5, L5, rfl, hbx5, hfz5, hl5, HC5, hb5, hh5⟩
      by_cases hk5 : k5' ≤ 400
      · have HS := Lib.hid (FillAtI.step HX.out hx HCut.out hkL.out hkk HBut.out HHome.out Hb5.out Hlo1.out hbx5 hfz5 hl5 HC5.out hk5 hb5 hh5 (by omega))
        rw [show decide ((k5' : Int) ≤ 400) = true from by rw [decide_eq_true_eq]; omega]
        clear hbx5 hfz5 hl5 HC5 hb5 hh5 H3 Hb5 hv0 hfz hb3' HO3
        go_wp2
        go_roundw
        case rel => exact by simpa [IntWalk.i64_in (x + 1) (by omega)] using HS
        case measure => simp [intOf]; omega
      · have HS := Lib.hid (FillPostI.gone (at' := some ⟨gt, 0, none⟩) (ct := ct) HX.out hx HCut.out hkL.out hkk HBut.out HHome.out Hb5.out Hlo1.out hbx5 hfz5 hl5 HC5.out Hs.out hn.2 Hp.out.pok Hf.out hk5 hb5 hh5)
        rw [show decide ((k5' : Int) ≤ 400) = false from by rw [decide_eq_false_iff_not]; omega]
        clear hbx5 hfz5 hl5 HC5 hb5 hh5 H3 Hb5 hv0 hfz hb3' HO3
        go_wp2
        go_ret
        exact HS.out
    · have HEnd := Lib.hid (FillPostI.done (b := true) (at' := some ⟨gt, 0, none⟩) (m := m) (ct := ct) Hs.out hn.2 Hp.out.pok Hf.out hbut hhome hcut hkl (.inr (by omega)) (by rw [eq_comm, decide_eq_true_eq]; omega) hbox hfz hl')
      obtain ⟨x, hxe⟩ : ∃ x, lowT t + (i : Int) = x := ⟨_, rfl⟩
      rw [hxe] at hx ⊢
      clear hxe hl' hcut hbut hhome ht' hbox hfz hkl hlr
      go_wp2
      go_ret
      exact HEnd.out

set_option maxRecDepth 100000 in
set_option maxHeartbeats 12800000 in
theorem fill_a11 (shape : List Int) (n : Int) (hs : ShOk shape) (hn : 0 ≤ n ∧ n ≤ 7) (N : Nat) (ih : FillIhI shape n N) (A B T : Nat) (ash : Option Addr) (ns csh : Nat) (at' : Option Addr) (m ct : Nat) (t : List (List Int)) (al : Option Addr) (k cl : Nat) (L : List (List (List Int))) (w : World)
    (hp : FillPreI shape A B T ash ns at' m ct t al k cl L w) (hN : leftT shape t < N + 1) (j c : Nat) (hj : m = j + 1) (hcl : (lastT t).length = c) (hf : fullT shape t = false) (hc0 : 0 < c) (hj0 : 0 < j) :
    Calls Try.prog 20 #[.slice ash ns csh, .int .i64 n, .slice at' m ct, .func (.func 21) #[] #[.pointer (some ⟨A, 0, none⟩)]] w (FillPostI w A B at' m ct al k cl L (tabsOf shape n t)) := by
  have Hs := Lib.hid hs
  have Hp := Lib.hid hp
  have HN := Lib.hid hN
  have Hih := Lib.hid ih
  have hns := hp.pns
  have hml := hp.pt.len
  have hns16 : ns ≤ 16 := by rw [← hns]; exact hs.few
  have hmn : m ≤ ns := by rw [← hns, ← hml]; exact hp.pok.len
  have hk := hp.pk
  have hszB := hp.pB
  have hA := hp.pA
  have hT := hp.pT
  have hjl : j < t.length := by omega
  have hjs : j < shape.length := by omega
  have hjm : j < m := by omega
  have hjn : j < ns := by omega
  have hjmI : (j : Int) < (m : Int) := by omega
  have hjnI : (j : Int) < (ns : Int) := by omega
  have q0 : IntKind.i64.wrap ((m : Int) - 1) = (j : Int) := by rw [IntWalk.i64_in _ (by omega)]; omega
  have hlast : lastT t = rowAt t j := by unfold lastT; rw [hml, hj]; rfl
  obtain ⟨gt, hat, hct⟩ := hp.pt.at hjl
  obtain ⟨ar, cr, hcr, hrr⟩ := hct j (rowAt t j) (rowAt_some hjl)
  obtain ⟨bs, os, hash, hcs⟩ := hp.psh.1.at hjs
  obtain ⟨sj, hsj⟩ := some_at rfl hjs
  have hcsj := hcs j sj hsj
  have hsg : shape.getD j 0 = sj := getD_of hsj
  have hc : (rowAt t j).length = c := by rw [← hlast]; exact hcl
  rw [hc] at hcr
  have hc16 : c ≤ 16 := by rw [← hcl]; exact lastT_len hs hp.pok
  have k0 : (0 : Int) ≤ (j : Int) := by omega
  have k3 : (-1 : Int) < (j : Int) := by omega
  have k5 : decide ((j : Int) < 0) = false := by simp
  have hnf := notFull hp.pok hf
  rw [hcl, hml, show m - 1 = j by omega, hsg] at hnf
  have hfe : ((c : Int) == sj) = false := by rw [beq_eq_false_iff_ne]; omega
  clear hnf
  obtain ⟨d, hd⟩ : ∃ d, c = d + 1 := ⟨c - 1, by omega⟩
  have q1 : IntKind.i64.wrap ((c : Int) - 1) = (d : Int) := by rw [IntWalk.i64_in _ (by omega)]; omega
  have hdc : d < c := by omega
  have hdcI : (d : Int) < (c : Int) := by omega
  obtain ⟨br, or', har, hcra⟩ := hrr.at (k := d) (by omega)
  obtain ⟨z, hz⟩ := some_at hc hdc
  have hcz := hcra d z hz
  have hzr := hp.pok.low _ (rowAt_mem hjl) z (List.mem_of_getElem? hz)
  have k1 : (0 : Int) < (c : Int) := by omega
  obtain ⟨i', hi'⟩ : ∃ i', j = i' + 1 := ⟨j - 1, by omega⟩
  have q2 : IntKind.i64.wrap ((j : Int) - 1) = (i' : Int) := by rw [IntWalk.i64_in _ (by omega)]; omega
  have him : i' < m := by omega
  have himI : (i' : Int) < (m : Int) := by omega
  have hil : i' < t.length := by omega
  obtain ⟨au, cu, hcu, hru⟩ := hct i' (rowAt t i') (rowAt_some hil)
  obtain ⟨u, hu⟩ : ∃ u, (rowAt t i').length = u := ⟨_, rfl⟩
  rw [hu] at hcu
  have hfull := hp.pok.full i' (by omega)
  rw [hu] at hfull
  have hfall := hs.fall i' (by omega)
  rw [← hi', hsg, ← hfull] at hfall
  have hcu2 : c < u := by
    have := (notFull hp.pok hf).2
    rw [hcl, hml, show m - 1 = j by omega, hsg] at this
    omega
  have hcuI : (c : Int) < (u : Int) := by omega
  obtain ⟨bu, ou, hau, hcua⟩ := hru.at (k := c) (by omega)
  obtain ⟨y, hy⟩ := some_at hu hcu2
  have hcy := hcua c y hy
  have hyr := hp.pok.low _ (rowAt_mem hil) y (List.mem_of_getElem? hy)
  have q3 : IntKind.i64.wrap (y + 1) = y + 1 := IntWalk.i64_in _ (by omega)
  have k2 : (0 : Int) < (j : Int) := by omega
  have hlow : lowT t = max z (y + 1) := by
    unfold lowT
    simp only
    rw [hlast, hc, if_pos (by omega), if_pos (by omega), hml, show m - 2 = i' by omega, show c - 1 = d by omega, getD_of hz, getD_of hy]
  have hput : ∀ x, putT t x = t.set j (rowAt t j ++ [x]) := fun x => by unfold putT; rw [hlast, hml, hj]; rfl
  have Hput := Lib.hid hput
  have Hlow := Lib.hid hlow
  have Hj := Lib.hid hj
  have Hcl := Lib.hid hcl
  have Hc := Lib.hid hc
  have Hml := Lib.hid hml
  have Hns := Lib.hid hns
  have Hf := Lib.hid hf
  subst hat hash har hau
  clear hput hct hcs hlast hlow hp hs ih hN hml hns hj hcl hc hf hsj hsg hcra hd hz hcua hru hfull hfall hi' hy hu
  by_cases hzy : z < y + 1
  · go_enter Try.func20, Try.ntmps20
    go_wp2
    go_region
    go_wp2
    skip
    go_loopw [12] (fun xv wr => Hid (FillAtI shape n A B t al k cl L w xv wr)) (fun xv _ => (n - intOf xv).toNat)
    case atStart => exact FillAtI.start Hp.out (by rw [Hlow.out, Int.max_def]; split <;> omega) 1
    case round =>
      obtain ⟨i, ak, kk, ck, L', rfl, hbox, hfz, hl', hcut, hkk, hbut, hhome, hin⟩ := hrel.out
      clear hrel
      have hkl := hl'.len
      have hsz := hbut.size
      have ht' := Hp.out.pt.keep Hp.out.pl hA hbut
      have hlr := lowT_range Hp.out.pok
      by_cases hx : lowT t + i < n
      · obtain ⟨x, hxe⟩ : ∃ x, lowT t + (i : Int) = x := ⟨_, rfl⟩
        have hx07 : 0 ≤ x ∧ x ≤ 7 := by omega
        have HX := Lib.hid hxe
        have HL' := Lib.hid hl'
        have HCut := Lib.hid hcut
        have HBut := Lib.hid hbut
        have HHome := Lib.hid hhome
        have HT' := Lib.hid ht'
        have Hbox := Lib.hid hbox
        have Hfz := Lib.hid hfz
        have hkL := Lib.hid hkl
        rw [hxe] at hx ⊢
        clear hxe hl' hcut hbut hhome ht' hbox hfz hkl hlr
        go_wp2_with fail
        refine (cloneIIS_any B w.heap.size gt m ct t _ HT'.out (by omega) (by omega) hsz).mono ?_
        rintro e w1 ⟨a1, c1, rfl, ho1, hlo1, hB1⟩
        obtain ⟨g0, hg0, hct1⟩ := (HT'.out.below hB1).at hjl
        obtain ⟨a2, c2, hc2, hr2⟩ := hct1 j (rowAt t j) (rowAt_some hjl)
        obtain rfl : gt = g0 := by simpa using hg0
        rw [Hc.out] at hc2
        have HO1 := Lib.hid ho1
        have HB1 := Lib.hid hB1
        have Hlo1 := Lib.hid hlo1
        have hs1 := hB1.size
        obtain ⟨g1, rfl, _⟩ := ho1.at hjl
        clear ho1 hB1 hlo1 hct1 hg0
        go_wp2_with fail
        refine (cloneI_any a2 c c2 (rowAt t j) w1 hr2 Hc.out (by omega)).mono ?_
        rintro e w2 ⟨a3, c3, rfl, ho3, hb3⟩
        have HO3 := Lib.hid ho3
        have hb3' := Lib.hid hb3
        have hs2 := hb3.size
        clear ho3 hb3 hc2 hr2
        go_wp2_with (first | (at_builtin; go_loud (refine wpList_pushI (by rfl) (by rfl) _ _ (by rfl) HO3.out (by rfl) (by rfl) (by omega) hs2 ?_)))
        intro a4 c4 w3 ho4 hg4
        have hb4 : Below w1.heap.size w1 w3 := hg4.below hb3'.out hs2 HO3.out.1.lo
        have hs3 := hb4.size
        obtain ⟨g, hgg, hv, hfz, hS, hGr⟩ := ((HO1.out.below hb4).mono hs3).store hjl (ho4.mono (B' := B) (S' := w3.heap.size) (by omega) (Nat.le_refl _))
        obtain rfl : g1 = g := by simpa using hgg
        obtain ⟨v0, hv0⟩ := hv
        have hlo2 : wr.heap.size ≤ g1 := Hlo1.out g1 rfl
        have Hb5 := Lib.hid (show Below wr.heap.size wr (w3.setCell ⟨g1, j, none⟩ (.slice a4 (c + 1) c4)) from (But.of_grown (p := fun q => q = g1) hGr fun k h => by simpa using h.symm).below (HB1.out.trans (hb4.mono hs1)) (by omega) fun k h => by omega)
        have H3 := Lib.hid (show IIS (w3.setCell ⟨g1, j, none⟩ (.slice a4 (c + 1) c4)) B w3.heap.size (some ⟨g1, 0, none⟩) m c1 (putT t x) by rw [Hput.out x]; exact hS)
        clear hgg hS hGr ho4 hg4 hb4
        go_wp2_with fail
        skip
        refine (Hih.out A B wr.heap.size _ ns csh _ m c1 (putT t x) ak kk ck L' _ (FillPreI.next Hp.out Hf.out hx07 HBut.out HL'.out Hbox.out Hfz.out hkk Hb5.out H3.out (by simp) Hlo1.out) (by have := leftT_put (shape := shape) (t := t) (x := x) (notFull Hp.out.pok Hf.out).1 (notFull_len Hs.out Hp.out.pok Hf.out); have := HN.out; omega)).mono ?_
        rintro e w4 ⟨a5, k5', c5, L5, rfl, hbx5, hfz5, hl5, HC5, hb5, hh5⟩
        by_cases hk5 : k5' ≤ 400
        · have HS := Lib.hid (FillAtI.step HX.out hx HCut.out hkL.out hkk HBut.out HHome.out Hb5.out Hlo1.out hbx5 hfz5 hl5 HC5.out hk5 hb5 hh5 (by omega))
          rw [show decide ((k5' : Int) ≤ 400) = true from by rw [decide_eq_true_eq]; omega]
          clear hbx5 hfz5 hl5 HC5 hb5 hh5 H3 Hb5 hv0 hfz hb3' HO3
          go_wp2
          go_roundw
          case rel => exact by simpa [IntWalk.i64_in (x + 1) (by omega)] using HS
          case measure => simp [intOf]; omega
        · have HS := Lib.hid (FillPostI.gone (at' := some ⟨gt, 0, none⟩) (ct := ct) HX.out hx HCut.out hkL.out hkk HBut.out HHome.out Hb5.out Hlo1.out hbx5 hfz5 hl5 HC5.out Hs.out hn.2 Hp.out.pok Hf.out hk5 hb5 hh5)
          rw [show decide ((k5' : Int) ≤ 400) = false from by rw [decide_eq_false_iff_not]; omega]
          clear hbx5 hfz5 hl5 HC5 hb5 hh5 H3 Hb5 hv0 hfz hb3' HO3
          go_wp2
          go_ret
          exact HS.out
      · have HEnd := Lib.hid (FillPostI.done (b := true) (at' := some ⟨gt, 0, none⟩) (m := m) (ct := ct) Hs.out hn.2 Hp.out.pok Hf.out hbut hhome hcut hkl (.inr (by omega)) (by rw [eq_comm, decide_eq_true_eq]; omega) hbox hfz hl')
        obtain ⟨x, hxe⟩ : ∃ x, lowT t + (i : Int) = x := ⟨_, rfl⟩
        rw [hxe] at hx ⊢
        clear hxe hl' hcut hbut hhome ht' hbox hfz hkl hlr
        go_wp2
        go_ret
        exact HEnd.out
  · go_enter Try.func20, Try.ntmps20
    go_wp2
    go_region
    go_wp2
    skip
    go_loopw [12] (fun xv wr => Hid (FillAtI shape n A B t al k cl L w xv wr)) (fun xv _ => (n - intOf xv).toNat)
    case atStart => exact FillAtI.start Hp.out (by rw [Hlow.out, Int.max_def]; split <;> omega) 1
    case round =>
      obtain ⟨i, ak, kk, ck, L', rfl, hbox, hfz, hl', hcut, hkk, hbut, hhome, hin⟩ := hrel.out
      clear hrel
      have hkl := hl'.len
      have hsz := hbut.size
      have ht' := Hp.out.pt.keep Hp.out.pl hA hbut
      have hlr := lowT_range Hp.out.pok
      by_cases hx : lowT t + i < n
      · obtain ⟨x, hxe⟩ : ∃ x, lowT t + (i : Int) = x := ⟨_, rfl⟩
        have hx07 : 0 ≤ x ∧ x ≤ 7 := by omega
        have HX := Lib.hid hxe
        have HL' := Lib.hid hl'
        have HCut := Lib.hid hcut
        have HBut := Lib.hid hbut
        have HHome := Lib.hid hhome
        have HT' := Lib.hid ht'
        have Hbox := Lib.hid hbox
        have Hfz := Lib.hid hfz
        have hkL := Lib.hid hkl
        rw [hxe] at hx ⊢
        clear hxe hl' hcut hbut hhome ht' hbox hfz hkl hlr
        go_wp2_with fail
        refine (cloneIIS_any B w.heap.size gt m ct t _ HT'.out (by omega) (by omega) hsz).mono ?_
        rintro e w1 ⟨a1, c1, rfl, ho1, hlo1, hB1⟩
        obtain ⟨g0, hg0, hct1⟩ := (HT'.out.below hB1).at hjl
        obtain ⟨a2, c2, hc2, hr2⟩ := hct1 j (rowAt t j) (rowAt_some hjl)
        obtain rfl : gt = g0 := by simpa using hg0
        rw [Hc.out] at hc2
        have HO1 := Lib.hid ho1
        have HB1 := Lib.hid hB1
        have Hlo1 := Lib.hid hlo1
        have hs1 := hB1.size
        obtain ⟨g1, rfl, _⟩ := ho1.at hjl
        clear ho1 hB1 hlo1 hct1 hg0
        go_wp2_with fail
        refine (cloneI_any a2 c c2 (rowAt t j) w1 hr2 Hc.out (by omega)).mono ?_
        rintro e w2 ⟨a3, c3, rfl, ho3, hb3⟩
        have HO3 := Lib.hid ho3
        have hb3' := Lib.hid hb3
        have hs2 := hb3.size
        clear ho3 hb3 hc2 hr2
        go_wp2_with (first | (at_builtin; go_loud (refine wpList_pushI (by rfl) (by rfl) _ _ (by rfl) HO3.out (by rfl) (by rfl) (by omega) hs2 ?_)))
        intro a4 c4 w3 ho4 hg4
        have hb4 : Below w1.heap.size w1 w3 := hg4.below hb3'.out hs2 HO3.out.1.lo
        have hs3 := hb4.size
        obtain ⟨g, hgg, hv, hfz, hS, hGr⟩ := ((HO1.out.below hb4).mono hs3).store hjl (ho4.mono (B' := B) (S' := w3.heap.size) (by omega) (Nat.le_refl _))
        obtain rfl : g1 = g := by simpa using hgg
        obtain ⟨v0, hv0⟩ := hv
        have hlo2 : wr.heap.size ≤ g1 := Hlo1.out g1 rfl
        have Hb5 := Lib.hid (show Below wr.heap.size wr (w3.setCell ⟨g1, j, none⟩ (.slice a4 (c + 1) c4)) from (But.of_grown (p := fun q => q = g1) hGr fun k h => by simpa using h.symm).below (HB1.out.trans (hb4.mono hs1)) (by omega) fun k h => by omega)
        have H3 := Lib.hid (show IIS (w3.setCell ⟨g1, j, none⟩ (.slice a4 (c + 1) c4)) B w3.heap.size (some ⟨g1, 0, none⟩) m c1 (putT t x) by rw [Hput.out x]; exact hS)
        clear hgg hS hGr ho4 hg4 hb4
        go_wp2_with fail
        skip
        refine (Hih.out A B wr.heap.size _ ns csh _ m c1 (putT t x) ak kk ck L' _ (FillPreI.next Hp.out Hf.out hx07 HBut.out HL'.out Hbox.out Hfz.out hkk Hb5.out H3.out (by simp) Hlo1.out) (by have := leftT_put (shape := shape) (t := t) (x := x) (notFull Hp.out.pok Hf.out).1 (notFull_len Hs.out Hp.out.pok Hf.out); have := HN.out; omega)).mono ?_
        rintro e w4 ⟨a5, k5', c5, L5, rfl, hbx5, hfz5, hl5, HC5, hb5, hh5⟩
        by_cases hk5 : k5' ≤ 400
        · have HS := Lib.hid (FillAtI.step HX.out hx HCut.out hkL.out hkk HBut.out HHome.out Hb5.out Hlo1.out hbx5 hfz5 hl5 HC5.out hk5 hb5 hh5 (by omega))
          rw [show decide ((k5' : Int) ≤ 400) = true from by rw [decide_eq_true_eq]; omega]
          clear hbx5 hfz5 hl5 HC5 hb5 hh5 H3 Hb5 hv0 hfz hb3' HO3
          go_wp2
          go_roundw
          case rel => exact by simpa [IntWalk.i64_in (x + 1) (by omega)] using HS
          case measure => simp [intOf]; omega
        · have HS := Lib.hid (FillPostI.gone (at' := some ⟨gt, 0, none⟩) (ct := ct) HX.out hx HCut.out hkL.out hkk HBut.out HHome.out Hb5.out Hlo1.out hbx5 hfz5 hl5 HC5.out Hs.out hn.2 Hp.out.pok Hf.out hk5 hb5 hh5)
          rw [show decide ((k5' : Int) ≤ 400) = false from by rw [decide_eq_false_iff_not]; omega]
          clear hbx5 hfz5 hl5 HC5 hb5 hh5 H3 Hb5 hv0 hfz hb3' HO3
          go_wp2
          go_ret
          exact HS.out
      · have HEnd := Lib.hid (FillPostI.done (b := true) (at' := some ⟨gt, 0, none⟩) (m := m) (ct := ct) Hs.out hn.2 Hp.out.pok Hf.out hbut hhome hcut hkl (.inr (by omega)) (by rw [eq_comm, decide_eq_true_eq]; omega) hbox hfz hl')
        obtain ⟨x, hxe⟩ : ∃ x, lowT t + (i : Int) = x := ⟨_, rfl⟩
        rw [hxe] at hx ⊢
        clear hxe hl' hcut hbut hhome ht' hbox hfz hkl hlr
        go_wp2
        go_ret
        exact HEnd.out

set_option maxRecDepth 100000 in
set_option maxHeartbeats 12800000 in
theorem fill_c0 (shape : List Int) (n : Int) (hs : ShOk shape) (_hn : 0 ≤ n ∧ n ≤ 7) (N : Nat) (ih : FillIhI shape n N) (A B T : Nat) (ash : Option Addr) (ns csh : Nat) (at' : Option Addr) (m ct : Nat) (t : List (List Int)) (al : Option Addr) (k cl : Nat) (L : List (List (List Int))) (w : World)
    (hp : FillPreI shape A B T ash ns at' m ct t al k cl L w) (hN : leftT shape t < N + 1) (hm : m = 0) (hns0 : ns = 0) :
    Calls Try.prog 20 #[.slice ash ns csh, .int .i64 n, .slice at' m ct, .func (.func 21) #[] #[.pointer (some ⟨A, 0, none⟩)]] w (FillPostI w A B at' m ct al k cl L (tabsOf shape n t)) := by
  have Hs := Lib.hid hs
  have Hp := Lib.hid hp
  have HN := Lib.hid hN
  have Hih := Lib.hid ih
  have hns := hp.pns
  have hml := hp.pt.len
  have hns16 : ns ≤ 16 := by rw [← hns]; exact hs.few
  have hmn : m ≤ ns := by rw [← hns, ← hml]; exact hp.pok.len
  have hk := hp.pk
  have hszB := hp.pB
  have hA := hp.pA
  have hT := hp.pT
  subst hm hns0
  have hf : fullT shape t = true := by unfold fullT; rw [hml]; rfl
  have Hdone := Lib.hid (tabsOf_done (n := n) hf (by rw [hml, hns]))
  have Hml := Lib.hid hml
  have q0 : IntKind.i64.wrap (((0 : Nat) : Int) - 1) = -1 := by rw [IntWalk.i64_in _ (by omega)]; omega
  have q1 : IntKind.i64.wrap ((-1 : Int) + 1) = 0 := by rw [IntWalk.i64_in _ (by omega)]; omega
  clear hp hs ih hN hml hns hf
  go_enter Try.func20, Try.ntmps20
  go_wp2
  go_region
  go_wp2_with fail
  skip
  refine (tabClo_both A B T _ _ _ t al k cl L _ (Hp.out.pt.rd.drew (Drew.drewN w 1)) Hml.out (by omega) (TOk.short Hs.out Hp.out.pok) hA (by rw [(Drew.drewN w 1).cell (p := ⟨A, 0, none⟩)]; exact Hp.out.pbox) (((Drew.below (Drew.drewN w 1) w.heap.size).frozen (p := ⟨A, 0, none⟩) (show A < _ by omega)).trans Hp.out.pfz) (Hp.out.pl.below ((Drew.drewN w 1).below _)) hszB hT hk).mono ?_
  rintro e w1 ⟨a1, c1, rfl, h2, h3, h4, h5, h6⟩
  have HE := Lib.hid (show FillPostI w A B _ 0 ct al k cl L (tabsOf shape n t) (.returned (.bool (decide (((k + 1 : Nat) : Int) ≤ 400)))) w1 from ⟨a1, k + 1, c1, L ++ [t], rfl, h2, h3, h4, by rw [Hdone.out]; exact Lib.hid (Cut.one (by rw [Hp.out.pl.len]; exact hk)),
    ((But.of_below (p := fun q => q = A ∨ (Value.slice al k cl).ownBlock = some q ∨ (Value.slice at' 0 ct).ownBlock = some q) ((Drew.drewN w 1).below _)).trans h5 fun i _ h => by rcases h with h | h; exact .inl h; exact .inr (.inl h)), h6⟩)
  clear h2 h3 h4 h5 h6
  go_wp2
  go_ret
  exact by simpa using HE.out

set_option maxRecDepth 100000 in
set_option maxHeartbeats 12800000 in
theorem fill_c1 (shape : List Int) (n : Int) (hs : ShOk shape) (_hn : 0 ≤ n ∧ n ≤ 7) (N : Nat) (ih : FillIhI shape n N) (A B T : Nat) (ash : Option Addr) (ns csh : Nat) (at' : Option Addr) (m ct : Nat) (t : List (List Int)) (al : Option Addr) (k cl : Nat) (L : List (List (List Int))) (w : World)
    (hp : FillPreI shape A B T ash ns at' m ct t al k cl L w) (hN : leftT shape t < N + 1) (j c : Nat) (hj : m = j + 1) (hcl : (lastT t).length = c) (hf : fullT shape t = true) (hmns : m = ns) :
    Calls Try.prog 20 #[.slice ash ns csh, .int .i64 n, .slice at' m ct, .func (.func 21) #[] #[.pointer (some ⟨A, 0, none⟩)]] w (FillPostI w A B at' m ct al k cl L (tabsOf shape n t)) := by
  have Hs := Lib.hid hs
  have Hp := Lib.hid hp
  have HN := Lib.hid hN
  have Hih := Lib.hid ih
  have hns := hp.pns
  have hml := hp.pt.len
  have hns16 : ns ≤ 16 := by rw [← hns]; exact hs.few
  have hmn : m ≤ ns := by rw [← hns, ← hml]; exact hp.pok.len
  have hk := hp.pk
  have hszB := hp.pB
  have hA := hp.pA
  have hT := hp.pT
  have hjl : j < t.length := by omega
  have hjs : j < shape.length := by omega
  have hjm : j < m := by omega
  have hjn : j < ns := by omega
  have hjmI : (j : Int) < (m : Int) := by omega
  have hjnI : (j : Int) < (ns : Int) := by omega
  have q0 : IntKind.i64.wrap ((m : Int) - 1) = (j : Int) := by rw [IntWalk.i64_in _ (by omega)]; omega
  have hlast : lastT t = rowAt t j := by unfold lastT; rw [hml, hj]; rfl
  obtain ⟨gt, hat, hct⟩ := hp.pt.at hjl
  obtain ⟨ar, cr, hcr, hrr⟩ := hct j (rowAt t j) (rowAt_some hjl)
  obtain ⟨bs, os, hash, hcs⟩ := hp.psh.1.at hjs
  obtain ⟨sj, hsj⟩ := some_at rfl hjs
  have hcsj := hcs j sj hsj
  have hsg : shape.getD j 0 = sj := getD_of hsj
  have hc : (rowAt t j).length = c := by rw [← hlast]; exact hcl
  rw [hc] at hcr
  have hc16 : c ≤ 16 := by rw [← hcl]; exact lastT_len hs hp.pok
  have k0 : (0 : Int) ≤ (j : Int) := by omega
  have k3 : (-1 : Int) < (j : Int) := by omega
  have k5 : decide ((j : Int) < 0) = false := by simp
  have hfe : (c : Int) = sj := by
    unfold fullT at hf
    rw [hcl, hml, show m - 1 = j by omega, hsg] at hf
    simp at hf
    omega
  have hfb : ((c : Int) == sj) = true := by rw [beq_iff_eq]; exact hfe
  have q1 : IntKind.i64.wrap ((j : Int) + 1) = (m : Int) := by rw [IntWalk.i64_in _ (by omega)]; omega
  have Hdone := Lib.hid (tabsOf_done (n := n) hf (by omega))
  have hmnI : ((m : Int) == (ns : Int)) = true := by rw [beq_iff_eq]; omega
  have Hml := Lib.hid hml
  subst hat hash
  clear hct hcs hlast hp hs ih hN hml hns hj hcl hc hf hsj hsg hmns
  go_enter Try.func20, Try.ntmps20
  go_wp2
  go_region
  go_wp2_with fail
  skip
  refine (tabClo_both A B T _ _ _ t al k cl L _ (Hp.out.pt.rd.drew (Drew.drewN w 1)) Hml.out (by omega) (TOk.short Hs.out Hp.out.pok) hA (by rw [(Drew.drewN w 1).cell (p := ⟨A, 0, none⟩)]; exact Hp.out.pbox) (((Drew.below (Drew.drewN w 1) w.heap.size).frozen (p := ⟨A, 0, none⟩) (show A < _ by omega)).trans Hp.out.pfz) (Hp.out.pl.below ((Drew.drewN w 1).below _)) hszB hT hk).mono ?_
  rintro e w1 ⟨a1, c1, rfl, h2, h3, h4, h5, h6⟩
  have HE := Lib.hid (show FillPostI w A B _ m ct al k cl L (tabsOf shape n t) (.returned (.bool (decide (((k + 1 : Nat) : Int) ≤ 400)))) w1 from ⟨a1, k + 1, c1, L ++ [t], rfl, h2, h3, h4, by rw [Hdone.out]; exact Lib.hid (Cut.one (by rw [Hp.out.pl.len]; exact hk)),
    ((But.of_below (p := fun q => q = A ∨ (Value.slice al k cl).ownBlock = some q ∨ (Value.slice (some ⟨gt, 0, none⟩) m ct).ownBlock = some q) ((Drew.drewN w 1).below _)).trans h5 fun i _ h => by rcases h with h | h; exact .inl h; exact .inr (.inl h)), h6⟩)
  clear h2 h3 h4 h5 h6
  go_wp2
  go_ret
  exact by simpa using HE.out

set_option maxRecDepth 100000 in
set_option maxHeartbeats 12800000 in
theorem fill_b0 (shape : List Int) (n : Int) (hs : ShOk shape) (hn : 0 ≤ n ∧ n ≤ 7) (N : Nat) (ih : FillIhI shape n N) (A B T : Nat) (ash : Option Addr) (ns csh : Nat) (at' : Option Addr) (m ct : Nat) (t : List (List Int)) (al : Option Addr) (k cl : Nat) (L : List (List (List Int))) (w : World)
    (hp : FillPreI shape A B T ash ns at' m ct t al k cl L w) (hN : leftT shape t < N + 1) (hm : m = 0) (hns0 : 0 < ns) :
    Calls Try.prog 20 #[.slice ash ns csh, .int .i64 n, .slice at' m ct, .func (.func 21) #[] #[.pointer (some ⟨A, 0, none⟩)]] w (FillPostI w A B at' m ct al k cl L (tabsOf shape n t)) := by
  have Hs := Lib.hid hs
  have Hp := Lib.hid hp
  have HN := Lib.hid hN
  have Hih := Lib.hid ih
  have hns := hp.pns
  have hml := hp.pt.len
  have hns16 : ns ≤ 16 := by rw [← hns]; exact hs.few
  have hmn : m ≤ ns := by rw [← hns, ← hml]; exact hp.pok.len
  have hk := hp.pk
  have hszB := hp.pB
  have hA := hp.pA
  have hT := hp.pT
  subst hm
  have hf : fullT shape t = true := by unfold fullT; rw [hml]; rfl
  have hnf2 := fullT_new hs (t := t) (by omega)
  have Hok2 := Lib.hid (hp.pok.row hs hf (by omega))
  have Hrow := Lib.hid (tabsOf_row (n := n) hs hn.2 hp.pok hf (by omega))
  have Hleft := Lib.hid (leftT_row (shape := shape) (t := t) (by omega) (lastT_len hs hp.pok))
  have Hml := Lib.hid hml
  have Hns := Lib.hid hns
  have q0 : IntKind.i64.wrap (((0 : Nat) : Int) - 1) = -1 := by rw [IntWalk.i64_in _ (by omega)]; omega
  have q1 : IntKind.i64.wrap ((-1 : Int) + 1) = 0 := by rw [IntWalk.i64_in _ (by omega)]; omega
  have hne : ((0 : Int) == (ns : Int)) = false := by rw [beq_eq_false_iff_ne]; omega
  clear hp hs ih hN hml hns hf hnf2
  have hbd : Below w.heap.size w w.drew := (Drew.drewN w 1).below _
  have hsd : w.drew.heap.size = w.heap.size := rfl
  have H1 : OwI (w.drew.alloc (.cells #[] 3)) w.drew.heap.size (w.drew.alloc (.cells #[] 3)).heap.size (some ⟨w.drew.heap.size, 0, none⟩) 0 0 [] := OwI.mk (World.ownsRow_made _ #[] 0 (Nat.le_refl _) (Nat.zero_le _) rfl)
  have hb0 : Below w.heap.size w (w.drew.alloc (.cells #[] 3)) := hbd.alloc (Nat.le_refl _) _
  have hsz1 : (w.drew.alloc (.cells #[] 3)).heap.size = w.heap.size + 1 := by simp
  have Ht := Lib.hid (Hp.out.pt.below hb0)
  have H1' := Lib.hid (H1.mono (B' := B) (S' := (w.drew.alloc (.cells #[] 3)).heap.size) (by rw [hsd]; exact hszB) (Nat.le_refl _))
  have Hb0 := Lib.hid hb0
  clear H1 hb0 hbd
  go_enter Try.func20, Try.ntmps20
  go_wp2
  go_region
  go_wp2_with (first | (at_builtin; go_loud (refine wpList_pushIIS (by rfl) (by rfl) _ _ (by rfl) Ht.out (by rfl) H1'.out (by rw [hsz1]; rfl) (by omega) (by omega) (by omega) (Nat.le_refl _) ?_)))
  intro a2 c2 w2 ht2 hg2
  have hg := (Grows.of_below (.slice at' 0 ct) Hb0.out).trans hg2
  have hs2 := hg.grown.size
  have hBT : Below T w w2 := hg.below (Below.refl T w) hT Hp.out.ptl
  have HBut := Lib.hid (show But (fun q => q = A ∨ (Value.slice al k cl).ownBlock = some q ∨ (Value.slice at' 0 ct).ownBlock = some q) w w2 from But.of_grown hg.grown fun _ h => .inr (.inr h))
  have hTB := Hp.out.pBT
  have HP2 := Lib.hid (show FillPreI shape A B T ash ns a2 (0 + 1) c2 (t ++ [[]]) al k cl L w2 from ⟨Hp.out.psh.below (hBT.mono (by omega)), Hp.out.pns, ht2, hA, by omega, hTB, by omega, Hp.out.pl.past hg Hp.out.ptl Hp.out.pt.hi, by rw [hBT.cell (p := ⟨A, 0, none⟩) (show A < _ by omega)]; exact Hp.out.pbox, by rw [hBT.frozen (p := ⟨A, 0, none⟩) (show A < _ by omega)]; exact Hp.out.pfz, fun q hq => (hg.home.elim (fun h => Hp.out.ptl q (by rw [← h]; exact hq)) fun h => Nat.le_trans hT (h q hq)), Hok2.out, hk⟩)
  have HHome := Lib.hid hg.home
  clear hg hg2 ht2 hBT
  go_wp2_with fail
  skip
  refine (Hih.out A B T _ ns csh a2 (0 + 1) c2 (t ++ [[]]) al k cl L w2 HP2.out (by have := Hleft.out; have := HN.out; omega)).mono ?_
  intro e w3 h3
  have H3 := Lib.hid (show FillPostI w A B at' 0 ct al k cl L (tabsOf shape n t) e w3 from by rw [Hrow.out]; exact FillPostI.before HBut.out HHome.out h3)
  clear h3
  obtain ⟨a', k', c', L', rfl, _⟩ := H3.out
  go_wp2
  go_ret
  exact by simpa using H3.out

set_option maxRecDepth 100000 in
set_option maxHeartbeats 12800000 in
theorem fill_b1 (shape : List Int) (n : Int) (hs : ShOk shape) (hn : 0 ≤ n ∧ n ≤ 7) (N : Nat) (ih : FillIhI shape n N) (A B T : Nat) (ash : Option Addr) (ns csh : Nat) (at' : Option Addr) (m ct : Nat) (t : List (List Int)) (al : Option Addr) (k cl : Nat) (L : List (List (List Int))) (w : World)
    (hp : FillPreI shape A B T ash ns at' m ct t al k cl L w) (hN : leftT shape t < N + 1) (j c : Nat) (hj : m = j + 1) (hcl : (lastT t).length = c) (hf : fullT shape t = true) (hmns : m < ns) :
    Calls Try.prog 20 #[.slice ash ns csh, .int .i64 n, .slice at' m ct, .func (.func 21) #[] #[.pointer (some ⟨A, 0, none⟩)]] w (FillPostI w A B at' m ct al k cl L (tabsOf shape n t)) := by
  have Hs := Lib.hid hs
  have Hp := Lib.hid hp
  have HN := Lib.hid hN
  have Hih := Lib.hid ih
  have hns := hp.pns
  have hml := hp.pt.len
  have hns16 : ns ≤ 16 := by rw [← hns]; exact hs.few
  have hmn : m ≤ ns := by rw [← hns, ← hml]; exact hp.pok.len
  have hk := hp.pk
  have hszB := hp.pB
  have hA := hp.pA
  have hT := hp.pT
  have hjl : j < t.length := by omega
  have hjs : j < shape.length := by omega
  have hjm : j < m := by omega
  have hjn : j < ns := by omega
  have hjmI : (j : Int) < (m : Int) := by omega
  have hjnI : (j : Int) < (ns : Int) := by omega
  have q0 : IntKind.i64.wrap ((m : Int) - 1) = (j : Int) := by rw [IntWalk.i64_in _ (by omega)]; omega
  have hlast : lastT t = rowAt t j := by unfold lastT; rw [hml, hj]; rfl
  obtain ⟨gt, hat, hct⟩ := hp.pt.at hjl
  obtain ⟨ar, cr, hcr, hrr⟩ := hct j (rowAt t j) (rowAt_some hjl)
  obtain ⟨bs, os, hash, hcs⟩ := hp.psh.1.at hjs
  obtain ⟨sj, hsj⟩ := some_at rfl hjs
  have hcsj := hcs j sj hsj
  have hsg : shape.getD j 0 = sj := getD_of hsj
  have hc : (rowAt t j).length = c := by rw [← hlast]; exact hcl
  rw [hc] at hcr
  have hc16 : c ≤ 16 := by rw [← hcl]; exact lastT_len hs hp.pok
  have k0 : (0 : Int) ≤ (j : Int) := by omega
  have k3 : (-1 : Int) < (j : Int) := by omega
  have k5 : decide ((j : Int) < 0) = false := by simp
  have hfe : (c : Int) = sj := by
    unfold fullT at hf
    rw [hcl, hml, show m - 1 = j by omega, hsg] at hf
    simp at hf
    omega
  have hfb : ((c : Int) == sj) = true := by rw [beq_iff_eq]; exact hfe
  have q1 : IntKind.i64.wrap ((j : Int) + 1) = (m : Int) := by rw [IntWalk.i64_in _ (by omega)]; omega
  have hnf2 := fullT_new hs (t := t) (by omega)
  have Hok2 := Lib.hid (hp.pok.row hs hf (by omega))
  have Hrow := Lib.hid (tabsOf_row (n := n) hs hn.2 hp.pok hf (by omega))
  have Hleft := Lib.hid (leftT_row (shape := shape) (t := t) (by omega) (lastT_len hs hp.pok))
  have Hml := Lib.hid hml
  have Hns := Lib.hid hns
  have Hj := Lib.hid hj
  have hmnI : ((m : Int) == (ns : Int)) = false := by rw [beq_eq_false_iff_ne]; omega
  subst hat hash
  clear hct hcs hlast hp hs ih hN hml hns hj hcl hc hf hsj hsg hnf2
  have hbd : Below w.heap.size w w.drew := (Drew.drewN w 1).below _
  have hsd : w.drew.heap.size = w.heap.size := rfl
  have H1 : OwI (w.drew.alloc (.cells #[] 3)) w.drew.heap.size (w.drew.alloc (.cells #[] 3)).heap.size (some ⟨w.drew.heap.size, 0, none⟩) 0 0 [] := OwI.mk (World.ownsRow_made _ #[] 0 (Nat.le_refl _) (Nat.zero_le _) rfl)
  have hb0 : Below w.heap.size w (w.drew.alloc (.cells #[] 3)) := hbd.alloc (Nat.le_refl _) _
  have hsz1 : (w.drew.alloc (.cells #[] 3)).heap.size = w.heap.size + 1 := by simp
  have Ht := Lib.hid (Hp.out.pt.below hb0)
  have H1' := Lib.hid (H1.mono (B' := B) (S' := (w.drew.alloc (.cells #[] 3)).heap.size) (by rw [hsd]; exact hszB) (Nat.le_refl _))
  have Hb0 := Lib.hid hb0
  clear H1 hb0 hbd
  go_enter Try.func20, Try.ntmps20
  go_wp2
  go_region
  go_wp2_with (first | (at_builtin; go_loud (refine wpList_pushIIS (by rfl) (by rfl) _ _ (by rfl) Ht.out (by rfl) H1'.out (by rw [hsz1]; rfl) (by omega) (by omega) (by omega) (Nat.le_refl _) ?_)))
  intro a2 c2 w2 ht2 hg2
  have hg := (Grows.of_below (.slice (some ⟨gt, 0, none⟩) m ct) Hb0.out).trans hg2
  have hs2 := hg.grown.size
  have hBT : Below T w w2 := hg.below (Below.refl T w) hT Hp.out.ptl
  have HBut := Lib.hid (show But (fun q => q = A ∨ (Value.slice al k cl).ownBlock = some q ∨ (Value.slice (some ⟨gt, 0, none⟩) m ct).ownBlock = some q) w w2 from But.of_grown hg.grown fun _ h => .inr (.inr h))
  have hTB := Hp.out.pBT
  have HP2 := Lib.hid (show FillPreI shape A B T (some ⟨bs, os, none⟩) ns a2 (m + 1) c2 (t ++ [[]]) al k cl L w2 from ⟨Hp.out.psh.below (hBT.mono (by omega)), Hp.out.pns, ht2, hA, by omega, hTB, by omega, Hp.out.pl.past hg Hp.out.ptl Hp.out.pt.hi, by rw [hBT.cell (p := ⟨A, 0, none⟩) (show A < _ by omega)]; exact Hp.out.pbox, by rw [hBT.frozen (p := ⟨A, 0, none⟩) (show A < _ by omega)]; exact Hp.out.pfz, fun q hq => (hg.home.elim (fun h => Hp.out.ptl q (by rw [← h]; exact hq)) fun h => Nat.le_trans hT (h q hq)), Hok2.out, hk⟩)
  have HHome := Lib.hid hg.home
  clear hg hg2 ht2 hBT
  go_wp2_with fail
  skip
  refine (Hih.out A B T _ ns csh a2 (m + 1) c2 (t ++ [[]]) al k cl L w2 HP2.out (by have := Hleft.out; have := HN.out; omega)).mono ?_
  intro e w3 h3
  have H3 := Lib.hid (show FillPostI w A B (some ⟨gt, 0, none⟩) m ct al k cl L (tabsOf shape n t) e w3 from by rw [Hrow.out]; exact FillPostI.before HBut.out HHome.out h3)
  clear h3
  obtain ⟨a', k', c', L', rfl, _⟩ := H3.out
  go_wp2
  go_ret
  exact by simpa using H3.out

theorem fill_any (shape : List Int) (n : Int) (hs : ShOk shape) (hn : 0 ≤ n ∧ n ≤ 7) : ∀ N, FillIhI shape n N
  | 0 => by
    intro A B T ash ns csh at' m ct t al k cl L w hp h
    omega
  | N + 1 => by
    intro A B T ash ns csh at' m ct t al k cl L w hp h
    have ih := fill_any shape n hs hn N
    have hml := hp.pt.len
    have hns := hp.pns
    have hle := hp.pok.len
    by_cases hm : m = 0
    · by_cases h0 : ns = 0
      · exact fill_c0 shape n hs hn N ih A B T ash ns csh at' m ct t al k cl L w hp h hm h0
      · exact fill_b0 shape n hs hn N ih A B T ash ns csh at' m ct t al k cl L w hp h hm (by omega)
    · have hj : m = (m - 1) + 1 := by omega
      by_cases hf : fullT shape t = true
      · by_cases h0 : m = ns
        · exact fill_c1 shape n hs hn N ih A B T ash ns csh at' m ct t al k cl L w hp h (m - 1) _ hj rfl hf h0
        · exact fill_b1 shape n hs hn N ih A B T ash ns csh at' m ct t al k cl L w hp h (m - 1) _ hj rfl hf (by omega)
      · rw [Bool.not_eq_true] at hf
        by_cases hc : 0 < (lastT t).length
        · by_cases h0 : 0 < m - 1
          · exact fill_a11 shape n hs hn N ih A B T ash ns csh at' m ct t al k cl L w hp h (m - 1) _ hj rfl hf hc h0
          · exact fill_a10 shape n hs hn N ih A B T ash ns csh at' m ct t al k cl L w hp h (m - 1) _ hj rfl hf hc h0
        · by_cases h0 : 0 < m - 1
          · exact fill_a01 shape n hs hn N ih A B T ash ns csh at' m ct t al k cl L w hp h (m - 1) _ hj rfl hf hc h0
          · exact fill_a00 shape n hs hn N ih A B T ash ns csh at' m ct t al k cl L w hp h (m - 1) _ hj rfl hf hc h0
end Go.Proofs.Ytpjkhkoecgjjbaa
