/-
  Contract of first: the exponents of the greatest term.
  Contract of PermOfCode, for codes that are not right.
  Contracts of l1Same and slices.Equal: two lists of integers compared.
-/
import Derived.Test.YtomejjbkakpoiaaGreatBuE11
import Derived.Test.YtomejjbkakpoiaaGreatBuE7
import Derived.Test.YtomejjbkakpoiaaGreatBuE14
import Derived.Test.YtomejjbkakpoiaaGreatBuE1
namespace Go.Proofs.YtomejjbkakpoiaaGreat
open Go.RowKit Go.MapKept Go.ChangeMaps

/-- seven numbers stored into a block, one behind the other -/
def put7 (w : World) (g : Nat) (k : Int) : World :=
  ((((((w.setCell ⟨g, 0, none⟩ (.int .i64 (dig k 0))).setCell ⟨g, 1, none⟩ (.int .i64 (dig k 1))).setCell ⟨g, 2, none⟩ (.int .i64 (dig k 2))).setCell ⟨g, 3, none⟩ (.int .i64 (dig k 3))).setCell ⟨g, 4, none⟩ (.int .i64 (dig k 4))).setCell ⟨g, 5, none⟩ (.int .i64 (dig k 5))).setCell ⟨g, 6, none⟩ (.int .i64 (dig k 6))
theorem put7_same {w : World} {g : Nat} {j : Int} (h : w.heap[g]? = some (.cells (cells7 j) 85)) (k : Int) : (put7 w g k).heap[g]? = some (.cells (cells7 k) 85) := by
  unfold put7
  have h0 := heap_setCell_same w g 0 _ _ (.int .i64 (dig k 0)) h
  have h1 := heap_setCell_same _ g 1 _ _ (.int .i64 (dig k 1)) h0
  have h2 := heap_setCell_same _ g 2 _ _ (.int .i64 (dig k 2)) h1
  have h3 := heap_setCell_same _ g 3 _ _ (.int .i64 (dig k 3)) h2
  have h4 := heap_setCell_same _ g 4 _ _ (.int .i64 (dig k 4)) h3
  have h5 := heap_setCell_same _ g 5 _ _ (.int .i64 (dig k 5)) h4
  have h6 := heap_setCell_same _ g 6 _ _ (.int .i64 (dig k 6)) h5
  rw [h6]
  simp [cells7]
theorem put7_other (w : World) (g : Nat) (k : Int) {b : Nat} (h : b ≠ g) : (put7 w g k).heap[b]? = w.heap[b]? := by
  unfold put7
  repeat rw [heap_setCell_other _ _ b _ h]
theorem put7_size (w : World) (g : Nat) (k : Int) : (put7 w g k).heap.size = w.heap.size := by unfold put7; simp
theorem put7_below {B : Nat} (w : World) {g : Nat} (k : Int) (h : B ≤ g) : Below B w (put7 w g k) := by
  unfold put7
  exact ((((((below_setCell 0 _ h).trans (below_setCell 1 _ h)).trans (below_setCell 2 _ h)).trans (below_setCell 3 _ h)).trans (below_setCell 4 _ h)).trans (below_setCell 5 _ h)).trans (below_setCell 6 _ h)
theorem one_grown (w : World) (g i : Nat) (v : Value) : w.grownBy (w.setCell ⟨g, i, none⟩ v) (some g) :=
  ⟨rfl, rfl, rfl, by simp, fun b _ hb => heap_setCell_other w ⟨g, i, none⟩ b v (fun e => hb (by rw [show b = g from e]))⟩
theorem put7_grown (w : World) (g : Nat) (k : Int) : w.grownBy (put7 w g k) (some g) := by
  unfold put7
  exact grownBy_trans (grownBy_trans (grownBy_trans (grownBy_trans (grownBy_trans (grownBy_trans (one_grown w g 0 _) (one_grown _ g 1 _)) (one_grown _ g 2 _)) (one_grown _ g 3 _)) (one_grown _ g 4 _)) (one_grown _ g 5 _)) (one_grown _ g 6 _)
theorem keyL_digs' {k : Int} (h : inK k) : keyL (digs k) = k := keyL_digs h
theorem digs_Digs (k : Int) : Digs (digs k) := fun x hx => by
  obtain ⟨i, _, rfl⟩ := List.mem_map.1 hx
  exact dig_isD k i
theorem size7 : (Tryz.prog.info? 85).map (·.size) = some 7 := by kernel_rfl
theorem zero7 : (cells7 0) = #[.int .i64 0, .int .i64 0, .int .i64 0, .int .i64 0, .int .i64 0, .int .i64 0, .int .i64 0] := by
  have : ∀ j, dig 0 j = 0 := fun j => by unfold dig; simp
  unfold cells7
  simp only [this]
/-- the best so far, and whether there is one -/
def Best (sm : Bool) (kb : Int) (don : Mons) : Prop := (sm = false → don = []) ∧ (sm = true → inK kb ∧ (∃ p ∈ don, p.1 = kb) ∧ ∀ p ∈ don, p.1 ≤ kb)
set_option maxRecDepth 100000 in
set_option maxHeartbeats 3200000 in
theorem first_any (b : Nat) (F : Mons) (w : World) (hF : PF w b F) {k c : Int} {rest : Mons} (hc : canon F = (k, c) :: rest) :
    Calls Tryz.prog 55 #[.map (some b)] w fun e w' => e = .returned (kV k) ∧ Below w.heap.size w w' := by
  obtain ⟨lf, hlf, hpf⟩ := hF
  have hkf : ∀ p ∈ lf, inK p.1 ∧ in64 p.2 := by obtain ⟨_, _, _, _, _, h⟩ := hlf; exact h
  have hsort := canon_sorted F
  have Htop := Lib.hid (show (∀ p ∈ lf, p.1 ≤ k) ∧ (k, c) ∈ lf from by
    rw [hc] at hpf hsort
    refine ⟨fun p hp => ?_, hpf.mem_iff.2 List.mem_cons_self⟩
    rcases List.mem_cons.1 (hpf.mem_iff.1 hp) with rfl | h
    · exact Int.le_refl _
    · exact Int.le_of_lt (List.rel_of_pairwise_cons hsort h))
  have Hkf := Lib.hid hkf
  have HBW := Lib.hid (show Below w.heap.size w ((w.alloc (.cells #[.int .i64 0, .int .i64 0, .int .i64 0, .int .i64 0, .int .i64 0, .int .i64 0, .int .i64 0] 85)).alloc (.cells #[.int .i64 0, .int .i64 0, .int .i64 0, .int .i64 0, .int .i64 0, .int .i64 0, .int .i64 0] 85)) from ((Below.refl _ _).alloc (Nat.le_refl _) _).alloc (by simp) _)
  have HG2 := Lib.hid (heap_alloc2_old w (.cells #[.int .i64 0, .int .i64 0, .int .i64 0, .int .i64 0, .int .i64 0, .int .i64 0, .int .i64 0] 85) (.cells #[.int .i64 0, .int .i64 0, .int .i64 0, .int .i64 0, .int .i64 0, .int .i64 0, .int .i64 0] 85))
  have HG3 := Lib.hid (heap_alloc2_new w (.cells #[.int .i64 0, .int .i64 0, .int .i64 0, .int .i64 0, .int .i64 0, .int .i64 0, .int .i64 0] 85) (.cells #[.int .i64 0, .int .i64 0, .int .i64 0, .int .i64 0, .int .i64 0, .int .i64 0, .int .i64 0] 85))
  have hlfW := hlf.below HBW.out
  have hblt := hlf.lt
  clear hkf hsort hc hpf hlf
  go_enter Tryz.func55, Tryz.ntmps55
  go_wp2_with (first | (at_range; refine wpList_range_P _ (by rfl) _ (by rfl) b lf (by rfl) hlfW ?_; intro w0 hr0 hB0 _) | go_in)
  go_frame
  generalize hR : ((w.alloc (.cells #[.int .i64 0, .int .i64 0, .int .i64 0, .int .i64 0, .int .i64 0, .int .i64 0, .int .i64 0] 85)).alloc (.cells #[.int .i64 0, .int .i64 0, .int .i64 0, .int .i64 0, .int .i64 0, .int .i64 0, .int .i64 0] 85)).heap.size = R at hr0 ⊢
  have hRw : R = w.heap.size + 1 + 1 := by rw [← hR]; simp
  have HRw := Lib.hid hRw
  have hz0 := hB0.size
  have g20 : w0.heap[w.heap.size]? = some (.cells (cells7 0) 85) := by rw [hB0.block _ (by simp only [World.alloc, Array.size_push]; omega), zero7]; exact HG2.out
  have g30 : w0.heap[w.heap.size + 1]? = some (.cells (cells7 0) 85) := by rw [hB0.block _ (by simp only [World.alloc, Array.size_push]; omega), zero7]; exact HG3.out
  have hBw0 := HBW.out.trans (hB0.mono HBW.out.size)
  clear hz0 HG2 HG3 HBW hlfW hB0 hR hRw
  go_loopw [4, 9] (fun fv _ wr => ∃ (don left : Mons) (sm : Bool) (kb : Int), PRg wr b R lf left ∧ Hid (lf.Perm (don ++ left)) ∧ fv = .bool sm ∧ Hid (Best sm kb don) ∧ wr.heap[w.heap.size]? = some (.cells (cells7 0) 85) ∧ wr.heap[w.heap.size + 1]? = some (.cells (cells7 kb) 85) ∧ Below w.heap.size w wr) (fun _ _ wr => wr.rangeLeft b R)
  case atStart => exact ⟨[], lf, false, 0, hr0, List.Perm.refl _, rfl, ⟨fun _ => rfl, fun h => by cases h⟩, g20, g30, hBw0⟩
  case round =>
    clear hr0 g20 g30 hBw0
    obtain ⟨don, left, sm, kb, hr, HP, rfl, HBt, g2, g3, hB⟩ := hrel
    obtain ⟨wo, rfl⟩ : ∃ wo : World, wo = wr := ⟨_, rfl⟩
    go_wp2_with (first | (at_next; refine wpList_next_P _ (by rfl) _ (by rfl) b R lf left (by rfl) hr ?_ ?_) | go_in)
    · intro hleft
      subst hleft
      rw [List.append_nil] at HP
      have Hfin := Lib.hid (show sm = true ∧ kb = k from by
        have hm := HP.out.mem_iff.1 Htop.out.2
        have h1 : sm = true := by
          cases sm with
          | true => rfl
          | false => rw [HBt.out.1 rfl] at hm; cases hm
        obtain ⟨_, ⟨p, hp, hpe⟩, hle⟩ := HBt.out.2 h1
        have h3 := hle _ hm
        have h4 := Htop.out.1 p (HP.out.mem_iff.2 hp)
        simp only at h3
        exact ⟨h1, by omega⟩)
      have g3' : wo.heap[w.heap.size + 1]? = some (.cells (cells7 k) 85) := by rw [← Hfin.out.2]; exact g3
      obtain ⟨b0, b1, b2, b3, b4, b5, b6⟩ := cells7_at g3'
      obtain ⟨e0, f0⟩ := cells7_cell g2 (i := 0) (by omega)
      obtain ⟨e1, f1⟩ := cells7_cell g2 (i := 1) (by omega)
      obtain ⟨e2, f2⟩ := cells7_cell g2 (i := 2) (by omega)
      obtain ⟨e3, f3⟩ := cells7_cell g2 (i := 3) (by omega)
      obtain ⟨e4, f4⟩ := cells7_cell g2 (i := 4) (by omega)
      obtain ⟨e5, f5⟩ := cells7_cell g2 (i := 5) (by omega)
      obtain ⟨e6, f6⟩ := cells7_cell g2 (i := 6) (by omega)
      have Hg := Lib.hid (put7_same g2 k)
      have HBe := Lib.hid (hB.trans (put7_below (B := w.heap.size) wo k (Nat.le_refl _)))
      unfold put7 at Hg HBe
      clear hr g2 g3 g3' hB
      go_wp2
      refine bodyPost_ret (results_cell_row rfl _ _ (w.heap.size) _ _ (0, 0) _ rfl Hg.out undA rfl size7) rfl ?_
      exact ⟨rfl, HBe.out⟩
    · intro k0 c0 left' w1 hp hr1 hg1 hz1 hen
      have hmem := HP.out.mem_iff.2 (List.mem_append_right _ (hp.mem_iff.2 List.mem_cons_self))
      obtain ⟨hk0, _⟩ := Hkf.out (k0, c0) hmem
      simp only at hk0
      have hRz := HRw.out
      have hB1 := below_of_grown hB hg1 hB.size (by omega)
      have g2' : w1.heap[w.heap.size]? = some (.cells (cells7 0) 85) := by rw [hg1.block _ (Array.getElem?_eq_some_iff.1 g2).1 (by simp; omega)]; exact g2
      have g3' : w1.heap[w.heap.size + 1]? = some (.cells (cells7 kb) 85) := by rw [hg1.block _ (Array.getElem?_eq_some_iff.1 g3).1 (by simp; omega)]; exact g3
      unfold kV at hen ⊢
      obtain ⟨W1, hW1⟩ : ∃ W1, w1.alloc (.cells (cells7 k0) 85) = W1 := ⟨_, rfl⟩
      have g0 : W1.heap[w1.heap.size]? = some (.cells (cells7 k0) 85) := by rw [← hW1]; exact heap_alloc_new w1 _
      have hBW1 : Below w1.heap.size w1 W1 := by rw [← hW1]; exact (Below.refl _ _).alloc (Nat.le_refl _) _
      have g2W : W1.heap[w.heap.size]? = some (.cells (cells7 0) 85) := by rw [hBW1.block _ (Array.getElem?_eq_some_iff.1 g2').1]; exact g2'
      have g3W : W1.heap[w.heap.size + 1]? = some (.cells (cells7 kb) 85) := by rw [hBW1.block _ (Array.getElem?_eq_some_iff.1 g3').1]; exact g3'
      have hr2 := hr1.below hBW1
      have hB2 := hB1.trans (hBW1.mono hB1.size)
      have hmeas := hr.left_eq
      have hlen := hp.length_eq
      have HP3 := Lib.hid (show lf.Perm ((k0, c0) :: don ++ left') from HP.out.trans ((hp.append_left don).trans List.perm_middle))
      have Hz1 := Lib.hid hz1
      have hne1 : some R ≠ some (w.heap.size + 1) := by simp; omega
      have hbne : some b ≠ some (w.heap.size + 1) := by simp; omega
      unfold cells7 at hW1
      clear hz1 hB hg1 hB1 hr1 hBW1 g2 g3 g2' g3' hp hr hRz
      obtain ⟨a0, a1, a2, a3, a4, a5, a6⟩ := cells7_at g0
      -- what is best from now on
      by_cases hsm : sm = true ∧ ¬ kb < k0
      · obtain ⟨hs1, hle⟩ := hsm
        have HB3 := Lib.hid (show Best true kb ((k0, c0) :: don) from ⟨fun h => (by cases h), fun _ => by
          obtain ⟨i1, ⟨p, hp, hpe⟩, i3⟩ := HBt.out.2 hs1
          exact ⟨i1, ⟨p, List.mem_cons_of_mem _ hp, hpe⟩, fun q hq => by
            rcases List.mem_cons.1 hq with rfl | hq
            · show k0 ≤ kb; omega
            · exact i3 q hq⟩⟩)
        have hkb := (HBt.out.2 hs1).1
        obtain ⟨T, hT⟩ : ∃ T, byTo (digs k0) (digs kb) 7 = T := ⟨_, rfl⟩
        have HT := Lib.hid hT
        have hg : decide (T < 0) = false := by
          have := (byTo_key (digs_length k0) (digs_length kb) (digs_Digs k0) (digs_Digs kb)).1
          rw [hT, keyL_digs hk0, keyL_digs hkb] at this
          simp only [decide_eq_false_iff_not, this]
          exact hle
        have hri := cells7_ri g0
        have hri2 := cells7_ri g3W
        have HF := Lib.hid (fun d : Nat => And.intro (hr2.below (Drew.below (Drew.drewN W1 d) _)) (And.intro (hB2.trans (Drew.below (Drew.drewN W1 d) _)) (And.intro (show (W1.drewN d).heap[w.heap.size]? = _ from g2W) (show (W1.drewN d).heap[w.heap.size + 1]? = _ from g3W))))
        subst hs1
        clear hT hr2 hB2 hkb g2W g3W
        go_wp2
        go_quiet ((go_at_call 94; exact quiet (isInt (byTerms_any _ _ _ _ (digs k0) (digs kb) _ (hri.drew (Drew.drewN _ _)) (hri2.drew (Drew.drewN _ _)) (digs_length _) (digs_length _) (digs_Digs _) (digs_Digs _)) HT.out)))
        clear hri hri2 g0
        go_wp2
        go_roundw
        case rel => exact ⟨(k0, c0) :: don, left', true, kb, (HF.out _).1, HP3, rfl, HB3.out, (HF.out _).2.2.1, (HF.out _).2.2.2, (HF.out _).2.1⟩
        case measure =>
          rw [(HF.out _).1.left_eq, hmeas, hlen]
          simp
      · have HB3 := Lib.hid (show Best true k0 ((k0, c0) :: don) from ⟨fun h => (by cases h), fun _ => by
          refine ⟨hk0, ⟨_, List.mem_cons_self, rfl⟩, fun q hq => ?_⟩
          rcases List.mem_cons.1 hq with rfl | hq
          · exact Int.le_refl _
          · cases hs : sm with
            | false => rw [HBt.out.1 hs] at hq; cases hq
            | true =>
              have h1 := (HBt.out.2 hs).2.2 q hq
              have h2 : kb < k0 := Int.not_le.1 fun h => hsm ⟨hs, by omega⟩
              omega⟩)
        obtain ⟨e0, f0⟩ := cells7_cell g3W (i := 0) (by omega)
        obtain ⟨e1, f1⟩ := cells7_cell g3W (i := 1) (by omega)
        obtain ⟨e2, f2⟩ := cells7_cell g3W (i := 2) (by omega)
        obtain ⟨e3, f3⟩ := cells7_cell g3W (i := 3) (by omega)
        obtain ⟨e4, f4⟩ := cells7_cell g3W (i := 4) (by omega)
        obtain ⟨e5, f5⟩ := cells7_cell g3W (i := 5) (by omega)
        obtain ⟨e6, f6⟩ := cells7_cell g3W (i := 6) (by omega)
        have HF := Lib.hid (fun d : Nat => And.intro ((hr2.below (Drew.below (Drew.drewN W1 d) _)).kept (put7_grown (W1.drewN d) (w.heap.size + 1) k0) hbne hne1) (And.intro ((hB2.trans (Drew.below (Drew.drewN W1 d) _)).trans (put7_below (B := w.heap.size) (W1.drewN d) (g := w.heap.size + 1) k0 (by omega))) (And.intro ((put7_other (W1.drewN d) (w.heap.size + 1) k0 (b := w.heap.size) (by omega)).trans (show (W1.drewN d).heap[w.heap.size]? = _ from g2W)) (put7_same (show (W1.drewN d).heap[w.heap.size + 1]? = _ from g3W) k0))))
        unfold put7 at HF
        cases hs : sm with
        | false =>
          subst hs
          clear hsm hr2 hB2 g2W g3W g0
          go_wp2
          go_quiet (fail)
          go_wp2
          go_roundw
          case rel => exact ⟨(k0, c0) :: don, left', true, k0, (HF.out _).1, HP3, rfl, HB3.out, (HF.out _).2.2.1, (HF.out _).2.2.2, (HF.out _).2.1⟩
          case measure =>
            rw [(HF.out _).1.left_eq, hmeas, hlen]
            simp
        | true =>
          have hkb := (HBt.out.2 hs).1
          have hlt : kb < k0 := Int.not_le.1 fun h => hsm ⟨hs, by omega⟩
          obtain ⟨T, hT⟩ : ∃ T, byTo (digs k0) (digs kb) 7 = T := ⟨_, rfl⟩
          have HT := Lib.hid hT
          have hg : decide (T < 0) = true := by
            have := (byTo_key (digs_length k0) (digs_length kb) (digs_Digs k0) (digs_Digs kb)).1
            rw [hT, keyL_digs hk0, keyL_digs hkb] at this
            simp only [decide_eq_true_eq, this]
            exact hlt
          have hri := cells7_ri g0
          have hri2 := cells7_ri g3W
          subst hs
          clear hsm hr2 hB2 g2W g3W hT hkb hlt
          go_wp2
          go_quiet ((go_at_call 94; exact quiet (isInt (byTerms_any _ _ _ _ (digs k0) (digs kb) _ (hri.drew (Drew.drewN _ _)) (hri2.drew (Drew.drewN _ _)) (digs_length _) (digs_length _) (digs_Digs _) (digs_Digs _)) HT.out)))
          clear hri hri2 g0
          go_wp2
          go_roundw
          case rel => exact ⟨(k0, c0) :: don, left', true, k0, (HF.out _).1, HP3, rfl, HB3.out, (HF.out _).2.2.1, (HF.out _).2.2.2, (HF.out _).2.1⟩
          case measure =>
            rw [(HF.out _).1.left_eq, hmeas, hlen]
            simp
end Go.Proofs.YtomejjbkakpoiaaGreat

namespace Go.Proofs.YtomejjbkakpoiaaGreat
open Go.RowKit

set_option maxRecDepth 100000 in
set_option maxHeartbeats 3200000 in
theorem permOfCode_no (a : Option Addr) (n c : Nat) (cs : List Int) (w : World) (hr : RI w a cs) (hn : cs.length = n) (h17 : 1 ≤ n ∧ n ≤ 7) (k0 : Nat) (y0 : Int) (hk0 : k0 < n) (hy0 : cs[k0]? = some y0) (hbad : (n : Int) - k0 ≤ y0) (hcs : ∀ (k : Nat) (x : Int), k < k0 → cs[k]? = some x → 0 ≤ x ∧ x < (n : Int) - k) :
    Calls Tryz.prog 57 #[.slice a n c] w fun e w' => e = .returned (.slice none 0 0) ∧ Below w.heap.size w w' := by
  have Hn := Lib.hid hn; clear hn
  have HC := Lib.hid hcs; clear hcs
  have Hy0 := Lib.hid hy0; clear hy0
  have q22 : ∀ (w : World) (a : Option Addr) (n c n' c' : Nat), (binOp .eql 24 (.slice a n c) (.slice none n' c')).run Tryz.prog w = .ok (.bool a.isNone) w := fun w a n c n' c' => Lib.run_eql_slice_nil w _ _ a n c n' c' Tryz.underlying24
  go_enter Tryz.func57, Tryz.ntmps57
  go_wp2_with fail
  refine (implIdent_any n _ _ rfl h17).mono ?_
  rintro e w1 ⟨a1, c1, rfl, ho1, hB1⟩
  obtain ⟨g, rfl, _⟩ := OI.cons ho1.1 (j := 0) (by omega)
  have hz1 := hB1.size
  have hI0 : OwI (w1.alloc (.cells #[] 3)) w1.heap.size (w1.alloc (.cells #[] 3)).heap.size (some ⟨w1.heap.size, 0, none⟩) 0 0 [] := OwI.mk (World.ownsRow_made _ #[] 0 (Nat.le_refl _) (Nat.zero_le _) rfl)
  have hA : Below w1.heap.size w1 (w1.alloc (.cells #[] 3)) := (Below.refl _ _).alloc (Nat.le_refl _) _
  have ho2 := ho1.below hA
  have hB2 := hB1.trans (hA.mono hz1)
  have hAz := hA.size
  have HI := Lib.hid hI0
  have HO := Lib.hid ho2
  clear hI0 ho2 ho1 hA hB1
  go_wp2
  clear q22
  go_loopw [3, 4, 15] (fun rv ov iv wr => Hid (∃ k : Nat, k ≤ k0 ∧ iv = .int .i64 k ∧ rv = .slice (some ⟨g, 0, none⟩) (n - k) c1 ∧ ∃ a' c', ov = .slice a' k c' ∧ OwI wr w.heap.size w1.heap.size (some ⟨g, 0, none⟩) (n - k) c1 (poc n cs k).1 ∧ OwI wr w1.heap.size wr.heap.size a' k c' (poc n cs k).2) ∧ Below w.heap.size w wr ∧ w1.heap.size ≤ wr.heap.size) (fun _ _ i _ => n - (intOf i).toNat)
  case atStart => exact ⟨⟨0, Nat.zero_le _, rfl, rfl, _, _, rfl, HO.out, HI.out⟩, hB2, hAz⟩
  case round =>
    clear HI HO hB2 hAz
    obtain ⟨HV, hB, hz⟩ := hrel
    obtain ⟨wo, rfl⟩ : ∃ wo : World, wo = wr := ⟨_, rfl⟩
    obtain ⟨k, hk, rfl, rfl, a', c', rfl, hrest, hout⟩ := HV.out
    clear HV
    have hbs := hB.size
    by_cases hlt : k < k0
    · obtain ⟨b, off, rfl, hcell⟩ := (hr.below hB).at (k := k) (by rw [Hn.out]; omega)
      obtain ⟨x0, hx⟩ := some_at (k := k) Hn.out (by omega)
      have hcx := hcell k x0 hx
      obtain ⟨hx0, hx1⟩ := HC.out k x0 hlt hx
      obtain ⟨x, rfl⟩ : ∃ x : Nat, x0 = x := ⟨x0.toNat, by omega⟩
      have hxn : x < n - k := by omega
      obtain ⟨g', e0, _, ⟨y, hy, hcy⟩, _⟩ := OI.cons hrest.1 hxn
      obtain rfl : g = g' := by simpa using e0
      have hs1 : (poc n cs (k + 1)).1 = (poc n cs k).1.eraseIdx x := by rw [poc, getD_of hx]; rfl
      have hs2 : (poc n cs (k + 1)).2 = (poc n cs k).2 ++ [y] := by rw [poc, getD_of hx]; show _ ++ [(poc n cs k).1.getD x 0] = _; rw [getD_of hy]
      have Hs1 := Lib.hid hs1
      have Hs2 := Lib.hid hs2
      obtain ⟨d, hd⟩ : ∃ d, n - k = d := ⟨_, rfl⟩
      rw [hd] at hrest hxn
      have hd1 : d - 1 = n - (k + 1) := by omega
      have Hd1 := Lib.hid hd1
      have hxI : (x : Int) < (d : Int) := by omega
      have hdn : d ≤ 7 := by omega
      have q1 : (k : Int) < (n : Int) := by omega
      rw [hd]
      clear hcell hx hy e0 hs1 hs2 hd1 hd
      go_wp2_with (first | (at_builtin; go_loud (refine wpList_pushI (by rfl) (by rfl) _ _ (by rfl) hout (by rfl) (by rfl) (by omega) (by omega) ?_)))
      intro a2 c2 w2 ho2 hg2
      have hO2 := hg2.only (B := w1.heap.size) (S := wo.heap.size) (fun k hk => hout.1.lo k hk) (fun k hk => hout.2 k hk)
      have hrest2 := hrest.only hO2 (.inl (Nat.le_refl _))
      have hB2 := hO2.below hB (by omega) (by omega)
      have hz2 := hO2.size
      rw [← Hs2.out] at ho2
      clear hrest hout hcy hcx
      go_wp2_with fail
      refine (delete_any _ _ _ hrest2 hxn rfl (by omega)).mono ?_
      rintro e w3 ⟨rfl, hrest3, hO3⟩
      rw [← Hs1.out, Hd1.out] at hrest3
      have ho3 := ho2.only hO3 (.inr (Nat.le_refl _))
      have hB3 := hO3.below hB2 (Nat.le_refl _) hB2.size
      have hz3 := hO3.size
      have ho4 := ho3.mono (B' := w1.heap.size) (S' := w3.heap.size) (Nat.le_refl _) hz3
      have HR := Lib.hid hrest3
      have HO := Lib.hid ho4
      have HE : Hid (Value.slice (some ⟨g, 0, none⟩) (d - 1) c1 = Value.slice (some ⟨g, 0, none⟩) (n - (k + 1)) c1) := by rw [Hd1.out]; rfl
      clear hrest2 hrest3 ho2 ho3 ho4
      go_wp2
      go_roundw
      case rel => exact ⟨⟨k + 1, by omega, by go_num, HE.out, _, _, rfl, HR.out, HO.out⟩, hB3, by omega⟩
      case measure => simp [intOf]; omega
    · obtain rfl : k = k0 := by omega
      obtain ⟨b, off, rfl, hcell⟩ := (hr.below hB).at (k := k) (by rw [Hn.out]; exact hk0)
      have hcx := hcell k y0 Hy0.out
      have q1 : (k : Int) < (n : Int) := by omega
      have hy1 : 0 ≤ y0 := by omega
      obtain ⟨d, hd⟩ : ∃ d, n - k = d := ⟨_, rfl⟩
      rw [hd] at hrest
      rw [hd]
      have q2 : ¬ y0 < (d : Int) := by omega
      have q3 : ¬ y0 < 0 := by omega
      clear hout hrest hcell hd
      go_wp2
      go_ret
      exact ⟨rfl, hB⟩

theorem isPerm_nil : isPerm [] = false := rfl
/-- TrimPerm of none -/
theorem implTrim_none (w : World) : Calls Tryz.prog 56 #[.slice none 0 0] w fun e w' => e = .returned (.slice none 0 0) ∧ Below w.heap.size w w' := by
  have hr : RI w none [] := .inl rfl
  go_enter Tryz.func56, Tryz.ntmps56
  go_wp2_with fail
  refine (is (implIsPerm_any _ 0 _ [] _ hr rfl (by omega)) isPerm_nil).mono ?_
  rintro e w1 ⟨rfl, hB1⟩
  go_wp2
  go_ret
  exact ⟨rfl, hB1⟩
end Go.Proofs.YtomejjbkakpoiaaGreat

namespace Go.Proofs.YtomejjbkakpoiaaGreat
open Go.RowKit

set_option maxHeartbeats 400000 in
theorem l1Same_any (a b : Option Addr) (n c m d : Nat) (xs ys : List Int) (w : World) (hr : RI w a xs) (hs : RI w b ys) (hn : xs.length = n) (hm : ys.length = m) (hb : n ≤ 17592186044416) :
    Calls Tryz.prog 114 #[.slice a n c, .slice b m d] w fun e w' => e = .returned (.bool (decide (xs = ys))) ∧ Drew w w' := by
  have Hn := Lib.hid hn; clear hn
  have Hm := Lib.hid hm; clear hm
  by_cases hnm : n = m
  · subst hnm
    go_enter Tryz.func114, Tryz.ntmps114
    go_wp2
    go_loopw [5] (fun i wr => ∃ k : Nat, k ≤ n ∧ i = .int .i64 k ∧ Hid (∀ j, j < k → xs[j]? = ys[j]?) ∧ Drew w wr) (fun i _ => n - (intOf i).toNat)
    case atStart => exact ⟨0, Nat.zero_le _, rfl, by intro j hj; omega, Drew.refl _⟩
    case round =>
      obtain ⟨k, hk, rfl, HA, hd⟩ := hrel
      by_cases hlt : k < n
      · obtain ⟨b, off, rfl, hcell⟩ := (hr.drew hd).at (k := k) (by rw [Hn.out]; exact hlt)
        obtain ⟨b2, off2, rfl, hcell2⟩ := (hs.drew hd).at (k := k) (by rw [Hm.out]; exact hlt)
        obtain ⟨x, hx⟩ : ∃ x, xs[k]? = some x := ⟨xs[k]'(by rw [Hn.out]; exact hlt), by simp⟩
        obtain ⟨y, hy⟩ : ∃ y, ys[k]? = some y := ⟨ys[k]'(by rw [Hm.out]; exact hlt), by simp⟩
        have hc := hcell k x hx
        have hc2 := hcell2 k y hy
        have Hx := Lib.hid hx; clear hx
        have Hy := Lib.hid hy; clear hy
        clear hcell hcell2
        have hltI : (k : Int) < (n : Int) := by omega
        by_cases h1 : x = y
        · subst h1
          go_wp2
          go_quiet (fail)
          go_wp2
          go_roundw
          case rel => exact ⟨k + 1, by omega, by go_num, by
                intro j hj
                rcases Nat.lt_or_ge j k with h | h
                · exact HA.out j h
                · obtain rfl : j = k := by omega
                  rw [Hx.out, Hy.out], hd.trans (Drew.drewN _ _)⟩
          case measure => simp [intOf]; omega
        · have hne : (x != y) = true := by simpa using h1
          have H1 := Lib.hid h1; clear h1
          go_wp2
          go_quiet (fail)
          go_wp2
          go_ret
          exact ⟨ret_bool (ne_of_at Hx.out Hy.out H1.out).symm, hd.trans (Drew.drewN _ _)⟩
      · go_wp2
        go_ret
        exact ⟨ret_bool (eq_of_all (Hn.out.trans Hm.out.symm) (by intro j hj; exact HA.out j (by rw [Hn.out] at hj; omega))).symm, hd⟩
  · go_enter Tryz.func114, Tryz.ntmps114
    have hne : ((n : Int) != (m : Int)) = true := by rw [bne_iff_ne]; omega
    go_wp2
    go_ret
    exact ⟨ret_bool (by symm; rw [decide_eq_false_iff_not]; rintro rfl; exact hnm (Hn.out.symm.trans Hm.out)), Drew.refl _⟩

end Go.Proofs.YtomejjbkakpoiaaGreat
