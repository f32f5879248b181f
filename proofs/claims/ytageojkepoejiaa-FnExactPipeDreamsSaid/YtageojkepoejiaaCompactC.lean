/-
  Contract of slices.CompactFunc at dreams.
-/
import Derived.Test.YtageojkepoejiaaBuP17
import Derived.Test.YtageojkepoejiaaBuP15
import Derived.Lib.SliceRun
namespace Go.Proofs.Ytageojkepoejiaa
open Go.RowKit

theorem ownsRow_first {w : World} {B e g n c k : Nat} {vs : List Value} (h : w.ownsRow B e 1 (.slice (some ⟨g, 0, none⟩) n c) n vs) (hk : k ≤ n) : w.ownsRow B e 1 (.slice (some ⟨g, 0, none⟩) k c) k (vs.take k) := by
  refine ⟨by rw [List.length_take, h.1]; omega, ?_⟩
  rcases h.2 with ⟨h', _⟩ | ⟨g', cap', cur, h', hb, hg, hnc, hcm, hcs, htake⟩
  · simp at h'
  · simp only [Value.slice.injEq, Option.some.injEq, Addr.mk.injEq] at h'
    obtain ⟨⟨rfl, _⟩, _, rfl⟩ := h'
    refine .inr ⟨g, c, cur, rfl, hb, hg, by omega, hcm, hcs, ?_⟩
    rw [← htake, List.take_take]
    congr 1
    omega
theorem ownsRow_clear {B e g n c : Nat} {z : Value} : ∀ (m : Nat) {w : World} {K : Nat} {vs : List Value}, w.ownsRow B e 1 (.slice (some ⟨g, 0, none⟩) n c) n vs →
    ∃ us, (w.setCells g K (List.replicate m z)).ownsRow B e 1 (.slice (some ⟨g, 0, none⟩) n c) n us ∧ us.take K = vs.take K ∧ w.grownBy (w.setCells g K (List.replicate m z)) (some g)
  | 0, w, K, vs, h => ⟨vs, h, rfl, (Grows.refl w (.slice (some ⟨g, 0, none⟩) n c)).grown⟩
  | m + 1, w, K, vs, h => by
    have h1 := h.stored K z
    obtain ⟨us, h2, h3, h4⟩ := ownsRow_clear m (K := K + 1) h1.1
    refine ⟨us, h2, ?_, grownBy.trans h1.2 h4⟩
    have h5 := congrArg (List.take K) h3
    rw [List.take_take, List.take_take, Nat.min_eq_left (by omega)] at h5
    rw [h5, List.take_set_of_le (by omega)]

set_option maxRecDepth 100000 in
set_option maxHeartbeats 3200000 in
theorem compactC_any (B S g c n : Nat) (xss : List (List (Int × Int))) (w : World) (ho : CCO w B S (some ⟨g, 0, none⟩) n c xss) (hb : n ≤ 1048576) (hsh : ShortCC xss) :
    Calls Try.prog 96 #[.slice (some ⟨g, 0, none⟩) n c, .func (.func 67) #[] #[]] w fun e w' => ∃ n', e = .returned (.slice (some ⟨g, 0, none⟩) n' c) ∧ CCO w' B S (some ⟨g, 0, none⟩) n' c (compD xss) ∧ Only B S w w' := by
  have Hn := Lib.hid ho.len
  have HO := Lib.hid ho
  have hr := ho.rd
  have Hsh := Lib.hid hsh; clear hsh
  have hcap : n ≤ c := by
    obtain ⟨vs, h1, _⟩ := ho
    rcases h1.2 with ⟨h', _⟩ | ⟨g', cap', cur, h', hb, hg, hnc, _⟩
    · simp at h'
    · simp only [Value.slice.injEq] at h'
      omega
  have Hall := Lib.hid (show (∀ i, i < n → keepI xss i = true) → compD xss = xss from fun h => by
    unfold compD
    rw [compI_all (by rw [Hn.out]; exact h)]
    apply List.ext_getElem?
    intro k
    rcases Nat.lt_or_ge k xss.length with hk | hk
    · rw [List.getElem?_map, List.getElem?_range hk, List.getElem?_eq_getElem hk, Option.map_some, List.getD_eq_getElem?_getD, List.getElem?_eq_getElem hk]
      rfl
    · rw [List.getElem?_eq_none (by simp; omega), List.getElem?_eq_none hk])
  clear ho
  go_enter Try.func96, Try.ntmps96
  by_cases h2 : n < 2
  · have q0 : (n : Int) < 2 := by omega
    have Hfin := Lib.hid (show CCO w B S (some ⟨g, 0, none⟩) n c (compD xss) by
      rw [Hall.out (fun i hi => by
        obtain rfl : i = 0 := by omega
        rfl)]
      exact HO.out)
    go_wp2
    go_ret
    exact ⟨_, rfl, Hfin.out, Only.refl _ _ _⟩
  have q0 : ¬ (n : Int) < 2 := by omega
  go_wp2
  go_loopw [5] (fun iv wr => Hid (∃ k : Nat, 1 ≤ k ∧ k ≤ n ∧ iv = .int .i64 k ∧ ∀ i, i < k → keepI xss i = true) ∧ Drew w wr) (fun iv _ => n - (intOf iv).toNat)
  case atStart => exact ⟨⟨1, Nat.le_refl _, by omega, rfl, fun i hi => by
    have h0 : i = 0 := by simpa using hi
    subst h0
    rfl⟩, Drew.refl _⟩
  case round =>
    obtain ⟨HV, hd⟩ := hrel
    obtain ⟨wo, rfl⟩ : ∃ wo : World, wo = wr := ⟨_, rfl⟩
    obtain ⟨k, hk1, hk, rfl, hkeep⟩ := HV.out
    clear HV
    have Hkeep := Lib.hid hkeep
    clear hkeep
    by_cases hlt : k < n
    · obtain ⟨j, hj⟩ : ∃ j, k = j + 1 := ⟨k - 1, by omega⟩
      obtain ⟨x, hx⟩ := some_of (show j < xss.length by rw [Hn.out]; omega)
      obtain ⟨y, hy⟩ := some_of (show k < xss.length by rw [Hn.out]; exact hlt)
      rcases hr.below (hd.below w.heap.size) with h0 | ⟨b, off, eb, hcell⟩
      · rw [h0] at hx; simp at hx
      simp only [Option.some.injEq, Addr.mk.injEq] at eb
      obtain ⟨rfl, rfl, _⟩ := eb
      obtain ⟨a1, c1, hc1, hr1⟩ := hcell j x hx
      obtain ⟨a2, c2, hc2, hr2⟩ := hcell k y hy
      simp only [Nat.zero_add] at hc1 hc2
      have hxl := Hsh.out x (List.mem_of_getElem? hx)
      have hyl := Hsh.out y (List.mem_of_getElem? hy)
      have Hkk := Lib.hid (show keepI xss k = decide (y ≠ x) by
        unfold keepI
        rw [show (k == 0) = false by simp; omega, Bool.false_or, List.getD_eq_getElem?_getD, hy, List.getD_eq_getElem?_getD, show k - 1 = j by omega, hx]
        rfl)
      obtain ⟨lx, hlx⟩ : ∃ l, x.length = l := ⟨_, rfl⟩
      obtain ⟨ly, hly⟩ : ∃ l, y.length = l := ⟨_, rfl⟩
      rw [hlx] at hc1 hxl
      rw [hly] at hc2 hyl
      have Hlx := Lib.hid hlx
      have Hly := Lib.hid hly
      have q1 : (k : Int) < (n : Int) := by omega
      have q2 : (j : Int) < (n : Int) := by omega
      have q3 : wrap64 ((k : Int) - 1) = (j : Int) := by unfold wrap64; omega
      have q4 : IntKind.i64.wrap ((k : Int) - 1) = (j : Int) := by rw [IntWalk.i64_in _ (by omega)]; omega
      clear hcell hx hy hlx hly hj
      by_cases hyx : y = x
      · have Hyx := Lib.hid (show decide (y = x) = true by simpa using hyx)
        have Hk0 := Lib.hid (show keepI xss k = false by rw [Hkk.out]; simpa using hyx)
        have q5 : (k : Int) ≤ (c : Int) := by omega
        have q6 : (k : Int) ≤ (n : Int) := by omega
        have q7 : ¬ c = k := by omega
        clear hyx
        go_wp2
        go_quiet ((go_at_call 67; exact quiet (is (equalC_any _ _ _ _ _ _ y x _ (hr2.below ((Drew.drewN _ _).below _)) (hr1.below ((Drew.drewN _ _).below _)) Hly.out Hlx.out (by omega)) Hyx.out)))
        go_wp2
        obtain ⟨vs, v1, v2, v3⟩ := HO.out
        have hvl : vs.length = n := by rw [v3.len]; exact Hn.out
        have HV3 := Lib.hid v3
        have hdq := hd.trans (Drew.drewN wo nq)
        have hgq : w.grownBy (wo.drewN nq) (some g) := (Grows.of_below (.slice (some ⟨g, 0, none⟩) n c) (hdq.below _)).grown
        have hci : (compI xss (k + 1)).length = k := by rw [compI_succ, if_neg (by rw [Hk0.out]; simp), compI_all Hkeep.out, List.length_range]
        have hkm : (compI xss (k + 1)).map (fun i => vs.getD i undef) = vs.take k := by
          rw [compI_succ, if_neg (by rw [Hk0.out]; simp), compI_all Hkeep.out]
          apply List.ext_getElem?
          intro i
          rcases Nat.lt_or_ge i k with h | h
          · rw [List.getElem?_map, List.getElem?_range h, List.getElem?_take_of_lt h, Option.map_some, List.getD_eq_getElem?_getD, List.getElem?_eq_getElem (by omega)]
            rfl
          · rw [List.getElem?_eq_none (by simp; omega), List.getElem?_eq_none (by simp; omega)]
        have h1q : (wo.drewN nq).ownsRow B 36 1 (.slice (some ⟨g, 0, none⟩) n c) n ((compI xss (k + 1)).map (fun i => vs.getD i undef) ++ vs.drop k) := by
          rw [hkm, List.take_append_drop]
          exact ownsRow_only v1 v2 (Only.of_below (hdq.below _)) (.inr (Nat.zero_le _))
        clear hkm hc1 hc2 hr1 hr2
        go_loopw [5, 7] (fun kv tv wr => Hid (∃ K t : Nat, kv = .int .i64 K ∧ tv = .int .i64 t ∧ 1 ≤ t ∧ t ≤ n - k ∧ (compI xss (k + t)).length = K ∧ wr.ownsRow B 36 1 (.slice (some ⟨g, 0, none⟩) n c) n ((compI xss (k + t)).map (fun i => vs.getD i undef) ++ vs.drop K)) ∧ w.grownBy wr (some g)) (fun _ tv _ => n - k - (intOf tv).toNat)
        case atStart => exact ⟨⟨k, 1, rfl, rfl, Nat.le_refl _, by omega, hci, h1q⟩, hgq⟩
        case round =>
          clear h1q hgq hci
          obtain ⟨HV, hgr⟩ := hrel
          obtain ⟨wt, rfl⟩ : ∃ wt : World, wt = wr := ⟨_, rfl⟩
          obtain ⟨K, t, rfl, rfl, ht1, htn, hK, hrow⟩ := HV.out
          clear HV
          have hKl := compI_less Hk0.out (m := k + t) (by omega)
          rw [hK] at hKl
          by_cases htl : t < n - k
          · have r1 : (t : Int) < ((n - k : Nat) : Int) := by omega
            obtain ⟨t', ht'⟩ : ∃ t', t = t' + 1 := ⟨t - 1, by omega⟩
            obtain ⟨x2, hx2⟩ := some_of (show k + t' < xss.length by rw [Hn.out]; omega)
            obtain ⟨y2, hy2⟩ := some_of (show k + t < xss.length by rw [Hn.out]; omega)
            obtain ⟨d1, e1, hv1, hco1⟩ := HV3.out.each _ x2 hx2
            obtain ⟨d2, e2, hv2, hco2⟩ := HV3.out.each _ y2 hy2
            have hw1 : wt.cell? ⟨g, k + t', none⟩ = some (.slice d1 x2.length e1) := by
              rw [hrow.cellAt (k + t') (by omega), List.getElem?_append_right (by rw [List.length_map, hK]; omega), List.length_map, hK, List.getElem?_drop, show K + (k + t' - K) = k + t' by omega]
              exact hv1
            have hw2 : wt.cell? ⟨g, k + t, none⟩ = some (.slice d2 y2.length e2) := by
              rw [hrow.cellAt (k + t) (by omega), List.getElem?_append_right (by rw [List.length_map, hK]; omega), List.length_map, hK, List.getElem?_drop, show K + (k + t - K) = k + t by omega]
              exact hv2
            have hrx := (hco1.kept hgr (fun q hq e => neC_block v1 hco1 q (by rw [← e]; rfl) hq)).rd
            have hry := (hco2.kept hgr (fun q hq e => neC_block v1 hco2 q (by rw [← e]; rfl) hq)).rd
            have hkt : keepI xss (k + t) = decide (y2 ≠ x2) := by
              unfold keepI
              rw [show (k + t == 0) = false by simp; omega, Bool.false_or, List.getD_eq_getElem?_getD, hy2, List.getD_eq_getElem?_getD, show k + t - 1 = k + t' by omega, hx2]
              rfl
            have hgd : vs.getD (k + t) undef = .slice d2 y2.length e2 := by rw [List.getD_eq_getElem?_getD, hv2]; rfl
            have hxl2 := Hsh.out x2 (List.mem_of_getElem? hx2)
            have hyl2 := Hsh.out y2 (List.mem_of_getElem? hy2)
            have Hco2 := Lib.hid hco2
            obtain ⟨lx2, hlx2⟩ : ∃ l, x2.length = l := ⟨_, rfl⟩
            obtain ⟨ly2, hly2⟩ : ∃ l, y2.length = l := ⟨_, rfl⟩
            rw [hlx2] at hw1 hxl2
            rw [hly2] at hw2 hyl2 hgd
            have Hlx2 := Lib.hid hlx2
            have Hly2 := Lib.hid hly2
            have r2 : (t' : Int) < ((n - k : Nat) : Int) := by omega
            have r3 : wrap64 ((t : Int) - 1) = (t' : Int) := by unfold wrap64; omega
            have r4 : IntKind.i64.wrap ((t : Int) - 1) = (t' : Int) := by rw [IntWalk.i64_in _ (by omega)]; omega
            have Hgd := Lib.hid hgd
            have Hrow := Lib.hid hrow
            clear hx2 hy2 hv1 hv2 hlx2 hly2 ht' hco1 hco2 hgd hrow
            by_cases hyx2 : y2 = x2
            · have Hy2 := Lib.hid (show decide (y2 = x2) = true by simpa using hyx2)
              have Hci := Lib.hid (show compI xss (k + (t + 1)) = compI xss (k + t) by rw [← Nat.add_assoc, compI_succ, if_neg (by rw [hkt]; simpa using hyx2)])
              clear hyx2 hkt
              go_wp2
              go_quiet ((go_at_call 67; exact quiet (is (equalC_any _ _ _ _ _ _ y2 x2 _ (hry.below ((Drew.drewN _ _).below _)) (hrx.below ((Drew.drewN _ _).below _)) Hly2.out Hlx2.out (by omega)) Hy2.out)))
              go_wp2
              go_roundw
              case rel => exact ⟨⟨K, t + 1, rfl, by go_num, by omega, by omega, by rw [Hci.out]; exact hK, by rw [Hci.out]; exact ownsRow_only Hrow.out (S := g + 1) (fun q hq => by simp [Value.ownBlock] at hq; omega) (Only.of_below ((Drew.drewN wt _).below _)) (.inr (Nat.zero_le _))⟩, grownBy.trans hgr (Grows.of_below (.slice (some ⟨g, 0, none⟩) n c) ((Drew.drewN wt _).below _)).grown⟩
              case measure => simp [intOf]; omega
            · have Hy2 := Lib.hid (show decide (y2 = x2) = false by simpa using hyx2)
              have Hci := Lib.hid (show compI xss (k + (t + 1)) = compI xss (k + t) ++ [k + t] by rw [← Nat.add_assoc, compI_succ, if_pos (by rw [hkt]; simpa using hyx2)])
              clear hyx2 hkt
              go_wp2
              go_quiet ((go_at_call 67; exact quiet (is (equalC_any _ _ _ _ _ _ y2 x2 _ (hry.below ((Drew.drewN _ _).below _)) (hrx.below ((Drew.drewN _ _).below _)) Hly2.out Hlx2.out (by omega)) Hy2.out)))
              have hwK : wt.cell? ⟨g, K, none⟩ = some (vs.getD K undef) := by
                rw [Hrow.out.cellAt K (by omega), List.getElem?_append_right (by rw [List.length_map, hK]; omega), List.length_map, hK, Nat.sub_self, List.getElem?_drop, Nat.add_zero, List.getD_eq_getElem?_getD, List.getElem?_eq_getElem (by omega)]
                rfl
              have hfK : wt.frozen? ⟨g, K, none⟩ = false := Hrow.out.frozenAt K
              have r5 : (K : Int) < (n : Int) := by omega
              have hrowd : (wt.drewN nq).ownsRow B 36 1 (.slice (some ⟨g, 0, none⟩) n c) n ((compI xss (k + t)).map (fun i => vs.getD i undef) ++ vs.drop K) := ownsRow_only Hrow.out (S := g + 1) (fun q hq => by simp [Value.ownBlock] at hq; omega) (Only.of_below ((Drew.drewN wt nq).below _)) (.inr (Nat.zero_le _))
              have hst := hrowd.stored K (.slice d2 ly2 e2)
              rw [show ((compI xss (k + t)).map (fun i => vs.getD i undef) ++ vs.drop K).set K (.slice d2 ly2 e2) = (compI xss (k + (t + 1))).map (fun i => vs.getD i undef) ++ vs.drop (K + 1) by
                rw [List.set_append_right _ _ (by rw [List.length_map, hK]; omega), List.length_map, hK, Nat.sub_self, List.drop_eq_getElem_cons (by omega), List.set_cons_zero, Hci.out, List.map_append, List.append_assoc]
                rw [List.map_singleton, Hgd.out, List.singleton_append]] at hst
              have Hst := Lib.hid hst
              have hgn := grownBy.trans (grownBy.trans hgr (Grows.of_below (.slice (some ⟨g, 0, none⟩) n c) ((Drew.drewN wt nq).below _)).grown) hst.2
              clear hst hrowd
              go_wp2
              go_roundw
              case rel => exact ⟨⟨K + 1, t + 1, by go_num, by go_num, by omega, by omega, by rw [Hci.out, List.length_append, hK]; rfl, Hst.out.1⟩, hgn⟩
              case measure => simp [intOf]; omega
          · obtain rfl : t = n - k := by omega
            have hKn : K < n := by omega
            rw [show k + (n - k) = n by omega] at hrow hK
            have r1 : ¬ ((n - k : Nat) : Int) < ((n - k : Nat) : Int) := by omega
            have r5 : (K : Int) ≤ (n : Int) := by omega
            have r6 : (K : Int) ≤ (c : Int) := by omega
            have r7 : ¬ c = K := by omega
            have hcl : ∀ ty, (Builtin.clear_ #[34] ty #[.slice (some ⟨g, K, none⟩) (n - K) (c - K)]).run Try.prog wt = .ok (.tuple #[]) (wt.setCells g K (List.replicate (n - K) (.slice none 0 0))) := fun ty =>
              Lib.run_clear_slice wt _ _ ty _ Try.underlying34 (fun w => by kernel_rfl) rfl rfl g K _ _ (by omega) (fun j hj => by rw [hrow.cellAt (K + j) (by omega), List.getElem?_eq_getElem (by rw [List.length_append, List.length_map, hK, List.length_drop]; omega)]; rfl) (fun j hj => hrow.frozenAt (K + j))
            obtain ⟨us, hu1, hu2, hu3⟩ := ownsRow_clear (z := Value.slice none 0 0) (n - K) (K := K) hrow
            have hgf := grownBy.trans hgr hu3
            have hrowK := ownsRow_first hu1 (Nat.le_of_lt hKn)
            rw [hu2, List.take_append_of_le_length (by rw [List.length_map, hK]; exact Nat.le_refl _), List.take_of_length_le (by rw [List.length_map, hK]; exact Nat.le_refl _)] at hrowK
            have hfin : CCO (wt.setCells g K (List.replicate (n - K) (.slice none 0 0))) B S (some ⟨g, 0, none⟩) K c (compD xss) := by
              refine ⟨_, hrowK, v2, ⟨by rw [List.length_map, compD, List.length_map, Hn.out], fun i z hz => ?_, fun i j u v b hu hv hub hvb => ?_⟩⟩
              · unfold compD at hz
                rw [List.getElem?_map, Hn.out] at hz
                obtain ⟨q, hq, rfl⟩ := Option.map_eq_some_iff.1 hz
                have hqn : q < n := compI_lt (List.mem_of_getElem? hq)
                obtain ⟨a9, c9, e9, o9⟩ := HV3.out.each q (xss.getD q []) (by rw [List.getD_eq_getElem?_getD, List.getElem?_eq_getElem (by rw [Hn.out]; exact hqn)]; rfl)
                refine ⟨a9, c9, ?_, o9.kept hgf (fun r hr e => neC_block v1 o9 r (by rw [← e]; rfl) hr)⟩
                rw [List.getElem?_map, hq, Option.map_some, List.getD_eq_getElem?_getD, e9]
                rfl
              · rw [List.getElem?_map] at hu hv
                obtain ⟨p1, hp1, rfl⟩ := Option.map_eq_some_iff.1 hu
                obtain ⟨p2, hp2, rfl⟩ := Option.map_eq_some_iff.1 hv
                have hl1 : p1 < n := compI_lt (List.mem_of_getElem? hp1)
                have hl2 : p2 < n := compI_lt (List.mem_of_getElem? hp2)
                have e12 := HV3.out.apart p1 p2 _ _ b (by rw [List.getD_eq_getElem?_getD, List.getElem?_eq_getElem (by omega)]; rfl) (by rw [List.getD_eq_getElem?_getD, List.getElem?_eq_getElem (by omega)]; rfl) hub hvb
                have hnd : (compI xss n).Nodup := List.Nodup.sublist List.filter_sublist List.nodup_range
                exact (List.getElem?_inj (List.getElem?_eq_some_iff.1 hp1).1 hnd).1 (by rw [hp1, hp2, e12])
            have hon : Only B S w (wt.setCells g K (List.replicate (n - K) (.slice none 0 0))) := Only.of_grown (v := .slice (some ⟨g, 0, none⟩) n c) hgf (fun q hq => (v1.lt q hq).1) v2
            have Hfin := Lib.hid hfin
            have Hon := Lib.hid hon
            clear hfin hon hu1 hu2 hu3 hrowK hrow hgf
            go_wp2
            go_ret
            exact ⟨_, rfl, Hfin.out, Hon.out⟩
      · have Hyx := Lib.hid (show decide (y = x) = false by simpa using hyx)
        have Hk2 := Lib.hid (show ∀ i, i < k + 1 → keepI xss i = true from fun i hi => by
          rcases Nat.lt_or_ge i k with h | h
          · exact Hkeep.out i h
          · obtain rfl : i = k := by omega
            rw [Hkk.out]
            simpa using hyx)
        clear hyx
        go_wp2
        go_quiet ((go_at_call 67; exact quiet (is (equalC_any _ _ _ _ _ _ y x _ (hr2.below ((Drew.drewN _ _).below _)) (hr1.below ((Drew.drewN _ _).below _)) Hly.out Hlx.out (by omega)) Hyx.out)))
        go_wp2
        go_roundw
        case rel => exact ⟨⟨k + 1, by omega, by omega, by go_num, Hk2.out⟩, hd.trans (Drew.drewN _ _)⟩
        case measure => simp [intOf]; omega
    · obtain rfl : k = n := by omega
      have hb0 := hd.below w.heap.size
      have Hfin := Lib.hid (show CCO wo B S (some ⟨g, 0, none⟩) k c (compD xss) by rw [Hall.out Hkeep.out]; exact HO.out.below hb0)
      go_wp2
      go_ret
      exact ⟨_, rfl, Hfin.out, ⟨hb0.os, hb0.tape, hb0.output, hb0.size, fun k hk _ => hb0.block k hk⟩⟩
end Go.Proofs.Ytageojkepoejiaa
