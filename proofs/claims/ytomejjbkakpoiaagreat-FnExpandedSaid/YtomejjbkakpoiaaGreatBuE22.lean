/-
  Contract of l3Stair.
  Contract of l3Schubert.
  PolyOk of the reference.
  Append of a term as a step of a region that draws its order.
-/
import Derived.Test.YtomejjbkakpoiaaGreatBuE21
import Derived.Test.YtomejjbkakpoiaaGreatBuE10
import Derived.Test.YtomejjbkakpoiaaGreatBuE17
import Derived.Test.YtomejjbkakpoiaaGreatBuE9
import Derived.Test.YtomejjbkakpoiaaGreatBuE18
namespace Go.Proofs.YtomejjbkakpoiaaGreat
open Go.RowKit

theorem MO.one (w : World) (p q : Int) : MO (w.alloc (.cells #[.int .i64 p, .int .i64 q] 134)) w.heap.size (w.alloc (.cells #[.int .i64 p, .int .i64 q] 134)).heap.size (some ⟨w.heap.size, 0, none⟩) 1 1 [(p, q)] :=
  MO.mk ⟨rfl, .inr ⟨w.heap.size, 1, #[.int .i64 p, .int .i64 q], rfl, Nat.le_refl _, heap_alloc_new w _, Nat.le_refl _, by unfold maxLen; omega, rfl, rfl⟩⟩
set_option maxRecDepth 100000 in
set_option maxHeartbeats 3200000 in
theorem l3Stair_any (n : Nat) (w : World) (hn : n ≤ 7) :
    Calls Tryz.prog 119 #[.int .i64 n] w fun e w' => ∃ a' c', e = .returned (.slice a' 1 c') ∧ MO w' w.heap.size w'.heap.size a' 1 c' [(partK n n, 1)] ∧ Below w.heap.size w w' := by
  have q0 : IntKind.i64.wrap ((n : Int) - 1) = (n : Int) - 1 := IntWalk.i64_in _ (by omega)
  go_enter Tryz.func119, Tryz.ntmps119
  go_wp2
  go_loopw [3, 4] (fun kv iv wr => ∃ j : Nat, j ≤ n ∧ iv = .int .i64 j ∧ kv = .int .i64 (partK n j) ∧ wr = w) (fun _ iv _ => n - (intOf iv).toNat)
  case atStart => exact ⟨0, Nat.zero_le _, rfl, rfl, rfl⟩
  case round =>
    obtain ⟨j, hj, rfl, rfl, rfl⟩ := hrel
    by_cases hlt : j < n
    · obtain ⟨b1, b2, b3, b4⟩ := partK_in n (by omega) j (by omega) hj
      obtain ⟨b5, b6, _, _⟩ := partK_in n (by omega) (j + 1) (by omega) hlt
      have Hs := Lib.hid (partK_succ n j)
      rw [Hs.out] at b5 b6
      have q1 : (j : Int) < (n : Int) := by omega
      have q2 : IntKind.i64.wrap ((n : Int) - 1 - j) = (n : Int) - 1 - j := IntWalk.i64_in _ (by omega)
      have HU := Lib.hid (l2Unit_any j)
      generalize unit j = u at *
      have q3 : IntKind.i64.wrap (((n : Int) - 1 - j) * u) = ((n : Int) - 1 - j) * u := IntWalk.i64_in _ (by omega)
      have q4 : IntKind.i64.wrap (partK n j + ((n : Int) - 1 - j) * u) = partK n j + ((n : Int) - 1 - j) * u := IntWalk.i64_in _ (by omega)
      go_wp2_with fail
      refine (HU.out _ _ rfl (by omega)).mono ?_
      rintro e w1 ⟨rfl, hw⟩
      subst hw
      go_wp2
      go_roundw
      case rel => exact ⟨j + 1, by omega, by go_num, by rw [Hs.out], trivial⟩
      case measure => clear q2 q3 q4; simp [intOf]; omega
    · obtain rfl : j = n := by omega
      have HM := Lib.hid (MO.one wr (partK j j) 1)
      have hB : Below wr.heap.size wr (wr.alloc (.cells #[.int .i64 (partK j j), .int .i64 1] 134)) := (Below.refl _ _).alloc (Nat.le_refl _) _
      go_wp2
      go_ret
      exact ⟨_, _, rfl, HM.out, hB⟩
end Go.Proofs.YtomejjbkakpoiaaGreat

namespace Go.Proofs.YtomejjbkakpoiaaGreat
open Go.RowKit

set_option maxRecDepth 100000 in
set_option maxHeartbeats 3200000 in
theorem l3Schubert_any (a : Option Addr) (n c : Nat) (xs : List Int) (w : World) (hr : RI w a xs) (hn : xs.length = n) (hb : n ≤ 7) (hnc : n ≤ c) :
    Calls Tryz.prog 101 #[.slice a n c] w fun e w' => ∃ a' n' c', e = .returned (.slice a' n' c') ∧ MO w' w.heap.size w'.heap.size a' n' c' (canon (schM (xs.take (trimLen xs n)) (trimLen xs n))) ∧ Below w.heap.size w w' := by
  have Hn := Lib.hid hn; clear hn
  have HT := Lib.hid (fun w => l1Trim_any a n c xs w)
  have hmn := trimLen_le xs n
  obtain ⟨m, hm⟩ : ∃ m, trimLen xs n = m := ⟨_, rfl⟩
  rw [hm] at HT hmn ⊢
  obtain ⟨v, hv⟩ : ∃ v, xs.take m = v := ⟨_, rfl⟩
  have Hvl := Lib.hid (show v.length = m by rw [← hv, List.length_take, Hn.out]; omega)
  rw [hv] at HT ⊢
  clear hm hv
  have HB7 := Lib.hid (B7.stair (n := m) (by omega))
  have Hu5 := Lib.hid (show ∀ k ∈ ups v, k ≤ 5 from fun k hk => by have := ups_lt v k hk; rw [Hvl.out] at this; omega)
  have h49 := nin_small (v := v) (by rw [Hvl.out]; omega)
  have HNv := Lib.hid (show nin v ≤ 1000000 by omega)
  go_enter Tryz.func101, Tryz.ntmps101
  go_wp2_with fail
  refine (HT.out _ hr Hn.out (by omega) hnc).mono ?_
  rintro e w1 ⟨a1, c1, rfl, ho1, hb1⟩
  have Ho1 := Lib.hid ho1
  clear ho1
  go_wp2_with fail
  refine (l3Stair_any m _ (by omega)).mono ?_
  rintro e w2 ⟨a2, c2, rfl, ho2, hb2⟩
  have hB2 := hb1.trans (hb2.mono hb1.size)
  have Ho2 := Lib.hid ho2
  have Ho12 := Lib.hid (Ho1.out.below hb2)
  clear ho2
  go_wp2_with fail
  refine (l3Up_any _ _ _ v _ Ho12.out.rd Hvl.out (by omega) HNv.out).mono ?_
  rintro e w3 ⟨a3, L, c3, rfl, ho3, hb3⟩
  have hB3 := hB2.trans (hb3.mono hB2.size)
  have Hr3 := Lib.hid ho3.rd
  have Hl3 := Lib.hid (show (ups v).length = L by have := ho3.len; simpa [natI] using this)
  have HF0 := Lib.hid (show MO w3 w.heap.size w3.heap.size a2 1 c2 (canon (((ups v).drop L).foldr dividedM [(partK m m, 1)])) by
    rw [List.drop_of_length_le (by rw [Hl3.out]; exact Nat.le_refl _), List.foldr_nil, canon_one (by decide) (by unfold in64; omega)]
    exact (Ho2.out.below hb3).mono hb1.size hb3.size)
  have hL : L ≤ 1000000 := by have := upf_le (nin v) v; have h2 := Hl3.out; unfold ups at h2; omega
  clear h49
  clear ho3 Ho1 Ho2 Ho12
  have q0 : IntKind.i64.wrap ((L : Int) - 1) = (L : Int) - 1 := IntWalk.i64_in _ (by omega)
  go_wp2
  go_loopw [4, 6] (fun fv iv wr => Hid (∃ (j : Nat) (a' : Option Addr) (n' c' : Nat), j ≤ L ∧ iv = .int .i64 ((j : Int) - 1) ∧ fv = .slice a' n' c' ∧ MO wr w.heap.size wr.heap.size a' n' c' (canon (((ups v).drop j).foldr dividedM [(partK m m, 1)]))) ∧ Below w3.heap.size w3 wr) (fun _ iv _ => (intOf iv + 1).toNat)
  case atStart => exact ⟨⟨L, _, _, _, Nat.le_refl _, rfl, rfl, HF0.out⟩, Below.refl _ _⟩
  case round =>
    clear HF0 q0
    obtain ⟨HV, hB⟩ := hrel
    obtain ⟨wo, rfl⟩ : ∃ wo : World, wo = wr := ⟨_, rfl⟩
    obtain ⟨j, a4, n4, c4, hj, rfl, rfl, hM⟩ := HV.out
    clear HV
    have hBw := hB3.trans (hB.mono hB3.size)
    rcases j with _ | j
    · rw [List.drop_zero] at hM
      have HM := Lib.hid hM
      clear hM
      go_wp2
      go_ret
      exact ⟨_, _, _, rfl, HM.out, hBw⟩
    · obtain ⟨k, hk⟩ : ∃ k, (ups v)[j]? = some k := ⟨(ups v)[j]'(by rw [Hl3.out]; omega), List.getElem?_eq_getElem _⟩
      have hk5 := Hu5.out k (List.mem_of_getElem? hk)
      obtain ⟨b, off, rfl, hcell⟩ := (Hr3.out.below hB).at (k := j) (by rw [natI, List.length_map, Hl3.out]; omega)
      have p1 := hcell j (k : Int) (by rw [natI, List.getElem?_map, hk]; rfl)
      have hF7 : B7 (((ups v).drop (j + 1)).foldr dividedM [(partK m m, 1)]) := HB7.out.low _ (fun q hq => Hu5.out q (List.mem_of_mem_drop hq))
      have Hst := Lib.hid (show canon (dividedM k (canon (((ups v).drop (j + 1)).foldr dividedM [(partK m m, 1)]))) = canon (((ups v).drop j).foldr dividedM [(partK m m, 1)]) by
        rw [drop_at hk, List.foldr_cons]
        exact canon_eqv (dividedM_eqv (canon_self _)))
      have hcnt := hF7.count
      have Hlen := Lib.hid hM.len
      rw [Hlen.out] at hcnt
      have Hk4 := Lib.hid (show ∀ p ∈ canon (((ups v).drop (j + 1)).foldr dividedM [(partK m m, 1)]), inK p.1 ∧ in64 p.2 from fun p hp => ⟨(hF7.canon p hp).1, canon_64 _ p hp⟩)
      have HM := Lib.hid hM
      clear hM hk hcell hF7
      have e1 : ((j + 1 : Nat) : Int) - 1 = (j : Int) := by omega
      rw [e1]
      have q1 : (j : Int) < (L : Int) := by omega
      have q2 : (0 : Int) ≤ (j : Int) := by omega
      have q5 : IntKind.i64.wrap ((j : Int) - 1) = (j : Int) - 1 := IntWalk.i64_in _ (by omega)
      clear e1
      go_wp2_with fail
      refine (l2Divided_any k _ _ _ _ _ _ HM.out.rd Hlen.out (by omega) rfl hk5 Hk4.out (Nat.le_trans (dividedW_le _ _) (by rw [Hlen.out]; omega))).mono ?_
      rintro e w5 ⟨a5, n5, c5, rfl, ho5, hb5⟩
      rw [Hst.out] at ho5
      have HM5 := Lib.hid (ho5.mono (B' := w.heap.size) (S' := w5.heap.size) hBw.size (Nat.le_refl _))
      have hB5 := hB.trans (hb5.mono hB.size)
      clear ho5 hb5 HM
      go_wp2
      go_roundw
      case rel => exact ⟨⟨j, _, _, _, by omega, rfl, rfl, HM5.out⟩, hB5⟩
      case measure => clear q5; simp [intOf]
end Go.Proofs.YtomejjbkakpoiaaGreat

namespace Go.Proofs.YtomejjbkakpoiaaGreat
open Go.RowKit

set_option maxRecDepth 100000 in
set_option maxHeartbeats 3200000 in
theorem specPolyOk_any (a : Option Addr) (n c : Nat) (xs : List (List Int × Int)) (w : World) (hr : RP w a xs) (hn : xs.length = n) (hb : n ≤ 1048576) :
    Calls Tryz.prog 102 #[.slice a n c] w fun e w' => e = .returned (.bool (polyOk xs)) ∧ Below w.heap.size w w' := by
  have Hn := Lib.hid hn; clear hn
  by_cases h600 : n ≤ 600
  case neg =>
    have H0 := Lib.hid (polyOk_long (xs := xs) (by rw [Hn.out]; exact h600))
    go_enter Tryz.func102, Tryz.ntmps102
    go_wp2
    go_ret
    exact ⟨ret_bool H0.out.symm, Below.refl _ _⟩
  go_enter Tryz.func102, Tryz.ntmps102
  go_wp2
  go_loopw [3] (fun i wr => ∃ k : Nat, k ≤ n ∧ i = .int .i64 k ∧ Hid (∀ j, j < k → termAt xs j = true) ∧ Below w.heap.size w wr) (fun i _ => n - (intOf i).toNat)
  case atStart => exact ⟨0, Nat.zero_le _, rfl, by intro j hj; omega, Below.refl _ _⟩
  case round =>
    obtain ⟨k, hk, rfl, HA, hd⟩ := hrel
    obtain ⟨wo, rfl⟩ : ∃ wo : World, wo = wr := ⟨_, rfl⟩
    by_cases hlt : k < n
    · obtain ⟨b, off, rfl, hcell⟩ := (hr.below hd).at (k := k) (by rw [Hn.out]; exact hlt)
      obtain ⟨s, x, hx⟩ := part_at Hn.out hlt
      obtain ⟨a1, c1, hc1, hc2, hri, _⟩ := hcell k _ hx
      simp only at hc1 hc2 hri
      have hlast : k ≠ 0 → ∃ t d a2 c2, xs[k-1]? = some (t, d) ∧ wo.cell? ⟨b, off + (k-1) * 2, none⟩ = some (.slice a2 t.length c2) ∧ RI wo a2 t := by
        intro h0
        obtain ⟨t, d, ht⟩ := part_at (k := k - 1) Hn.out (by omega)
        obtain ⟨a2, c2, e1, e2, e3, _⟩ := hcell (k - 1) _ ht
        exact ⟨t, d, a2, c2, ht, e1, e3⟩
      clear hcell
      have Hx := Lib.hid hx; clear hx
      obtain ⟨l, hl⟩ : ∃ l, s.length = l := ⟨_, rfl⟩
      rw [hl] at hc1
      have Hl := Lib.hid hl; clear hl
      have q1 : (k : Int) < (n : Int) := by omega
      by_cases hl7 : l = 7
      case neg =>
        clear hlast
        have e0 : ((l : Int) != 7) = true := by rw [bne_iff_ne]; omega
        have H0 := Lib.hid (polyOk_false (k := k) (by rw [Hn.out]; exact hlt) (termAt_head Hx.out (by simp [headOk, Hl.out, hl7])))
        go_wp2
        go_ret
        exact ⟨ret_bool H0.out.symm, hd⟩
      subst hl7
      have e0 : (((7 : Nat) : Int) != 7) = false := by decide
      by_cases hc0 : x = 0
      case pos =>
        clear hlast
        have e1 : (x == 0) = true := by simp [hc0]
        have H0 := Lib.hid (polyOk_false (k := k) (by rw [Hn.out]; exact hlt) (termAt_head Hx.out (by simp [headOk, coefOk, hc0])))
        clear hc0
        go_wp2
        go_ret
        exact ⟨ret_bool H0.out.symm, hd⟩
      have e1 : (x == 0) = false := by simp [hc0]
      by_cases hlo : x < -1000000 ∨ 1000000 < x
      case pos =>
        clear hlast
        have H0 := Lib.hid (polyOk_false (k := k) (by rw [Hn.out]; exact hlt) (termAt_head Hx.out (by simp [headOk, coefOk]; omega)))
        go_wp2_with fail
        refine (l1In_no x (-1000000) 1000000 _ hlo).mono ?_
        rintro e w2 ⟨rfl, hd2⟩
        go_wp2
        go_ret
        exact ⟨ret_bool H0.out.symm, hd.trans (hd2.below _)⟩
      have Hhead := Lib.hid (show headOk (s, x) = true by simp [headOk, coefOk, Hl.out]; omega)
      have hin : -1000000 ≤ x ∧ x ≤ 1000000 := by omega
      clear hc0 hlo
      go_wp2_with fail
      refine (l1In_yes x (-1000000) 1000000 _ hin).mono ?_
      rintro e w2 ⟨rfl, hd2⟩
      go_wp2
      go_loopw [4] (fun iv wr => ∃ i : Nat, i ≤ 7 ∧ iv = .int .i64 i ∧ Hid (∀ j z, j < i → s[j]? = some z → small z = true) ∧ Drew wo wr) (fun iv _ => 7 - (intOf iv).toNat)
      case atStart => exact ⟨0, by omega, rfl, (fun j z hj => by omega), hd2⟩
      case round =>
        clear hd2
        obtain ⟨i, hi, rfl, HS, hd3⟩ := hrel
        obtain ⟨wq, rfl⟩ : ∃ wq : World, wq = wr := ⟨_, rfl⟩
        have hri := hri.drew hd3
        have hd := hd.trans (hd3.below w.heap.size)
        have hc1 : wq.cell? ⟨b, off + k * 2, none⟩ = some (.slice a1 7 c1) := by rw [hd3.cell]; exact hc1
        have hlast : k ≠ 0 → ∃ t d a2 c2, xs[k-1]? = some (t, d) ∧ wq.cell? ⟨b, off + (k-1) * 2, none⟩ = some (.slice a2 t.length c2) ∧ RI wq a2 t := by
          intro h0
          obtain ⟨t, d, a2, c2, e1, e2, e3⟩ := hlast h0
          exact ⟨t, d, a2, c2, e1, by rw [hd3.cell]; exact e2, e3.drew hd3⟩
        by_cases hi7 : i < 7
        · obtain ⟨bs, offs, rfl, hcs⟩ := hri.at (k := i) (by rw [Hl.out]; exact hi7)
          obtain ⟨z, hz⟩ := some_at Hl.out hi7
          have hcz := hcs i z hz
          have r1 : (i : Int) < 7 := by omega
          have HZ := Lib.hid hz
          clear hcs hz hlast
          by_cases hz1 : z < 0 ∨ 24 < z
          · have H0 := Lib.hid (polyOk_false (k := k) (by rw [Hn.out]; exact hlt) (termAt_exp Hx.out HZ.out (by simp [small]; omega)))
            go_wp2_with fail
            refine (l1In_no z 0 24 _ hz1).mono ?_
            rintro e w2 ⟨rfl, hd2⟩
            go_wp2
            go_ret
            exact ⟨ret_bool H0.out.symm, hd.trans (hd2.below _)⟩
          · have hz2 : 0 ≤ z ∧ z ≤ 24 := by omega
            have HS1 := Lib.hid (show ∀ j u, j < i + 1 → s[j]? = some u → small u = true from fun j u hj hu => by
              rcases Nat.lt_or_ge j i with h | h
              · exact HS.out j u h hu
              · obtain rfl : j = i := by omega
                rw [HZ.out] at hu
                obtain rfl := Option.some.inj hu
                simp [small]; omega)
            clear hz1
            go_wp2_with fail
            refine (l1In_yes z 0 24 _ hz2).mono ?_
            rintro e w2 ⟨rfl, hd2⟩
            have hd4 := hd3.trans hd2
            go_wp2
            go_roundw
            case rel => exact ⟨i + 1, by omega, by go_num, HS1.out, hd4⟩
            case measure => simp [intOf]; omega
        · obtain rfl : i = 7 := by omega
          have HSm := Lib.hid (all_small Hl.out HS.out)
          have hinf := small_digs HSm.out
          have Hsd := Lib.hid hinf
          clear hinf
          by_cases hk0 : k = 0
          · subst hk0
            have g0 : decide ((0 : Int) < 0) = false := by decide
            clear hlast
            go_wp2
            go_quiet (fail)
            go_wp2
            go_roundw
            case rel => exact ⟨1, by omega, rfl, termAt_next HA.out (termAt_first Hx.out Hhead.out HSm.out), hd.trans (Drew.below (Drew.drewN _ _) _)⟩
            case measure => simp [intOf]; omega
          · obtain ⟨t, d, a2, c2, ht, hc3, hri2⟩ := hlast hk0
            clear hlast
            obtain ⟨ht7, htd, _⟩ := termAt_ok ht (HA.out (k - 1) (by omega))
            have Ht := Lib.hid ht; clear ht
            rw [ht7] at hc3
            have Htd := Lib.hid htd
            have Ht7 := Lib.hid ht7
            clear ht7 htd
            have g0 : 0 < k := by omega
            have g1 : (0 : Int) ≤ (k : Int) - 1 := by omega
            have g2 : (k : Int) - 1 < (n : Int) := by omega
            have g3 : IntKind.i64.wrap ((k : Int) - 1) = (k : Int) - 1 := IntWalk.i64_in _ (by omega)
            have g4 : ((k : Int) - 1).toNat = k - 1 := by omega
            obtain ⟨ks, hks⟩ : ∃ o, keyL s = o := ⟨_, rfl⟩
            obtain ⟨kt, hkt⟩ : ∃ o, keyL t = o := ⟨_, rfl⟩
            have HKs := Lib.hid hks
            have HKt := Lib.hid hkt
            clear hks hkt
            by_cases hneg : ks < kt
            · have Hlt := Lib.hid (show keyL s < keyL t by rw [HKs.out, HKt.out]; exact hneg)
              have g5 : decide (kt ≤ ks) = false := by simp; omega
              clear hneg
              go_wp2
              refine wp_region_quiet_lit (by kernel_rfl) (by kernel_rfl) ?_
              repeat (go_big_quiet_step (fail))
              go_big_quiet_want
              go_big_quiet_op
              apply Exists.intro
              refine ⟨fun _ => ?_, ?_⟩
              · go_at_call 122
                exact quiet ((isInt (l2Key_any _ _ _ t _ (hri2.drew (Drew.drewN _ _)) Ht7.out (by omega) Htd.out) HKt.out).mono fun _ _ ⟨he, hw⟩ => ⟨he, hw ▸ Drew.refl _⟩)
              go_big_quiet_on
              repeat (go_big_quiet_step (fail))
              go_big_quiet_want
              go_big_quiet_op
              apply Exists.intro
              refine ⟨fun _ => ?_, ?_⟩
              · go_at_call 122
                exact quiet ((isInt (l2Key_any _ _ _ s _ (hri.drew (Drew.drewN _ _)) Hl.out (by omega) Hsd.out) HKs.out).mono fun _ _ ⟨he, hw⟩ => ⟨he, hw ▸ Drew.refl _⟩)
              go_big_quiet_on
              repeat (go_big_quiet_step (fail))
              refine wpQuiet_nil ?_
              intro _ hw'
              obtain ⟨nq, rfl⟩ := hw'
              clear g3 g4
              go_wp2
              go_roundw
              case rel => exact ⟨k + 1, by omega, by go_num, termAt_next HA.out (termAt_rest Hx.out Ht.out Hhead.out HSm.out Hlt.out), hd.trans (Drew.below (Drew.drewN _ _) _)⟩
              case measure => simp [intOf]; omega
            · have H0 := Lib.hid (polyOk_false (k := k) (by rw [Hn.out]; exact hlt) (termAt_rise Hx.out Ht.out hk0 (by rw [HKs.out, HKt.out]; exact hneg)))
              have g5 : decide (kt ≤ ks) = true := by simp; omega
              clear hneg
              go_wp2
              refine wp_region_quiet_lit (by kernel_rfl) (by kernel_rfl) ?_
              repeat (go_big_quiet_step (fail))
              go_big_quiet_want
              go_big_quiet_op
              apply Exists.intro
              refine ⟨fun _ => ?_, ?_⟩
              · go_at_call 122
                exact quiet ((isInt (l2Key_any _ _ _ t _ (hri2.drew (Drew.drewN _ _)) Ht7.out (by omega) Htd.out) HKt.out).mono fun _ _ ⟨he, hw⟩ => ⟨he, hw ▸ Drew.refl _⟩)
              go_big_quiet_on
              repeat (go_big_quiet_step (fail))
              go_big_quiet_want
              go_big_quiet_op
              apply Exists.intro
              refine ⟨fun _ => ?_, ?_⟩
              · go_at_call 122
                exact quiet ((isInt (l2Key_any _ _ _ s _ (hri.drew (Drew.drewN _ _)) Hl.out (by omega) Hsd.out) HKs.out).mono fun _ _ ⟨he, hw⟩ => ⟨he, hw ▸ Drew.refl _⟩)
              go_big_quiet_on
              repeat (go_big_quiet_step (fail))
              refine wpQuiet_nil ?_
              intro _ hw'
              obtain ⟨nq, rfl⟩ := hw'
              clear g3 g4
              go_wp2
              go_ret
              exact ⟨ret_bool H0.out.symm, hd.trans (Drew.below (Drew.drewN _ _) _)⟩
    · obtain rfl : k = n := by omega
      have H0 := Lib.hid (polyOk_true (by rw [Hn.out]; exact h600) (by rw [Hn.out]; exact HA.out))
      go_wp2
      go_ret
      exact ⟨ret_bool H0.out.symm, hd⟩
end Go.Proofs.YtomejjbkakpoiaaGreat

namespace Go.Proofs.YtomejjbkakpoiaaGreat
open Go.RowKit

theorem step_pushT {w W : World} {b : Option Addr} {m d : Nat} {y : Int} (hW : W = w.alloc (.cells #[.slice b m d, .int .i64 y] 74)) {ops : Array Oper} {o : Oper} {ac : Act} {K : Act → World → Prop} {Q : Exit → Act → World → Prop} (hwant : Region.wanted o (yielded ops ac.tmps) = true) (s x : Operand)
    (ho : o.op = .call { callee := .builtin .append, args := #[s, x], argTypes := #[30, 30] })
    {B S : Nat} {a : Option Addr} {n c : Nat} {xs : List (List Int × Int)} (hown : TO w B S a n c xs) (hs : ac.eval s = .slice a n c)
    {ys : List Int} {S' : Nat} (hr : OwI w S S' b m d ys) (hBS : B ≤ S) (hx : ac.eval x = .slice (some ⟨w.heap.size, 0, none⟩) 1 1) (hn : n + 1 ≤ 1048576) (hbase : B ≤ w.heap.size) (hS : S ≤ w.heap.size) (hS' : S' ≤ w.heap.size)
    (h : ∀ a' c' w', TO w' B w'.heap.size a' (n + 1) c' (xs ++ [(ys, y)]) → w.grownBy w' (Value.slice a n c).ownBlock → K (ac.put o.dst (.slice a' (n + 1) c')) w') :
    if Region.wanted o (yielded ops ac.tmps) = true then Oper.wp Tryz.prog o ac W K Q else K (ac.put o.dst undef) W := by
  rw [if_pos hwant]
  subst hW
  obtain ⟨i0, hi, hz0, hz1, hz2⟩ := info_parts Tryz.info74
  obtain ⟨vs, h1, h2, h3⟩ := hown
  have hlen := hr.len
  have hvl := h3.len
  have h10 := h1.1
  have h1a := h1.alloc (.cells #[.slice b m d, .int .i64 y] 74)
  obtain ⟨v', w', hrun, h4, h5, _⟩ := run_append_own (P := Tryz.prog) (w.alloc (.cells #[.slice b m d, .int .i64 y] 74)) B 30 o.type 74 i0 (.agg #[.slice none 0 0, .int .i64 0]) 2 32 Tryz.underlying30 hi hz0 hz1 hz2 rfl (by decide) (.slice a n c) n vs h1a ⟨w.heap.size, 0, none⟩ 1 1 [.slice b m d, .int .i64 y] rfl
    (by
      intro j u hj
      match j, hj with
      | 0, hj => simp at hj; subst hj; simp [Addr.add]
      | 1, hj => simp at hj; subst hj; simp [Addr.add])
    (by
      intro u hu
      simp at hu
      rcases hu with rfl | rfl <;> rfl) (by unfold maxLen; omega) (by omega) (by simp; omega)
  obtain ⟨a', c', rfl⟩ := slice_ofT h4
  unfold Oper.wp execOp
  simp only [ho, resolve, invoke, builtin, Sem.run_bind, Sem.run_pure, Result.andThen_ok, List.map_toArray, List.map_cons, List.map_nil, hs, hx, hrun]
  have hg := grownBy.trans (World.grownBy_alloc w (.cells #[.slice b m d, .int .i64 y] 74) (Value.slice a n c).ownBlock) h5
  have hsz := hg.size
  have keep : ∀ {B0 S0 : Nat} {a0 : Option Addr} {l0 c0 : Nat} {zs : List Int}, OwI w B0 S0 a0 l0 c0 zs → OwI w' B0 S0 a0 l0 c0 zs := fun hio => ⟨hio.1.kept hg (fun k hk e => ne_blockT h1 hio k e hk), hio.2⟩
  have hold : ∀ i v, vs[i * 2]? = some v → ∀ g, v.ownBlock = some g → g < S := by
    intro i v hv g hvg
    have hi := lt_of_some hv
    obtain ⟨p, hp⟩ := some_of (show i < xs.length by omega)
    obtain ⟨a2, c2, e1, _, e3⟩ := h3.each i p hp
    rw [hv] at e1
    obtain rfl := Option.some.inj e1
    exact e3.2 g hvg
  have hnew : ∀ g, (Value.slice b m d).ownBlock = some g → S ≤ g := fun g hg => hr.1.lo g hg
  refine h a' c' w' ⟨vs ++ [.slice b m d, .int .i64 y], h4, fun k hk => (h4.lt k hk).2, by simp; omega, fun k p hp => ?_, ?_⟩ hg
  · rcases Nat.lt_or_ge k xs.length with hk | hk
    · rw [List.getElem?_append_left hk] at hp
      obtain ⟨a2, c2, e1, e2, e3⟩ := h3.each k p hp
      exact ⟨a2, c2, by rw [List.getElem?_append_left (by omega)]; exact e1, by rw [List.getElem?_append_left (by omega)]; exact e2, (keep e3).mono (Nat.le_refl _) (by omega)⟩
    · rw [List.getElem?_append_right hk] at hp
      have hk0 : k - xs.length = 0 := by have := lt_of_some hp; simp at this; omega
      rw [hk0] at hp
      obtain rfl : (ys, y) = p := by simpa using hp
      have hkx : k = xs.length := by omega
      refine ⟨b, d, ?_, ?_, ?_⟩
      · rw [List.getElem?_append_right (by omega), show k * 2 - vs.length = 0 by omega, hlen]; rfl
      · rw [List.getElem?_append_right (by omega), show k * 2 + 1 - vs.length = 1 by omega]; rfl
      · show OwI w' B w'.heap.size b ys.length d ys
        rw [hlen]
        exact (keep hr).mono hBS (by omega)
  · intro i j u v g hu hv hug hvg
    have split : ∀ i u, (vs ++ [Value.slice b m d, .int .i64 y])[i * 2]? = some u → (i * 2 < vs.length ∧ vs[i * 2]? = some u) ∨ (i * 2 = vs.length ∧ u = .slice b m d) := by
      intro i u hu
      rcases Nat.lt_or_ge (i * 2) vs.length with hi | hi
      · rw [List.getElem?_append_left hi] at hu
        exact .inl ⟨hi, hu⟩
      · rw [List.getElem?_append_right hi] at hu
        have hlt := lt_of_some hu
        simp at hlt
        have e0 : i * 2 - vs.length = 0 := by omega
        rw [e0] at hu
        simp at hu
        exact .inr ⟨by omega, hu.symm⟩
    rcases split i u hu with ⟨_, hu⟩ | ⟨e1, rfl⟩ <;> rcases split j v hv with ⟨_, hv⟩ | ⟨e2, rfl⟩
    · exact h3.apart i j u v g hu hv hug hvg
    · have := hold i u hu g hug
      have := hnew g hvg
      omega
    · have := hold j v hv g hvg
      have := hnew g hug
      omega
    · omega
end Go.Proofs.YtomejjbkakpoiaaGreat
