/-
  Contract of l1Insert of the reference.
-/
import Derived.Test.YtageojkepoejiaaL1Insert0
namespace Go.Proofs.Ytageojkepoejiaa
open Go.RowKit

set_option maxRecDepth 100000 in
set_option maxHeartbeats 6400000 in
theorem l1Insert_any (B S : Nat) (a : Option Addr) (n c : Nat) (xss : List (List Int)) (ax : Option Addr) (m cx : Nat) (ys : List Int) (w : World) (hl : IIS w B S a n c xss) (hx : OwI w B S ax m cx ys) (hS : S ≤ w.heap.size) (hBw : B ≤ w.heap.size)
    (hb : n ≤ 1048576) (hm : m ≤ 1048576) (hsh : ∀ p ∈ xss, p.length ≤ 1048576) :
    Calls Try.prog 38 #[.slice a n c, .slice ax m cx] w fun e w' => ∃ a' n' c', e = .returned (.slice a' n' c') ∧ IIS w' B w'.heap.size a' n' c' (insL ys xss) ∧ Below w.heap.size w w' := by
  have hn := hl.len
  have Hn := Lib.hid hn
  have Hl := Lib.hid hl
  have Hx := Lib.hid hx
  have Hsh := Lib.hid hsh
  have hrl := hl.rd
  clear hn hl hx hsh
  go_enter Try.func38, Try.ntmps38
  go_wp2
  go_loopw [5] (fun iv wr => Hid (∃ k : Nat, iv = .int .i64 k ∧ k ≤ cutL ys xss) ∧ Drew w wr) (fun iv _ => n + 1 - (intOf iv).toNat)
  case atStart => exact ⟨⟨0, rfl, Nat.zero_le _⟩, Drew.refl _⟩
  case round =>
    obtain ⟨HK, hd⟩ := hrel
    obtain ⟨wo, rfl⟩ : ∃ wo : World, wo = wr := ⟨_, rfl⟩
    obtain ⟨k, rfl, hk⟩ := HK.out
    clear HK
    have hkn : k ≤ n := by have := cutL_le ys xss; have := Hn.out; omega
    have hBd : Below w.heap.size w wo := hd.below _
    have Hlo := Lib.hid (Hl.out.below hBd)
    have Hxo := Lib.hid (Hx.out.below hBd)
    by_cases hlt : k < n
    · obtain ⟨zs, hzs⟩ : ∃ zs, xss[k]? = some zs := some_of (by rw [Hn.out]; exact hlt)
      have Hzs := Lib.hid hzs
      have hzl := Hsh.out _ (List.mem_of_getElem? hzs)
      rcases Hlo.out.rd with h0 | ⟨b, off, rfl, hcell⟩
      · rw [h0] at hzs; simp at hzs
      obtain ⟨az, cz, hcz, hrz⟩ := hcell k zs hzs
      have q1 : (k : Int) < (n : Int) := by omega
      have q2 : IntKind.i64.wrap ((k : Int) + 1) = (k : Int) + 1 := IntWalk.i64_in _ (by omega)
      obtain ⟨lz, hlz⟩ : ∃ l, zs.length = l := ⟨_, rfl⟩
      rw [hlz] at hcz hzl
      have Hlz := Lib.hid hlz
      have Hrz := Lib.hid hrz
      clear hzs hcell hlz hrz
      cases hls : less zs ys
      · have Hcut := Lib.hid (cutL_at hk (.inr ⟨zs, Hzs.out, hls⟩))
        have Hls := Lib.hid hls
        clear hls
        go_wp2_with fail
        refine (is (l1Less_any _ _ _ _ _ _ zs ys _ Hrz.out Hxo.out.rd Hlz.out Hxo.out.len (by omega) (by omega)) Hls.out).mono ?_
        rintro e w2 ⟨rfl, hd2⟩
        have hd3 := hd.trans hd2
        have hb2 : Below wo.heap.size wo w2 := hd2.below _
        have hcz2 := hcz
        rw [← hb2.cell (World.block_lt_of_cell? wo _ hcz)] at hcz2
        have Hrz2 := Lib.hid (Hrz.out.below hb2)
        have Hxo2 := Lib.hid (Hxo.out.below hb2)
        have Hlo2 := Lib.hid (Hlo.out.below hb2)
        by_cases heq : zs = ys
        · have Hins := Lib.hid (show insL ys xss = xss by unfold insL; rw [if_pos (by rw [Hcut.out, Hzs.out, heq])])
          have Heq := Lib.hid (show decide (zs = ys) = true by simpa using heq)
          clear heq
          go_wp2_with fail
          refine (is (l1Same_any _ _ _ _ _ _ zs ys _ Hrz2.out Hxo2.out.rd Hlz.out Hxo2.out.len (by omega)) Heq.out).mono ?_
          rintro e w3 ⟨rfl, hd4⟩
          go_wp2
          go_ret
          have hd5 := hd3.trans hd4
          have hB5 : Below w.heap.size w w3 := hd5.below _
          refine ⟨_, _, _, rfl, ?_, hB5⟩
          rw [Hins.out]
          have := hB5.size
          exact (Hl.out.below hB5).mono (by omega)
        · have Hneq := Lib.hid (show decide (zs = ys) = false by simpa using heq)
          have Hins := Lib.hid (show insL ys xss = xss.take k ++ [ys] ++ xss.drop k by unfold insL; rw [if_neg (by rw [Hcut.out, Hzs.out]; simpa using heq), Hcut.out])
          go_wp2_with fail
          refine (is (l1Same_any _ _ _ _ _ _ zs ys _ Hrz2.out Hxo2.out.rd Hlz.out Hxo2.out.len (by omega)) Hneq.out).mono ?_
          rintro e w3 ⟨rfl, hd4⟩
          have hd5 := hd3.trans hd4
          have hB5 : Below w.heap.size w w3.drew := (hd5.trans ⟨1, rfl⟩).below _
          obtain ⟨vs, hv1, hv2, hv3⟩ := Hl.out
          rcases ownsRow_shape hv1 with ⟨h0, _⟩ | ⟨g, hag, _⟩
          · omega
          simp only [Option.some.injEq, Addr.mk.injEq] at hag
          obtain ⟨rfl, rfl, _⟩ := hag
          have hcap : n ≤ c := by
            rcases hv1.2 with ⟨_, h0⟩ | ⟨g', cap, cur, hv, hg, hh, hn', hm', hs', ht'⟩
            · omega
            · simp only [Value.slice.injEq] at hv
              omega
          have hvl : vs.length = n := by rw [hv3.len]; exact Hn.out
          have hone := hv3.one
          have HV := Lib.hid hv3
          have q4 : (k : Int) ≤ (c : Int) := by omega
          have q5 : (k : Int) ≤ (n : Int) := by omega
          have q6 : ¬ c = k := by omega
          have l1 : (vs.take k).length = k := by rw [List.length_take]; omega
          have l3 : (vs.drop k).length = n - k := by rw [List.length_drop]; omega
          have o1 : ∀ u ∈ vs.take k, u.oneCell' = true := fun u hu => hone u (List.mem_of_mem_take hu)
          have o3 : ∀ u ∈ vs.drop k, u.oneCell' = true := fun u hu => hone u (List.mem_of_mem_drop hu)
          have hz := hB5.size
          have hemp := made_row hB5
          have hemp2 := made_row (Below.alloc hB5 hB5.size (.cells #[.slice ax m cx] 22))
          rw [show (w3.drew.alloc (.cells #[.slice ax m cx] 22)).heap.size = w3.heap.size + 1 by simp] at hemp2
          have oX : ∀ u ∈ [Value.slice ax m cx], u.oneCell' = true := by intro u hu; simp at hu; subst hu; rfl
          have nB : ∀ w4, ((w3.drew.alloc (.cells #[] 22)).alloc (.cells #[.slice ax m cx] 22)).grownBy w4 (Value.slice (some ⟨w3.drew.heap.size, 0, none⟩) 0 0).ownBlock →
              ∀ ad, (some ⟨w3.heap.size + 1, 0, none⟩ : Option Addr) = some ad → ∀ j u, [Value.slice ax m cx][j]? = some u → w4.cell? (ad.add j) = some u := by
            intro w4 hg
            have h0 := news_made (w3.drew.alloc (.cells #[] 22)) (.slice ax m cx) rfl
            rw [show (w3.drew.alloc (.cells #[] 22)).heap.size = w3.heap.size + 1 by simp] at h0
            exact news_kept h0 hg (by simp [Value.ownBlock])
          have nC : ∀ w4, ((w3.drew.alloc (.cells #[.slice ax m cx] 22)).alloc (.cells #[] 22)).grownBy w4 (Value.slice (some ⟨w3.heap.size + 1, 0, none⟩) 0 0).ownBlock →
              ∀ ad, (some ⟨w3.heap.size, 0, none⟩ : Option Addr) = some ad → ∀ j u, [Value.slice ax m cx][j]? = some u → w4.cell? (ad.add j) = some u :=
            fun w4 hg => news_kept (news_kept (news_made w3.drew (.slice ax m cx) rfl) (World.grownBy_alloc _ _ none) (by simp)) hg (by simp [Value.ownBlock])
          clear hv2 hv3 hone
          go_wp2
          go_region_held3 (fun W => Below w.heap.size w W) ((first | assumption | exact Below.alloc ‹_› (Below.size ‹_›) _))
            ((first
              | (refine step_appV (by rfl) _ _ (by rfl) ho5 (by rfl) (vs.drop k) (by rfl) l3 (by simp) (by simpa using news_drop hv1 ‹_›) o3 (show k + 1 + (n - k) = n + 1 by omega) (by omega) (Below.size ‹_›) ?_; intro a6 c6 w6 ho6 hg6; have hb6 : Below w.heap.size w w6 := hg6.below ‹_› (Below.size ‹_›) (fun q hq => (ho5.lt q hq).1))
              | (refine step_appV (by rfl) _ _ (by rfl) (ho4.alloc _) (by rfl) [.slice ax m cx] (by rfl) (by rfl) (by simp) (news_made _ _ rfl) oX (show k + 1 = k + 1 from rfl) (by omega) (Below.size ‹_›) ?_; intro a5 c5 w5 ho5 hg5; have hb5 : Below w.heap.size w w5 := hg5.below ‹_› (Below.size ‹_›) (fun q hq => (ho4.lt q hq).1))
              | (refine step_appV (by rfl) _ _ (by rfl) ho4 (by rfl) [.slice ax m cx] (by rfl) (by rfl) (by simp) (nB _ hg4.grown) oX (show k + 1 = k + 1 from rfl) (by omega) (Below.size ‹_›) ?_; intro a5 c5 w5 ho5 hg5; have hb5 : Below w.heap.size w w5 := hg5.below ‹_› (Below.size ‹_›) (fun q hq => (ho4.lt q hq).1))
              | (refine step_appV (by rfl) _ _ (by rfl) ho4 (by rfl) [.slice ax m cx] (by rfl) (by rfl) (by simp) (nC _ hg4.grown) oX (show k + 1 = k + 1 from rfl) (by omega) (Below.size ‹_›) ?_; intro a5 c5 w5 ho5 hg5; have hb5 : Below w.heap.size w w5 := hg5.below ‹_› (Below.size ‹_›) (fun q hq => (ho4.lt q hq).1))
              | (refine step_appV (by rfl) _ _ (by rfl) hemp (by rfl) (vs.take k) (by rfl) l1 (by simp) (news_take hv1 ‹_›) o1 (Nat.zero_add k) (by omega) (Below.size ‹_›) ?_; intro a4 c4 w4 ho4 hg4; have hb4 : Below w.heap.size w w4 := hg4.below ‹_› (Below.size ‹_›) (fun q hq => (hemp.lt q hq).1))
              | (refine step_appV (by rfl) _ _ (by rfl) (hemp.alloc _) (by rfl) (vs.take k) (by rfl) l1 (by simp) (news_take hv1 ‹_›) o1 (Nat.zero_add k) (by omega) (Below.size ‹_›) ?_; intro a4 c4 w4 ho4 hg4; have hb4 : Below w.heap.size w w4 := hg4.below ‹_› (Below.size ‹_›) (fun q hq => (hemp.lt q hq).1))
              | (refine step_appV (by rfl) _ _ (by rfl) hemp2 (by rfl) (vs.take k) (by rfl) l1 (by simp) (news_take hv1 ‹_›) o1 (Nat.zero_add k) (by omega) (Below.size ‹_›) ?_; intro a4 c4 w4 ho4 hg4; have hb4 : Below w.heap.size w w4 := hg4.below ‹_› (Below.size ‹_›) (fun q hq => (hemp2.lt q hq).1))))
          all_goals
            go_wp2
            go_ret
            refine ⟨_, _, _, rfl, ?_, hb6⟩
            rw [Hins.out]
            exact iis_ins HV.out Hx.out hb6 hBw hS (by simpa using ho6)
      · have Hls := Lib.hid hls
        clear hls
        go_wp2_with fail
        refine (is (l1Less_any _ _ _ _ _ _ zs ys _ Hrz.out Hxo.out.rd Hlz.out Hxo.out.len (by omega) (by omega)) Hls.out).mono ?_
        rintro e w2 ⟨rfl, hd2⟩
        go_wp2
        go_roundw
        case rel =>
          refine ⟨⟨k + 1, by go_num, ?_⟩, hd.trans hd2⟩
          rcases Nat.lt_or_ge k (cutL ys xss) with h | h
          · omega
          · have e : cutL ys xss = k := by omega
            have := cutL_hi (x := ys) (l := xss) (y := zs) (by rw [e]; exact Hzs.out)
            rw [Hls.out] at this
            cases this
        case measure => simp [intOf]; omega
    · obtain rfl : k = n := by omega
      have Hcut := Lib.hid (cutL_at hk (.inl (by rw [Hn.out])))
      have Hins := Lib.hid (show insL ys xss = xss.take k ++ [ys] ++ xss.drop k by
        unfold insL; rw [Hcut.out, if_neg (by rw [List.getElem?_eq_none (by rw [Hn.out]; exact Nat.le_refl _)]; simp)])
      have hB5 : Below w.heap.size w wo.drew := (hd.trans ⟨1, rfl⟩).below _
      obtain ⟨vs, hv1, hv2, hv3⟩ := Hl.out
      have hcap : k ≤ c := by
        rcases hv1.2 with ⟨h1, h0⟩ | ⟨g', cap, cur, hv, hg, hh, hn', hm', hs', ht'⟩
        · omega
        · simp only [Value.slice.injEq] at hv
          omega
      rcases ownsRow_shape hv1 with ⟨h0, rfl, rfl, _⟩ | ⟨g, rfl, _⟩
      · subst h0
        · skip
          have hvl : vs.length = 0 := by rw [hv3.len]; exact Hn.out
          have l1 := hvl
          have l3 : ([] : List Value).length = 0 := rfl
          have o1 := hv3.one
          have o3 : ∀ u ∈ ([] : List Value), u.oneCell' = true := by simp
          have HV := Lib.hid hv3
          have nA : ∀ W, Below w.heap.size w W → ∀ ad, (none : Option Addr) = some ad → ∀ j u, vs[j]? = some u → W.cell? (ad.add j) = some u := by
            intro W hW ad h
            cases h
          have hz := hB5.size
          have hemp := made_row hB5
          have hemp2 := made_row (Below.alloc hB5 hB5.size (.cells #[.slice ax m cx] 22))
          rw [show (wo.drew.alloc (.cells #[.slice ax m cx] 22)).heap.size = wo.heap.size + 1 by simp] at hemp2
          have oX : ∀ u ∈ [Value.slice ax m cx], u.oneCell' = true := by intro u hu; simp at hu; subst hu; rfl
          have nB : ∀ w4, ((wo.drew.alloc (.cells #[] 22)).alloc (.cells #[.slice ax m cx] 22)).grownBy w4 (Value.slice (some ⟨wo.drew.heap.size, 0, none⟩) 0 0).ownBlock →
              ∀ ad, (some ⟨wo.heap.size + 1, 0, none⟩ : Option Addr) = some ad → ∀ j u, [Value.slice ax m cx][j]? = some u → w4.cell? (ad.add j) = some u := by
            intro w4 hg
            have h0 := news_made (wo.drew.alloc (.cells #[] 22)) (.slice ax m cx) rfl
            rw [show (wo.drew.alloc (.cells #[] 22)).heap.size = wo.heap.size + 1 by simp] at h0
            exact news_kept h0 hg (by simp [Value.ownBlock])
          have nC : ∀ w4, ((wo.drew.alloc (.cells #[.slice ax m cx] 22)).alloc (.cells #[] 22)).grownBy w4 (Value.slice (some ⟨wo.heap.size + 1, 0, none⟩) 0 0).ownBlock →
              ∀ ad, (some ⟨wo.heap.size, 0, none⟩ : Option Addr) = some ad → ∀ j u, [Value.slice ax m cx][j]? = some u → w4.cell? (ad.add j) = some u :=
            fun w4 hg => news_kept (news_kept (news_made wo.drew (.slice ax m cx) rfl) (World.grownBy_alloc _ _ none) (by simp)) hg (by simp [Value.ownBlock])
          clear hv2 hv3
          go_wp2
          go_region_held3 (fun W => Below w.heap.size w W) ((first | assumption | exact Below.alloc ‹_› (Below.size ‹_›) _))
            ((first
              | (refine step_appV (by rfl) _ _ (by rfl) ho5 (by rfl) ([]) (by rfl) l3 (by simp) (by intro ad _ j u hu; simp at hu) o3 (show 1 + 0 = 1 from rfl) (by omega) (Below.size ‹_›) ?_; intro a6 c6 w6 ho6 hg6; have hb6 : Below w.heap.size w w6 := hg6.below ‹_› (Below.size ‹_›) (fun q hq => (ho5.lt q hq).1))
              | (refine step_appV (by rfl) _ _ (by rfl) (ho4.alloc _) (by rfl) [.slice ax m cx] (by rfl) (by rfl) (by simp) (news_made _ _ rfl) oX (show 0 + 1 = 1 from rfl) (by omega) (Below.size ‹_›) ?_; intro a5 c5 w5 ho5 hg5; have hb5 : Below w.heap.size w w5 := hg5.below ‹_› (Below.size ‹_›) (fun q hq => (ho4.lt q hq).1))
              | (refine step_appV (by rfl) _ _ (by rfl) ho4 (by rfl) [.slice ax m cx] (by rfl) (by rfl) (by simp) (nB _ hg4.grown) oX (show 0 + 1 = 1 from rfl) (by omega) (Below.size ‹_›) ?_; intro a5 c5 w5 ho5 hg5; have hb5 : Below w.heap.size w w5 := hg5.below ‹_› (Below.size ‹_›) (fun q hq => (ho4.lt q hq).1))
              | (refine step_appV (by rfl) _ _ (by rfl) ho4 (by rfl) [.slice ax m cx] (by rfl) (by rfl) (by simp) (nC _ hg4.grown) oX (show 0 + 1 = 1 from rfl) (by omega) (Below.size ‹_›) ?_; intro a5 c5 w5 ho5 hg5; have hb5 : Below w.heap.size w w5 := hg5.below ‹_› (Below.size ‹_›) (fun q hq => (ho4.lt q hq).1))
              | (refine step_appV (by rfl) _ _ (by rfl) hemp (by rfl) (vs) (by rfl) l1 (by simp) (nA _ ‹_›) o1 (show 0 + 0 = 0 from rfl) (by omega) (Below.size ‹_›) ?_; intro a4 c4 w4 ho4 hg4; have hb4 : Below w.heap.size w w4 := hg4.below ‹_› (Below.size ‹_›) (fun q hq => (hemp.lt q hq).1))
              | (refine step_appV (by rfl) _ _ (by rfl) (hemp.alloc _) (by rfl) (vs) (by rfl) l1 (by simp) (nA _ ‹_›) o1 (show 0 + 0 = 0 from rfl) (by omega) (Below.size ‹_›) ?_; intro a4 c4 w4 ho4 hg4; have hb4 : Below w.heap.size w w4 := hg4.below ‹_› (Below.size ‹_›) (fun q hq => (hemp.lt q hq).1))
              | (refine step_appV (by rfl) _ _ (by rfl) hemp2 (by rfl) (vs) (by rfl) l1 (by simp) (nA _ ‹_›) o1 (show 0 + 0 = 0 from rfl) (by omega) (Below.size ‹_›) ?_; intro a4 c4 w4 ho4 hg4; have hb4 : Below w.heap.size w w4 := hg4.below ‹_› (Below.size ‹_›) (fun q hq => (hemp2.lt q hq).1))))
          all_goals
            go_wp2
            go_ret
            refine ⟨_, _, _, rfl, ?_, hb6⟩
            rw [Hins.out]
            exact iis_ins HV.out Hx.out hb6 hBw hS (by rw [List.take_of_length_le (by omega), List.drop_eq_nil_of_le (by omega)]; simpa using ho6)
      · by_cases hck : c = k
        · subst hck
          have hvl : vs.length = c := by rw [hv3.len]; exact Hn.out
          have l1 := hvl
          have l3 : ([] : List Value).length = 0 := rfl
          have o1 := hv3.one
          have o3 : ∀ u ∈ ([] : List Value), u.oneCell' = true := by simp
          have HV := Lib.hid hv3
          have q4 : (c : Int) ≤ (c : Int) := by omega
          have nA : ∀ W, Below w.heap.size w W → ∀ ad, (some ⟨g, 0, none⟩ : Option Addr) = some ad → ∀ j u, vs[j]? = some u → W.cell? (ad.add j) = some u := by
            intro W hW
            have := news_take (k := c) hv1 hW
            rwa [List.take_of_length_le (by omega)] at this
          have hz := hB5.size
          have hemp := made_row hB5
          have hemp2 := made_row (Below.alloc hB5 hB5.size (.cells #[.slice ax m cx] 22))
          rw [show (wo.drew.alloc (.cells #[.slice ax m cx] 22)).heap.size = wo.heap.size + 1 by simp] at hemp2
          have oX : ∀ u ∈ [Value.slice ax m cx], u.oneCell' = true := by intro u hu; simp at hu; subst hu; rfl
          have nB : ∀ w4, ((wo.drew.alloc (.cells #[] 22)).alloc (.cells #[.slice ax m cx] 22)).grownBy w4 (Value.slice (some ⟨wo.drew.heap.size, 0, none⟩) 0 0).ownBlock →
              ∀ ad, (some ⟨wo.heap.size + 1, 0, none⟩ : Option Addr) = some ad → ∀ j u, [Value.slice ax m cx][j]? = some u → w4.cell? (ad.add j) = some u := by
            intro w4 hg
            have h0 := news_made (wo.drew.alloc (.cells #[] 22)) (.slice ax m cx) rfl
            rw [show (wo.drew.alloc (.cells #[] 22)).heap.size = wo.heap.size + 1 by simp] at h0
            exact news_kept h0 hg (by simp [Value.ownBlock])
          have nC : ∀ w4, ((wo.drew.alloc (.cells #[.slice ax m cx] 22)).alloc (.cells #[] 22)).grownBy w4 (Value.slice (some ⟨wo.heap.size + 1, 0, none⟩) 0 0).ownBlock →
              ∀ ad, (some ⟨wo.heap.size, 0, none⟩ : Option Addr) = some ad → ∀ j u, [Value.slice ax m cx][j]? = some u → w4.cell? (ad.add j) = some u :=
            fun w4 hg => news_kept (news_kept (news_made wo.drew (.slice ax m cx) rfl) (World.grownBy_alloc _ _ none) (by simp)) hg (by simp [Value.ownBlock])
          clear hv2 hv3
          go_wp2
          go_region_held3 (fun W => Below w.heap.size w W) ((first | assumption | exact Below.alloc ‹_› (Below.size ‹_›) _))
            ((first
              | (refine step_appV (by rfl) _ _ (by rfl) ho5 (by rfl) ([]) (by rfl) l3 (by simp) (by intro ad _ j u hu; simp at hu) o3 (Nat.add_zero (c + 1)) (by omega) (Below.size ‹_›) ?_; intro a6 c6 w6 ho6 hg6; have hb6 : Below w.heap.size w w6 := hg6.below ‹_› (Below.size ‹_›) (fun q hq => (ho5.lt q hq).1))
              | (refine step_appV (by rfl) _ _ (by rfl) (ho4.alloc _) (by rfl) [.slice ax m cx] (by rfl) (by rfl) (by simp) (news_made _ _ rfl) oX (show c + 1 = c + 1 from rfl) (by omega) (Below.size ‹_›) ?_; intro a5 c5 w5 ho5 hg5; have hb5 : Below w.heap.size w w5 := hg5.below ‹_› (Below.size ‹_›) (fun q hq => (ho4.lt q hq).1))
              | (refine step_appV (by rfl) _ _ (by rfl) ho4 (by rfl) [.slice ax m cx] (by rfl) (by rfl) (by simp) (nB _ hg4.grown) oX (show c + 1 = c + 1 from rfl) (by omega) (Below.size ‹_›) ?_; intro a5 c5 w5 ho5 hg5; have hb5 : Below w.heap.size w w5 := hg5.below ‹_› (Below.size ‹_›) (fun q hq => (ho4.lt q hq).1))
              | (refine step_appV (by rfl) _ _ (by rfl) ho4 (by rfl) [.slice ax m cx] (by rfl) (by rfl) (by simp) (nC _ hg4.grown) oX (show c + 1 = c + 1 from rfl) (by omega) (Below.size ‹_›) ?_; intro a5 c5 w5 ho5 hg5; have hb5 : Below w.heap.size w w5 := hg5.below ‹_› (Below.size ‹_›) (fun q hq => (ho4.lt q hq).1))
              | (refine step_appV (by rfl) _ _ (by rfl) hemp (by rfl) (vs) (by rfl) l1 (by simp) (nA _ ‹_›) o1 (Nat.zero_add c) (by omega) (Below.size ‹_›) ?_; intro a4 c4 w4 ho4 hg4; have hb4 : Below w.heap.size w w4 := hg4.below ‹_› (Below.size ‹_›) (fun q hq => (hemp.lt q hq).1))
              | (refine step_appV (by rfl) _ _ (by rfl) (hemp.alloc _) (by rfl) (vs) (by rfl) l1 (by simp) (nA _ ‹_›) o1 (Nat.zero_add c) (by omega) (Below.size ‹_›) ?_; intro a4 c4 w4 ho4 hg4; have hb4 : Below w.heap.size w w4 := hg4.below ‹_› (Below.size ‹_›) (fun q hq => (hemp.lt q hq).1))
              | (refine step_appV (by rfl) _ _ (by rfl) hemp2 (by rfl) (vs) (by rfl) l1 (by simp) (nA _ ‹_›) o1 (Nat.zero_add c) (by omega) (Below.size ‹_›) ?_; intro a4 c4 w4 ho4 hg4; have hb4 : Below w.heap.size w w4 := hg4.below ‹_› (Below.size ‹_›) (fun q hq => (hemp2.lt q hq).1))))
          all_goals
            go_wp2
            go_ret
            refine ⟨_, _, _, rfl, ?_, hb6⟩
            rw [Hins.out]
            exact iis_ins HV.out Hx.out hb6 hBw hS (by rw [List.take_of_length_le (by omega), List.drop_eq_nil_of_le (by omega)]; simpa using ho6)
        · have q6 : ¬ c = k := hck
          have hvl : vs.length = k := by rw [hv3.len]; exact Hn.out
          have l1 := hvl
          have l3 : ([] : List Value).length = 0 := rfl
          have o1 := hv3.one
          have o3 : ∀ u ∈ ([] : List Value), u.oneCell' = true := by simp
          have HV := Lib.hid hv3
          have q4 : (k : Int) ≤ (c : Int) := by omega
          have q5 : (k : Int) ≤ (k : Int) := by omega
          have nA : ∀ W, Below w.heap.size w W → ∀ ad, (some ⟨g, 0, none⟩ : Option Addr) = some ad → ∀ j u, vs[j]? = some u → W.cell? (ad.add j) = some u := by
            intro W hW
            have := news_take (k := k) hv1 hW
            rwa [List.take_of_length_le (by omega)] at this
          have hz := hB5.size
          have hemp := made_row hB5
          have hemp2 := made_row (Below.alloc hB5 hB5.size (.cells #[.slice ax m cx] 22))
          rw [show (wo.drew.alloc (.cells #[.slice ax m cx] 22)).heap.size = wo.heap.size + 1 by simp] at hemp2
          have oX : ∀ u ∈ [Value.slice ax m cx], u.oneCell' = true := by intro u hu; simp at hu; subst hu; rfl
          have nB : ∀ w4, ((wo.drew.alloc (.cells #[] 22)).alloc (.cells #[.slice ax m cx] 22)).grownBy w4 (Value.slice (some ⟨wo.drew.heap.size, 0, none⟩) 0 0).ownBlock →
              ∀ ad, (some ⟨wo.heap.size + 1, 0, none⟩ : Option Addr) = some ad → ∀ j u, [Value.slice ax m cx][j]? = some u → w4.cell? (ad.add j) = some u := by
            intro w4 hg
            have h0 := news_made (wo.drew.alloc (.cells #[] 22)) (.slice ax m cx) rfl
            rw [show (wo.drew.alloc (.cells #[] 22)).heap.size = wo.heap.size + 1 by simp] at h0
            exact news_kept h0 hg (by simp [Value.ownBlock])
          have nC : ∀ w4, ((wo.drew.alloc (.cells #[.slice ax m cx] 22)).alloc (.cells #[] 22)).grownBy w4 (Value.slice (some ⟨wo.heap.size + 1, 0, none⟩) 0 0).ownBlock →
              ∀ ad, (some ⟨wo.heap.size, 0, none⟩ : Option Addr) = some ad → ∀ j u, [Value.slice ax m cx][j]? = some u → w4.cell? (ad.add j) = some u :=
            fun w4 hg => news_kept (news_kept (news_made wo.drew (.slice ax m cx) rfl) (World.grownBy_alloc _ _ none) (by simp)) hg (by simp [Value.ownBlock])
          clear hv2 hv3
          go_wp2
          go_region_held3 (fun W => Below w.heap.size w W) ((first | assumption | exact Below.alloc ‹_› (Below.size ‹_›) _))
            ((first
              | (refine step_appV (by rfl) _ _ (by rfl) ho5 (by rfl) ([]) (by rfl) l3 (by simp) (by intro ad _ j u hu; simp at hu) o3 (Nat.add_zero (k + 1)) (by omega) (Below.size ‹_›) ?_; intro a6 c6 w6 ho6 hg6; have hb6 : Below w.heap.size w w6 := hg6.below ‹_› (Below.size ‹_›) (fun q hq => (ho5.lt q hq).1))
              | (refine step_appV (by rfl) _ _ (by rfl) (ho4.alloc _) (by rfl) [.slice ax m cx] (by rfl) (by rfl) (by simp) (news_made _ _ rfl) oX (show k + 1 = k + 1 from rfl) (by omega) (Below.size ‹_›) ?_; intro a5 c5 w5 ho5 hg5; have hb5 : Below w.heap.size w w5 := hg5.below ‹_› (Below.size ‹_›) (fun q hq => (ho4.lt q hq).1))
              | (refine step_appV (by rfl) _ _ (by rfl) ho4 (by rfl) [.slice ax m cx] (by rfl) (by rfl) (by simp) (nB _ hg4.grown) oX (show k + 1 = k + 1 from rfl) (by omega) (Below.size ‹_›) ?_; intro a5 c5 w5 ho5 hg5; have hb5 : Below w.heap.size w w5 := hg5.below ‹_› (Below.size ‹_›) (fun q hq => (ho4.lt q hq).1))
              | (refine step_appV (by rfl) _ _ (by rfl) ho4 (by rfl) [.slice ax m cx] (by rfl) (by rfl) (by simp) (nC _ hg4.grown) oX (show k + 1 = k + 1 from rfl) (by omega) (Below.size ‹_›) ?_; intro a5 c5 w5 ho5 hg5; have hb5 : Below w.heap.size w w5 := hg5.below ‹_› (Below.size ‹_›) (fun q hq => (ho4.lt q hq).1))
              | (refine step_appV (by rfl) _ _ (by rfl) hemp (by rfl) (vs) (by rfl) l1 (by simp) (nA _ ‹_›) o1 (Nat.zero_add k) (by omega) (Below.size ‹_›) ?_; intro a4 c4 w4 ho4 hg4; have hb4 : Below w.heap.size w w4 := hg4.below ‹_› (Below.size ‹_›) (fun q hq => (hemp.lt q hq).1))
              | (refine step_appV (by rfl) _ _ (by rfl) (hemp.alloc _) (by rfl) (vs) (by rfl) l1 (by simp) (nA _ ‹_›) o1 (Nat.zero_add k) (by omega) (Below.size ‹_›) ?_; intro a4 c4 w4 ho4 hg4; have hb4 : Below w.heap.size w w4 := hg4.below ‹_› (Below.size ‹_›) (fun q hq => (hemp.lt q hq).1))
              | (refine step_appV (by rfl) _ _ (by rfl) hemp2 (by rfl) (vs) (by rfl) l1 (by simp) (nA _ ‹_›) o1 (Nat.zero_add k) (by omega) (Below.size ‹_›) ?_; intro a4 c4 w4 ho4 hg4; have hb4 : Below w.heap.size w w4 := hg4.below ‹_› (Below.size ‹_›) (fun q hq => (hemp2.lt q hq).1))))
          all_goals
            go_wp2
            go_ret
            refine ⟨_, _, _, rfl, ?_, hb6⟩
            rw [Hins.out]
            exact iis_ins HV.out Hx.out hb6 hBw hS (by rw [List.take_of_length_le (by omega), List.drop_eq_nil_of_le (by omega)]; simpa using ho6)
end Go.Proofs.Ytageojkepoejiaa
