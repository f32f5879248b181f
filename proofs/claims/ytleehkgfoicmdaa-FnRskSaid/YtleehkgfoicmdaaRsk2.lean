/-
  Contracts of inserting and of the program's RskOf.
-/
import Derived.Test.YtleehkgfoicmdaaRsk
namespace Go.Proofs.Ytleehkgfoicmdaa
open Go.RowKit

theorem rsk1_any (y : Int) (w : World) :
    Calls Try.prog 89 #[.int .i64 y] w fun e w' => e = .returned (.bool (!entry y)) ∧ Drew w w' := by
  by_cases h : 0 ≤ y ∧ y ≤ 20
  · have he := entry_yes h
    have He := Lib.hid he; clear he
    go_enter Try.func89, Try.ntmps89
    go_wp2_with fail
    refine (isEntry_yes _ _ h).mono ?_
    rintro e w1 ⟨rfl, hd⟩
    go_wp2
    go_ret
    exact ⟨by rw [He.out]; rfl, hd⟩
  · have he := entry_no (x := y) (by omega)
    have He := Lib.hid he; clear he
    go_enter Try.func89, Try.ntmps89
    go_wp2_with fail
    refine (isEntry_no _ _ (by omega)).mono ?_
    rintro e w1 ⟨rfl, hd⟩
    go_wp2
    go_ret
    exact ⟨by rw [He.out]; rfl, hd⟩

set_option maxRecDepth 100000 in
set_option maxHeartbeats 800000 in
theorem indexBad_any (a : Option Addr) (n c : Nat) (xs : List Int) (w : World) (hr : RI w a xs) (hn : xs.length = n) (hb : n ≤ 17592186044416) :
    Calls Try.prog 124 #[.slice a n c, .func (.func 89) #[] #[]] w fun e w' => ∃ r, e = .returned (.int .i64 r) ∧ Hid (decide (0 ≤ r) = !xs.all entry) ∧ Drew w w' := by
  have Hn := Lib.hid hn; clear hn
  go_enter Try.func124, Try.ntmps124
  go_wp2
  go_loopw [8] (fun i wr => ∃ k : Nat, k ≤ n ∧ i = .int .i64 k ∧ Hid (∀ (j : Nat) (z : Int), j < k → xs[j]? = some z → entry z = true) ∧ Drew w wr) (fun i _ => n - (intOf i).toNat)
  case atStart => exact ⟨0, Nat.zero_le _, rfl, by intro j z hj; omega, Drew.refl _⟩
  case round =>
    obtain ⟨k, hk, rfl, HA, hd⟩ := hrel
    by_cases hkl : k < n
    · obtain ⟨b, off, rfl, hcell⟩ := (hr.drew hd).at (k := k) (by rw [Hn.out]; exact hkl)
      obtain ⟨y, hy⟩ := some_at Hn.out hkl
      have hcy := hcell k y hy
      have Hy := Lib.hid hy; clear hy
      clear hcell
      cases he : entry y
      · have He := Lib.hid he; clear he
        go_wp2_with fail
        refine (is (rsk1_any y _) (show (!entry y) = true by rw [He.out]; rfl)).mono ?_
        rintro e w1 ⟨rfl, hd1⟩
        have hd2 := hd.trans hd1
        go_wp2
        go_ret
        exact ⟨_, rfl, by
          show decide _ = _
          have h1 : xs.all entry = false := by
            rw [List.all_eq_false]
            exact ⟨y, List.mem_of_getElem? Hy.out, by rw [He.out]; simp⟩
          rw [h1]; simp, hd2⟩
      · have He := Lib.hid he; clear he
        go_wp2_with fail
        refine (is (rsk1_any y _) (show (!entry y) = false by rw [He.out]; rfl)).mono ?_
        rintro e w1 ⟨rfl, hd1⟩
        have hd2 := hd.trans hd1
        go_wp2
        go_roundw
        case rel => exact ⟨k + 1, by omega, by go_num, by
          intro j z hj hz
          rcases Nat.lt_or_ge j k with h | h
          · exact HA.out j z h hz
          · obtain rfl : j = k := by omega
            rw [Hy.out] at hz
            obtain rfl := Option.some.inj hz
            exact He.out, hd2⟩
        case measure => simp [intOf]; omega
    · obtain rfl : k = n := by omega
      go_wp2
      go_ret
      exact ⟨_, rfl, by
        show decide _ = _
        have h1 : xs.all entry = true := all_of (by rw [Hn.out]; exact HA.out)
        rw [h1]; simp, hd⟩

theorem containsBad_any (a : Option Addr) (n c : Nat) (xs : List Int) (w : World) (hr : RI w a xs) (hn : xs.length = n) (hb : n ≤ 17592186044416) :
    Calls Try.prog 88 #[.slice a n c, .func (.func 89) #[] #[]] w fun e w' => e = .returned (.bool (!xs.all entry)) ∧ Drew w w' := by
  go_enter Try.func88, Try.ntmps88
  go_wp2_with fail
  refine (indexBad_any _ _ _ xs _ hr hn hb).mono ?_
  rintro e w1 ⟨r, rfl, Hr, hd⟩
  go_wp2
  go_ret
  exact ⟨ret_bool Hr.out, hd⟩

set_option maxRecDepth 100000 in
set_option maxHeartbeats 3200000 in
theorem inserting_any (a : Option Addr) (n c : Nat) (xs : List Int) (w : World) (hr : RI w a xs) (hn : xs.length = n) (hb : n ≤ 1000) :
    Calls Try.prog 91 #[.slice a n c, .bool false] w fun e w' => ∃ a' n' c' b' m' d', e = .returned (.tuple #[.slice a' n' c', .slice b' m' d']) ∧ Hid (∃ P : Nat → Prop, (∀ k, P k → w.heap.size ≤ k) ∧ IIQ w' P a' n' c' (rsk xs xs.length).1 ∧ IIQ w' (fun k => w.heap.size ≤ k ∧ ¬ P k) b' m' d' (rsk xs xs.length).2) ∧ Below w.heap.size w w' := by
  have Hn := Lib.hid hn; clear hn
  have hb1 : Below w.heap.size w (w.alloc (.cells #[] 22)) := (Below.refl _ _).alloc (Nat.le_refl _) _
  have hb2 : Below (w.alloc (.cells #[] 22)).heap.size (w.alloc (.cells #[] 22)) ((w.alloc (.cells #[] 22)).alloc (.cells #[] 22)) := (Below.refl _ _).alloc (Nat.le_refl _) _
  have hs1 : (w.alloc (.cells #[] 22)).heap.size = w.heap.size + 1 := by simp
  have hs2 : ((w.alloc (.cells #[] 22)).alloc (.cells #[] 22)).heap.size = w.heap.size + 1 + 1 := by simp
  have hp0 : IIQ ((w.alloc (.cells #[] 22)).alloc (.cells #[] 22)) (fun k => k = w.heap.size) (some ⟨w.heap.size, 0, none⟩) 0 0 [] :=
    ((IIO.fresh w).below hb2).toQ.mono (fun k _ hk => by rw [hs1] at hk; omega)
  have hq0 : IIQ ((w.alloc (.cells #[] 22)).alloc (.cells #[] 22)) (fun k => w.heap.size ≤ k ∧ ¬ (k = w.heap.size)) (some ⟨w.heap.size + 1, 0, none⟩) 0 0 [] := by
    have := (IIO.fresh (w.alloc (.cells #[] 22))).toQ
    rw [hs1] at this
    exact this.mono (fun k _ hk => by omega)
  have hB0 := hb1.trans (hb2.mono (by omega))
  have HPQ : Hid (∃ P : Nat → Prop, (∀ k, P k → w.heap.size ≤ k) ∧ IIQ ((w.alloc (.cells #[] 22)).alloc (.cells #[] 22)) P (some ⟨w.heap.size, 0, none⟩) 0 0 (rsk xs 0).1 ∧ IIQ ((w.alloc (.cells #[] 22)).alloc (.cells #[] 22)) (fun k => w.heap.size ≤ k ∧ ¬ P k) (some ⟨w.heap.size + 1, 0, none⟩) 0 0 (rsk xs 0).2) :=
    ⟨_, fun k hk => Nat.le_of_eq hk.symm, hp0, hq0⟩
  clear hp0 hq0 hb1 hb2 hs1 hs2
  go_enter Try.func91, Try.ntmps91
  go_wp2
  go_loopw [6, 7, 16] (fun pv qv iv wr => Hid (∃ (k : Nat), k ≤ n ∧ iv = .int .i64 k ∧ ∃ ap np cp aq nq cq, pv = .slice ap np cp ∧ qv = .slice aq nq cq ∧ ∃ P : Nat → Prop, (∀ k, P k → w.heap.size ≤ k) ∧ IIQ wr P ap np cp (rsk xs k).1 ∧ IIQ wr (fun k => w.heap.size ≤ k ∧ ¬ P k) aq nq cq (rsk xs k).2) ∧ Below w.heap.size w wr) (fun _ _ i _ => n - (intOf i).toNat)
  case atStart => exact ⟨⟨0, Nat.zero_le _, rfl, _, _, _, _, _, _, rfl, rfl, HPQ.out⟩, hB0⟩
  case round =>
    clear HPQ hB0
    obtain ⟨HV, hB⟩ := hrel
    obtain ⟨wo, rfl⟩ : ∃ wo : World, wo = wr := ⟨_, rfl⟩
    obtain ⟨k, hk, rfl, ap, np, cp, aq, nq', cq, rfl, rfl, P0, hP0, hp, hq⟩ := HV.out
    clear HV
    have hbs := hB.size
    by_cases hlt : k < n
    · obtain ⟨b, off, rfl, hcell⟩ := (hr.below hB).at (k := k) (by rw [Hn.out]; exact hlt)
      obtain ⟨x, hx⟩ := some_at Hn.out hlt
      have hc := hcell k x hx
      have Hx := Lib.hid hx; clear hx
      clear hcell
      obtain ⟨h1, h2, h3, h4⟩ := rsk_len xs k
      obtain ⟨h5, h6⟩ := rsk_short xs (show k ≤ 1000 by omega)
      have h7 := insTab_len (rsk xs k).1 x
      have hstep : rsk xs (k + 1) = ((insTab (rsk xs k).1 x).1, growTab (rsk xs k).2 (insTab (rsk xs k).1 x).2 (k : Int)) := by rw [rsk, getD_of Hx.out]
      obtain ⟨P, hP⟩ : ∃ P, (rsk xs k).1 = P := ⟨_, rfl⟩
      obtain ⟨Q, hQ⟩ : ∃ Q, (rsk xs k).2 = Q := ⟨_, rfl⟩
      rw [hP] at h1 h2 h5 h7 hstep hp
      rw [hQ] at h1 h6 hstep hq
      have hlp := hp.len
      have hlq := hq.len
      have hnn : np = nq' := by omega
      subst hnn
      have hnb : np ≤ 1048576 := by omega
      obtain ⟨T, hT⟩ : ∃ T, insTab P x = T := ⟨_, rfl⟩
      rw [hT] at h7 hstep
      have HT := Lib.hid hT; clear hT
      have Hst := Lib.hid hstep; clear hstep
      have hrn : T.2 ≤ np := by have := h7.1; omega
      have H5 := Lib.hid h5; clear h5
      have H6 := Lib.hid h6; clear h6
      have Hlp := Lib.hid hlp; clear hlp
      have Hlq := Lib.hid hlq; clear hlq
      have HP := Lib.hid hp; clear hp
      have HQ := Lib.hid (hq.mono (P := fun k => w.heap.size ≤ k ∧ k < wo.heap.size) (fun k h1 h2 => ⟨h2.1, h1⟩)); clear hq
      clear hP hQ h1 h2 h3 h4 h7 hP0
      go_wp2_with fail
      refine (inserted_any _ _ _ P x _ HP.out.rd Hlp.out hnb H5.out).mono ?_
      rintro e w1 ⟨a2, n2, c2, r2, rfl, hp1, Hr2, hb1⟩
      rw [HT.out] at hp1 Hr2
      obtain rfl := Hr2.out
      have hq1 := HQ.out.below hb1
      have hB1 := hB.trans (hb1.mono hbs)
      have hz1 := hb1.size
      have hp1' := hp1.toQ
      clear hp1 HP HQ Hr2
      obtain ⟨r, hr2⟩ : ∃ r, T.2 = r := ⟨_, rfl⟩
      rw [hr2] at hrn ⊢
      have Hr := Lib.hid hr2; clear hr2
      by_cases hrl : r < np
      · have hne : ((r : Int) == (np : Int)) = false := by rw [beq_eq_false_iff_ne]; omega
        have hrI : (r : Int) < (np : Int) := by omega
        obtain ⟨row, hrow⟩ := some_of (show r < Q.length by rw [Hlq.out]; exact hrl)
        have hrl2 := H6.out row (List.mem_of_getElem? hrow)
        obtain ⟨g, a1, c1, rfl, hcg, hfz, hio, hgrow⟩ := hq1.grow hrow
        have Hm := Lib.hid (growTab_row (k : Int) hrow); clear hrow
        have Hgrow := Lib.hid hgrow; clear hgrow
        obtain ⟨l, hl⟩ : ∃ l, row.length = l := ⟨_, rfl⟩
        rw [hl] at hcg hio hrl2
        have Hl := Lib.hid hl; clear hl
        go_wp2_with (first | (at_builtin; go_loud (refine wpList_pushI (by rfl) (by rfl) _ _ (by rfl) hio (by rfl) (by rfl) (by omega) (by omega) ?_)))
        intro a3 c3 w3 ho3 hg3
        obtain ⟨h1, h2, h3, h4⟩ := Hgrow.out w3 a3 _ c3 _ ho3 (by rw [Hl.out]; exact hg3)
        rw [Hl.out] at h1
        have hp3 := hp1'.only h4 (fun k _ hk hk2 => by omega)
        have hB3 := (h4.to (B := w.heap.size) (S := wo.heap.size) (fun k _ hk => hk)).below hB1 (Nat.le_refl _) (by omega)
        have hq3 := h3.mono (P := fun k => w.heap.size ≤ k ∧ ¬ (wo.heap.size ≤ k ∧ k < w1.heap.size)) (fun k _ hk => by rcases hk with hk | hk <;> omega)
        rw [← Hm.out] at hq3
        clear h3 h4 hq1 hp1' Hgrow ho3 hg3 hio
        have HP3 := Lib.hid hp3; clear hp3
        have HQ3 := Lib.hid hq3; clear hq3
        go_wp2
        go_roundw
        case rel => exact ⟨⟨k + 1, by omega, by go_num, _, _, _, _, _, _, rfl, rfl, (fun k => wo.heap.size ≤ k ∧ k < w1.heap.size), fun k hk => Nat.le_trans hbs hk.1, by rw [Hst.out]; exact HP3.out, by rw [Hst.out, Hr.out]; exact HQ3.out⟩, hB3⟩
        case measure => simp [intOf]; omega
      · obtain rfl : r = np := by omega
        have Hm := Lib.hid (growTab_end (k : Int) Hlq.out)
        go_wp2_with (first | (at_builtin; go_loud (refine wpList_pushNilQ (by rfl) (by rfl) _ _ (by rfl) hq1 (by rfl) (by rfl) (by omega) ?_)))
        intro a2' c2' w2 hq2 ho2
        have hp2 := hp1'.only ho2 (fun k _ hk hk2 => by omega)
        have hB2 := (ho2.to (B := w.heap.size) (S := wo.heap.size) (fun k _ hk => hk)).below hB1 (Nat.le_refl _) (by omega)
        have hz2 := ho2.size
        have hrow : (Q ++ [[]])[r]? = some [] := by rw [List.getElem?_append_right (by rw [Hlq.out]; exact Nat.le_refl _), Hlq.out, Nat.sub_self]; rfl
        obtain ⟨g, a1, c1, rfl, hcg, hfz, hio, hgrow⟩ := hq2.grow hrow
        have Hset := Lib.hid (show (Q ++ [[]]).set r [(k : Int)] = Q ++ [[(k : Int)]] by rw [List.set_append_right _ _ (by rw [Hlq.out]; exact Nat.le_refl _), Hlq.out, Nat.sub_self]; rfl)
        have Hgrow := Lib.hid hgrow; clear hgrow hrow
        have hrI : (r : Int) < ((r + 1 : Nat) : Int) := by omega
        simp only [List.length_nil] at hcg hio
        go_wp2_with (first | (at_builtin; go_loud (refine wpList_pushI (by rfl) (by rfl) _ _ (by rfl) hio (by rfl) (by rfl) (by omega) (by omega) ?_)))
        intro a3 c3 w3 ho3 hg3
        obtain ⟨h1, h2, h3, h4⟩ := Hgrow.out w3 a3 _ c3 _ ho3 hg3
        simp only [List.length_nil] at h1
        have hp3 := hp2.only h4 (fun k _ hk hk2 => by rcases hk2 with hk2 | hk2 <;> omega)
        have hq3 := h3.mono (P := fun k => w.heap.size ≤ k ∧ ¬ (wo.heap.size ≤ k ∧ k < w1.heap.size)) (fun k _ hk => by rcases hk with (hk | hk) | hk <;> omega)
        rw [Hset.out, ← Hm.out] at hq3
        have hB3 := (h4.to (B := w.heap.size) (S := w2.heap.size) (fun k hk hk2 => by rcases hk2 with hk2 | hk2 <;> omega)).below hB2 (Nat.le_refl _) (by omega)
        clear h3 h4 hq1 hp1' Hgrow ho3 hg3 hio hp2 hq2 hB2
        have HP3 := Lib.hid hp3; clear hp3
        have HQ3 := Lib.hid hq3; clear hq3
        go_wp2
        go_roundw
        case rel => exact ⟨⟨k + 1, by omega, by go_num, _, _, _, _, _, _, rfl, rfl, (fun k => wo.heap.size ≤ k ∧ k < w1.heap.size), fun k hk => Nat.le_trans hbs hk.1, by rw [Hst.out]; exact HP3.out, by rw [Hst.out, Hr.out]; exact HQ3.out⟩, hB3⟩
        case measure => simp [intOf]; omega
    · obtain rfl : k = n := by omega
      have HP := Lib.hid hp; clear hp
      have HQ := Lib.hid hq; clear hq
      go_wp2
      go_ret2
      exact ⟨_, _, _, _, _, _, rfl, ⟨P0, hP0, by rw [Hn.out]; exact HP.out, by rw [Hn.out]; exact HQ.out⟩, hB⟩
end Go.Proofs.Ytleehkgfoicmdaa
