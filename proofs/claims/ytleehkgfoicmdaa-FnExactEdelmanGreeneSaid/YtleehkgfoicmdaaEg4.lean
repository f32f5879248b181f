/-
  Contracts of inserting with coxeter true, and of EdelmanGreene, the program's and the reference's.
-/
import Derived.Test.YtleehkgfoicmdaaEg3
import Derived.Test.YtleehkgfoicmdaaRsk3
import Derived.Test.YtleehkgfoicmdaaLen
namespace Go.Proofs.Ytleehkgfoicmdaa
open Go.RowKit

def egk (xs : List Int) : Nat → List (List Int) × List (List Int)
  | 0 => ([], [])
  | k + 1 => ((egTab (egk xs k).1 (xs.getD k 0)).1, growTab (egk xs k).2 (egTab (egk xs k).1 (xs.getD k 0)).2 (k : Int))
def egOf (N : Int) (xs : List Int) : List (List Int) × List (List Int) × Bool :=
  if reduced N xs = true then ((egk xs xs.length).1, (egk xs xs.length).2, true) else ([], [], false)
theorem egk_len (xs : List Int) (k : Nat) : (egk xs k).1.length = (egk xs k).2.length ∧ (egk xs k).1.length ≤ k ∧ sz_II (egk xs k).1 = k ∧ sz_II (egk xs k).2 = k := by
  induction k with
  | zero => simp [egk, sz_II]
  | succ k ih =>
    obtain ⟨h1, h2, h3, h4⟩ := ih
    have h5 := egTab_len (egk xs k).1 (xs.getD k 0)
    have h6 := egTab_sz (egk xs k).1 (xs.getD k 0)
    have h7 := growTab_len (t := (egk xs k).2) (k : Int) (show (egTab (egk xs k).1 (xs.getD k 0)).2 ≤ _ by rw [← h1]; exact h5.1)
    simp only [egk]
    rw [h5.2, h7.1, h6, h7.2, h1]
    refine ⟨rfl, ?_, by omega, by omega⟩
    split <;> omega
theorem egk_short (xs : List Int) {k : Nat} (hk : k ≤ 1000) : ShortII (egk xs k).1 ∧ ShortII (egk xs k).2 := by
  have h := egk_len xs k
  exact ⟨fun l hl => by have := sz_II_each hl; omega, fun l hl => by have := sz_II_each hl; omega⟩

theorem egk_inv {xs : List Int} (h : ∀ (k : Nat) (x : Int), xs[k]? = some x → 0 ≤ x ∧ x ≤ 5) : ∀ {k : Nat}, k ≤ xs.length → AllRising (egk xs k).1 ∧ AllSmall (egk xs k).1 := by
  intro k
  induction k with
  | zero => intro _; exact ⟨fun r hr => by simp [egk] at hr, fun r hr => by simp [egk] at hr⟩
  | succ k ih =>
    intro hk
    obtain ⟨h1, h2⟩ := ih (by omega)
    obtain ⟨x, hx⟩ := some_at rfl (show k < xs.length by omega)
    have hb := h k x hx
    simp only [egk, getD_of hx]
    exact ⟨eg_rising _ _ h1, eg_small _ _ h2 (by omega)⟩
theorem reduced_word {N : Int} {xs : List Int} (h : reduced N xs = true) : isWord N xs = true := by
  simp only [reduced, Bool.and_eq_true] at h; exact h.1
theorem word_small {N : Int} {xs : List Int} (h : isWord N xs = true) : xs.length ≤ 60 ∧ ∀ (k : Nat) (x : Int), xs[k]? = some x → 0 ≤ x ∧ x ≤ 5 := by
  have := isWord_bd h
  exact ⟨this.2.2.1, fun k x hx => by have h2 := this.2.2.2 k x hx; omega⟩
theorem egOf_ok {N : Int} {xs : List Int} (h : reduced N xs = true) : egOf N xs = ((egk xs xs.length).1, (egk xs xs.length).2, true) := by rw [egOf, if_pos h]
theorem egOf_no {N : Int} {xs : List Int} (h : reduced N xs = false) : egOf N xs = ([], [], false) := by rw [egOf, h]; rfl
theorem egOf_few (N : Int) (xs : List Int) : ((egOf N xs).1.length ≤ 60 ∧ sz_II (egOf N xs).1 ≤ 60 ∧ ShortII (egOf N xs).1) ∧ ((egOf N xs).2.1.length ≤ 60 ∧ sz_II (egOf N xs).2.1 ≤ 60 ∧ ShortII (egOf N xs).2.1) := by
  cases h : reduced N xs
  · rw [egOf_no h]
    exact ⟨⟨by simp, by simp [sz_II], by intro l hl; simp at hl⟩, ⟨by simp, by simp [sz_II], by intro l hl; simp at hl⟩⟩
  · have hl := (word_small (reduced_word h)).1
    have h1 := egk_len xs xs.length
    have h2 := egk_short xs (show xs.length ≤ 1000 by omega)
    rw [egOf_ok h]
    refine ⟨⟨?_, ?_, h2.1⟩, ⟨?_, ?_, h2.2⟩⟩
    · show (egk xs xs.length).1.length ≤ 60; omega
    · show sz_II (egk xs xs.length).1 ≤ 60; omega
    · show (egk xs xs.length).2.length ≤ 60; omega
    · show sz_II (egk xs xs.length).2 ≤ 60; omega

set_option maxRecDepth 100000 in
set_option maxHeartbeats 3200000 in
theorem insertingC_any (a : Option Addr) (n c : Nat) (xs : List Int) (w : World) (hr : RI w a xs) (hn : xs.length = n) (hb : n ≤ 1000) (hlet : ∀ (k : Nat) (x : Int), xs[k]? = some x → 0 ≤ x ∧ x ≤ 5) :
    Calls Try.prog 91 #[.slice a n c, .bool true] w fun e w' => ∃ a' n' c' b' m' d', e = .returned (.tuple #[.slice a' n' c', .slice b' m' d']) ∧ Hid (∃ P : Nat → Prop, (∀ k, P k → w.heap.size ≤ k) ∧ IIQ w' P a' n' c' (egk xs xs.length).1 ∧ IIQ w' (fun k => w.heap.size ≤ k ∧ ¬ P k) b' m' d' (egk xs xs.length).2) ∧ Below w.heap.size w w' := by
  have Hn := Lib.hid hn; clear hn
  have Hlet := Lib.hid hlet; clear hlet
  have hb1 : Below w.heap.size w (w.alloc (.cells #[] 22)) := (Below.refl _ _).alloc (Nat.le_refl _) _
  have hb2 : Below (w.alloc (.cells #[] 22)).heap.size (w.alloc (.cells #[] 22)) ((w.alloc (.cells #[] 22)).alloc (.cells #[] 22)) := (Below.refl _ _).alloc (Nat.le_refl _) _
  have hs1 : (w.alloc (.cells #[] 22)).heap.size = w.heap.size + 1 := by simp
  have hs2 : ((w.alloc (.cells #[] 22)).alloc (.cells #[] 22)).heap.size = w.heap.size + 1 + 1 := by simp
  have hp0 : IIQ ((w.alloc (.cells #[] 22)).alloc (.cells #[] 22)) (fun k => k = w.heap.size) (some ⟨w.heap.size, 0, none⟩) 0 0 [] :=
    ((IIO.fresh w).below hb2).toQ.mono (fun k _ hk => by rw [hs1] at hk; omega)
  have hq0 : IIQ ((w.alloc (.cells #[] 22)).alloc (.cells #[] 22)) (fun k => w.heap.size ≤ k ∧ ¬ (k = w.heap.size)) (some ⟨w.heap.size + 1, 0, none⟩) 0 0 [] := by
    have := (IIO.fresh (w.alloc (.cells #[] 22))).toQ
    rw [hs1] at this
    exact this.mono (fun k _ hk => by omega)
  have hB0 := hb1.trans (hb2.mono (by omega))
  have HPQ : Hid (∃ P : Nat → Prop, (∀ k, P k → w.heap.size ≤ k) ∧ IIQ ((w.alloc (.cells #[] 22)).alloc (.cells #[] 22)) P (some ⟨w.heap.size, 0, none⟩) 0 0 (egk xs 0).1 ∧ IIQ ((w.alloc (.cells #[] 22)).alloc (.cells #[] 22)) (fun k => w.heap.size ≤ k ∧ ¬ P k) (some ⟨w.heap.size + 1, 0, none⟩) 0 0 (egk xs 0).2) :=
    ⟨_, fun k hk => Nat.le_of_eq hk.symm, hp0, hq0⟩
  clear hp0 hq0 hb1 hb2 hs1 hs2
  go_enter Try.func91, Try.ntmps91
  go_wp2
  go_loopw [6, 7, 16] (fun pv qv iv wr => Hid (∃ (k : Nat), k ≤ n ∧ iv = .int .i64 k ∧ ∃ ap np cp aq nq cq, pv = .slice ap np cp ∧ qv = .slice aq nq cq ∧ ∃ P : Nat → Prop, (∀ k, P k → w.heap.size ≤ k) ∧ IIQ wr P ap np cp (egk xs k).1 ∧ IIQ wr (fun k => w.heap.size ≤ k ∧ ¬ P k) aq nq cq (egk xs k).2) ∧ Below w.heap.size w wr) (fun _ _ i _ => n - (intOf i).toNat)
  case atStart => exact ⟨⟨0, Nat.zero_le _, rfl, _, _, _, _, _, _, rfl, rfl, HPQ.out⟩, hB0⟩
  case round =>
    clear HPQ hB0
    obtain ⟨HV, hB⟩ := hrel
    obtain ⟨wo, rfl⟩ : ∃ wo : World, wo = wr := ⟨_, rfl⟩
    obtain ⟨k, hk, rfl, ap, np, cp, aq, nq', cq, rfl, rfl, P0, hP0, hp, hq⟩ := HV.out
    clear HV
    have hbs := hB.size
    by_cases hlt : k < n
    · obtain ⟨b, off, rfl, hcell⟩ := (hr.below hB).at (k := k) (by rw [Hn.out]; exact hlt)
      obtain ⟨x, hx⟩ := some_at Hn.out hlt
      have hc := hcell k x hx
      have Hx := Lib.hid hx; clear hx
      clear hcell
      obtain ⟨h1, h2, h3, h4⟩ := egk_len xs k
      obtain ⟨h5, h6⟩ := egk_short xs (show k ≤ 1000 by omega)
      have h7 := egTab_len (egk xs k).1 x
      have hstep : egk xs (k + 1) = ((egTab (egk xs k).1 x).1, growTab (egk xs k).2 (egTab (egk xs k).1 x).2 (k : Int)) := by rw [egk, getD_of Hx.out]
      have hxlet := Hlet.out k x Hx.out
      have hsm := (egk_inv Hlet.out (k := k) (by rw [Hn.out]; exact hk)).2
      obtain ⟨P, hP⟩ : ∃ P, (egk xs k).1 = P := ⟨_, rfl⟩
      rw [hP] at hsm
      have Hsm := Lib.hid hsm; clear hsm
      obtain ⟨Q, hQ⟩ : ∃ Q, (egk xs k).2 = Q := ⟨_, rfl⟩
      rw [hP] at h1 h2 h5 h7 hstep hp
      rw [hQ] at h1 h6 hstep hq
      have hlp := hp.len
      have hlq := hq.len
      have hnn : np = nq' := by omega
      subst hnn
      have hnb : np ≤ 1048576 := by omega
      obtain ⟨T, hT⟩ : ∃ T, egTab P x = T := ⟨_, rfl⟩
      rw [hT] at h7 hstep
      have HT := Lib.hid hT; clear hT
      have Hst := Lib.hid hstep; clear hstep
      have hrn : T.2 ≤ np := by have := h7.1; omega
      have H5 := Lib.hid h5; clear h5
      have H6 := Lib.hid h6; clear h6
      have Hlp := Lib.hid hlp; clear hlp
      have Hlq := Lib.hid hlq; clear hlq
      have HP := Lib.hid hp; clear hp
      have HQ := Lib.hid (hq.mono (P := fun k => w.heap.size ≤ k ∧ k < wo.heap.size) (fun k h1 h2 => ⟨h2.1, h1⟩)); clear hq
      clear hP hQ h1 h2 h3 h4 h7 hP0
      go_wp2_with fail
      refine (insertedC_any _ _ _ P x _ HP.out.rd Hlp.out hnb H5.out Hsm.out (by omega)).mono ?_
      rintro e w1 ⟨a2, n2, c2, r2, rfl, hp1, Hr2, hb1⟩
      rw [HT.out] at hp1 Hr2
      obtain rfl := Hr2.out
      have hq1 := HQ.out.below hb1
      have hB1 := hB.trans (hb1.mono hbs)
      have hz1 := hb1.size
      have hp1' := hp1.toQ
      clear hp1 HP HQ Hr2
      obtain ⟨r, hr2⟩ : ∃ r, T.2 = r := ⟨_, rfl⟩
      rw [hr2] at hrn ⊢
      have Hr := Lib.hid hr2; clear hr2
      by_cases hrl : r < np
      · have hne : ((r : Int) == (np : Int)) = false := by rw [beq_eq_false_iff_ne]; omega
        have hrI : (r : Int) < (np : Int) := by omega
        obtain ⟨row, hrow⟩ := some_of (show r < Q.length by rw [Hlq.out]; exact hrl)
        have hrl2 := H6.out row (List.mem_of_getElem? hrow)
        obtain ⟨g, a1, c1, rfl, hcg, hfz, hio, hgrow⟩ := hq1.grow hrow
        have Hm := Lib.hid (growTab_row (k : Int) hrow); clear hrow
        have Hgrow := Lib.hid hgrow; clear hgrow
        obtain ⟨l, hl⟩ : ∃ l, row.length = l := ⟨_, rfl⟩
        rw [hl] at hcg hio hrl2
        have Hl := Lib.hid hl; clear hl
        go_wp2_with (first | (at_builtin; go_loud (refine wpList_pushI (by rfl) (by rfl) _ _ (by rfl) hio (by rfl) (by rfl) (by omega) (by omega) ?_)))
        intro a3 c3 w3 ho3 hg3
        obtain ⟨h1, h2, h3, h4⟩ := Hgrow.out w3 a3 _ c3 _ ho3 (by rw [Hl.out]; exact hg3)
        rw [Hl.out] at h1
        have hp3 := hp1'.only h4 (fun k _ hk hk2 => by omega)
        have hB3 := (h4.to (B := w.heap.size) (S := wo.heap.size) (fun k _ hk => hk)).below hB1 (Nat.le_refl _) (by omega)
        have hq3 := h3.mono (P := fun k => w.heap.size ≤ k ∧ ¬ (wo.heap.size ≤ k ∧ k < w1.heap.size)) (fun k _ hk => by rcases hk with hk | hk <;> omega)
        rw [← Hm.out] at hq3
        clear h3 h4 hq1 hp1' Hgrow ho3 hg3 hio
        have HP3 := Lib.hid hp3; clear hp3
        have HQ3 := Lib.hid hq3; clear hq3
        go_wp2
        go_roundw
        case rel => exact ⟨⟨k + 1, by omega, by go_num, _, _, _, _, _, _, rfl, rfl, (fun k => wo.heap.size ≤ k ∧ k < w1.heap.size), fun k hk => Nat.le_trans hbs hk.1, by rw [Hst.out]; exact HP3.out, by rw [Hst.out, Hr.out]; exact HQ3.out⟩, hB3⟩
        case measure => simp [intOf]; omega
      · obtain rfl : r = np := by omega
        have Hm := Lib.hid (growTab_end (k : Int) Hlq.out)
        go_wp2_with (first | (at_builtin; go_loud (refine wpList_pushNilQ (by rfl) (by rfl) _ _ (by rfl) hq1 (by rfl) (by rfl) (by omega) ?_)))
        intro a2' c2' w2 hq2 ho2
        have hp2 := hp1'.only ho2 (fun k _ hk hk2 => by omega)
        have hB2 := (ho2.to (B := w.heap.size) (S := wo.heap.size) (fun k _ hk => hk)).below hB1 (Nat.le_refl _) (by omega)
        have hz2 := ho2.size
        have hrow : (Q ++ [[]])[r]? = some [] := by rw [List.getElem?_append_right (by rw [Hlq.out]; exact Nat.le_refl _), Hlq.out, Nat.sub_self]; rfl
        obtain ⟨g, a1, c1, rfl, hcg, hfz, hio, hgrow⟩ := hq2.grow hrow
        have Hset := Lib.hid (show (Q ++ [[]]).set r [(k : Int)] = Q ++ [[(k : Int)]] by rw [List.set_append_right _ _ (by rw [Hlq.out]; exact Nat.le_refl _), Hlq.out, Nat.sub_self]; rfl)
        have Hgrow := Lib.hid hgrow; clear hgrow hrow
        have hrI : (r : Int) < ((r + 1 : Nat) : Int) := by omega
        simp only [List.length_nil] at hcg hio
        go_wp2_with (first | (at_builtin; go_loud (refine wpList_pushI (by rfl) (by rfl) _ _ (by rfl) hio (by rfl) (by rfl) (by omega) (by omega) ?_)))
        intro a3 c3 w3 ho3 hg3
        obtain ⟨h1, h2, h3, h4⟩ := Hgrow.out w3 a3 _ c3 _ ho3 hg3
        simp only [List.length_nil] at h1
        have hp3 := hp2.only h4 (fun k _ hk hk2 => by rcases hk2 with hk2 | hk2 <;> omega)
        have hq3 := h3.mono (P := fun k => w.heap.size ≤ k ∧ ¬ (wo.heap.size ≤ k ∧ k < w1.heap.size)) (fun k _ hk => by rcases hk with (hk | hk) | hk <;> omega)
        rw [Hset.out, ← Hm.out] at hq3
        have hB3 := (h4.to (B := w.heap.size) (S := w2.heap.size) (fun k hk hk2 => by rcases hk2 with hk2 | hk2 <;> omega)).below hB2 (Nat.le_refl _) (by omega)
        clear h3 h4 hq1 hp1' Hgrow ho3 hg3 hio hp2 hq2 hB2
        have HP3 := Lib.hid hp3; clear hp3
        have HQ3 := Lib.hid hq3; clear hq3
        go_wp2
        go_roundw
        case rel => exact ⟨⟨k + 1, by omega, by go_num, _, _, _, _, _, _, rfl, rfl, (fun k => wo.heap.size ≤ k ∧ k < w1.heap.size), fun k hk => Nat.le_trans hbs hk.1, by rw [Hst.out]; exact HP3.out, by rw [Hst.out, Hr.out]; exact HQ3.out⟩, hB3⟩
        case measure => simp [intOf]; omega
    · obtain rfl : k = n := by omega
      have HP := Lib.hid hp; clear hp
      have HQ := Lib.hid hq; clear hq
      go_wp2
      go_ret2
      exact ⟨_, _, _, _, _, _, rfl, ⟨P0, hP0, by rw [Hn.out]; exact HP.out, by rw [Hn.out]; exact HQ.out⟩, hB⟩

def EgPost (N : Int) (xs : List Int) (w : World) (e : Ending) (w' : World) : Prop := ∃ a' n' c' b' m' d' r2, e = .returned (.tuple #[.slice a' n' c', .slice b' m' d', .bool r2]) ∧ IIO w' w.heap.size w'.heap.size a' n' c' (egOf N xs).1 ∧ IIO w' w.heap.size w'.heap.size b' m' d' (egOf N xs).2.1 ∧ Hid (r2 = (egOf N xs).2.2) ∧ Below w.heap.size w w'
set_option maxRecDepth 100000 in
set_option maxHeartbeats 3200000 in
theorem specEg_post (N : Int) (a : Option Addr) (n c : Nat) (xs : List Int) (w : World) (hl : -9223372036854775808 ≤ N) (hu : N ≤ 9223372036854775807) (hr : RI w a xs) (hn : xs.length = n) (hb : n ≤ 17592186044416) :
    Calls Try.prog 64 #[.int .i64 N, .slice a n c] w fun e w' => EgPost N xs w e w' := by
  have Hn := Lib.hid hn; clear hn
  cases hw : isWord N xs
  · have hno := Lib.hid (egOf_no (show reduced N xs = false by rw [reduced, hw]; rfl))
    have Hw := Lib.hid hw; clear hw
    go_enter Try.func64, Try.ntmps64
    go_wp2_with fail
    refine (is (l1Word_any _ _ _ _ xs _ hr Hn.out hb) Hw.out).mono ?_
    rintro e w1 ⟨rfl, hd⟩
    go_wp2
    go_ret3
    exact ⟨_, _, _, _, _, _, _, rfl, by rw [hno.out]; exact IIO.nil, by rw [hno.out]; exact IIO.nil, by rw [hno.out]; exact rfl, hd.below _⟩
  have hbd := isWord_bd hw
  obtain ⟨p, rfl⟩ : ∃ p : Nat, N = (p : Int) := ⟨N.toNat, by omega⟩
  have hp7 : p ≤ 7 := by omega
  have hred : reduced (p : Int) xs = decide (sumI (code (play p xs n)) = (n : Int)) := by rw [reduced, hw, Hn.out]; rfl
  have Hlet := Lib.hid (word_small hw).2
  have hn60 : n ≤ 60 := by have := (word_small hw).1; rw [Hn.out] at this; exact this
  obtain ⟨s, hs⟩ : ∃ s, sumI (code (play p xs n)) = s := ⟨_, rfl⟩
  rw [hs] at hred
  have Hs := Lib.hid hs; clear hs
  have Hw := Lib.hid hw; clear hw hbd
  by_cases hsn : s = (n : Int)
  · have hok := egOf_ok (show reduced (p : Int) xs = true by rw [hred]; simp [hsn])
    rw [Hn.out] at hok
    have Hok := Lib.hid hok; clear hok hred
    have hne : (s != (n : Int)) = false := by simp [hsn]
    subst hsn
    go_enter Try.func64, Try.ntmps64
    go_wp2_with fail
    refine (is (l1Word_any _ _ _ _ xs _ hr Hn.out hb) Hw.out).mono ?_
    rintro e w1 ⟨rfl, hd⟩
    go_wp2_with fail
    refine (l1Play_any _ p _ _ _ xs _ (hr.drew hd) Hn.out hb rfl Hw.out).mono ?_
    rintro e w2 ⟨a2, c2, rfl, ho2, hb2⟩
    go_wp2_with fail
    refine (isInt (l1Length_any _ _ _ (play p xs n) _ ho2.rd (play_length p xs n) (by omega)) Hs.out).mono ?_
    rintro e w3 ⟨rfl, hb3⟩
    have hB3 := (hd.below w.heap.size).trans ((hb2.mono (hd.below w.heap.size).size).trans (hb3.mono (by have := (hd.below w.heap.size).size; have := hb2.size; omega)))
    have hr3 := hr.below hB3
    clear hd ho2 hb2 hb3
    have H1 := Lib.hid (IIO.fresh w3)
    have H2 := Lib.hid (IIO.fresh (w3.alloc (.cells #[] 22)))
    have hb1 : Below w3.heap.size w3 (w3.alloc (.cells #[] 22)) := (Below.refl _ _).alloc (Nat.le_refl _) _
    have hb2 : Below (w3.alloc (.cells #[] 22)).heap.size (w3.alloc (.cells #[] 22)) ((w3.alloc (.cells #[] 22)).alloc (.cells #[] 22)) := (Below.refl _ _).alloc (Nat.le_refl _) _
    have hs1 : (w3.alloc (.cells #[] 22)).heap.size = w3.heap.size + 1 := by simp
    have hp0 := (H1.out.below hb2).mono (show _ ≤ ((w3.alloc (.cells #[] 22)).alloc (.cells #[] 22)).heap.size by simp)
    have hq0 := H2.out.base (show w3.heap.size ≤ _ by omega)
    rw [hs1] at hq0
    have hB0 := hb1.trans (hb2.mono (by omega))
    clear H1 H2 hb1 hb2
    have HP := Lib.hid hp0; clear hp0
    have HQ := Lib.hid hq0; clear hq0
    go_wp2
    go_loopw [7, 8, 9] (fun pv qv iv wr => Hid (∃ (k : Nat), k ≤ n ∧ iv = .int .i64 k ∧ (∃ a' n' c', pv = .slice a' n' c' ∧ IIO wr w3.heap.size wr.heap.size a' n' c' (egk xs k).1) ∧ (∃ a' n' c', qv = .slice a' n' c' ∧ IIO wr w3.heap.size wr.heap.size a' n' c' (egk xs k).2)) ∧ Below w3.heap.size w3 wr) (fun _ _ i _ => n - (intOf i).toNat)
    case atStart => exact ⟨⟨0, Nat.zero_le _, rfl, ⟨_, _, _, rfl, HP.out⟩, ⟨_, _, _, rfl, HQ.out⟩⟩, hB0⟩
    case round =>
      clear HP HQ hB0 hs1
      obtain ⟨HV, hB⟩ := hrel
      obtain ⟨wo, rfl⟩ : ∃ wo : World, wo = wr := ⟨_, rfl⟩
      obtain ⟨k, hk, rfl, ⟨ap, np, cp, rfl, hp⟩, ⟨aq, nq', cq, rfl, hq⟩⟩ := HV.out
      clear HV
      have hbs := hB.size
      by_cases hlt : k < n
      · obtain ⟨b, off, rfl, hcell⟩ := (hr3.below hB).at (k := k) (by rw [Hn.out]; exact hlt)
        obtain ⟨x, hx⟩ := some_at Hn.out hlt
        have hc := hcell k x hx
        have Hx := Lib.hid hx; clear hx
        clear hcell
        · obtain ⟨h1, h2, h3, h4⟩ := egk_len xs k
          obtain ⟨h5, h6⟩ := egk_short xs (show k ≤ 1000 by omega)
          have h7 := egTab_len (egk xs k).1 x
          have hstep : egk xs (k + 1) = ((egTab (egk xs k).1 x).1, growTab (egk xs k).2 (egTab (egk xs k).1 x).2 (k : Int)) := by rw [egk, getD_of Hx.out]
          have hxlet := Hlet.out k x Hx.out
          obtain ⟨hris, hsm⟩ := egk_inv Hlet.out (k := k) (by rw [Hn.out]; exact hk)
          obtain ⟨P, hP⟩ : ∃ P, (egk xs k).1 = P := ⟨_, rfl⟩
          rw [hP] at hsm hris
          have Hsm := Lib.hid hsm; clear hsm
          have Hris := Lib.hid hris; clear hris
          obtain ⟨Q, hQ⟩ : ∃ Q, (egk xs k).2 = Q := ⟨_, rfl⟩
          rw [hP] at h1 h2 h5 h7 hstep hp
          rw [hQ] at h1 h6 hstep hq
          have hlp := hp.len
          have hlq := hq.len
          obtain ⟨T, hT⟩ : ∃ T, egTab P x = T := ⟨_, rfl⟩
          rw [hT] at h7 hstep
          have HT := Lib.hid hT; clear hT
          have Hst := Lib.hid hstep; clear hstep
          have H7 := Lib.hid h7.1; clear h7
          have H5 := Lib.hid h5; clear h5
          have H6 := Lib.hid h6; clear h6
          have Hlp := Lib.hid hlp
          have Hlq := Lib.hid hlq
          have hnn : np = nq' := by omega
          subst hnn
          have hnb : np ≤ 1048576 := by omega
          have HP := Lib.hid hp; clear hp
          have HQ := Lib.hid hq; clear hq
          clear hP hQ h1 h2 h3 h4 hlp hlq
          have hkI : (k : Int) < (n : Int) := by omega
          have hp1 := HP.out
          have hq1 := HQ.out
          have hB1 := hB
          clear HP HQ
          go_wp2_with fail
          refine (l4Edelman_any _ _ _ P x _ hp1.rd Hlp.out hnb H5.out Hsm.out Hris.out (by omega)).mono ?_
          rintro e v2 ⟨a2, n2, c2, r2, rfl, hp2, Hr2, hb2⟩
          rw [HT.out] at hp2 Hr2
          have hq2 := hq1.below hb2
          have hB2 := hB1.trans (hb2.mono (by omega))
          have hz2 := hb2.size
          have hrn : T.2 ≤ np := by have := H7.out; have := Hlp.out; omega
          clear hp1 hq1
          go_wp2_with fail
          refine (l4Grown_any _ _ _ Q T.2 _ (k : Int) _ hq2.rd Hlq.out (by omega) H6.out Hr2.out hrn).mono ?_
          rintro e v3 ⟨a3, n3, c3, rfl, hq3, hb3⟩
          have hz3 := hb3.size
          have hp3 := ((hp2.below hb3).mono hz3).base (show w3.heap.size ≤ wo.heap.size by omega)
          have hC3 := hB2.trans (hb3.mono (by omega))
          have hq4 := hq3.base (show w3.heap.size ≤ v2.heap.size by omega)
          clear hp2 hq2 hq3 hb2 hb3 hB1 hB2
          go_wp2
          go_roundw
          case rel => exact ⟨⟨k + 1, by omega, by go_num, ⟨_, _, _, rfl, by rw [Hst.out]; exact hp3⟩, ⟨_, _, _, rfl, by rw [Hst.out]; exact hq4⟩⟩, hC3⟩
          case measure => simp [intOf]; omega
      · obtain rfl : k = n := by omega
        have HP := Lib.hid hp; clear hp
        have HQ := Lib.hid hq; clear hq
        go_wp2
        go_ret3
        exact ⟨_, _, _, _, _, _, _, rfl, by rw [Hok.out]; exact HP.out.base hB3.size, by rw [Hok.out]; exact HQ.out.base hB3.size, by rw [Hok.out]; exact rfl, hB3.trans (hB.mono hB3.size)⟩
  · have hno := Lib.hid (egOf_no (show reduced (p : Int) xs = false by rw [hred]; simp [hsn]))
    have hne : (s != (n : Int)) = true := by simp [hsn]
    clear hred
    go_enter Try.func64, Try.ntmps64
    go_wp2_with fail
    refine (is (l1Word_any _ _ _ _ xs _ hr Hn.out hb) Hw.out).mono ?_
    rintro e w1 ⟨rfl, hd⟩
    go_wp2_with fail
    refine (l1Play_any _ p _ _ _ xs _ (hr.drew hd) Hn.out hb rfl Hw.out).mono ?_
    rintro e w2 ⟨a2, c2, rfl, ho2, hb2⟩
    go_wp2_with fail
    refine (isInt (l1Length_any _ _ _ (play p xs n) _ ho2.rd (play_length p xs n) (by omega)) Hs.out).mono ?_
    rintro e w3 ⟨rfl, hb3⟩
    have hB3 := (hd.below w.heap.size).trans ((hb2.mono (hd.below w.heap.size).size).trans (hb3.mono (by have := (hd.below w.heap.size).size; have := hb2.size; omega)))
    clear hd ho2 hb2 hb3
    go_wp2
    go_ret3
    exact ⟨_, _, _, _, _, _, _, rfl, by rw [hno.out]; exact IIO.nil, by rw [hno.out]; exact IIO.nil, by rw [hno.out]; exact rfl, hB3⟩

def EgPostI (N : Int) (xs : List Int) (w : World) (e : Ending) (w' : World) : Prop := ∃ a' n' c' b' m' d' r2, e = .returned (.tuple #[.slice a' n' c', .slice b' m' d', .bool r2]) ∧ Hid (∃ P : Nat → Prop, (∀ k, P k → w.heap.size ≤ k) ∧ IIQ w' P a' n' c' (egOf N xs).1 ∧ IIQ w' (fun k => w.heap.size ≤ k ∧ ¬ P k) b' m' d' (egOf N xs).2.1) ∧ Hid (r2 = (egOf N xs).2.2) ∧ Below w.heap.size w w'
set_option maxRecDepth 100000 in
set_option maxHeartbeats 1600000 in
theorem implEg_post (N : Int) (a : Option Addr) (n c : Nat) (xs : List Int) (w : World) (hl : -9223372036854775808 ≤ N) (hu : N ≤ 9223372036854775807) (hr : RI w a xs) (hn : xs.length = n) (hb : n ≤ 17592186044416) :
    Calls Try.prog 65 #[.int .i64 N, .slice a n c] w fun e w' => EgPostI N xs w e w' := by
  have Hn := Lib.hid hn; clear hn
  cases hred : reduced N xs
  · have Hno := Lib.hid (egOf_no hred)
    have Hred := Lib.hid hred; clear hred
    go_enter Try.func65, Try.ntmps65
    go_wp2_with fail
    refine (is (isReduced_any _ _ _ _ xs _ hr Hn.out hb hl hu) Hred.out).mono ?_
    rintro e w1 ⟨rfl, hd⟩
    go_wp2
    go_ret3
    exact ⟨_, _, _, _, _, _, _, rfl, ⟨fun _ => False, fun _ h => h.elim, by rw [Hno.out]; exact IIQ.nil, by rw [Hno.out]; exact IIQ.nil⟩, by rw [Hno.out]; exact rfl, hd⟩
  · have hws := word_small (reduced_word hred)
    have hok := egOf_ok hred
    have hn60 : n ≤ 60 := by have := hws.1; rw [Hn.out] at this; exact this
    have Hlet := Lib.hid hws.2
    have Hok := Lib.hid hok
    have Hred := Lib.hid hred; clear hred hws hok
    go_enter Try.func65, Try.ntmps65
    go_wp2_with fail
    refine (is (isReduced_any _ _ _ _ xs _ hr Hn.out hb hl hu) Hred.out).mono ?_
    rintro e w1 ⟨rfl, hd⟩
    have hz := hd.size
    go_wp2_with fail
    refine (insertingC_any _ _ _ xs _ (hr.below hd) Hn.out (by omega) Hlet.out).mono ?_
    rintro e w2 ⟨a2, n2, c2, b2, m2, d2, rfl, HP, hb2⟩
    have hB := hd.trans (hb2.mono hz)
    have HP2 : Hid (∃ P : Nat → Prop, (∀ k, P k → w.heap.size ≤ k) ∧ IIQ w2 P a2 n2 c2 (egk xs xs.length).1 ∧ IIQ w2 (fun k => w.heap.size ≤ k ∧ ¬ P k) b2 m2 d2 (egk xs xs.length).2) := by
      obtain ⟨P, h1, h2, h3⟩ := HP.out
      exact ⟨P, fun k hk => Nat.le_trans hz (h1 k hk), h2, h3.mono (fun k _ hk => ⟨Nat.le_trans hz hk.1, hk.2⟩)⟩
    clear HP hd hb2
    go_wp2
    go_ret3
    exact ⟨_, _, _, _, _, _, _, rfl, by rw [Hok.out]; exact HP2.out, by rw [Hok.out]; exact rfl, hB⟩
end Go.Proofs.Ytleehkgfoicmdaa
