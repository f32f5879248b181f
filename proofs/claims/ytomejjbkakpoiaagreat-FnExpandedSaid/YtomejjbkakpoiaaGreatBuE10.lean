/-
  Contracts of slices.Clone of integers and l1Ints.
  Contract of closed: the terms of a polynomial in order, if they are within the limits.
  How many monomials a polynomial has whose exponents are bounded each.
  The staircase as a key. Plain.
  Contracts of l1Swap and exchanged.
-/
import Derived.Test.YtomejjbkakpoiaaGreatBuE3
import Derived.Test.YtomejjbkakpoiaaGreatBuE9
import Derived.Test.YtomejjbkakpoiaaGreatBuE7
import Derived.Test.YtomejjbkakpoiaaGreatBuE1
import Derived.RegionTactic
import Derived.ChangeAlike
namespace Go.Proofs.YtomejjbkakpoiaaGreat
open Go.RowKit

theorem OwI.nil {w : World} {B S : Nat} : OwI w B S none 0 0 [] := ⟨OS.of ⟨rfl, .inl ⟨rfl, rfl⟩⟩, fun k hk => by simp [Value.ownBlock] at hk⟩

set_option maxRecDepth 100000 in
set_option maxHeartbeats 400000 in
theorem cloneI_any (a : Option Addr) (n c : Nat) (xs : List Int) (w : World) (hr : RI w a xs) (hn : xs.length = n) (hb : n ≤ 1048576) :
    Calls Tryz.prog 91 #[.slice a n c] w fun e w' => ∃ a' c', e = .returned (.slice a' n c') ∧ OwI w' w.heap.size w'.heap.size a' n c' xs ∧ Below w.heap.size w w' := by
  have q22 : ∀ (w : World) (a : Option Addr) (n c n' c' : Nat), (binOp .eql 24 (.slice a n c) (.slice none n' c')).run Tryz.prog w = .ok (.bool a.isNone) w := fun w a n c n' c' => Lib.run_eql_slice_nil w _ _ a n c n' c' Tryz.underlying24
  rcases a with _ | ad
  · have hx : xs = [] := by
      rcases hr with h | ⟨b, off, h, _⟩
      · exact h
      · cases h
    subst hx
    simp only [List.length_nil] at hn
    subst hn
    go_enter Tryz.func91, Tryz.ntmps91
    go_wp2
    go_ret
    exact ⟨_, _, rfl, OwI.nil, Below.refl _ _⟩
  · have h1 : OwI (w.alloc (.cells #[] 3)) w.heap.size (w.alloc (.cells #[] 3)).heap.size (some ⟨w.heap.size, 0, none⟩) 0 0 [] := OwI.mk (World.ownsRow_made _ #[] 0 (Nat.le_refl _) (Nat.zero_le _) rfl)
    have hB0 : Below w.heap.size w (w.alloc (.cells #[] 3)) := (Below.refl _ _).alloc (Nat.le_refl _) _
    have hr0 := hr.below hB0
    have Hn := Lib.hid hn; clear hn
    have H1 := Lib.hid h1; clear h1
    go_enter Tryz.func91, Tryz.ntmps91
    go_wp2_with (first | (at_builtin; go_loud (refine wpList_appI (by rfl) _ _ (by rfl) H1.out (by rfl) hr0 Hn.out (by rfl) (by omega) (by simp) ?_)))
    intro a2 c2 w2 ho2 hg2
    have hB2 : Below w.heap.size w w2 := hg2.below hB0 (by simp) (fun k hk => by simp [Value.ownBlock] at hk; omega)
    go_wp2
    go_ret
    exact ⟨a2, c2, by simp, by simpa using ho2, hB2⟩
set_option maxHeartbeats 400000 in
theorem l1Ints_any (a : Option Addr) (n c : Nat) (xs : List Int) (w : World) (hr : RI w a xs) (hn : xs.length = n) (hb : n ≤ 1048576) :
    Calls Tryz.prog 66 #[.slice a n c] w fun e w' => ∃ a' c', e = .returned (.slice a' n c') ∧ OwI w' w.heap.size w'.heap.size a' n c' xs ∧ Below w.heap.size w w' := by
  have Hn := Lib.hid hn; clear hn
  have hemp : (w.alloc (.cells #[] 3)).ownsRow w.heap.size 3 1 (.slice (some ⟨w.heap.size, 0, none⟩) 0 0) 0 [] := World.ownsRow_made _ #[] 0 (Nat.le_refl _) (Nat.zero_le _) rfl
  have h1 : OwI (w.alloc (.cells #[] 3)) w.heap.size (w.alloc (.cells #[] 3)).heap.size (some ⟨w.heap.size, 0, none⟩) 0 0 [] := OwI.mk hemp
  have hB0 : Below w.heap.size w (w.alloc (.cells #[] 3)) := (Below.refl _ _).alloc (Nat.le_refl _) _
  have hr0 := hr.below hB0
  have H1 := Lib.hid h1; clear h1 hemp
  go_enter Tryz.func66, Tryz.ntmps66
  go_wp2_with (first | (at_builtin; go_loud (refine wpList_appI (by rfl) _ _ (by rfl) H1.out (by rfl) hr0 Hn.out (by rfl) (by omega) (by simp) ?_)))
  intro a2 c2 w2 ho2 hg2
  have hB2 : Below w.heap.size w w2 := hg2.below hB0 (by simp) (fun k hk => by simp [Value.ownBlock] at hk; omega)
  go_wp2
  go_ret
  exact ⟨a2, c2, by simp, by simpa using ho2, hB2⟩
end Go.Proofs.YtomejjbkakpoiaaGreat

namespace Go.Proofs.YtomejjbkakpoiaaGreat
open Go.RowKit Go.MapKept

def term (p : Int × Int) : List Int × Int := (digs p.1, p.2)
def termsM (F : Mons) : List (List Int × Int) := (canon F).map term
def closedT (F : Mons) : List (List Int × Int) := if polyOk (termsM F) = true then termsM F else []
theorem closedT_ok {F : Mons} (h : polyOk (termsM F) = true) : closedT F = termsM F := by rw [closedT, if_pos h]
theorem closedT_no {F : Mons} (h : polyOk (termsM F) = false) : closedT F = [] := by rw [closedT, if_neg (by rw [h]; decide)]
theorem digs_digs (k : Int) : Digs (digs k) := fun x hx => by
  obtain ⟨i, _, rfl⟩ := List.mem_map.1 hx
  exact dig_isD k i
theorem keyL_digs {k : Int} (h : inK k) : keyL (digs k) = k := by
  have e : digs k = [dig k 0, dig k 1, dig k 2, dig k 3, dig k 4, dig k 5, dig k 6] := rfl
  have h2 := key_pack h
  rw [e]
  unfold pack at h2
  simp only [keyL]
  omega
theorem digs_inj {j k : Int} (hj : inK j) (hk : inK k) (h : digs j = digs k) : j = k := by rw [← keyL_digs hj, ← keyL_digs hk, h]
theorem terms_sorted {F : Mons} {ys : List (List Int × Int)} {l : Mons} (hl : l.Perm (canon F)) (hk : ∀ p ∈ l, inK p.1) (hp : ys.Perm (l.map term)) (hs : ys.Pairwise fun p q => keyL q.1 < keyL p.1) : ys = termsM F := by
  have h1 : ys.Perm (termsM F) := hp.trans (hl.map term)
  refine List.Perm.eq_of_pairwise (le := fun p q => keyL q.1 < keyL p.1) (fun a b _ _ h1 h2 => by omega) hs ?_ h1
  unfold termsM
  rw [List.pairwise_map]
  refine List.Pairwise.imp_of_mem ?_ (canon_sorted F)
  intro a b ha hb h
  unfold term
  simp only
  rw [keyL_digs (hk a (hl.mem_iff.2 ha)), keyL_digs (hk b (hl.mem_iff.2 hb))]
  exact h
theorem goodT {l : Mons} (hn : (l.map fun p => p.1).Nodup) (hk : ∀ p ∈ l, inK p.1) : GoodT (l.map term) := by
  constructor
  · intro p hp
    obtain ⟨q, _, rfl⟩ := List.mem_map.1 hp
    exact ⟨digs_length _, digs_digs _⟩
  · intro i j p q hi hj he
    rw [List.getElem?_map] at hi hj
    obtain ⟨a, ha, rfl⟩ := Option.map_eq_some_iff.1 hi
    obtain ⟨b, hb, rfl⟩ := Option.map_eq_some_iff.1 hj
    unfold term at he
    simp only at he
    rw [keyL_digs (hk a (List.mem_of_getElem? ha)), keyL_digs (hk b (List.mem_of_getElem? hb))] at he
    obtain ⟨hil, rfl⟩ := List.getElem?_eq_some_iff.1 ha
    obtain ⟨hjl, rfl⟩ := List.getElem?_eq_some_iff.1 hb
    rw [List.Nodup, List.pairwise_map] at hn
    have hpw := List.pairwise_iff_getElem.1 hn
    rcases Nat.lt_trichotomy i j with h | h | h
    · exact absurd he (hpw i j hil hjl h)
    · exact h
    · exact absurd he.symm (hpw j i hjl hil h)
theorem cells7_ri {w : World} {g : Nat} {k : Int} (h : w.heap[g]? = some (.cells (cells7 k) 85)) : RI w (some ⟨g, 0, none⟩) (digs k) := by
  refine .inr ⟨g, 0, rfl, fun i x hx => ?_⟩
  have hi := lt_of_some hx
  rw [digs_length] at hi
  rw [digs_at hi] at hx
  obtain rfl := Option.some.inj hx
  rw [Nat.zero_add]
  obtain ⟨a0, a1, a2, a3, a4, a5, a6⟩ := cells7_at h
  rcases seven (show i ≤ 6 by omega) with rfl | rfl | rfl | rfl | rfl | rfl | rfl <;> assumption

theorem row_turned {w w' : World} {B e z n r : Nat} {v : Value} {vs : List Value} (h : w.ownsRow B e z v n vs) (hg : w.grownBy w' (some r)) (hr : ∀ cs t f, w.heap[r]? ≠ some (.cells cs t f)) : w'.ownsRow B e z v n vs := by
  refine ⟨h.1, ?_⟩
  rcases h.2 with h2 | ⟨g, cap, cur, hv, hB, hh, rest⟩
  · exact .inl h2
  · have hne : g ≠ r := fun e => by subst e; exact hr _ _ _ hh
    exact .inr ⟨g, cap, cur, hv, hB, by rw [hg.block g (Array.getElem?_eq_some_iff.1 hh).1 (by simp; exact hne)]; exact hh, rest⟩
theorem TO.turned {w w' : World} {B S n c r : Nat} {a : Option Addr} {xs : List (List Int × Int)} (h : TO w B S a n c xs) (hg : w.grownBy w' (some r)) (hr : ∀ cs t f, w.heap[r]? ≠ some (.cells cs t f)) : TO w' B S a n c xs := by
  obtain ⟨vs, h1, h2, h3⟩ := h
  refine ⟨vs, row_turned h1 hg hr, h2, h3.len, fun k p hp => ?_, h3.apart⟩
  obtain ⟨a', c', e1, e2, e3⟩ := h3.each k p hp
  exact ⟨a', c', e1, e2, ⟨OS.of (row_turned e3.own hg hr), e3.2⟩⟩
theorem TO.cells {w : World} {B S n c g : Nat} {a : Option Addr} {xs : List (List Int × Int)} (h : TO w B S a n c xs) (hg : (Value.slice a n c).ownBlock = some g) : ∃ cs t f, w.heap[g]? = some (.cells cs t f) := by
  obtain ⟨vs, h1, _, _⟩ := h
  rcases row2_shape h1 with ⟨_, rfl, _⟩ | ⟨g', rfl, _, _, _, _, cur, hc⟩
  · cases hg
  · have e : g' = g := by simpa [Value.ownBlock] using hg
    subst e
    exact ⟨_, _, _, hc⟩
theorem PRg.beside {w w' : World} {b r B S n c : Nat} {a : Option Addr} {l left : Mons} {xs : List (List Int × Int)} (h : PRg w b r l left) (ht : TO w B S a n c xs) (hg : w.grownBy w' (Value.slice a n c).ownBlock) : PRg w' b r l left := by
  refine h.kept hg (fun e => ?_) (fun e => ?_)
  · obtain ⟨cs, t, f, hc⟩ := ht.cells e.symm
    obtain ⟨es, clock, hb, _⟩ := h.pm
    rw [hc] at hb
    cases hb
  · obtain ⟨cs, t, f, hc⟩ := ht.cells e.symm
    obtain ⟨es, clock, since, seen, c0, _, _, _, _, hr, _⟩ := h
    rw [hc] at hr
    cases hr
theorem PRg.iter {w : World} {b r : Nat} {l left : Mons} (h : PRg w b r l left) : ∀ cs t f, w.heap[r]? ≠ some (.cells cs t f) := by
  obtain ⟨es, clock, since, seen, c0, _, _, _, _, hr, _⟩ := h
  intro cs t f e
  rw [hr] at e
  cases e

set_option maxRecDepth 100000 in
set_option maxHeartbeats 6400000 in
theorem closed_any (b : Nat) (F : Mons) (w : World) (hF : PF w b F) :
    Calls Tryz.prog 49 #[.map (some b)] w fun e w' => ∃ a' n' c' r, e = .returned (.tuple #[.slice a' n' c', .bool r]) ∧ TO w' w.heap.size w'.heap.size a' n' c' (closedT F) ∧ Hid (r = polyOk (termsM F)) ∧ Below w.heap.size w w' := by
  have hlenF := fun ty => hF.length ty
  obtain ⟨lf, hlf, hpf⟩ := hF
  have hkf : ∀ p ∈ lf, inK p.1 ∧ in64 p.2 := by obtain ⟨_, _, _, _, _, h⟩ := hlf; exact h
  have hnd := hlf.nodup
  have hll : (termsM F).length = (canon F).length := by unfold termsM; rw [List.length_map]
  obtain ⟨N, hN⟩ : ∃ N, (canon F).length = N := ⟨_, rfl⟩
  rw [hN] at hlenF hll
  have Hll := Lib.hid hll
  have HN := Lib.hid hN
  clear hll hN
  by_cases h600 : N ≤ 600
  case neg =>
    have H0 := Lib.hid (polyOk_long (xs := termsM F) (by rw [Hll.out]; exact h600))
    have q1 : (600 : Int) < (N : Int) := by omega
    go_enter Tryz.func49, Tryz.ntmps49
    go_wp2
    go_ret2
    exact ⟨_, _, _, _, rfl, by rw [closedT_no H0.out]; exact TO.nil, by rw [H0.out]; rfl, Below.refl _ _⟩
  have q1 : ¬ (600 : Int) < (N : Int) := by omega
  obtain ⟨W, hW⟩ : ∃ W, w.alloc (.cells #[] 74) = W := ⟨_, rfl⟩
  have hBW : Below w.heap.size w W := by rw [← hW]; exact (Below.refl _ _).alloc (Nat.le_refl _) _
  have ho0 : TO W w.heap.size W.heap.size (some ⟨w.heap.size, 0, none⟩) 0 0 [] := by rw [← hW]; exact TO.made w
  have HzW := Lib.hid (show W.heap.size = w.heap.size + 1 by rw [← hW]; simp)
  have hlfW := hlf.below hBW
  have hblt := hlf.lt
  have HlN := Lib.hid (show lf.length = N by rw [hpf.length_eq, HN.out])
  go_enter Tryz.func49, Tryz.ntmps49
  go_wp2_with (first | (at_range; refine wpList_range_P _ (by rfl) _ (by rfl) b lf (by rfl) hlfW ?_; intro w0 hr0 hB0 _) | go_in)
  go_loopw [4, 13] (fun ov _ wr => ∃ (don left : Mons) (a' : Option Addr) (m c' : Nat), ov = .slice a' m c' ∧ PRg wr b W.heap.size lf left ∧ Hid (lf.Perm (don ++ left)) ∧ TO wr w.heap.size wr.heap.size a' m c' (don.map term) ∧ Below w.heap.size w wr) (fun _ _ wr => wr.rangeLeft b W.heap.size)
  case atStart => exact ⟨[], lf, _, _, _, rfl, hr0, List.Perm.refl _, (ho0.below hB0).mono (Nat.le_refl _) hB0.size, hBW.trans (hB0.mono hBW.size)⟩
  case round =>
    clear ho0 hlfW hr0 hB0
    obtain ⟨don, left, a1, m, c1, rfl, hr, HP, ho, hB⟩ := hrel
    obtain ⟨wo, rfl⟩ : ∃ wo : World, wo = wr := ⟨_, rfl⟩
    have hml := ho.len
    rw [List.length_map] at hml
    have hmN : m + left.length = N := by rw [← HlN.out, HP.out.length_eq, List.length_append]; omega
    go_wp2_with (first | (at_next; refine wpList_next_P _ (by rfl) _ (by rfl) b W.heap.size lf left (by rfl) hr ?_ ?_) | go_in)
    · intro hleft
      subst hleft
      rw [List.append_nil] at HP
      have hgd : GoodT (don.map term) := goodT ((HP.out.map fun p => p.1).nodup_iff.1 hnd) (fun p hp => (hkf p (HP.out.mem_iff.2 hp)).1)
      have Hgd := Lib.hid hgd
      have Ho := Lib.hid ho
      have hmb : m ≤ 1048576 := by omega
      clear ho hr hgd
      go_wp2_with fail
      refine (sortTerms_any _ _ _ _ _ _ _ Ho.out Hgd.out hmb).mono ?_
      rintro e w2 ⟨rfl, ys, hpy, hsy, ho2, hon2⟩
      have hfin : ys = termsM F := terms_sorted (HP.out.symm.trans hpf) (fun p hp => (hkf p (HP.out.mem_iff.2 hp)).1) hpy hsy
      subst hfin
      have hB2 : Below w.heap.size w w2 := hon2.below hB (Nat.le_refl _) hB.size
      have ho3 := ho2.mono (B' := w.heap.size) (S' := w2.heap.size) (Nat.le_refl _) hon2.size
      have Ho3 := Lib.hid ho3
      clear ho2 hon2 ho3 hpy hsy Ho
      cases hok : polyOk (termsM F)
      · have Hok := Lib.hid hok
        clear hok
        go_wp2_with fail
        refine (is (implPolyOk_any _ _ _ (termsM F) _ Ho3.out.rd Ho3.out.len hmb) Hok.out).mono ?_
        rintro e w3 ⟨rfl, hb3⟩
        have hB3 := hB2.trans (hb3.mono hB2.size)
        go_wp2
        go_ret2
        exact ⟨_, _, _, _, rfl, by rw [closedT_no Hok.out]; exact TO.nil, Hok.out.symm, hB3⟩
      · have Hok := Lib.hid hok
        clear hok
        go_wp2_with fail
        refine (is (implPolyOk_any _ _ _ (termsM F) _ Ho3.out.rd Ho3.out.len hmb) Hok.out).mono ?_
        rintro e w3 ⟨rfl, hb3⟩
        have hB3 := hB2.trans (hb3.mono hB2.size)
        have ho4 := (Ho3.out.below hb3).mono (B' := w.heap.size) (S' := w3.heap.size) (Nat.le_refl _) hb3.size
        have Ho4 := Lib.hid ho4
        clear ho4 Ho3
        go_wp2
        go_ret2
        exact ⟨_, _, _, _, rfl, by rw [closedT_ok Hok.out]; exact Ho4.out, Hok.out.symm, hB3⟩
    · intro k0 c0 left' w1 hp hr1 hg1 hz1 hen
      have hmem := HP.out.mem_iff.2 (List.mem_append_right _ (hp.mem_iff.2 List.mem_cons_self))
      have hlen := hp.length_eq
      have hmN2 : m + 1 ≤ 1048576 := by rw [hlen, List.length_cons] at hmN; omega
      unfold kV at hen ⊢
      obtain ⟨W1, hW1⟩ : ∃ W1, w1.alloc (.cells (cells7 k0) 85) = W1 := ⟨_, rfl⟩
      have g0 : W1.heap[w1.heap.size]? = some (.cells (cells7 k0) 85) := by rw [← hW1]; exact heap_alloc_new w1 _
      have hri := cells7_ri g0
      have hBW1 : Below w1.heap.size w1 W1 := by rw [← hW1]; exact (Below.refl _ _).alloc (Nat.le_refl _) _
      have hB1 := below_of_grown hB hg1 hB.size (by rw [HzW.out]; omega)
      have hmeas := hr.left_eq
      have HP3 := Lib.hid (show lf.Perm ((don ++ [(k0, c0)]) ++ left') from HP.out.trans ((hp.append_left don).trans (by rw [List.append_assoc]; exact List.Perm.refl _)))
      have hoW1 := (ho.turned hg1 hr.iter).below hBW1
      have hsz1 : wo.heap.size ≤ w1.heap.size := by omega
      have hsz2 : w1.heap.size ≤ W1.heap.size := hBW1.size
      have hB2 := hB1.trans (hBW1.mono hB1.size)
      have hr2 := hr1.below hBW1
      have hbs := hB.size
      have HO1 := Lib.hid hoW1
      have Hri := Lib.hid hri
      have Hz1 := Lib.hid hz1
      unfold cells7 at hW1
      clear hz1 hri ho hoW1 hB hg1 hB1 hr1 hr hp g0 hBW1
      go_wp2_with fail
      refine (cloneI_any _ _ _ (digs k0) _ Hri.out (digs_length k0) (by omega)).mono ?_
      rintro e w3 ⟨a3, c3, rfl, ho3, hb3⟩
      have hB3 := hB2.trans (hb3.mono hB2.size)
      have hr3 := hr2.below hb3
      have HO3 := Lib.hid (HO1.out.below hb3)
      have Hcl := Lib.hid (ho3.mono (B' := wo.heap.size) (S' := w3.heap.size) (by omega) (Nat.le_refl _))
      have hsz3 := hb3.size
      clear ho3 hr2 hB2 HO1 Hri hb3
      go_wp2_with (first | (at_builtin; go_loud (refine wpList_pushT (by rfl) (by rfl) _ _ (by rfl) HO3.out (by rfl) Hcl.out hbs (by rfl) (by simp) hmN2 (by omega) (by omega) (Nat.le_refl _) ?_)))
      intro a4 c4 w4 ho4 hg4
      have hr4 := hr3.beside HO3.out hg4
      have hB4 : Below w.heap.size w w4 := below_grown (v := .slice a1 m c1) hB3 hg4 hB3.size HO3.out.lo
      have ho5 : TO w4 w.heap.size w4.heap.size a4 (m + 1) c4 ((don ++ [(k0, c0)]).map term) := by rw [List.map_append]; exact ho4
      have HO5 := Lib.hid ho5
      clear ho4 hg4 ho5 HO3 hr3 hB3
      go_wp2
      go_roundw
      case rel => exact ⟨don ++ [(k0, c0)], left', _, _, _, rfl, hr4, HP3, HO5.out, hB4⟩
      case measure =>
        rw [hr4.left_eq, hmeas, hlen]
        simp
end Go.Proofs.YtomejjbkakpoiaaGreat

namespace Go.Proofs.YtomejjbkakpoiaaGreat
open Go.RowKit

/-- all keys whose exponents stay below the bounds (bound + 1 each) -/
def box : List Nat → List Int
  | [] => [0]
  | b :: r => (List.range b).flatMap fun x : Nat => (box r).map fun y => (x : Int) + 128 * y
theorem box_length (bs : List Nat) : (box bs).length = bs.foldr (fun b t => b * t) 1 := by
  induction bs with
  | nil => rfl
  | cons b r ih =>
    rw [box, List.foldr_cons, ← ih]
    generalize box r = l
    have : ∀ n, ((List.range n).flatMap fun x : Nat => l.map fun y => (x : Int) + 128 * y).length = n * l.length := by
      intro n
      induction n with
      | zero => simp
      | succ n ih2 => rw [List.range_succ, List.flatMap_append, List.length_append, ih2, Nat.succ_mul]; simp
    exact this b
theorem keyL_box {bs : List Nat} : ∀ {s : List Int}, s.length = bs.length → (∀ (i : Nat) (x : Int) (b : Nat), s[i]? = some x → bs[i]? = some b → 0 ≤ x ∧ x < b) → keyL s ∈ box bs := by
  induction bs with
  | nil =>
    intro s hl _
    obtain rfl := List.eq_nil_of_length_eq_zero hl
    exact List.mem_singleton.2 rfl
  | cons b r ih =>
    intro s hl h
    cases s with
    | nil => simp at hl
    | cons x s =>
      have h0 := h 0 x b rfl rfl
      have h1 := ih (s := s) (by simpa using hl) (fun i y c hi hc => h (i + 1) y c (by simpa using hi) (by simpa using hc))
      rw [keyL, box, List.mem_flatMap]
      exact ⟨x.toNat, by rw [List.mem_range]; omega, List.mem_map.2 ⟨keyL s, h1, by omega⟩⟩
/-- the exponents at each place are below the bounds -/
def Bx (bs : List Nat) (F : Mons) : Prop := ∀ p ∈ F, inK p.1 ∧ ∀ (i b : Nat), bs[i]? = some b → i < 7 → dig p.1 i < b
theorem Bx.canon {bs : List Nat} {F : Mons} (h : Bx bs F) : Bx bs (canon F) := fun p hp => by
  obtain ⟨q, hq, e⟩ := mem_canon hp
  rw [← e]
  exact h q hq
theorem nodup_sub {l : List Int} : ∀ {m : List Int}, l.Nodup → (∀ x ∈ l, x ∈ m) → l.length ≤ m.length := by
  induction l with
  | nil => intro m _ _; exact Nat.zero_le _
  | cons a t ih =>
    intro m hn h
    rw [List.nodup_cons] at hn
    have ha := h a List.mem_cons_self
    have h1 := ih (m := m.erase a) hn.2 (fun x hx => (List.mem_erase_of_ne (fun e => hn.1 (by rw [← e]; exact hx))).2 (h x (List.mem_cons_of_mem _ hx)))
    rw [List.length_erase_of_mem ha] at h1
    have h2 := List.length_pos_of_mem ha
    rw [List.length_cons]
    omega
theorem Bx.count {bs : List Nat} {F : Mons} (h : Bx bs F) (h7 : bs.length = 7) : (Go.Proofs.YtomejjbkakpoiaaGreat.canon F).length ≤ bs.foldr (fun b t => b * t) 1 := by
  rw [← box_length]
  have hn := canon_nodup F
  have := nodup_sub (m := box bs) hn (fun k hk => by
    obtain ⟨p, hp, rfl⟩ := List.mem_map.1 hk
    obtain ⟨h1, h2⟩ := h.canon p hp
    rw [← keyL_digs h1]
    refine keyL_box (by rw [digs_length, h7]) (fun i x b hi hb => ?_)
    have hi7 := lt_of_some hi
    rw [digs_length] at hi7
    rw [digs_at hi7] at hi
    obtain rfl := Option.some.inj hi
    exact ⟨(dig_isD p.1 i).1, h2 i b hb hi7⟩)
  rw [List.length_map] at this
  exact this
end Go.Proofs.YtomejjbkakpoiaaGreat

namespace Go.Proofs.YtomejjbkakpoiaaGreat
open Go.RowKit

/-- the first j exponents of the staircase of n, as a key -/
def partK (n j : Nat) : Int := (List.range j).foldl (fun k i => k + ((n : Int) - 1 - i) * unit i) 0
theorem partK_succ (n j : Nat) : partK n (j + 1) = partK n j + ((n : Int) - 1 - j) * unit j := by
  unfold partK
  rw [List.range_succ, List.foldl_append]
  rfl
theorem partK_in : ∀ n, n < 8 → ∀ j, j < 8 → j ≤ n → 0 ≤ partK n j ∧ partK n j < 562949953421312 ∧ 0 ≤ ((n : Int) - 1 - j) * unit j + 128 ^ 7 ∧ ((n : Int) - 1 - j) * unit j < 562949953421312 := by decide
end Go.Proofs.YtomejjbkakpoiaaGreat

namespace Go.Proofs.YtomejjbkakpoiaaGreat
open Go.RowKit

def swp (xs : List Int) (i j : Nat) : List Int := (xs.set i (xs.getD j 0)).set j (xs.getD i 0)
theorem swp_length (xs : List Int) (i j : Nat) : (swp xs i j).length = xs.length := by simp [swp]
theorem swp_at {xs : List Int} {i j : Nat} {x y : Int} (hx : xs[i]? = some x) (hy : xs[j]? = some y) : swp xs i j = (xs.set i y).set j x := by rw [swp, getD_of hx, getD_of hy]

set_option maxRecDepth 100000 in
set_option maxHeartbeats 1600000 in
theorem l1Swap_any (a : Option Addr) (n c : Nat) (xs : List Int) (i j : Nat) (I J : Int) (w : World) (hr : RI w a xs) (hn : xs.length = n) (hb : n ≤ 1048576) (hI : I = (i : Int)) (hJ : J = (j : Int)) (hi : i < n) (hj : j < n) :
    Calls Tryz.prog 69 #[.slice a n c, .int .i64 I, .int .i64 J] w fun e w' => ∃ a' c', e = .returned (.slice a' n c') ∧ OwI w' w.heap.size w'.heap.size a' n c' (swp xs i j) ∧ Below w.heap.size w w' := by
  subst hI hJ
  have Hn := Lib.hid hn; clear hn
  obtain ⟨b, off, rfl, hcell⟩ := hr.at (k := i) (by rw [Hn.out]; exact hi)
  obtain ⟨x, hx⟩ := some_at Hn.out hi
  obtain ⟨y, hy⟩ := some_at Hn.out hj
  have hcx := hcell i x hx
  have hcy := hcell j y hy
  have Hsw := Lib.hid (swp_at hx hy)
  clear hcell hx hy
  have hbx := World.block_lt_of_cell? w _ hcx
  have q1 : (i : Int) < (n : Int) := by omega
  have q2 : (j : Int) < (n : Int) := by omega
  go_enter Tryz.func69, Tryz.ntmps69
  go_wp2_with fail
  refine (l1Ints_any _ _ _ xs _ hr Hn.out hb).mono ?_
  rintro e w1 ⟨a1, c1, rfl, ho, hB⟩
  obtain ⟨g, rfl, hBg, ⟨v, hv, hcv⟩, hfv⟩ := OI.cons ho.1 hi
  have s1 := ho.1.store i y
  have hB1 := hB.grown s1.2 hB.size (by intro q hq; obtain rfl := Option.some.inj hq; exact hBg)
  obtain ⟨g', e', _, ⟨v2, hv2, hcv2⟩, hfv2⟩ := OI.cons s1.1 hj
  obtain rfl : g = g' := by simpa using e'
  have s2 := s1.1.store j x
  rw [← Hsw.out] at s2
  have hB2 := hB1.grown s2.2 hB1.size (by intro q hq; obtain rfl := Option.some.inj hq; exact hBg)
  have HS := Lib.hid (OwI.of s2.1)
  have hy1 : w1.cell? ⟨b, off + j, none⟩ = some (.int .i64 y) := by rw [hB.cell hbx]; exact hcy
  have hx2 : (w1.setCell ⟨g, i, none⟩ (.int .i64 y)).cell? ⟨b, off + i, none⟩ = some (.int .i64 x) := by rw [hB1.cell hbx]; exact hcx
  clear s1 s2 hv hv2 ho e' hcx hcy
  go_wp2
  go_ret
  exact ⟨_, _, rfl, HS.out, hB2⟩

set_option maxRecDepth 100000 in
set_option maxHeartbeats 1600000 in
theorem exchanged_any (a : Option Addr) (n c : Nat) (xs : List Int) (i j : Nat) (I J : Int) (w : World) (hr : RI w a xs) (hn : xs.length = n) (hb : n ≤ 1048576) (hI : I = (i : Int)) (hJ : J = (j : Int)) (hi : i < n) (hj : j < n) (hij : i ≠ j) :
    Calls Tryz.prog 84 #[.slice a n c, .int .i64 I, .int .i64 J] w fun e w' => ∃ a' c', e = .returned (.slice a' n c') ∧ OwI w' w.heap.size w'.heap.size a' n c' (swp xs i j) ∧ Below w.heap.size w w' := by
  subst hI hJ
  have Hn := Lib.hid hn; clear hn
  obtain ⟨x, hx⟩ := some_at Hn.out hi
  obtain ⟨y, hy⟩ := some_at Hn.out hj
  have Hsw := Lib.hid (swp_at hx hy)
  have Hx := Lib.hid hx; clear hx
  have Hy := Lib.hid hy; clear hy
  have q1 : (i : Int) < (n : Int) := by omega
  have q2 : (j : Int) < (n : Int) := by omega
  go_enter Tryz.func84, Tryz.ntmps84
  go_wp2_with fail
  refine (cloneI_any _ _ _ xs _ hr Hn.out hb).mono ?_
  rintro e w1 ⟨a1, c1, rfl, ho, hB⟩
  obtain ⟨g, rfl, hBg, ⟨v, hv, hcv⟩, hfv⟩ := OI.cons ho.1 hi
  obtain rfl : x = v := by rw [Hx.out] at hv; exact Option.some.inj hv
  obtain ⟨g', e', _, ⟨v2, hv2, hcv2⟩, hfv2⟩ := OI.cons ho.1 hj
  obtain rfl : g = g' := by simpa using e'
  obtain rfl : y = v2 := by rw [Hy.out] at hv2; exact Option.some.inj hv2
  have s1 := ho.1.store i y
  have hB1 := hB.grown s1.2 hB.size (by intro q hq; obtain rfl := Option.some.inj hq; exact hBg)
  have s2 := s1.1.store j x
  rw [← Hsw.out] at s2
  have hB2 := hB1.grown s2.2 hB1.size (by intro q hq; obtain rfl := Option.some.inj hq; exact hBg)
  have HS := Lib.hid ((OwI.of s2.1).below (Drew.below ⟨1, rfl⟩ _))
  have HB := Lib.hid (hB2.trans (Drew.below ⟨1, rfl⟩ w.heap.size))
  clear s1 s2 hv hv2 ho e' hB1 hB2
  go_wp2
  go_region
  go_wp2
  go_ret
  exact ⟨_, _, rfl, HS.out, HB.out⟩
end Go.Proofs.YtomejjbkakpoiaaGreat
