/-
  Contract of the laws' own comparison of lists.
  Contract of the laws' own comparison of polynomials.
  The laws' own words for the program's operations on polynomials, within the limits.
-/
import Derived.Test.YtcminkcoifkbgaaGreatDoorBuA
import Derived.Test.YtcminkcoifkbgaaGreatDoorBuB
import Derived.StillTailTactics
import Derived.Test.YtcminkcoifkbgaaGreatDoorBuH2
import Derived.Test.YtcminkcoifkbgaaGreatDoorOperated
import Derived.Test.YtcminkcoifkbgaaGreatDoorMulI
namespace Go.Proofs.YtcminkcoifkbgaaGreatDoor
open Go.RowKit

set_option maxHeartbeats 400000 in
theorem ints_any (a b : Option Addr) (n c m d : Nat) (xs ys : List Int) (w : World) (hr : RI w a xs) (hs : RI w b ys) (hn : xs.length = n) (hm : ys.length = m) (hb : n ≤ 17592186044416) :
    Calls Tryz.prog 31 #[.slice a n c, .slice b m d] w fun e w' => e = .returned (.bool (decide (xs = ys))) ∧ Drew w w' := by
  have Hn := Lib.hid hn; clear hn
  have Hm := Lib.hid hm; clear hm
  by_cases hnm : n = m
  · subst hnm
    go_enter Tryz.func31, Tryz.ntmps31
    go_wp2
    go_loopw [5] (fun i wr => ∃ k : Nat, k ≤ n ∧ i = .int .i64 k ∧ Hid (∀ j, j < k → xs[j]? = ys[j]?) ∧ Drew w wr) (fun i _ => n - (intOf i).toNat)
    case atStart => exact ⟨0, Nat.zero_le _, rfl, by intro j hj; omega, Drew.refl _⟩
    case round =>
      obtain ⟨k, hk, rfl, HA, hd⟩ := hrel
      by_cases hlt : k < n
      · obtain ⟨b, off, rfl, hcell⟩ := (hr.drew hd).at (k := k) (by rw [Hn.out]; exact hlt)
        obtain ⟨b2, off2, rfl, hcell2⟩ := (hs.drew hd).at (k := k) (by rw [Hm.out]; exact hlt)
        obtain ⟨x, hx⟩ : ∃ x, xs[k]? = some x := ⟨xs[k]'(by rw [Hn.out]; exact hlt), by simp⟩
        obtain ⟨y, hy⟩ : ∃ y, ys[k]? = some y := ⟨ys[k]'(by rw [Hm.out]; exact hlt), by simp⟩
        have hc := hcell k x hx
        have hc2 := hcell2 k y hy
        have Hx := Lib.hid hx; clear hx
        have Hy := Lib.hid hy; clear hy
        clear hcell hcell2
        have hltI : (k : Int) < (n : Int) := by omega
        by_cases h1 : x = y
        · subst h1
          go_wp2
          go_quiet (fail)
          go_wp2
          go_roundw
          case rel => exact ⟨k + 1, by omega, by go_num, by
                intro j hj
                rcases Nat.lt_or_ge j k with h | h
                · exact HA.out j h
                · obtain rfl : j = k := by omega
                  rw [Hx.out, Hy.out], hd.trans (Drew.drewN _ _)⟩
          case measure => simp [intOf]; omega
        · have hne : (x != y) = true := by simpa using h1
          have H1 := Lib.hid h1; clear h1
          go_wp2
          go_quiet (fail)
          go_wp2
          go_ret
          exact ⟨ret_bool (ne_of_at Hx.out Hy.out H1.out).symm, hd.trans (Drew.drewN _ _)⟩
      · go_wp2
        go_ret
        exact ⟨ret_bool (eq_of_all (Hn.out.trans Hm.out.symm) (by intro j hj; exact HA.out j (by rw [Hn.out] at hj; omega))).symm, hd⟩
  · go_enter Tryz.func31, Tryz.ntmps31
    have hne : ((n : Int) != (m : Int)) = true := by rw [bne_iff_ne]; omega
    go_wp2
    go_ret
    exact ⟨ret_bool (by symm; rw [decide_eq_false_iff_not]; rintro rfl; exact hnm (Hn.out.symm.trans Hm.out)), Drew.refl _⟩
end Go.Proofs.YtcminkcoifkbgaaGreatDoor

namespace Go.Proofs.YtcminkcoifkbgaaGreatDoor
open Go.RowKit

theorem eqt_of_all {xs ys : List (List Int × Int)} (hl : xs.length = ys.length) (h : ∀ j, j < xs.length → xs[j]? = ys[j]?) : decide (xs = ys) = true := by
  rw [decide_eq_true_iff]
  apply List.ext_getElem?
  intro j
  rcases Nat.lt_or_ge j xs.length with h1 | h1
  · exact h j h1
  · rw [List.getElem?_eq_none h1, List.getElem?_eq_none (by omega)]
theorem net_of_at {xs ys : List (List Int × Int)} {k : Nat} {x y : List Int × Int} (hx : xs[k]? = some x) (hy : ys[k]? = some y) (h : x ≠ y) : decide (xs = ys) = false := by
  rw [decide_eq_false_iff_not]
  rintro rfl
  rw [hx] at hy
  exact h (by simpa using hy)

set_option maxRecDepth 100000 in
set_option maxHeartbeats 3200000 in
theorem lawTerms_any (a b : Option Addr) (n c m d : Nat) (xs ys : List (List Int × Int)) (w : World) (hr : RP w a xs) (hs : RP w b ys) (hn : xs.length = n) (hm : ys.length = m) (hb : n ≤ 1048576) (hsh : ∀ p ∈ xs, p.1.length ≤ 1048576) :
    Calls Tryz.prog 10 #[.slice a n c, .slice b m d] w fun e w' => e = .returned (.bool (decide (xs = ys))) ∧ Drew w w' := by
  have Hn := Lib.hid hn; clear hn
  have Hm := Lib.hid hm; clear hm
  have Hsh := Lib.hid hsh; clear hsh
  by_cases hnm : n = m
  · subst hnm
    go_enter Tryz.func10, Tryz.ntmps10
    go_wp2
    go_loopw [5] (fun i wr => ∃ k : Nat, k ≤ n ∧ i = .int .i64 k ∧ Hid (∀ j, j < k → xs[j]? = ys[j]?) ∧ Drew w wr) (fun i _ => n - (intOf i).toNat)
    case atStart => exact ⟨0, Nat.zero_le _, rfl, by intro j hj; omega, Drew.refl _⟩
    case round =>
      obtain ⟨k, hk, rfl, HA, hd⟩ := hrel
      obtain ⟨wo, rfl⟩ : ∃ wo : World, wo = wr := ⟨_, rfl⟩
      by_cases hlt : k < n
      · obtain ⟨b1, off1, rfl, hcell⟩ := (hr.below (hd.below _)).at (k := k) (by rw [Hn.out]; exact hlt)
        obtain ⟨b2, off2, rfl, hcell2⟩ := (hs.below (hd.below _)).at (k := k) (by rw [Hm.out]; exact hlt)
        obtain ⟨s, x, hx⟩ := part_at Hn.out hlt
        obtain ⟨t, y, hy⟩ := part_at Hm.out hlt
        obtain ⟨a1, c1, p1, p2, hri, _⟩ := hcell k _ hx
        obtain ⟨a2, c2, p3, p4, hri2, _⟩ := hcell2 k _ hy
        simp only at p1 p2 hri p3 p4 hri2
        have hsl := Hsh.out _ (List.mem_of_getElem? hx)
        simp only at hsl
        have Hx := Lib.hid hx; clear hx
        have Hy := Lib.hid hy; clear hy
        obtain ⟨l, hl⟩ : ∃ l, s.length = l := ⟨_, rfl⟩
        obtain ⟨l2, hl2⟩ : ∃ l, t.length = l := ⟨_, rfl⟩
        rw [hl] at p1 hsl
        rw [hl2] at p3
        have Hl := Lib.hid hl; clear hl
        have Hl2 := Lib.hid hl2; clear hl2
        clear hcell hcell2
        have hltI : (k : Int) < (n : Int) := by omega
        by_cases h1 : x = y
        · subst h1
          have hne : (x != x) = false := by simp
          by_cases h2 : s = t
          · subst h2
            go_wp2
            go_quiet ((go_at_call 31; exact quiet (is (ints_any _ _ _ _ _ _ s s _ (hri.drew (Drew.drewN _ _)) (hri2.drew (Drew.drewN _ _)) Hl.out Hl2.out (by omega)) (by simp : _ = true))))
            go_wp2
            go_roundw
            case rel => exact ⟨k + 1, by omega, by go_num, by
                  intro j hj
                  rcases Nat.lt_or_ge j k with h | h
                  · exact HA.out j h
                  · obtain rfl : j = k := by omega
                    rw [Hx.out, Hy.out], hd.trans (Drew.drewN _ _)⟩
            case measure => simp [intOf]; omega
          · have H2 := Lib.hid h2; clear h2
            go_wp2
            go_quiet ((go_at_call 31; exact quiet (is (ints_any _ _ _ _ _ _ s t _ (hri.drew (Drew.drewN _ _)) (hri2.drew (Drew.drewN _ _)) Hl.out Hl2.out (by omega)) (by simp [H2.out] : _ = false))))
            go_wp2
            go_ret
            exact ⟨ret_bool (net_of_at Hx.out Hy.out (fun e => H2.out (by cases e; rfl))).symm, hd.trans (Drew.drewN _ _)⟩
        · have hne : (x != y) = true := by simpa using h1
          have H1 := Lib.hid h1; clear h1
          go_wp2
          go_quiet (fail)
          go_wp2
          go_ret
          exact ⟨ret_bool (net_of_at Hx.out Hy.out (fun e => H1.out (by cases e; rfl))).symm, hd.trans (Drew.drewN _ _)⟩
      · go_wp2
        go_ret
        exact ⟨ret_bool (eqt_of_all (Hn.out.trans Hm.out.symm) (by intro j hj; exact HA.out j (by rw [Hn.out] at hj; omega))).symm, hd⟩
  · go_enter Tryz.func10, Tryz.ntmps10
    have hne : ((n : Int) != (m : Int)) = true := by rw [bne_iff_ne]; omega
    go_wp2
    go_ret
    exact ⟨ret_bool (by symm; rw [decide_eq_false_iff_not]; rintro rfl; exact hnm (Hn.out.symm.trans Hm.out)), Drew.refl _⟩
end Go.Proofs.YtcminkcoifkbgaaGreatDoor

namespace Go.Proofs.YtcminkcoifkbgaaGreatDoor
open Go.RowKit

/-- the slice reads as the terms of a polynomial within the limits -/
structure PT (w : World) (a : Option Addr) (n : Nat) (F : Mons) : Prop where
  rd : RP w a (termsM F)
  len : (termsM F).length = n
  small : n ≤ 600
theorem PT.below {w w' : World} {a : Option Addr} {n : Nat} {F : Mons} (h : PT w a n F) (hb : Below w.heap.size w w') : PT w' a n F := ⟨h.rd.below hb, h.len, h.small⟩
theorem PT.of {w : World} {B S : Nat} {a : Option Addr} {n c : Nat} {F : Mons} (h : TO w B S a n c (termsM F)) (hF : OKp F) : PT w a n F :=
  ⟨h.rd, h.len, by rw [← h.len]; exact hF.len⟩
theorem PT.eqv {w : World} {a : Option Addr} {n : Nat} {F G : Mons} (h : PT w a n F) (e : Eqv F G) : PT w a n G := by
  obtain ⟨h1, h2, h3⟩ := h
  rw [termsM_eqv e] at h1 h2
  exact ⟨h1, h2, h3⟩
theorem terms_short (F : Mons) : ∀ p ∈ termsM F, p.1.length ≤ 1048576 := by
  intro p hp
  obtain ⟨k, hk⟩ := List.getElem?_of_mem hp
  obtain ⟨q, _, rfl⟩ := termsM_at hk
  simp [term, digs_length]
theorem isVar_nat {i : Nat} (hi : i ≤ 5) : isVar (i : Int) = true := by unfold isVar; rw [decide_eq_true_eq]; omega
theorem terms_law (a b : Option Addr) (n c m d : Nat) (F G : Mons) (w : World) (h : PT w a n F) (h' : PT w b m G) (e : Eqv F G) :
    Calls Tryz.prog 10 #[.slice a n c, .slice b m d] w fun e w' => e = .returned (.bool true) ∧ Drew w w' := by
  have h1 := h.small
  exact is (lawTerms_any a b n c m d (termsM F) (termsM G) w h.rd h'.rd h.len h'.len (by omega) (terms_short F)) (by rw [termsM_eqv e]; simp)
theorem op_terms {op : Nat → Mons → Mons} (hop : ∀ {i : Nat} {F G : Mons}, Eqv F G → Eqv (op i F) (op i G)) {F : Mons} {i : Nat} (hi : i ≤ 5) (hF : OKp F) (hR : OKp (op i F)) :
    opT op (termsM F) (i : Int) = termsM (op i F) ∧ opOk op (termsM F) (i : Int) = true := by
  obtain ⟨h1, h2⟩ := opT_yes (op := op) hF.ok (isVar_nat hi)
  rw [Int.toNat_natCast] at h1 h2
  rw [h1, h2, closedT_op (op := op i) (fun h => hop h) hF hR, termsM_op (op := op i) (fun h => hop h) hF]
  exact ⟨rfl, hR.ok⟩
set_option maxRecDepth 100000 in
set_option maxHeartbeats 3200000 in
theorem implAdd_ok (a b : Option Addr) (n c m d : Nat) (F G : Mons) (k : Int) (w : World) (hx : PT w a n F) (hy : PT w b m G) (hk : -1000 ≤ k ∧ k ≤ 1000) (hF : OKp F) (hG : OKp G) (hR : OKp (plusM F k G)) :
    Calls Tryz.prog 33 #[.slice a n c, .int .i64 k, .slice b m d] w fun e w' => ∃ a' n' c', e = .returned (.tuple #[.slice a' n' c', .bool true]) ∧ PT w' a' n' (plusM F k G) ∧ Below w.heap.size w w' := by
  have Hok := Lib.hid hF.ok
  have Hv := Lib.hid hG.ok
  have hs1 := hx.small
  have hs2 := hy.small
  have hkl : ¬ k < -1000 := by omega
  have hku : ¬ k > 1000 := by omega
  have HR := Lib.hid hR
  have HF := Lib.hid hF
  have HG := Lib.hid hG
  clear hF hG hR
  go_enter Tryz.func33, Tryz.ntmps33
  go_wp2_with fail
  refine (is (implPolyOk_any _ _ _ (termsM F) _ hx.rd hx.len (by omega)) Hok.out).mono ?_
  rintro e w1 ⟨rfl, hb1⟩
  have hy1 := hy.below hb1
  go_wp2_with fail
  refine (is (implPolyOk_any _ _ _ (termsM G) _ hy1.rd hy1.len (by omega)) Hv.out).mono ?_
  rintro e w2 ⟨rfl, hb2⟩
  have hB2 := hb1.trans (hb2.mono hb1.size)
  have hx2 := hx.below hB2
  have hy2 := hy.below hB2
  go_wp2_with fail
  refine (open_any _ _ _ (termsM F) _ hx2.rd hx2.len Hok.out).mono ?_
  rintro e w3 ⟨r3, rfl, hr3, hF3, hb3⟩
  have hB3 := hB2.trans (hb3.mono hB2.size)
  have hy3 := hy2.below hb3
  go_wp2_with fail
  refine (open_any _ _ _ (termsM G) _ hy3.rd hy3.len Hv.out).mono ?_
  rintro e w4 ⟨r4, rfl, hr4, hG4, hb4⟩
  have hB4 := hB3.trans (hb4.mono hB3.size)
  have hF4 := hF3.below hb4
  go_wp2_with fail
  refine (plus_any r3 r4 k (monsOf (termsM F)) (monsOf (termsM G)) _ hF4 hG4).mono ?_
  rintro e w5 ⟨r5, rfl, hr5, hF5, hb5⟩
  have hB5 := hB4.trans (hb5.mono hB4.size)
  go_wp2_with fail
  refine (closed_any r5 _ _ hF5).mono ?_
  rintro e w6 ⟨a6, n6, c6, r6, rfl, ho6, hh6, hb6⟩
  have hB6 := hB5.trans (hb6.mono hB5.size)
  have e0 : Eqv (plusM (monsOf (termsM F)) k (monsOf (termsM G))) (plusM F k G) := by
    rw [monsOf_terms HF.out.bd, monsOf_terms HG.out.bd]
    exact plusM_eqv (canon_self F) (canon_self G)
  obtain rfl : r6 = true := by rw [hh6.out, termsM_eqv e0]; exact HR.out.ok
  rw [closedT_ok (by rw [termsM_eqv e0]; exact HR.out.ok), termsM_eqv e0] at ho6
  have Ho6 := Lib.hid (PT.of ho6 HR.out)
  clear ho6
  go_wp2
  go_ret2
  exact ⟨_, _, _, rfl, Ho6.out, hB6⟩
set_option maxRecDepth 100000 in
set_option maxHeartbeats 1600000 in
theorem plus_law (a b : Option Addr) (n c m d : Nat) (F G : Mons) (k : Int) (w : World) (hx : PT w a n F) (hy : PT w b m G) (hk : -1000 ≤ k ∧ k ≤ 1000) (hF : OKp F) (hG : OKp G) (hR : OKp (plusM F k G)) :
    Calls Tryz.prog 12 #[.slice a n c, .int .i64 k, .slice b m d] w fun e w' => ∃ a' n' c', e = .returned (.slice a' n' c') ∧ PT w' a' n' (plusM F k G) ∧ Below w.heap.size w w' := by
  go_enter Tryz.func12, Tryz.ntmps12
  go_wp2_with fail
  refine (implAdd_ok _ _ _ _ _ _ F G k _ hx hy hk hF hG hR).mono ?_
  rintro e w1 ⟨a1, n1, c1, rfl, ho, hb⟩
  have Ho := Lib.hid ho
  clear ho
  go_wp2
  go_ret
  exact ⟨_, _, _, rfl, Ho.out, hb⟩
end Go.Proofs.YtcminkcoifkbgaaGreatDoor
