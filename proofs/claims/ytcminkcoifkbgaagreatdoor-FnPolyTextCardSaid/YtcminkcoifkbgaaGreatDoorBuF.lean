/-
  Polynomials as lists of terms: byTerms, PolyOk of the program and of the reference.
  PolyOk of the program and of the reference.
  PolyOk of the reference.
-/
import Derived.Test.YtcminkcoifkbgaaGreatDoorBuD
import Derived.Test.YtcminkcoifkbgaaGreatDoorBuB
import Derived.Test.YtcminkcoifkbgaaGreatDoorBuA
import Derived.BigQuiet
import Derived.Laws.Rows
namespace Go.Proofs.YtcminkcoifkbgaaGreatDoor
open Go.RowKit

def byTo (xs ys : List Int) : Nat → Int
  | 0 => 0
  | n + 1 => if xs.getD n 0 = ys.getD n 0 then byTo xs ys n else ys.getD n 0 - xs.getD n 0
theorem byTo_same {xs ys : List Int} {n : Nat} {x y : Int} (hx : xs[n]? = some x) (hy : ys[n]? = some y) (h : x = y) : byTo xs ys (n + 1) = byTo xs ys n := by rw [byTo, getD_of hx, getD_of hy, if_pos h]
theorem byTo_diff {xs ys : List Int} {n : Nat} {x y : Int} (hx : xs[n]? = some x) (hy : ys[n]? = some y) (h : x ≠ y) : byTo xs ys (n + 1) = y - x := by rw [byTo, getD_of hx, getD_of hy, if_neg h]
theorem seven_list {xs : List Int} (h : xs.length = 7) : ∃ a b c d e f g, xs = [a, b, c, d, e, f, g] := by
  match xs, h with
  | [a, b, c, d, e, f, g], _ => exact ⟨a, b, c, d, e, f, g, rfl⟩
theorem byTo_key {xs ys : List Int} (hx : xs.length = 7) (hy : ys.length = 7) (dx : Digs xs) (dy : Digs ys) :
    (byTo xs ys 7 < 0 ↔ keyL ys < keyL xs) ∧ (byTo xs ys 7 = 0 ↔ xs = ys) := by
  obtain ⟨a, b, c, d, e, f, g, rfl⟩ := seven_list hx
  obtain ⟨p, q, r, s, t, u, v, rfl⟩ := seven_list hy
  have h1 := dx a (by simp); have h2 := dx b (by simp); have h3 := dx c (by simp); have h4 := dx d (by simp); have h5 := dx e (by simp); have h6 := dx f (by simp); have h7 := dx g (by simp)
  have k1 := dy p (by simp); have k2 := dy q (by simp); have k3 := dy r (by simp); have k4 := dy s (by simp); have k5 := dy t (by simp); have k6 := dy u (by simp); have k7 := dy v (by simp)
  unfold isD at *
  simp only [byTo, List.getD_eq_getElem?_getD, List.getElem?_cons_succ, List.getElem?_cons_zero, Option.getD_some, keyL, List.cons.injEq, and_true]
  constructor
  · (repeat' split) <;> omega
  · (repeat' split) <;> omega

set_option maxRecDepth 100000 in
set_option maxHeartbeats 800000 in
theorem byTerms_any (a b : Option Addr) (c d : Nat) (xs ys : List Int) (w : World) (hr : RI w a xs) (hs : RI w b ys) (hn : xs.length = 7) (hm : ys.length = 7) (dx : Digs xs) (dy : Digs ys) :
    Calls Tryz.prog 46 #[.slice a 7 c, .slice b 7 d] w fun e w' => e = .returned (.int .i64 (byTo xs ys 7)) ∧ Drew w w' := by
  have Hn := Lib.hid hn; clear hn
  have Hm := Lib.hid hm; clear hm
  have Hdx := Lib.hid dx; clear dx
  have Hdy := Lib.hid dy; clear dy
  obtain ⟨R, hR⟩ : ∃ R, byTo xs ys 7 = R := ⟨_, rfl⟩
  rw [hR]
  have HR := Lib.hid hR; clear hR
  go_enter Tryz.func46, Tryz.ntmps46
  go_wp2
  go_loopw [5] (fun iv wr => ∃ m : Nat, m ≤ 7 ∧ iv = .int .i64 ((m : Int) - 1) ∧ Hid (byTo xs ys m = R) ∧ Drew w wr) (fun iv _ => (intOf iv + 1).toNat)
  case atStart => exact ⟨7, Nat.le_refl _, rfl, HR.out, Drew.refl _⟩
  case round =>
    obtain ⟨m, hm, rfl, HM, hd⟩ := hrel
    by_cases h0 : 0 < m
    · obtain ⟨p, rfl⟩ : ∃ p, m = p + 1 := ⟨m - 1, by omega⟩
      obtain ⟨b1, off, rfl, hcell⟩ := (hr.drew hd).at (k := p) (by rw [Hn.out]; omega)
      obtain ⟨b2, off2, rfl, hcell2⟩ := (hs.drew hd).at (k := p) (by rw [Hm.out]; omega)
      obtain ⟨x, hx⟩ := some_at Hn.out (show p < 7 by omega)
      obtain ⟨y, hy⟩ := some_at Hm.out (show p < 7 by omega)
      have hc := hcell p x hx
      have hc2 := hcell2 p y hy
      have hxd := Hdx.out x (List.mem_of_getElem? hx)
      have hyd := Hdy.out y (List.mem_of_getElem? hy)
      unfold isD at hxd hyd
      have hp1 : ((p + 1 : Nat) : Int) - 1 = (p : Int) := by omega
      rw [hp1]
      have q1 : (p : Int) < 7 := by omega
      have q2 : (0 : Int) ≤ (p : Int) := by omega
      have q5 : IntKind.i64.wrap ((p : Int) - 1) = (p : Int) - 1 := IntWalk.i64_in _ (by omega)
      by_cases h : x = y
      · have Hst := Lib.hid ((byTo_same hx hy h).symm.trans HM.out)
        have e1 : (x != y) = false := by simp [h]
        clear hx hy hcell hcell2 h hp1
        go_wp2
        go_quiet (fail)
        go_wp2
        go_roundw
        case rel => exact ⟨p, by omega, rfl, Hst.out, hd.trans (Drew.drewN _ _)⟩
        case measure => clear q5; simp [intOf]
      · have Hst := Lib.hid ((byTo_diff hx hy h).symm.trans HM.out)
        have e1 : (x != y) = true := by simp [h]
        have q6 : IntKind.i64.wrap (y - x) = y - x := IntWalk.i64_in _ (by omega)
        clear hx hy hcell hcell2 h hp1
        go_wp2
        go_quiet (fail)
        go_wp2
        go_quiet (fail)
        go_wp2
        go_ret
        exact ⟨ret_int Hst.out, (hd.trans (Drew.drewN _ _)).trans (Drew.drewN _ _)⟩
    · obtain rfl : m = 0 := by omega
      have H0 := Lib.hid (show (0 : Int) = R from HM.out)
      go_wp2
      go_ret
      exact ⟨ret_int H0.out, hd⟩
end Go.Proofs.YtcminkcoifkbgaaGreatDoor

namespace Go.Proofs.YtcminkcoifkbgaaGreatDoor
open Go.RowKit

def small (x : Int) : Bool := decide (0 ≤ x ∧ x ≤ 24)
def coefOk (c : Int) : Bool := decide (c ≠ 0 ∧ -1000000 ≤ c ∧ c ≤ 1000000)
def headOk (p : List Int × Int) : Bool := decide (p.1.length = 7) && coefOk p.2
def termOf (xs : List (List Int × Int)) (k : Nat) : List Int × Int := xs.getD k ([], 0)
def termAt (xs : List (List Int × Int)) (k : Nat) : Bool :=
  headOk (termOf xs k) && (termOf xs k).1.all small && (k == 0 || decide (keyL (termOf xs k).1 < keyL (termOf xs (k - 1)).1))
def polyOk (xs : List (List Int × Int)) : Bool := decide (xs.length ≤ 600) && (List.range xs.length).all (termAt xs)
theorem termOf_at {xs : List (List Int × Int)} {k : Nat} {p : List Int × Int} (h : xs[k]? = some p) : termOf xs k = p := by simp [termOf, h]
theorem polyOk_long {xs : List (List Int × Int)} (h : ¬ xs.length ≤ 600) : polyOk xs = false := by simp [polyOk, h]
theorem polyOk_false {xs : List (List Int × Int)} {k : Nat} (hk : k < xs.length) (h : termAt xs k = false) : polyOk xs = false := by
  have : (List.range xs.length).all (termAt xs) = false := by
    rw [List.all_eq_false]
    exact ⟨k, by simpa using hk, by simp [h]⟩
  simp [polyOk, this]
theorem polyOk_true {xs : List (List Int × Int)} (hl : xs.length ≤ 600) (h : ∀ j, j < xs.length → termAt xs j = true) : polyOk xs = true := by
  have : (List.range xs.length).all (termAt xs) = true := by
    rw [List.all_eq_true]; intro j hj; exact h j (by simpa using hj)
  simp [polyOk, this, hl]
theorem termAt_next {xs : List (List Int × Int)} {k : Nat} (h : ∀ j, j < k → termAt xs j = true) (h1 : termAt xs k = true) : ∀ j, j < k + 1 → termAt xs j = true := by
  intro j hj
  rcases Nat.lt_or_ge j k with h2 | h2
  · exact h j h2
  · obtain rfl : j = k := by omega
    exact h1
theorem termAt_head {xs : List (List Int × Int)} {k : Nat} {p : List Int × Int} (h : xs[k]? = some p) (h1 : headOk p = false) : termAt xs k = false := by simp [termAt, termOf_at h, h1]
theorem termAt_exp {xs : List (List Int × Int)} {k i : Nat} {s : List Int} {c x : Int} (h : xs[k]? = some (s, c)) (hx : s[i]? = some x) (h1 : small x = false) : termAt xs k = false := by
  have : s.all small = false := by
    rw [List.all_eq_false]
    exact ⟨x, List.mem_of_getElem? hx, by simp [h1]⟩
  simp [termAt, termOf_at h, this]
theorem all_small {s : List Int} {n : Nat} (hn : s.length = n) (h : ∀ j x, j < n → s[j]? = some x → small x = true) : s.all small = true := by
  rw [List.all_eq_true]
  intro x hx
  obtain ⟨j, hj⟩ := List.getElem?_of_mem hx
  exact h j x (by have := (List.getElem?_eq_some_iff.1 hj).1; omega) hj
theorem termAt_rise {xs : List (List Int × Int)} {k : Nat} {s t : List Int} {c d : Int} (h : xs[k]? = some (s, c)) (hy : xs[k - 1]? = some (t, d)) (h0 : k ≠ 0) (h1 : ¬ keyL s < keyL t) : termAt xs k = false := by
  simp [termAt, termOf_at h, termOf_at hy, h1, h0]
theorem termAt_first {xs : List (List Int × Int)} {s : List Int} {c : Int} (h : xs[0]? = some (s, c)) (h1 : headOk (s, c) = true) (h2 : s.all small = true) : termAt xs 0 = true := by
  simp only [termAt, termOf_at h, h1, h2]; rfl
theorem termAt_rest {xs : List (List Int × Int)} {k : Nat} {s t : List Int} {c d : Int} (h : xs[k]? = some (s, c)) (hy : xs[k - 1]? = some (t, d)) (h1 : headOk (s, c) = true) (h2 : s.all small = true) (h3 : keyL s < keyL t) : termAt xs k = true := by
  simp only [termAt, termOf_at h, termOf_at hy, h1, h2, h3]; simp
theorem termAt_ok {xs : List (List Int × Int)} {k : Nat} {s : List Int} {c : Int} (h : xs[k]? = some (s, c)) (h1 : termAt xs k = true) : s.length = 7 ∧ Digs s ∧ coefOk c = true := by
  simp only [termAt, termOf_at h, headOk, Bool.and_eq_true, decide_eq_true_eq] at h1
  refine ⟨h1.1.1.1, fun x hx => ?_, h1.1.1.2⟩
  have := List.all_eq_true.1 h1.1.2 x hx
  simp [small] at this
  unfold isD
  omega
theorem small_digs {s : List Int} (h : s.all small = true) : Digs s := fun x hx => by
  have := List.all_eq_true.1 h x hx
  simp [small] at this
  unfold isD
  omega

set_option maxRecDepth 100000 in
set_option maxHeartbeats 3200000 in
theorem implPolyOk_any (a : Option Addr) (n c : Nat) (xs : List (List Int × Int)) (w : World) (hr : RP w a xs) (hn : xs.length = n) (hb : n ≤ 1048576) :
    Calls Tryz.prog 24 #[.slice a n c] w fun e w' => e = .returned (.bool (polyOk xs)) ∧ Below w.heap.size w w' := by
  have Hn := Lib.hid hn; clear hn
  by_cases h600 : n ≤ 600
  case neg =>
    have H0 := Lib.hid (polyOk_long (xs := xs) (by rw [Hn.out]; exact h600))
    go_enter Tryz.func24, Tryz.ntmps24
    go_wp2
    go_ret
    exact ⟨ret_bool H0.out.symm, Below.refl _ _⟩
  go_enter Tryz.func24, Tryz.ntmps24
  go_wp2
  go_loopw [12] (fun i wr => ∃ k : Nat, k ≤ n ∧ i = .int .i64 k ∧ Hid (∀ j, j < k → termAt xs j = true) ∧ Below w.heap.size w wr) (fun i _ => n - (intOf i).toNat)
  case atStart => exact ⟨0, Nat.zero_le _, rfl, by intro j hj; omega, Below.refl _ _⟩
  case round =>
    obtain ⟨k, hk, rfl, HA, hd⟩ := hrel
    by_cases hlt : k < n
    · obtain ⟨b, off, rfl, hcell⟩ := (hr.below hd).at (k := k) (by rw [Hn.out]; exact hlt)
      obtain ⟨s, x, hx⟩ := part_at Hn.out hlt
      obtain ⟨a1, c1, hc1, hc2, hri, _⟩ := hcell k _ hx
      simp only at hc1 hc2 hri
      have hlast : k ≠ 0 → ∃ t d a2 c2, xs[k-1]? = some (t, d) ∧ wr.cell? ⟨b, off + (k-1) * 2, none⟩ = some (.slice a2 t.length c2) ∧ RI wr a2 t := by
        intro h0
        obtain ⟨t, d, ht⟩ := part_at (k := k - 1) Hn.out (by omega)
        obtain ⟨a2, c2, e1, e2, e3, _⟩ := hcell (k - 1) _ ht
        exact ⟨t, d, a2, c2, ht, e1, e3⟩
      clear hcell
      have Hx := Lib.hid hx; clear hx
      obtain ⟨l, hl⟩ : ∃ l, s.length = l := ⟨_, rfl⟩
      rw [hl] at hc1
      have Hl := Lib.hid hl; clear hl
      have q1 : (k : Int) < (n : Int) := by omega
      obtain ⟨W, hW⟩ : ∃ W, wr.alloc (.cells #[.slice a1 l c1, .int .i64 x] 50) = W := ⟨_, rfl⟩
      have hBW : Below wr.heap.size wr W := by rw [← hW]; exact (Below.refl _ _).alloc (Nat.le_refl _) _
      have hdW := hd.trans (hBW.mono hd.size)
      have g0 : W.heap[wr.heap.size]? = some (.cells #[.slice a1 l c1, .int .i64 x] 50) := by rw [← hW]; exact heap_alloc_new wr _
      have p0 : W.cell? ⟨wr.heap.size, 0, none⟩ = some (.slice a1 l c1) := by rw [cell_of_row W _ 0 _ _ (0, 0) g0]; rfl
      have p1 : W.cell? ⟨wr.heap.size, 1, none⟩ = some (.int .i64 x) := by rw [cell_of_row W _ 1 _ _ (0, 0) g0]; rfl
      have hriW := hri.below hBW
      clear g0
      by_cases hl7 : l = 7
      case neg =>
        clear hlast
        have e0 : ((l : Int) != 7) = true := by rw [bne_iff_ne]; omega
        have H0 := Lib.hid (polyOk_false (k := k) (by rw [Hn.out]; exact hlt) (termAt_head Hx.out (by simp [headOk, Hl.out, hl7])))
        go_wp2
        go_ret
        exact ⟨ret_bool H0.out.symm, hdW⟩
      subst hl7
      have e0 : (((7 : Nat) : Int) != 7) = false := by decide
      by_cases hc0 : x = 0
      case pos =>
        clear hlast
        have e1 : (x == 0) = true := by simp [hc0]
        have H0 := Lib.hid (polyOk_false (k := k) (by rw [Hn.out]; exact hlt) (termAt_head Hx.out (by simp [headOk, coefOk, hc0])))
        clear hc0
        go_wp2
        go_ret
        exact ⟨ret_bool H0.out.symm, hdW⟩
      have e1 : (x == 0) = false := by simp [hc0]
      by_cases hlo : x < -1000000
      case pos =>
        clear hlast
        have H0 := Lib.hid (polyOk_false (k := k) (by rw [Hn.out]; exact hlt) (termAt_head Hx.out (by simp [headOk, coefOk]; omega)))
        have e2 : decide (x < -1000000) = true := by simp [hlo]
        go_wp2
        go_ret
        exact ⟨ret_bool H0.out.symm, hdW⟩
      have e2 : decide (x < -1000000) = false := by simp [hlo]
      by_cases hhi : 1000000 < x
      case pos =>
        clear hlast
        have H0 := Lib.hid (polyOk_false (k := k) (by rw [Hn.out]; exact hlt) (termAt_head Hx.out (by simp [headOk, coefOk]; omega)))
        have e3 : decide (1000000 < x) = true := by simp [hhi]
        go_wp2
        go_ret
        exact ⟨ret_bool H0.out.symm, hdW⟩
      have e3 : decide (1000000 < x) = false := by simp [hhi]
      have Hhead := Lib.hid (show headOk (s, x) = true by simp [headOk, coefOk, Hl.out]; omega)
      clear hc0
      go_wp2
      go_loop [39] (fun iv => ∃ i : Nat, i ≤ 7 ∧ iv = .int .i64 i ∧ Hid (∀ j z, j < i → s[j]? = some z → small z = true)) (fun iv => 7 - (intOf iv).toNat)
      case atStart => exact ⟨0, by omega, rfl, fun j z hj => by omega⟩
      case round =>
        obtain ⟨i, hi, rfl, HS⟩ := hrel
        by_cases hi7 : i < 7
        · obtain ⟨bs, offs, rfl, hcs⟩ := hriW.at (k := i) (by rw [Hl.out]; exact hi7)
          obtain ⟨z, hz⟩ := some_at Hl.out hi7
          have hcz := hcs i z hz
          have r1 : (i : Int) < 7 := by omega
          have HZ := Lib.hid hz
          clear hcs hz
          by_cases hz1 : z < 0
          · have H0 := Lib.hid (polyOk_false (k := k) (by rw [Hn.out]; exact hlt) (termAt_exp Hx.out HZ.out (by simp [small]; omega)))
            have e4 : decide (z < 0) = true := by simp [hz1]
            clear hlast
            go_wp2
            go_ret
            exact ⟨ret_bool H0.out.symm, hdW⟩
          · have e4 : decide (z < 0) = false := by simp [hz1]
            by_cases hz2 : 24 < z
            · have H0 := Lib.hid (polyOk_false (k := k) (by rw [Hn.out]; exact hlt) (termAt_exp Hx.out HZ.out (by simp [small]; omega)))
              have e5 : decide (24 < z) = true := by simp [hz2]
              clear hlast
              go_wp2
              go_ret
              exact ⟨ret_bool H0.out.symm, hdW⟩
            · have e5 : decide (24 < z) = false := by simp [hz2]
              have HS1 := Lib.hid (show ∀ j u, j < i + 1 → s[j]? = some u → small u = true from fun j u hj hu => by
                rcases Nat.lt_or_ge j i with h | h
                · exact HS.out j u h hu
                · obtain rfl : j = i := by omega
                  rw [HZ.out] at hu
                  obtain rfl := Option.some.inj hu
                  simp [small]; omega)
              clear hlast
              go_wp2
              go_round
              case rel => exact ⟨i + 1, by omega, by go_num, HS1.out⟩
              case measure => simp [intOf]; omega
        · obtain rfl : i = 7 := by omega
          have HSm := Lib.hid (all_small Hl.out HS.out)
          by_cases hk0 : k = 0
          · subst hk0
            have g0 : decide ((0 : Int) < 0) = false := by decide
            clear hlast
            go_wp2
            go_quiet (fail)
            go_wp2
            go_roundw
            case rel => exact ⟨1, by omega, rfl, termAt_next HA.out (termAt_first Hx.out Hhead.out HSm.out), hdW.trans (Drew.below (Drew.drewN _ _) _)⟩
            case measure => simp [intOf]; omega
          · obtain ⟨t, d, a2, c2, ht, hc3, hri2⟩ := hlast hk0
            clear hlast
            obtain ⟨ht7, htd, _⟩ := termAt_ok ht (HA.out (k - 1) (by omega))
            have Ht := Lib.hid ht; clear ht
            rw [ht7] at hc3
            have hc4 : W.cell? ⟨b, off + (k-1) * 2, none⟩ = some (.slice a2 7 c2) := by rw [hBW.cell (World.block_lt_of_cell? wr _ hc3)]; exact hc3
            have hri3 := hri2.below hBW
            obtain ⟨by1, _⟩ := byTo_key ht7 Hl.out htd (small_digs HSm.out)
            have Hby := Lib.hid by1
            have Hsd := Lib.hid (small_digs HSm.out)
            have Htd := Lib.hid htd
            have Ht7 := Lib.hid ht7
            clear hc3 ht7 htd by1
            have g0 : 0 < k := by omega
            have g1 : (0 : Int) ≤ (k : Int) - 1 := by omega
            have g2 : (k : Int) - 1 < (n : Int) := by omega
            have g3 : IntKind.i64.wrap ((k : Int) - 1) = (k : Int) - 1 := IntWalk.i64_in _ (by omega)
            have g4 : ((k : Int) - 1).toNat = k - 1 := by omega
            obtain ⟨o, ho⟩ : ∃ o, byTo t s 7 = o := ⟨_, rfl⟩
            have HO := Lib.hid ho
            by_cases hneg : o < 0
            · have Hlt := Lib.hid (Hby.out.1 (by rw [ho]; exact hneg))
              have g5 : decide (0 ≤ o) = false := by simp; omega
              clear ho hneg
              go_wp2
              go_quiet ((go_at_call 46; exact quiet (isInt (byTerms_any _ _ _ _ t s _ (hri3.drew (Drew.drewN _ _)) (hriW.drew (Drew.drewN _ _)) Ht7.out Hl.out Htd.out Hsd.out) HO.out)))
              clear g3 g4
              go_wp2
              go_roundw
              case rel => exact ⟨k + 1, by omega, by go_num, termAt_next HA.out (termAt_rest Hx.out Ht.out Hhead.out HSm.out Hlt.out), hdW.trans (Drew.below (Drew.drewN _ _) _)⟩
              case measure => simp [intOf]; omega
            · have H0 := Lib.hid (polyOk_false (k := k) (by rw [Hn.out]; exact hlt) (termAt_rise Hx.out Ht.out hk0 (fun h => hneg (by rw [← ho]; exact Hby.out.2 h))))
              have g5 : decide (0 ≤ o) = true := by simp; omega
              clear ho hneg
              go_wp2
              go_quiet ((go_at_call 46; exact quiet (isInt (byTerms_any _ _ _ _ t s _ (hri3.drew (Drew.drewN _ _)) (hriW.drew (Drew.drewN _ _)) Ht7.out Hl.out Htd.out Hsd.out) HO.out)))
              clear g3 g4
              go_wp2
              go_ret
              exact ⟨ret_bool H0.out.symm, hdW.trans (Drew.below (Drew.drewN _ _) _)⟩
    · obtain rfl : k = n := by omega
      have H0 := Lib.hid (polyOk_true (by rw [Hn.out]; exact h600) (by rw [Hn.out]; exact HA.out))
      go_wp2
      go_ret
      exact ⟨ret_bool H0.out.symm, hd⟩
end Go.Proofs.YtcminkcoifkbgaaGreatDoor

namespace Go.Proofs.YtcminkcoifkbgaaGreatDoor
open Go.RowKit

set_option maxRecDepth 100000 in
set_option maxHeartbeats 3200000 in
theorem specPolyOk_any (a : Option Addr) (n c : Nat) (xs : List (List Int × Int)) (w : World) (hr : RP w a xs) (hn : xs.length = n) (hb : n ≤ 1048576) :
    Calls Tryz.prog 9 #[.slice a n c] w fun e w' => e = .returned (.bool (polyOk xs)) ∧ Below w.heap.size w w' := by
  have Hn := Lib.hid hn; clear hn
  by_cases h600 : n ≤ 600
  case neg =>
    have H0 := Lib.hid (polyOk_long (xs := xs) (by rw [Hn.out]; exact h600))
    go_enter Tryz.func9, Tryz.ntmps9
    go_wp2
    go_ret
    exact ⟨ret_bool H0.out.symm, Below.refl _ _⟩
  go_enter Tryz.func9, Tryz.ntmps9
  go_wp2
  go_loopw [3] (fun i wr => ∃ k : Nat, k ≤ n ∧ i = .int .i64 k ∧ Hid (∀ j, j < k → termAt xs j = true) ∧ Below w.heap.size w wr) (fun i _ => n - (intOf i).toNat)
  case atStart => exact ⟨0, Nat.zero_le _, rfl, by intro j hj; omega, Below.refl _ _⟩
  case round =>
    obtain ⟨k, hk, rfl, HA, hd⟩ := hrel
    obtain ⟨wo, rfl⟩ : ∃ wo : World, wo = wr := ⟨_, rfl⟩
    by_cases hlt : k < n
    · obtain ⟨b, off, rfl, hcell⟩ := (hr.below hd).at (k := k) (by rw [Hn.out]; exact hlt)
      obtain ⟨s, x, hx⟩ := part_at Hn.out hlt
      obtain ⟨a1, c1, hc1, hc2, hri, _⟩ := hcell k _ hx
      simp only at hc1 hc2 hri
      have hlast : k ≠ 0 → ∃ t d a2 c2, xs[k-1]? = some (t, d) ∧ wo.cell? ⟨b, off + (k-1) * 2, none⟩ = some (.slice a2 t.length c2) ∧ RI wo a2 t := by
        intro h0
        obtain ⟨t, d, ht⟩ := part_at (k := k - 1) Hn.out (by omega)
        obtain ⟨a2, c2, e1, e2, e3, _⟩ := hcell (k - 1) _ ht
        exact ⟨t, d, a2, c2, ht, e1, e3⟩
      clear hcell
      have Hx := Lib.hid hx; clear hx
      obtain ⟨l, hl⟩ : ∃ l, s.length = l := ⟨_, rfl⟩
      rw [hl] at hc1
      have Hl := Lib.hid hl; clear hl
      have q1 : (k : Int) < (n : Int) := by omega
      by_cases hl7 : l = 7
      case neg =>
        clear hlast
        have e0 : ((l : Int) != 7) = true := by rw [bne_iff_ne]; omega
        have H0 := Lib.hid (polyOk_false (k := k) (by rw [Hn.out]; exact hlt) (termAt_head Hx.out (by simp [headOk, Hl.out, hl7])))
        go_wp2
        go_ret
        exact ⟨ret_bool H0.out.symm, hd⟩
      subst hl7
      have e0 : (((7 : Nat) : Int) != 7) = false := by decide
      by_cases hc0 : x = 0
      case pos =>
        clear hlast
        have e1 : (x == 0) = true := by simp [hc0]
        have H0 := Lib.hid (polyOk_false (k := k) (by rw [Hn.out]; exact hlt) (termAt_head Hx.out (by simp [headOk, coefOk, hc0])))
        clear hc0
        go_wp2
        go_ret
        exact ⟨ret_bool H0.out.symm, hd⟩
      have e1 : (x == 0) = false := by simp [hc0]
      by_cases hlo : x < -1000000 ∨ 1000000 < x
      case pos =>
        clear hlast
        have H0 := Lib.hid (polyOk_false (k := k) (by rw [Hn.out]; exact hlt) (termAt_head Hx.out (by simp [headOk, coefOk]; omega)))
        go_wp2_with fail
        refine (l1In_no x (-1000000) 1000000 _ hlo).mono ?_
        rintro e w2 ⟨rfl, hd2⟩
        go_wp2
        go_ret
        exact ⟨ret_bool H0.out.symm, hd.trans (hd2.below _)⟩
      have Hhead := Lib.hid (show headOk (s, x) = true by simp [headOk, coefOk, Hl.out]; omega)
      have hin : -1000000 ≤ x ∧ x ≤ 1000000 := by omega
      clear hc0 hlo
      go_wp2_with fail
      refine (l1In_yes x (-1000000) 1000000 _ hin).mono ?_
      rintro e w2 ⟨rfl, hd2⟩
      go_wp2
      go_loopw [4] (fun iv wr => ∃ i : Nat, i ≤ 7 ∧ iv = .int .i64 i ∧ Hid (∀ j z, j < i → s[j]? = some z → small z = true) ∧ Drew wo wr) (fun iv _ => 7 - (intOf iv).toNat)
      case atStart => exact ⟨0, by omega, rfl, (fun j z hj => by omega), hd2⟩
      case round =>
        clear hd2
        obtain ⟨i, hi, rfl, HS, hd3⟩ := hrel
        obtain ⟨wq, rfl⟩ : ∃ wq : World, wq = wr := ⟨_, rfl⟩
        have hri := hri.drew hd3
        have hd := hd.trans (hd3.below w.heap.size)
        have hc1 : wq.cell? ⟨b, off + k * 2, none⟩ = some (.slice a1 7 c1) := by rw [hd3.cell]; exact hc1
        have hlast : k ≠ 0 → ∃ t d a2 c2, xs[k-1]? = some (t, d) ∧ wq.cell? ⟨b, off + (k-1) * 2, none⟩ = some (.slice a2 t.length c2) ∧ RI wq a2 t := by
          intro h0
          obtain ⟨t, d, a2, c2, e1, e2, e3⟩ := hlast h0
          exact ⟨t, d, a2, c2, e1, by rw [hd3.cell]; exact e2, e3.drew hd3⟩
        by_cases hi7 : i < 7
        · obtain ⟨bs, offs, rfl, hcs⟩ := hri.at (k := i) (by rw [Hl.out]; exact hi7)
          obtain ⟨z, hz⟩ := some_at Hl.out hi7
          have hcz := hcs i z hz
          have r1 : (i : Int) < 7 := by omega
          have HZ := Lib.hid hz
          clear hcs hz hlast
          by_cases hz1 : z < 0 ∨ 24 < z
          · have H0 := Lib.hid (polyOk_false (k := k) (by rw [Hn.out]; exact hlt) (termAt_exp Hx.out HZ.out (by simp [small]; omega)))
            go_wp2_with fail
            refine (l1In_no z 0 24 _ hz1).mono ?_
            rintro e w2 ⟨rfl, hd2⟩
            go_wp2
            go_ret
            exact ⟨ret_bool H0.out.symm, hd.trans (hd2.below _)⟩
          · have hz2 : 0 ≤ z ∧ z ≤ 24 := by omega
            have HS1 := Lib.hid (show ∀ j u, j < i + 1 → s[j]? = some u → small u = true from fun j u hj hu => by
              rcases Nat.lt_or_ge j i with h | h
              · exact HS.out j u h hu
              · obtain rfl : j = i := by omega
                rw [HZ.out] at hu
                obtain rfl := Option.some.inj hu
                simp [small]; omega)
            clear hz1
            go_wp2_with fail
            refine (l1In_yes z 0 24 _ hz2).mono ?_
            rintro e w2 ⟨rfl, hd2⟩
            have hd4 := hd3.trans hd2
            go_wp2
            go_roundw
            case rel => exact ⟨i + 1, by omega, by go_num, HS1.out, hd4⟩
            case measure => simp [intOf]; omega
        · obtain rfl : i = 7 := by omega
          have HSm := Lib.hid (all_small Hl.out HS.out)
          have hinf := small_digs HSm.out
          have Hsd := Lib.hid hinf
          clear hinf
          by_cases hk0 : k = 0
          · subst hk0
            have g0 : decide ((0 : Int) < 0) = false := by decide
            clear hlast
            go_wp2
            go_quiet (fail)
            go_wp2
            go_roundw
            case rel => exact ⟨1, by omega, rfl, termAt_next HA.out (termAt_first Hx.out Hhead.out HSm.out), hd.trans (Drew.below (Drew.drewN _ _) _)⟩
            case measure => simp [intOf]; omega
          · obtain ⟨t, d, a2, c2, ht, hc3, hri2⟩ := hlast hk0
            clear hlast
            obtain ⟨ht7, htd, _⟩ := termAt_ok ht (HA.out (k - 1) (by omega))
            have Ht := Lib.hid ht; clear ht
            rw [ht7] at hc3
            have Htd := Lib.hid htd
            have Ht7 := Lib.hid ht7
            clear ht7 htd
            have g0 : 0 < k := by omega
            have g1 : (0 : Int) ≤ (k : Int) - 1 := by omega
            have g2 : (k : Int) - 1 < (n : Int) := by omega
            have g3 : IntKind.i64.wrap ((k : Int) - 1) = (k : Int) - 1 := IntWalk.i64_in _ (by omega)
            have g4 : ((k : Int) - 1).toNat = k - 1 := by omega
            obtain ⟨ks, hks⟩ : ∃ o, keyL s = o := ⟨_, rfl⟩
            obtain ⟨kt, hkt⟩ : ∃ o, keyL t = o := ⟨_, rfl⟩
            have HKs := Lib.hid hks
            have HKt := Lib.hid hkt
            clear hks hkt
            by_cases hneg : ks < kt
            · have Hlt := Lib.hid (show keyL s < keyL t by rw [HKs.out, HKt.out]; exact hneg)
              have g5 : decide (kt ≤ ks) = false := by simp; omega
              clear hneg
              go_wp2
              refine wp_region_quiet_lit (by kernel_rfl) (by kernel_rfl) ?_
              repeat (go_big_quiet_step (fail))
              go_big_quiet_want
              go_big_quiet_op
              apply Exists.intro
              refine ⟨fun _ => ?_, ?_⟩
              · go_at_call 30
                exact quiet ((isInt (l2Key_any _ _ _ t _ (hri2.drew (Drew.drewN _ _)) Ht7.out (by omega) Htd.out) HKt.out).mono fun _ _ ⟨he, hw⟩ => ⟨he, hw ▸ Drew.refl _⟩)
              go_big_quiet_on
              repeat (go_big_quiet_step (fail))
              go_big_quiet_want
              go_big_quiet_op
              apply Exists.intro
              refine ⟨fun _ => ?_, ?_⟩
              · go_at_call 30
                exact quiet ((isInt (l2Key_any _ _ _ s _ (hri.drew (Drew.drewN _ _)) Hl.out (by omega) Hsd.out) HKs.out).mono fun _ _ ⟨he, hw⟩ => ⟨he, hw ▸ Drew.refl _⟩)
              go_big_quiet_on
              repeat (go_big_quiet_step (fail))
              refine wpQuiet_nil ?_
              intro _ hw'
              obtain ⟨nq, rfl⟩ := hw'
              clear g3 g4
              go_wp2
              go_roundw
              case rel => exact ⟨k + 1, by omega, by go_num, termAt_next HA.out (termAt_rest Hx.out Ht.out Hhead.out HSm.out Hlt.out), hd.trans (Drew.below (Drew.drewN _ _) _)⟩
              case measure => simp [intOf]; omega
            · have H0 := Lib.hid (polyOk_false (k := k) (by rw [Hn.out]; exact hlt) (termAt_rise Hx.out Ht.out hk0 (by rw [HKs.out, HKt.out]; exact hneg)))
              have g5 : decide (kt ≤ ks) = true := by simp; omega
              clear hneg
              go_wp2
              refine wp_region_quiet_lit (by kernel_rfl) (by kernel_rfl) ?_
              repeat (go_big_quiet_step (fail))
              go_big_quiet_want
              go_big_quiet_op
              apply Exists.intro
              refine ⟨fun _ => ?_, ?_⟩
              · go_at_call 30
                exact quiet ((isInt (l2Key_any _ _ _ t _ (hri2.drew (Drew.drewN _ _)) Ht7.out (by omega) Htd.out) HKt.out).mono fun _ _ ⟨he, hw⟩ => ⟨he, hw ▸ Drew.refl _⟩)
              go_big_quiet_on
              repeat (go_big_quiet_step (fail))
              go_big_quiet_want
              go_big_quiet_op
              apply Exists.intro
              refine ⟨fun _ => ?_, ?_⟩
              · go_at_call 30
                exact quiet ((isInt (l2Key_any _ _ _ s _ (hri.drew (Drew.drewN _ _)) Hl.out (by omega) Hsd.out) HKs.out).mono fun _ _ ⟨he, hw⟩ => ⟨he, hw ▸ Drew.refl _⟩)
              go_big_quiet_on
              repeat (go_big_quiet_step (fail))
              refine wpQuiet_nil ?_
              intro _ hw'
              obtain ⟨nq, rfl⟩ := hw'
              clear g3 g4
              go_wp2
              go_ret
              exact ⟨ret_bool H0.out.symm, hd.trans (Drew.below (Drew.drewN _ _) _)⟩
    · obtain rfl : k = n := by omega
      have H0 := Lib.hid (polyOk_true (by rw [Hn.out]; exact h600) (by rw [Hn.out]; exact HA.out))
      go_wp2
      go_ret
      exact ⟨ret_bool H0.out.symm, hd⟩
end Go.Proofs.YtcminkcoifkbgaaGreatDoor
