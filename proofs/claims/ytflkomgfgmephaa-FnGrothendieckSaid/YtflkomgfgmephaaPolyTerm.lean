/-
  Polynomials as lists of terms: byTerms, PolyOk of the program and of the reference.
-/
import Derived.Test.YtflkomgfgmephaaPolyKey
import Derived.Test.YtflkomgfgmephaaBuB
import Derived.Test.YtflkomgfgmephaaBuA
import Derived.BigQuiet
import Derived.Laws.Rows
namespace Go.Proofs.Ytflkomgfgmephaa
open Go.RowKit

def byTo (xs ys : List Int) : Nat → Int
  | 0 => 0
  | n + 1 => if xs.getD n 0 = ys.getD n 0 then byTo xs ys n else ys.getD n 0 - xs.getD n 0
theorem byTo_same {xs ys : List Int} {n : Nat} {x y : Int} (hx : xs[n]? = some x) (hy : ys[n]? = some y) (h : x = y) : byTo xs ys (n + 1) = byTo xs ys n := by rw [byTo, getD_of hx, getD_of hy, if_pos h]
theorem byTo_diff {xs ys : List Int} {n : Nat} {x y : Int} (hx : xs[n]? = some x) (hy : ys[n]? = some y) (h : x ≠ y) : byTo xs ys (n + 1) = y - x := by rw [byTo, getD_of hx, getD_of hy, if_neg h]
theorem seven_list {xs : List Int} (h : xs.length = 7) : ∃ a b c d e f g, xs = [a, b, c, d, e, f, g] := by
  match xs, h with
  | [a, b, c, d, e, f, g], _ => exact ⟨a, b, c, d, e, f, g, rfl⟩
theorem byTo_key {xs ys : List Int} (hx : xs.length = 7) (hy : ys.length = 7) (dx : Digs xs) (dy : Digs ys) :
    (byTo xs ys 7 < 0 ↔ keyL ys < keyL xs) ∧ (byTo xs ys 7 = 0 ↔ xs = ys) := by
  obtain ⟨a, b, c, d, e, f, g, rfl⟩ := seven_list hx
  obtain ⟨p, q, r, s, t, u, v, rfl⟩ := seven_list hy
  have h1 := dx a (by simp); have h2 := dx b (by simp); have h3 := dx c (by simp); have h4 := dx d (by simp); have h5 := dx e (by simp); have h6 := dx f (by simp); have h7 := dx g (by simp)
  have k1 := dy p (by simp); have k2 := dy q (by simp); have k3 := dy r (by simp); have k4 := dy s (by simp); have k5 := dy t (by simp); have k6 := dy u (by simp); have k7 := dy v (by simp)
  unfold isD at *
  simp only [byTo, List.getD_eq_getElem?_getD, List.getElem?_cons_succ, List.getElem?_cons_zero, Option.getD_some, keyL, List.cons.injEq, and_true]
  constructor
  · (repeat' split) <;> omega
  · (repeat' split) <;> omega

set_option maxRecDepth 100000 in
set_option maxHeartbeats 800000 in
theorem byTerms_any (a b : Option Addr) (c d : Nat) (xs ys : List Int) (w : World) (hr : RI w a xs) (hs : RI w b ys) (hn : xs.length = 7) (hm : ys.length = 7) (dx : Digs xs) (dy : Digs ys) :
    Calls Try.prog 75 #[.slice a 7 c, .slice b 7 d] w fun e w' => e = .returned (.int .i64 (byTo xs ys 7)) ∧ Drew w w' := by
  have Hn := Lib.hid hn; clear hn
  have Hm := Lib.hid hm; clear hm
  have Hdx := Lib.hid dx; clear dx
  have Hdy := Lib.hid dy; clear dy
  obtain ⟨R, hR⟩ : ∃ R, byTo xs ys 7 = R := ⟨_, rfl⟩
  rw [hR]
  have HR := Lib.hid hR; clear hR
  go_enter Try.func75, Try.ntmps75
  go_wp2
  go_loopw [5] (fun iv wr => ∃ m : Nat, m ≤ 7 ∧ iv = .int .i64 ((m : Int) - 1) ∧ Hid (byTo xs ys m = R) ∧ Drew w wr) (fun iv _ => (intOf iv + 1).toNat)
  case atStart => exact ⟨7, Nat.le_refl _, rfl, HR.out, Drew.refl _⟩
  case round =>
    obtain ⟨m, hm, rfl, HM, hd⟩ := hrel
    by_cases h0 : 0 < m
    · obtain ⟨p, rfl⟩ : ∃ p, m = p + 1 := ⟨m - 1, by omega⟩
      obtain ⟨b1, off, rfl, hcell⟩ := (hr.drew hd).at (k := p) (by rw [Hn.out]; omega)
      obtain ⟨b2, off2, rfl, hcell2⟩ := (hs.drew hd).at (k := p) (by rw [Hm.out]; omega)
      obtain ⟨x, hx⟩ := some_at Hn.out (show p < 7 by omega)
      obtain ⟨y, hy⟩ := some_at Hm.out (show p < 7 by omega)
      have hc := hcell p x hx
      have hc2 := hcell2 p y hy
      have hxd := Hdx.out x (List.mem_of_getElem? hx)
      have hyd := Hdy.out y (List.mem_of_getElem? hy)
      unfold isD at hxd hyd
      have hp1 : ((p + 1 : Nat) : Int) - 1 = (p : Int) := by omega
      rw [hp1]
      have q1 : (p : Int) < 7 := by omega
      have q2 : (0 : Int) ≤ (p : Int) := by omega
      have q5 : IntKind.i64.wrap ((p : Int) - 1) = (p : Int) - 1 := IntWalk.i64_in _ (by omega)
      by_cases h : x = y
      · have Hst := Lib.hid ((byTo_same hx hy h).symm.trans HM.out)
        have e1 : (x != y) = false := by simp [h]
        clear hx hy hcell hcell2 h hp1
        go_wp2
        go_quiet (fail)
        go_wp2
        go_roundw
        case rel => exact ⟨p, by omega, rfl, Hst.out, hd.trans (Drew.drewN _ _)⟩
        case measure => clear q5; simp [intOf]
      · have Hst := Lib.hid ((byTo_diff hx hy h).symm.trans HM.out)
        have e1 : (x != y) = true := by simp [h]
        have q6 : IntKind.i64.wrap (y - x) = y - x := IntWalk.i64_in _ (by omega)
        clear hx hy hcell hcell2 h hp1
        go_wp2
        go_quiet (fail)
        go_wp2
        go_quiet (fail)
        go_wp2
        go_ret
        exact ⟨ret_int Hst.out, (hd.trans (Drew.drewN _ _)).trans (Drew.drewN _ _)⟩
    · obtain rfl : m = 0 := by omega
      have H0 := Lib.hid (show (0 : Int) = R from HM.out)
      go_wp2
      go_ret
      exact ⟨ret_int H0.out, hd⟩
end Go.Proofs.Ytflkomgfgmephaa
