/-
  Keys and exponents: l2Unit, l2At, l2Key, l2Exp.
  Polynomials as lists of terms: byTerms, PolyOk of the program and of the reference.
  Terms put in descending order of their keys: slices.SortFunc with the comparison of closed.
-/
import Derived.Test.YtomejjbkakpoiaaGreatPolyOps
import Derived.Test.YtomejjbkakpoiaaGreatApp
import Derived.Test.YtomejjbkakpoiaaGreatBuY19
import Derived.Test.YtomejjbkakpoiaaGreatBuY4
import Derived.BigQuiet
import Derived.Laws.Rows
import Derived.Test.YtomejjbkakpoiaaGreatBuY21
namespace Go.Proofs.YtomejjbkakpoiaaGreat
open Go.RowKit

theorem seven {i : Nat} (h : i ≤ 6) : i = 0 ∨ i = 1 ∨ i = 2 ∨ i = 3 ∨ i = 4 ∨ i = 5 ∨ i = 6 := by omega
theorem l2Unit_any (i : Nat) (I : Int) (w : World) (hI : I = (i : Int)) (hi : i ≤ 6) :
    Calls Tryz.prog 160 #[.int .i64 I] w fun e w' => e = .returned (.int .i64 (unit i)) ∧ w' = w := by
  subst hI
  rcases seven hi with rfl | rfl | rfl | rfl | rfl | rfl | rfl <;>
  · go_enter Tryz.func160, Tryz.ntmps160
    go_wp2
    go_ret
    exact ⟨ret_int (by decide), rfl⟩
theorem and127 (x : Int) (h : 0 ≤ x ∧ x ≤ 9223372036854775807) : IntKind.i64.wrap (((BitVec.ofInt 64 x &&& BitVec.ofInt 64 127).toNat : Nat) : Int) = x % 128 := by
  have e : (BitVec.ofInt 64 x &&& BitVec.ofInt 64 127).toNat = x.toNat % 128 := by
    rw [BitVec.toNat_and]
    have h1 : (BitVec.ofInt 64 x).toNat = x.toNat := by
      rw [BitVec.toNat_ofInt]
      omega
    rw [h1]
    have : (BitVec.ofInt 64 127).toNat = 2 ^ 7 - 1 := by decide
    rw [this, Nat.and_two_pow_sub_one_eq_mod]
  rw [e, IntWalk.i64_in _ (by omega)]
  omega
theorem bits127 {x : Int} (h : 0 ≤ x ∧ x ≤ 9223372036854775807) : bits .and .i64 x 127 = x % 128 := by
  exact and127 x h
theorem l2At_any (k : Int) (i : Nat) (I : Int) (w : World) (hk : inK k) (hI : I = (i : Int)) (hi : i ≤ 6) :
    Calls Tryz.prog 161 #[.int .i64 k, .int .i64 I] w fun e w' => e = .returned (.int .i64 (dig k i)) ∧ w' = w := by
  subst hI
  unfold inK at hk
  rcases seven hi with rfl | rfl | rfl | rfl | rfl | rfl | rfl <;>
  · go_enter Tryz.func161, Tryz.ntmps161
    go_wp2
    go_ret
    refine ⟨ret_int ?_, rfl⟩
    first | rw [dig0] | rw [dig1] | rw [dig2] | rw [dig3] | rw [dig4] | rw [dig5] | rw [dig6]
    exact bits127 (by omega)

/-- a key out of a list of exponents -/
def keyL : List Int → Int
  | [] => 0
  | x :: r => x + 128 * keyL r
def Digs (xs : List Int) : Prop := ∀ x ∈ xs, isD x
theorem keyL_range {xs : List Int} (h : Digs xs) : 0 ≤ keyL xs ∧ keyL xs < 128 ^ xs.length := by
  induction xs with
  | nil => simp [keyL]
  | cons x r ih =>
    have h1 := h x List.mem_cons_self
    obtain ⟨h2, h3⟩ := ih fun y hy => h y (List.mem_cons_of_mem _ hy)
    rw [keyL, List.length_cons, Int.pow_succ]
    unfold isD at h1
    omega
theorem pow_le7 {n : Nat} (h : n ≤ 7) : (128 : Int) ^ n ≤ 562949953421312 := by
  have hc : n = 0 ∨ n = 1 ∨ n = 2 ∨ n = 3 ∨ n = 4 ∨ n = 5 ∨ n = 6 ∨ n = 7 := by omega
  rcases hc with rfl | rfl | rfl | rfl | rfl | rfl | rfl | rfl <;> decide
theorem keyL_small {xs : List Int} (h : Digs xs) (hl : xs.length ≤ 7) : inK (keyL xs) := by
  have h1 := keyL_range h
  have h2 := pow_le7 hl
  unfold inK
  omega
theorem keyL_drop {xs : List Int} {m : Nat} {x : Int} (hx : xs[m]? = some x) : keyL (xs.drop m) = x + 128 * keyL (xs.drop (m + 1)) := by
  rw [drop_at hx, keyL]
theorem Digs.drop {xs : List Int} (h : Digs xs) (m : Nat) : Digs (xs.drop m) := fun x hx => h x (List.mem_of_mem_drop hx)

set_option maxRecDepth 100000 in
set_option maxHeartbeats 800000 in
theorem l2Key_any (a : Option Addr) (n c : Nat) (xs : List Int) (w : World) (hr : RI w a xs) (hn : xs.length = n) (hb : n ≤ 7) (hd : Digs xs) :
    Calls Tryz.prog 122 #[.slice a n c] w fun e w' => e = .returned (.int .i64 (keyL xs)) ∧ w' = w := by
  have Hn := Lib.hid hn; clear hn
  have Hd := Lib.hid hd; clear hd
  have q0 : IntKind.i64.wrap ((n : Int) - 1) = (n : Int) - 1 := IntWalk.i64_in _ (by omega)
  go_enter Tryz.func122, Tryz.ntmps122
  go_wp2
  go_loop [3, 4] (fun kv iv => ∃ m : Nat, m ≤ n ∧ iv = .int .i64 ((m : Int) - 1) ∧ kv = .int .i64 (keyL (xs.drop m))) (fun _ iv => (intOf iv + 1).toNat)
  case atStart => exact ⟨n, Nat.le_refl _, rfl, by rw [List.drop_of_length_le (by rw [Hn.out]; exact Nat.le_refl _)]; rfl⟩
  case round =>
    clear q0
    obtain ⟨m, hm, rfl, rfl⟩ := hrel
    by_cases h0 : 0 < m
    · obtain ⟨p, rfl⟩ : ∃ p, m = p + 1 := ⟨m - 1, by omega⟩
      obtain ⟨b, off, rfl, hcell⟩ := hr.at (k := p) (by rw [Hn.out]; omega)
      obtain ⟨x, hx⟩ := some_at Hn.out (show p < n by omega)
      have hc := hcell p x hx
      have hk := keyL_drop hx
      have hxd := Hd.out x (List.mem_of_getElem? hx)
      have hr1 := keyL_range (Hd.out.drop (p + 1))
      have hr2 := pow_le7 (n := (xs.drop (p + 1)).length) (by rw [List.length_drop, Hn.out]; omega)
      unfold isD at hxd
      have hp1 : ((p + 1 : Nat) : Int) - 1 = (p : Int) := by omega
      rw [hp1]
      have Hx := Lib.hid hx
      have Hk := Lib.hid hk
      obtain ⟨K, hK⟩ : ∃ K, keyL (xs.drop (p + 1)) = K := ⟨_, rfl⟩
      rw [hK] at hr1 Hk ⊢
      clear hx hcell hk hK hp1
      have q1 : (p : Int) < (n : Int) := by omega
      have q2 : (0 : Int) ≤ (p : Int) := by omega
      have q3 : IntKind.i64.wrap (K * 128) = K * 128 := IntWalk.i64_in _ (by omega)
      have q4 : IntKind.i64.wrap (K * 128 + x) = K * 128 + x := IntWalk.i64_in _ (by omega)
      have q5 : IntKind.i64.wrap ((p : Int) - 1) = (p : Int) - 1 := IntWalk.i64_in _ (by omega)
      go_wp2
      go_round
      case rel => exact ⟨p, by omega, rfl, by rw [Hk.out, Int.add_comm, Int.mul_comm]⟩
      case measure => clear q3 q4 q5; simp [intOf]
    · obtain rfl : m = 0 := by omega
      rw [List.drop_zero]
      go_wp2
      go_ret
      exact ⟨rfl, rfl⟩

def digs (k : Int) : List Int := (List.range 7).map fun i => dig k i
theorem digs_length (k : Int) : (digs k).length = 7 := by simp [digs]
theorem digs_at {k : Int} {i : Nat} (h : i < 7) : (digs k)[i]? = some (dig k i) := by simp [digs, h]
theorem digs_take_succ {k : Int} {i : Nat} (h : i < 7) : (digs k).take i ++ [dig k i] = (digs k).take (i + 1) := (take_at (digs_at h)).symm
theorem div_pow (k : Int) (i : Nat) : k / 128 ^ i / 128 = k / 128 ^ (i + 1) := by
  have hp : (0 : Int) < 128 ^ i := Int.pow_pos (by omega)
  rw [Int.pow_succ, Int.ediv_ediv, if_neg (by omega), Int.sub_zero]
theorem div_small {k : Int} (h : inK k) (i : Nat) : 0 ≤ k / 128 ^ i ∧ k / 128 ^ i < 562949953421312 := by
  unfold inK at h
  have hp : (0 : Int) < 128 ^ i := Int.pow_pos (by omega)
  exact ⟨Int.ediv_nonneg h.1 (by omega), Int.lt_of_le_of_lt (Int.ediv_le_self _ h.1) h.2⟩

set_option maxRecDepth 100000 in
set_option maxHeartbeats 800000 in
theorem l2Exp_any (k : Int) (w : World) (hk : inK k) :
    Calls Tryz.prog 118 #[.int .i64 k] w fun e w' => ∃ a' c', e = .returned (.slice a' 7 c') ∧ OwI w' w.heap.size w'.heap.size a' 7 c' (digs k) ∧ Below w.heap.size w w' := by
  have h1 : OwI (w.alloc (.cells #[] 3)) w.heap.size (w.alloc (.cells #[] 3)).heap.size (some ⟨w.heap.size, 0, none⟩) 0 0 [] := OwI.mk (World.ownsRow_made _ #[] 0 (Nat.le_refl _) (Nat.zero_le _) rfl)
  have hB0 : Below w.heap.size w (w.alloc (.cells #[] 3)) := (Below.refl _ _).alloc (Nat.le_refl _) _
  go_enter Tryz.func118, Tryz.ntmps118
  go_wp2
  go_loopw [0, 3, 4] (fun kv ov iv wr => Hid (∃ (j : Nat) (a' : Option Addr) (c' : Nat), j ≤ 7 ∧ iv = .int .i64 j ∧ kv = .int .i64 (k / 128 ^ j) ∧ ov = .slice a' j c' ∧ OwI wr w.heap.size wr.heap.size a' j c' ((digs k).take j)) ∧ Below w.heap.size w wr) (fun _ _ iv _ => 7 - (intOf iv).toNat)
  case atStart => exact ⟨⟨0, _, _, by omega, rfl, by simp, rfl, h1⟩, hB0⟩
  case round =>
    clear h1 hB0
    obtain ⟨HV, hB⟩ := hrel
    obtain ⟨wo, rfl⟩ : ∃ wo : World, wo = wr := ⟨_, rfl⟩
    obtain ⟨j, a1, c1, hj, rfl, rfl, rfl, ho⟩ := HV.out
    clear HV
    have hbs := hB.size
    by_cases hlt : j < 7
    · have hd := div_small hk j
      have hnx := div_pow k j
      have hst := digs_take_succ (k := k) hlt
      have hdg : k / 128 ^ j % 128 = dig k j := rfl
      obtain ⟨K, hK⟩ : ∃ K, k / 128 ^ j = K := ⟨_, rfl⟩
      rw [hK] at hd hnx hdg ⊢
      obtain ⟨hd1, hd2⟩ := hd
      have Hnx := Lib.hid hnx
      have Hdg := Lib.hid hdg
      have Hst := Lib.hid hst
      clear hnx hdg hst hK
      have q1 : (j : Int) < 7 := by omega
      have q2 : IntKind.i64.wrap (K.tdiv 128) = K / 128 := IntWalk.i64_quo _ _ (by omega)
      have HO := Lib.hid ho
      clear ho
      go_wp2_with (first | (at_builtin; go_loud (refine wpList_pushI (by rfl) (by rfl) _ _ (by rfl) HO.out (by rfl) (by rfl) (by omega) hbs ?_)))
      intro a3 c3 w4 ho3 hg3
      have hB4 := below_grown hB hg3.grown hbs HO.out.1.lo
      rw [Hdg.out, Hst.out] at ho3
      have HO3 := Lib.hid ho3
      clear ho3 HO hg3 hB
      go_wp2
      go_roundw
      case rel => exact ⟨⟨j + 1, _, _, by omega, by go_num, by rw [Hnx.out], rfl, HO3.out⟩, hB4⟩
      case measure => simp [intOf]; omega
    · obtain rfl : j = 7 := by omega
      rw [List.take_of_length_le (by rw [digs_length]; exact Nat.le_refl _)] at ho
      have HO := Lib.hid ho
      clear ho
      go_wp2
      go_ret
      exact ⟨_, _, rfl, HO.out, hB⟩
end Go.Proofs.YtomejjbkakpoiaaGreat

namespace Go.Proofs.YtomejjbkakpoiaaGreat
open Go.RowKit

def byTo (xs ys : List Int) : Nat → Int
  | 0 => 0
  | n + 1 => if xs.getD n 0 = ys.getD n 0 then byTo xs ys n else ys.getD n 0 - xs.getD n 0
theorem byTo_same {xs ys : List Int} {n : Nat} {x y : Int} (hx : xs[n]? = some x) (hy : ys[n]? = some y) (h : x = y) : byTo xs ys (n + 1) = byTo xs ys n := by rw [byTo, getD_of hx, getD_of hy, if_pos h]
theorem byTo_diff {xs ys : List Int} {n : Nat} {x y : Int} (hx : xs[n]? = some x) (hy : ys[n]? = some y) (h : x ≠ y) : byTo xs ys (n + 1) = y - x := by rw [byTo, getD_of hx, getD_of hy, if_neg h]
theorem seven_list {xs : List Int} (h : xs.length = 7) : ∃ a b c d e f g, xs = [a, b, c, d, e, f, g] := by
  match xs, h with
  | [a, b, c, d, e, f, g], _ => exact ⟨a, b, c, d, e, f, g, rfl⟩
theorem byTo_key {xs ys : List Int} (hx : xs.length = 7) (hy : ys.length = 7) (dx : Digs xs) (dy : Digs ys) :
    (byTo xs ys 7 < 0 ↔ keyL ys < keyL xs) ∧ (byTo xs ys 7 = 0 ↔ xs = ys) := by
  obtain ⟨a, b, c, d, e, f, g, rfl⟩ := seven_list hx
  obtain ⟨p, q, r, s, t, u, v, rfl⟩ := seven_list hy
  have h1 := dx a (by simp); have h2 := dx b (by simp); have h3 := dx c (by simp); have h4 := dx d (by simp); have h5 := dx e (by simp); have h6 := dx f (by simp); have h7 := dx g (by simp)
  have k1 := dy p (by simp); have k2 := dy q (by simp); have k3 := dy r (by simp); have k4 := dy s (by simp); have k5 := dy t (by simp); have k6 := dy u (by simp); have k7 := dy v (by simp)
  unfold isD at *
  simp only [byTo, List.getD_eq_getElem?_getD, List.getElem?_cons_succ, List.getElem?_cons_zero, Option.getD_some, keyL, List.cons.injEq, and_true]
  constructor
  · (repeat' split) <;> omega
  · (repeat' split) <;> omega

set_option maxRecDepth 100000 in
set_option maxHeartbeats 800000 in
theorem byTerms_any (a b : Option Addr) (c d : Nat) (xs ys : List Int) (w : World) (hr : RI w a xs) (hs : RI w b ys) (hn : xs.length = 7) (hm : ys.length = 7) (dx : Digs xs) (dy : Digs ys) :
    Calls Tryz.prog 94 #[.slice a 7 c, .slice b 7 d] w fun e w' => e = .returned (.int .i64 (byTo xs ys 7)) ∧ Drew w w' := by
  have Hn := Lib.hid hn; clear hn
  have Hm := Lib.hid hm; clear hm
  have Hdx := Lib.hid dx; clear dx
  have Hdy := Lib.hid dy; clear dy
  obtain ⟨R, hR⟩ : ∃ R, byTo xs ys 7 = R := ⟨_, rfl⟩
  rw [hR]
  have HR := Lib.hid hR; clear hR
  go_enter Tryz.func94, Tryz.ntmps94
  go_wp2
  go_loopw [5] (fun iv wr => ∃ m : Nat, m ≤ 7 ∧ iv = .int .i64 ((m : Int) - 1) ∧ Hid (byTo xs ys m = R) ∧ Drew w wr) (fun iv _ => (intOf iv + 1).toNat)
  case atStart => exact ⟨7, Nat.le_refl _, rfl, HR.out, Drew.refl _⟩
  case round =>
    obtain ⟨m, hm, rfl, HM, hd⟩ := hrel
    by_cases h0 : 0 < m
    · obtain ⟨p, rfl⟩ : ∃ p, m = p + 1 := ⟨m - 1, by omega⟩
      obtain ⟨b1, off, rfl, hcell⟩ := (hr.drew hd).at (k := p) (by rw [Hn.out]; omega)
      obtain ⟨b2, off2, rfl, hcell2⟩ := (hs.drew hd).at (k := p) (by rw [Hm.out]; omega)
      obtain ⟨x, hx⟩ := some_at Hn.out (show p < 7 by omega)
      obtain ⟨y, hy⟩ := some_at Hm.out (show p < 7 by omega)
      have hc := hcell p x hx
      have hc2 := hcell2 p y hy
      have hxd := Hdx.out x (List.mem_of_getElem? hx)
      have hyd := Hdy.out y (List.mem_of_getElem? hy)
      unfold isD at hxd hyd
      have hp1 : ((p + 1 : Nat) : Int) - 1 = (p : Int) := by omega
      rw [hp1]
      have q1 : (p : Int) < 7 := by omega
      have q2 : (0 : Int) ≤ (p : Int) := by omega
      have q5 : IntKind.i64.wrap ((p : Int) - 1) = (p : Int) - 1 := IntWalk.i64_in _ (by omega)
      by_cases h : x = y
      · have Hst := Lib.hid ((byTo_same hx hy h).symm.trans HM.out)
        have e1 : (x != y) = false := by simp [h]
        clear hx hy hcell hcell2 h hp1
        go_wp2
        go_quiet (fail)
        go_wp2
        go_roundw
        case rel => exact ⟨p, by omega, rfl, Hst.out, hd.trans (Drew.drewN _ _)⟩
        case measure => clear q5; simp [intOf]
      · have Hst := Lib.hid ((byTo_diff hx hy h).symm.trans HM.out)
        have e1 : (x != y) = true := by simp [h]
        have q6 : IntKind.i64.wrap (y - x) = y - x := IntWalk.i64_in _ (by omega)
        clear hx hy hcell hcell2 h hp1
        go_wp2
        go_quiet (fail)
        go_wp2
        go_quiet (fail)
        go_wp2
        go_ret
        exact ⟨ret_int Hst.out, (hd.trans (Drew.drewN _ _)).trans (Drew.drewN _ _)⟩
    · obtain rfl : m = 0 := by omega
      have H0 := Lib.hid (show (0 : Int) = R from HM.out)
      go_wp2
      go_ret
      exact ⟨ret_int H0.out, hd⟩
end Go.Proofs.YtomejjbkakpoiaaGreat

namespace Go.Proofs.YtomejjbkakpoiaaGreat
open Go.RowKit Go.Shelf Go.Sort

set_option maxRecDepth 100000 in
set_option maxHeartbeats 800000 in
theorem closedCmp_any (a b : Option Addr) (c d : Nat) (x y : Int) (xs ys : List Int) (w : World) (hr : RI w a xs) (hs : RI w b ys) (hn : xs.length = 7) (hm : ys.length = 7) (dx : Digs xs) (dy : Digs ys) :
    Calls Tryz.prog 93 #[.agg #[.slice a 7 c, .int .i64 x], .agg #[.slice b 7 d, .int .i64 y]] w fun e w' => e = .returned (.int .i64 (byTo xs ys 7)) ∧ Laid w w' := by
  have hL := ((Laid.refl w).alloc (.cells #[.slice a 7 c, .int .i64 x] 74)).alloc (.cells #[.slice b 7 d, .int .i64 y] 74)
  have hB := ((Below.refl w.heap.size w).alloc (Nat.le_refl _) (.cells #[.slice a 7 c, .int .i64 x] 74)).alloc (by simp only [World.alloc, Array.size_push]; omega) (.cells #[.slice b 7 d, .int .i64 y] 74)
  have hr1 := hr.below hB
  have hs1 := hs.below hB
  have HL := Lib.hid hL
  have Hn := Lib.hid hn
  have Hm := Lib.hid hm
  have Hdx := Lib.hid dx
  have Hdy := Lib.hid dy
  obtain ⟨R, hR⟩ : ∃ R, byTo xs ys 7 = R := ⟨_, rfl⟩
  rw [hR]
  have HR := Lib.hid hR
  clear hL hB hn hm dx dy hR
  go_enter Tryz.func93, Tryz.ntmps93
  go_wp2_with fail
  refine (isInt (byTerms_any _ _ _ _ xs ys _ hr1 hs1 Hn.out Hm.out Hdx.out Hdy.out) HR.out).mono ?_
  rintro e w1 ⟨rfl, hd⟩
  have hfin := HL.out.trans hd.laid
  go_wp2
  go_ret
  exact ⟨rfl, hfin⟩

def termOfT (xs : List (List Int × Int)) (k : Nat) : List Int × Int := xs.getD k ([], 0)
def keyX (xs : List (List Int × Int)) {n : Nat} (i : Ix n) : Int := keyL (termOfT xs i.1).1
theorem termT_at {xs : List (List Int × Int)} {k : Nat} {p : List Int × Int} (h : xs[k]? = some p) : termOfT xs k = p := by simp [termOfT, h]
theorem termT_ex {xs : List (List Int × Int)} {k n : Nat} (h : xs.length = n) (hk : k < n) : xs[k]? = some (termOfT xs k) := by
  obtain ⟨p, hp⟩ := some_of (show k < xs.length by omega)
  rw [hp, termT_at hp]
/-- terms whose exponents are seven digits, no two alike -/
structure GoodT (xs : List (List Int × Int)) : Prop where
  each : ∀ p ∈ xs, p.1.length = 7 ∧ Digs p.1
  apart : ∀ (i j : Nat) (p q : List Int × Int), xs[i]? = some p → xs[j]? = some q → keyL p.1 = keyL q.1 → i = j
theorem sortTerms_any (B S : Nat) (a : Option Addr) (n c : Nat) (xs : List (List Int × Int)) (w : World) (ho : TO w B S a n c xs) (hg : GoodT xs) (hb : n ≤ 1048576) :
    Calls Tryz.prog 92 #[.slice a n c, .func (.func 93) #[] #[]] w fun e w' => e = .returned (.tuple #[]) ∧
      ∃ xs', xs'.Perm xs ∧ xs'.Pairwise (fun p q => keyL q.1 < keyL p.1) ∧ TO w' B S a n c xs' ∧ Only B S w w' := by
  have hlen := ho.len
  rcases Nat.eq_zero_or_pos n with h0 | h0
  · subst h0
    have hx : xs = [] := List.length_eq_zero_iff.1 hlen
    subst hx
    refine Calls.mono (AnyF.slices_SortFunc_none laysSortT a c _ w) ?_
    rintro e w' ⟨rfl, rfl⟩
    exact ⟨rfl, [], List.Perm.refl _, List.Pairwise.nil, ho, Only.refl _ _ _⟩
  obtain ⟨vs, h1, h2, h3⟩ := ho
  rcases row2_shape h1 with ⟨hn0, _⟩ | ⟨g, rfl, hBg, hgw, hnc, hcell, cur, hcur⟩
  · omega
  have hgS : g < S := h2 g rfl
  have hvl := h3.len
  have ev : ∀ k, k < n → ∃ a' c', vs.getD (k * 2) undef = .slice a' 7 c' ∧ vs.getD (k * 2 + 1) undef = .int .i64 (termOfT xs k).2 ∧ OwI w B S a' 7 c' (termOfT xs k).1 := by
    intro k hk
    have hx := termT_ex hlen hk
    obtain ⟨a', c', e1, e2, e3⟩ := h3.each k _ hx
    have h7 := (hg.each _ (List.mem_of_getElem? hx)).1
    rw [h7] at e1 e3
    exact ⟨a', c', by rw [List.getD_eq_getElem?_getD, e1]; rfl, by rw [List.getD_eq_getElem?_getD, e2]; rfl, e3⟩
  have hdig : ∀ k, k < n → (termOfT xs k).1.length = 7 ∧ Digs (termOfT xs k).1 := fun k hk => hg.each _ (List.mem_of_getElem? (termT_ex hlen hk))
  let cf : Ix n → Ix n → Int := fun i j => byTo (termOfT xs i.1).1 (termOfT xs j.1).1 7
  have hlt : ∀ i j : Ix n, ltOf cf i j = decide (keyX xs j < keyX xs i) := by
    intro i j
    unfold ltOf
    have := (byTo_key (hdig i.1 i.2).1 (hdig j.1 j.2).1 (hdig i.1 i.2).2 (hdig j.1 j.2).2).1
    simp only [decide_eq_decide]
    exact this
  have hO : SWO (ltOf cf) := by
    refine ⟨fun x => ?_, fun x y z p q => ?_, fun x y z p q => ?_⟩
    · rw [hlt]; simp
    · rw [hlt] at *; simp only [decide_eq_true_eq] at *; omega
    · rw [hlt] at *; simp only [decide_eq_false_iff_not] at *; omega
  have hT : ∀ x y : Ix n, ltOf cf x y = false → ltOf cf y x = false → x = y := by
    intro x y p q
    rw [hlt] at *
    simp only [decide_eq_false_iff_not] at *
    refine Subtype.ext (hg.apart x.1 y.1 _ _ (termT_ex hlen x.2) (termT_ex hlen y.2) ?_)
    unfold keyX at *
    omega
  have hone : ∀ v ∈ vs, v.oneCell' = true := by
    intro v hv
    obtain ⟨t, ht⟩ := List.getElem?_of_mem hv
    have htl := lt_of_some ht
    obtain ⟨a', c', e1, e2, _⟩ := ev (t / 2) (by omega)
    have hvd : vs.getD t undef = v := by rw [List.getD_eq_getElem?_getD, ht]; rfl
    rcases Nat.mod_two_eq_zero_or_one t with hm | hm
    · have e : t / 2 * 2 = t := by omega
      rw [e, hvd] at e1
      rw [e1]; rfl
    · have e : t / 2 * 2 + 1 = t := by omega
      rw [e, hvd] at e2
      rw [e2]; rfl
  have hcmp : ∀ (W : World), w.grownBy W (some g) → ∀ x y : Ix n, Calls Tryz.prog 93 #[.agg (encX vs x).toArray, .agg (encX vs y).toArray] W fun e w' => e = .returned (.int .i64 (cf x y)) ∧ Laid W w' := by
    intro W hW x y
    obtain ⟨a1, c1, e1, e2, e3⟩ := ev x.1 x.2
    obtain ⟨a2, c2, f1, f2, f3⟩ := ev y.1 y.2
    have keep : ∀ {a0 : Option Addr} {c0 : Nat} {zs : List Int}, OwI w B S a0 7 c0 zs → RI W a0 zs := fun hio => (hio.1.kept hW (fun k hk e => ne_blockT h1 hio k e hk)).ri
    unfold encX
    rw [e1, e2, f1, f2]
    exact closedCmp_any a1 a2 c1 c2 _ _ _ _ W (keep e3) (keep f3) (hdig x.1 x.2).1 (hdig y.1 y.2).1 (hdig x.1 x.2).2 (hdig y.1 y.2).2
  refine (sortX_any cf hO hT 93 (fun args w => by kernel_rfl) B S g c vs w h1 hgS h0 hone hcmp hb).mono ?_
  rintro e w' ⟨rfl, hown, hgr⟩
  generalize hso : ((allX n).mergeSort fun x y => !(ltOf cf) y x) = so at hown
  have hperm : so.Perm (allX n) := by rw [← hso]; exact List.mergeSort_perm _ _
  have hsl : so.length = n := by rw [hperm.length_eq, allX_length]
  have hsorted : so.Pairwise fun x y => (!(ltOf cf) y x) = true := by
    rw [← hso]
    refine List.pairwise_mergeSort (fun x y z p q => ?_) (fun x y => ?_) _
    · simp only [Bool.not_eq_true'] at *
      rw [hlt] at *
      simp only [decide_eq_false_iff_not] at *
      omega
    · simp only [Bool.or_eq_true, Bool.not_eq_true']
      rw [hlt, hlt]
      simp only [decide_eq_false_iff_not]
      omega
  have hnd : so.Nodup := by
    rw [hperm.nodup_iff]
    have h9 : ((allX n).map fun i => i.1).Nodup := by rw [allX_val]; exact List.nodup_range
    rw [List.Nodup, List.pairwise_map] at h9
    exact h9.imp fun h e => h (by rw [e])
  have hxs : (allX n).map (fun i => termOfT xs i.1) = xs := by
    have : (allX n).map (fun i => termOfT xs i.1) = (List.range n).map (termOfT xs) := by rw [← allX_val n, List.map_map]; rfl
    rw [this]
    apply List.ext_getElem?
    intro k
    rcases Nat.lt_or_ge k n with hk | hk
    · rw [List.getElem?_map, List.getElem?_range hk, termT_ex hlen hk]; rfl
    · rw [List.getElem?_eq_none (by simp; omega), List.getElem?_eq_none (by omega)]
  refine ⟨rfl, so.map (fun i => termOfT xs i.1), ?_, ?_, ⟨_, hown, h2, ?_, ?_, ?_⟩, ?_⟩
  · have := hperm.map (fun i : Ix n => termOfT xs i.1)
    rw [hxs] at this
    exact this
  · rw [List.pairwise_map]
    refine (hsorted.and hnd).imp fun {x y} ⟨p, q⟩ => ?_
    simp only [Bool.not_eq_true'] at p
    rw [hlt] at p
    simp only [decide_eq_false_iff_not] at p
    have hne : keyX xs x ≠ keyX xs y := fun e => q (Subtype.ext (hg.apart x.1 y.1 _ _ (termT_ex hlen x.2) (termT_ex hlen y.2) e))
    unfold keyX at *
    omega
  · rw [flatX_length, List.length_map]
  · intro k p hp
    rw [List.getElem?_map] at hp
    obtain ⟨i, hi, rfl⟩ := Option.map_eq_some_iff.1 hp
    obtain ⟨f1, f2⟩ := flatX_at vs so k i hi
    obtain ⟨a', c', e1, e2, e3⟩ := ev i.1 i.2
    rw [e1] at f1
    rw [e2] at f2
    refine ⟨a', c', ?_, f2, ?_⟩
    · rw [(hdig i.1 i.2).1]; exact f1
    · rw [(hdig i.1 i.2).1]
      exact ⟨e3.1.kept hgr (fun k hk e => ne_blockT h1 e3 k e hk), e3.2⟩
  · intro i j u v b hu hv hub hvb
    have get : ∀ i u, (flatX vs so)[i * 2]? = some u → ∃ x : Ix n, so[i]? = some x ∧ vs[x.1 * 2]? = some u := by
      intro i u hu
      have hil := lt_of_some hu
      rw [flatX_length, hsl] at hil
      obtain ⟨x, hx⟩ := some_of (show i < so.length by omega)
      obtain ⟨f1, _⟩ := flatX_at vs so i x hx
      rw [hu] at f1
      refine ⟨x, hx, ?_⟩
      have hx2 := x.2
      rw [List.getD_eq_getElem?_getD] at f1
      have hlt2 : x.1 * 2 < vs.length := by omega
      rw [List.getElem?_eq_getElem hlt2] at f1 ⊢
      rw [f1]
      rfl
    obtain ⟨x, hx, hxu⟩ := get i u hu
    obtain ⟨y, hy, hyv⟩ := get j v hv
    have hxy := h3.apart x.1 y.1 u v b hxu hyv hub hvb
    have : x = y := Subtype.ext hxy
    subst this
    obtain ⟨hi, rfl⟩ := List.getElem?_eq_some_iff.1 hx
    obtain ⟨hj, hje⟩ := List.getElem?_eq_some_iff.1 hy
    have hpw := List.pairwise_iff_getElem.1 hnd
    rcases Nat.lt_trichotomy i j with h | h | h
    · exact absurd hje.symm (hpw i j hi hj h)
    · exact h
    · exact absurd hje (hpw j i hj hi h)
  · exact Only.of_grown (v := .slice (some ⟨g, 0, none⟩) n c) hgr (fun k hk => by simp [Value.ownBlock] at hk; omega) (fun k hk => by simp [Value.ownBlock] at hk; omega)
end Go.Proofs.YtomejjbkakpoiaaGreat
