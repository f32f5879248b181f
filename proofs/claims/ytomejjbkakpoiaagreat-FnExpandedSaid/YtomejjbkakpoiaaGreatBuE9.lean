/-
  Contract of l1In.
  Polynomials as lists of terms: byTerms, PolyOk of the program and of the reference.
  Terms put in descending order of their keys: slices.SortFunc with the comparison of closed.
  PolyOk of the program and of the reference.
-/
import Derived.Test.YtomejjbkakpoiaaGreatBase
import Derived.Test.YtomejjbkakpoiaaGreatBuE8
import Derived.Test.YtomejjbkakpoiaaGreatBuE4
import Derived.BigQuiet
import Derived.Laws.Rows
import Derived.Test.YtomejjbkakpoiaaGreatBuE6
namespace Go.Proofs.YtomejjbkakpoiaaGreat
open Go.RowKit

set_option maxHeartbeats 400000 in
theorem l1In_any (n lo hi : Int) (w : World) :
    Calls Tryz.prog 43 #[.int .i64 n, .int .i64 lo, .int .i64 hi] w fun e w' => e = .returned (.bool (decide (lo ≤ n) && decide (n ≤ hi))) ∧ Drew w w' := by
  by_cases h1 : lo ≤ n <;> by_cases h2 : n ≤ hi
  all_goals
    go_enter Tryz.func43, Tryz.ntmps43
    go_wp2
    go_ret
    exact ⟨by simp [h1, h2], Drew.refl _⟩

theorem l1In_no (n lo hi : Int) (w : World) (h : n < lo ∨ hi < n) :
    Calls Tryz.prog 43 #[.int .i64 n, .int .i64 lo, .int .i64 hi] w fun e w' => e = .returned (.bool false) ∧ Drew w w' :=
  (l1In_any n lo hi w).mono fun _ _ ⟨he, hw⟩ => ⟨by rw [he]; exact ret_bool (by simp; omega), hw⟩
theorem l1In_yes (n lo hi : Int) (w : World) (h : lo ≤ n ∧ n ≤ hi) :
    Calls Tryz.prog 43 #[.int .i64 n, .int .i64 lo, .int .i64 hi] w fun e w' => e = .returned (.bool true) ∧ Drew w w' :=
  (l1In_any n lo hi w).mono fun _ _ ⟨he, hw⟩ => ⟨by rw [he]; exact ret_bool (by simp; omega), hw⟩

end Go.Proofs.YtomejjbkakpoiaaGreat

namespace Go.Proofs.YtomejjbkakpoiaaGreat
open Go.RowKit

def byTo (xs ys : List Int) : Nat → Int
  | 0 => 0
  | n + 1 => if xs.getD n 0 = ys.getD n 0 then byTo xs ys n else ys.getD n 0 - xs.getD n 0
theorem byTo_same {xs ys : List Int} {n : Nat} {x y : Int} (hx : xs[n]? = some x) (hy : ys[n]? = some y) (h : x = y) : byTo xs ys (n + 1) = byTo xs ys n := by rw [byTo, getD_of hx, getD_of hy, if_pos h]
theorem byTo_diff {xs ys : List Int} {n : Nat} {x y : Int} (hx : xs[n]? = some x) (hy : ys[n]? = some y) (h : x ≠ y) : byTo xs ys (n + 1) = y - x := by rw [byTo, getD_of hx, getD_of hy, if_neg h]
theorem seven_list {xs : List Int} (h : xs.length = 7) : ∃ a b c d e f g, xs = [a, b, c, d, e, f, g] := by
  match xs, h with
  | [a, b, c, d, e, f, g], _ => exact ⟨a, b, c, d, e, f, g, rfl⟩
theorem byTo_key {xs ys : List Int} (hx : xs.length = 7) (hy : ys.length = 7) (dx : Digs xs) (dy : Digs ys) :
    (byTo xs ys 7 < 0 ↔ keyL ys < keyL xs) ∧ (byTo xs ys 7 = 0 ↔ xs = ys) := by
  obtain ⟨a, b, c, d, e, f, g, rfl⟩ := seven_list hx
  obtain ⟨p, q, r, s, t, u, v, rfl⟩ := seven_list hy
  have h1 := dx a (by simp); have h2 := dx b (by simp); have h3 := dx c (by simp); have h4 := dx d (by simp); have h5 := dx e (by simp); have h6 := dx f (by simp); have h7 := dx g (by simp)
  have k1 := dy p (by simp); have k2 := dy q (by simp); have k3 := dy r (by simp); have k4 := dy s (by simp); have k5 := dy t (by simp); have k6 := dy u (by simp); have k7 := dy v (by simp)
  unfold isD at *
  simp only [byTo, List.getD_eq_getElem?_getD, List.getElem?_cons_succ, List.getElem?_cons_zero, Option.getD_some, keyL, List.cons.injEq, and_true]
  constructor
  · (repeat' split) <;> omega
  · (repeat' split) <;> omega

set_option maxRecDepth 100000 in
set_option maxHeartbeats 800000 in
theorem byTerms_any (a b : Option Addr) (c d : Nat) (xs ys : List Int) (w : World) (hr : RI w a xs) (hs : RI w b ys) (hn : xs.length = 7) (hm : ys.length = 7) (dx : Digs xs) (dy : Digs ys) :
    Calls Tryz.prog 94 #[.slice a 7 c, .slice b 7 d] w fun e w' => e = .returned (.int .i64 (byTo xs ys 7)) ∧ Drew w w' := by
  have Hn := Lib.hid hn; clear hn
  have Hm := Lib.hid hm; clear hm
  have Hdx := Lib.hid dx; clear dx
  have Hdy := Lib.hid dy; clear dy
  obtain ⟨R, hR⟩ : ∃ R, byTo xs ys 7 = R := ⟨_, rfl⟩
  rw [hR]
  have HR := Lib.hid hR; clear hR
  go_enter Tryz.func94, Tryz.ntmps94
  go_wp2
  go_loopw [5] (fun iv wr => ∃ m : Nat, m ≤ 7 ∧ iv = .int .i64 ((m : Int) - 1) ∧ Hid (byTo xs ys m = R) ∧ Drew w wr) (fun iv _ => (intOf iv + 1).toNat)
  case atStart => exact ⟨7, Nat.le_refl _, rfl, HR.out, Drew.refl _⟩
  case round =>
    obtain ⟨m, hm, rfl, HM, hd⟩ := hrel
    by_cases h0 : 0 < m
    · obtain ⟨p, rfl⟩ : ∃ p, m = p + 1 := ⟨m - 1, by omega⟩
      obtain ⟨b1, off, rfl, hcell⟩ := (hr.drew hd).at (k := p) (by rw [Hn.out]; omega)
      obtain ⟨b2, off2, rfl, hcell2⟩ := (hs.drew hd).at (k := p) (by rw [Hm.out]; omega)
      obtain ⟨x, hx⟩ := some_at Hn.out (show p < 7 by omega)
      obtain ⟨y, hy⟩ := some_at Hm.out (show p < 7 by omega)
      have hc := hcell p x hx
      have hc2 := hcell2 p y hy
      have hxd := Hdx.out x (List.mem_of_getElem? hx)
      have hyd := Hdy.out y (List.mem_of_getElem? hy)
      unfold isD at hxd hyd
      have hp1 : ((p + 1 : Nat) : Int) - 1 = (p : Int) := by omega
      rw [hp1]
      have q1 : (p : Int) < 7 := by omega
      have q2 : (0 : Int) ≤ (p : Int) := by omega
      have q5 : IntKind.i64.wrap ((p : Int) - 1) = (p : Int) - 1 := IntWalk.i64_in _ (by omega)
      by_cases h : x = y
      · have Hst := Lib.hid ((byTo_same hx hy h).symm.trans HM.out)
        have e1 : (x != y) = false := by simp [h]
        clear hx hy hcell hcell2 h hp1
        go_wp2
        go_quiet (fail)
        go_wp2
        go_roundw
        case rel => exact ⟨p, by omega, rfl, Hst.out, hd.trans (Drew.drewN _ _)⟩
        case measure => clear q5; simp [intOf]
      · have Hst := Lib.hid ((byTo_diff hx hy h).symm.trans HM.out)
        have e1 : (x != y) = true := by simp [h]
        have q6 : IntKind.i64.wrap (y - x) = y - x := IntWalk.i64_in _ (by omega)
        clear hx hy hcell hcell2 h hp1
        go_wp2
        go_quiet (fail)
        go_wp2
        go_quiet (fail)
        go_wp2
        go_ret
        exact ⟨ret_int Hst.out, (hd.trans (Drew.drewN _ _)).trans (Drew.drewN _ _)⟩
    · obtain rfl : m = 0 := by omega
      have H0 := Lib.hid (show (0 : Int) = R from HM.out)
      go_wp2
      go_ret
      exact ⟨ret_int H0.out, hd⟩
end Go.Proofs.YtomejjbkakpoiaaGreat

namespace Go.Proofs.YtomejjbkakpoiaaGreat
open Go.RowKit Go.Shelf Go.Sort

set_option maxRecDepth 100000 in
set_option maxHeartbeats 800000 in
theorem closedCmp_any (a b : Option Addr) (c d : Nat) (x y : Int) (xs ys : List Int) (w : World) (hr : RI w a xs) (hs : RI w b ys) (hn : xs.length = 7) (hm : ys.length = 7) (dx : Digs xs) (dy : Digs ys) :
    Calls Tryz.prog 93 #[.agg #[.slice a 7 c, .int .i64 x], .agg #[.slice b 7 d, .int .i64 y]] w fun e w' => e = .returned (.int .i64 (byTo xs ys 7)) ∧ Laid w w' := by
  have hL := ((Laid.refl w).alloc (.cells #[.slice a 7 c, .int .i64 x] 74)).alloc (.cells #[.slice b 7 d, .int .i64 y] 74)
  have hB := ((Below.refl w.heap.size w).alloc (Nat.le_refl _) (.cells #[.slice a 7 c, .int .i64 x] 74)).alloc (by simp only [World.alloc, Array.size_push]; omega) (.cells #[.slice b 7 d, .int .i64 y] 74)
  have hr1 := hr.below hB
  have hs1 := hs.below hB
  have HL := Lib.hid hL
  have Hn := Lib.hid hn
  have Hm := Lib.hid hm
  have Hdx := Lib.hid dx
  have Hdy := Lib.hid dy
  obtain ⟨R, hR⟩ : ∃ R, byTo xs ys 7 = R := ⟨_, rfl⟩
  rw [hR]
  have HR := Lib.hid hR
  clear hL hB hn hm dx dy hR
  go_enter Tryz.func93, Tryz.ntmps93
  go_wp2_with fail
  refine (isInt (byTerms_any _ _ _ _ xs ys _ hr1 hs1 Hn.out Hm.out Hdx.out Hdy.out) HR.out).mono ?_
  rintro e w1 ⟨rfl, hd⟩
  have hfin := HL.out.trans hd.laid
  go_wp2
  go_ret
  exact ⟨rfl, hfin⟩

def termOfT (xs : List (List Int × Int)) (k : Nat) : List Int × Int := xs.getD k ([], 0)
def keyX (xs : List (List Int × Int)) {n : Nat} (i : Ix n) : Int := keyL (termOfT xs i.1).1
theorem termT_at {xs : List (List Int × Int)} {k : Nat} {p : List Int × Int} (h : xs[k]? = some p) : termOfT xs k = p := by simp [termOfT, h]
theorem termT_ex {xs : List (List Int × Int)} {k n : Nat} (h : xs.length = n) (hk : k < n) : xs[k]? = some (termOfT xs k) := by
  obtain ⟨p, hp⟩ := some_of (show k < xs.length by omega)
  rw [hp, termT_at hp]
/-- terms whose exponents are seven digits, no two alike -/
structure GoodT (xs : List (List Int × Int)) : Prop where
  each : ∀ p ∈ xs, p.1.length = 7 ∧ Digs p.1
  apart : ∀ (i j : Nat) (p q : List Int × Int), xs[i]? = some p → xs[j]? = some q → keyL p.1 = keyL q.1 → i = j
theorem sortTerms_any (B S : Nat) (a : Option Addr) (n c : Nat) (xs : List (List Int × Int)) (w : World) (ho : TO w B S a n c xs) (hg : GoodT xs) (hb : n ≤ 1048576) :
    Calls Tryz.prog 92 #[.slice a n c, .func (.func 93) #[] #[]] w fun e w' => e = .returned (.tuple #[]) ∧
      ∃ xs', xs'.Perm xs ∧ xs'.Pairwise (fun p q => keyL q.1 < keyL p.1) ∧ TO w' B S a n c xs' ∧ Only B S w w' := by
  have hlen := ho.len
  rcases Nat.eq_zero_or_pos n with h0 | h0
  · subst h0
    have hx : xs = [] := List.length_eq_zero_iff.1 hlen
    subst hx
    refine Calls.mono (AnyF.slices_SortFunc_none laysSortT a c _ w) ?_
    rintro e w' ⟨rfl, rfl⟩
    exact ⟨rfl, [], List.Perm.refl _, List.Pairwise.nil, ho, Only.refl _ _ _⟩
  obtain ⟨vs, h1, h2, h3⟩ := ho
  rcases row2_shape h1 with ⟨hn0, _⟩ | ⟨g, rfl, hBg, hgw, hnc, hcell, cur, hcur⟩
  · omega
  have hgS : g < S := h2 g rfl
  have hvl := h3.len
  have ev : ∀ k, k < n → ∃ a' c', vs.getD (k * 2) undef = .slice a' 7 c' ∧ vs.getD (k * 2 + 1) undef = .int .i64 (termOfT xs k).2 ∧ OwI w B S a' 7 c' (termOfT xs k).1 := by
    intro k hk
    have hx := termT_ex hlen hk
    obtain ⟨a', c', e1, e2, e3⟩ := h3.each k _ hx
    have h7 := (hg.each _ (List.mem_of_getElem? hx)).1
    rw [h7] at e1 e3
    exact ⟨a', c', by rw [List.getD_eq_getElem?_getD, e1]; rfl, by rw [List.getD_eq_getElem?_getD, e2]; rfl, e3⟩
  have hdig : ∀ k, k < n → (termOfT xs k).1.length = 7 ∧ Digs (termOfT xs k).1 := fun k hk => hg.each _ (List.mem_of_getElem? (termT_ex hlen hk))
  let cf : Ix n → Ix n → Int := fun i j => byTo (termOfT xs i.1).1 (termOfT xs j.1).1 7
  have hlt : ∀ i j : Ix n, ltOf cf i j = decide (keyX xs j < keyX xs i) := by
    intro i j
    unfold ltOf
    have := (byTo_key (hdig i.1 i.2).1 (hdig j.1 j.2).1 (hdig i.1 i.2).2 (hdig j.1 j.2).2).1
    simp only [decide_eq_decide]
    exact this
  have hO : SWO (ltOf cf) := by
    refine ⟨fun x => ?_, fun x y z p q => ?_, fun x y z p q => ?_⟩
    · rw [hlt]; simp
    · rw [hlt] at *; simp only [decide_eq_true_eq] at *; omega
    · rw [hlt] at *; simp only [decide_eq_false_iff_not] at *; omega
  have hT : ∀ x y : Ix n, ltOf cf x y = false → ltOf cf y x = false → x = y := by
    intro x y p q
    rw [hlt] at *
    simp only [decide_eq_false_iff_not] at *
    refine Subtype.ext (hg.apart x.1 y.1 _ _ (termT_ex hlen x.2) (termT_ex hlen y.2) ?_)
    unfold keyX at *
    omega
  have hone : ∀ v ∈ vs, v.oneCell' = true := by
    intro v hv
    obtain ⟨t, ht⟩ := List.getElem?_of_mem hv
    have htl := lt_of_some ht
    obtain ⟨a', c', e1, e2, _⟩ := ev (t / 2) (by omega)
    have hvd : vs.getD t undef = v := by rw [List.getD_eq_getElem?_getD, ht]; rfl
    rcases Nat.mod_two_eq_zero_or_one t with hm | hm
    · have e : t / 2 * 2 = t := by omega
      rw [e, hvd] at e1
      rw [e1]; rfl
    · have e : t / 2 * 2 + 1 = t := by omega
      rw [e, hvd] at e2
      rw [e2]; rfl
  have hcmp : ∀ (W : World), w.grownBy W (some g) → ∀ x y : Ix n, Calls Tryz.prog 93 #[.agg (encX vs x).toArray, .agg (encX vs y).toArray] W fun e w' => e = .returned (.int .i64 (cf x y)) ∧ Laid W w' := by
    intro W hW x y
    obtain ⟨a1, c1, e1, e2, e3⟩ := ev x.1 x.2
    obtain ⟨a2, c2, f1, f2, f3⟩ := ev y.1 y.2
    have keep : ∀ {a0 : Option Addr} {c0 : Nat} {zs : List Int}, OwI w B S a0 7 c0 zs → RI W a0 zs := fun hio => (hio.1.kept hW (fun k hk e => ne_blockT h1 hio k e hk)).ri
    unfold encX
    rw [e1, e2, f1, f2]
    exact closedCmp_any a1 a2 c1 c2 _ _ _ _ W (keep e3) (keep f3) (hdig x.1 x.2).1 (hdig y.1 y.2).1 (hdig x.1 x.2).2 (hdig y.1 y.2).2
  refine (sortX_any cf hO hT 93 (fun args w => by kernel_rfl) B S g c vs w h1 hgS h0 hone hcmp hb).mono ?_
  rintro e w' ⟨rfl, hown, hgr⟩
  generalize hso : ((allX n).mergeSort fun x y => !(ltOf cf) y x) = so at hown
  have hperm : so.Perm (allX n) := by rw [← hso]; exact List.mergeSort_perm _ _
  have hsl : so.length = n := by rw [hperm.length_eq, allX_length]
  have hsorted : so.Pairwise fun x y => (!(ltOf cf) y x) = true := by
    rw [← hso]
    refine List.pairwise_mergeSort (fun x y z p q => ?_) (fun x y => ?_) _
    · simp only [Bool.not_eq_true'] at *
      rw [hlt] at *
      simp only [decide_eq_false_iff_not] at *
      omega
    · simp only [Bool.or_eq_true, Bool.not_eq_true']
      rw [hlt, hlt]
      simp only [decide_eq_false_iff_not]
      omega
  have hnd : so.Nodup := by
    rw [hperm.nodup_iff]
    have h9 : ((allX n).map fun i => i.1).Nodup := by rw [allX_val]; exact List.nodup_range
    rw [List.Nodup, List.pairwise_map] at h9
    exact h9.imp fun h e => h (by rw [e])
  have hxs : (allX n).map (fun i => termOfT xs i.1) = xs := by
    have : (allX n).map (fun i => termOfT xs i.1) = (List.range n).map (termOfT xs) := by rw [← allX_val n, List.map_map]; rfl
    rw [this]
    apply List.ext_getElem?
    intro k
    rcases Nat.lt_or_ge k n with hk | hk
    · rw [List.getElem?_map, List.getElem?_range hk, termT_ex hlen hk]; rfl
    · rw [List.getElem?_eq_none (by simp; omega), List.getElem?_eq_none (by omega)]
  refine ⟨rfl, so.map (fun i => termOfT xs i.1), ?_, ?_, ⟨_, hown, h2, ?_, ?_, ?_⟩, ?_⟩
  · have := hperm.map (fun i : Ix n => termOfT xs i.1)
    rw [hxs] at this
    exact this
  · rw [List.pairwise_map]
    refine (hsorted.and hnd).imp fun {x y} ⟨p, q⟩ => ?_
    simp only [Bool.not_eq_true'] at p
    rw [hlt] at p
    simp only [decide_eq_false_iff_not] at p
    have hne : keyX xs x ≠ keyX xs y := fun e => q (Subtype.ext (hg.apart x.1 y.1 _ _ (termT_ex hlen x.2) (termT_ex hlen y.2) e))
    unfold keyX at *
    omega
  · rw [flatX_length, List.length_map]
  · intro k p hp
    rw [List.getElem?_map] at hp
    obtain ⟨i, hi, rfl⟩ := Option.map_eq_some_iff.1 hp
    obtain ⟨f1, f2⟩ := flatX_at vs so k i hi
    obtain ⟨a', c', e1, e2, e3⟩ := ev i.1 i.2
    rw [e1] at f1
    rw [e2] at f2
    refine ⟨a', c', ?_, f2, ?_⟩
    · rw [(hdig i.1 i.2).1]; exact f1
    · rw [(hdig i.1 i.2).1]
      exact ⟨e3.1.kept hgr (fun k hk e => ne_blockT h1 e3 k e hk), e3.2⟩
  · intro i j u v b hu hv hub hvb
    have get : ∀ i u, (flatX vs so)[i * 2]? = some u → ∃ x : Ix n, so[i]? = some x ∧ vs[x.1 * 2]? = some u := by
      intro i u hu
      have hil := lt_of_some hu
      rw [flatX_length, hsl] at hil
      obtain ⟨x, hx⟩ := some_of (show i < so.length by omega)
      obtain ⟨f1, _⟩ := flatX_at vs so i x hx
      rw [hu] at f1
      refine ⟨x, hx, ?_⟩
      have hx2 := x.2
      rw [List.getD_eq_getElem?_getD] at f1
      have hlt2 : x.1 * 2 < vs.length := by omega
      rw [List.getElem?_eq_getElem hlt2] at f1 ⊢
      rw [f1]
      rfl
    obtain ⟨x, hx, hxu⟩ := get i u hu
    obtain ⟨y, hy, hyv⟩ := get j v hv
    have hxy := h3.apart x.1 y.1 u v b hxu hyv hub hvb
    have : x = y := Subtype.ext hxy
    subst this
    obtain ⟨hi, rfl⟩ := List.getElem?_eq_some_iff.1 hx
    obtain ⟨hj, hje⟩ := List.getElem?_eq_some_iff.1 hy
    have hpw := List.pairwise_iff_getElem.1 hnd
    rcases Nat.lt_trichotomy i j with h | h | h
    · exact absurd hje.symm (hpw i j hi hj h)
    · exact h
    · exact absurd hje (hpw j i hj hi h)
  · exact Only.of_grown (v := .slice (some ⟨g, 0, none⟩) n c) hgr (fun k hk => by simp [Value.ownBlock] at hk; omega) (fun k hk => by simp [Value.ownBlock] at hk; omega)
end Go.Proofs.YtomejjbkakpoiaaGreat

namespace Go.Proofs.YtomejjbkakpoiaaGreat
open Go.RowKit

def small (x : Int) : Bool := decide (0 ≤ x ∧ x ≤ 24)
def coefOk (c : Int) : Bool := decide (c ≠ 0 ∧ -1000000 ≤ c ∧ c ≤ 1000000)
def headOk (p : List Int × Int) : Bool := decide (p.1.length = 7) && coefOk p.2
def termOf (xs : List (List Int × Int)) (k : Nat) : List Int × Int := xs.getD k ([], 0)
def termAt (xs : List (List Int × Int)) (k : Nat) : Bool :=
  headOk (termOf xs k) && (termOf xs k).1.all small && (k == 0 || decide (keyL (termOf xs k).1 < keyL (termOf xs (k - 1)).1))
def polyOk (xs : List (List Int × Int)) : Bool := decide (xs.length ≤ 600) && (List.range xs.length).all (termAt xs)
theorem termOf_at {xs : List (List Int × Int)} {k : Nat} {p : List Int × Int} (h : xs[k]? = some p) : termOf xs k = p := by simp [termOf, h]
theorem polyOk_long {xs : List (List Int × Int)} (h : ¬ xs.length ≤ 600) : polyOk xs = false := by simp [polyOk, h]
theorem polyOk_false {xs : List (List Int × Int)} {k : Nat} (hk : k < xs.length) (h : termAt xs k = false) : polyOk xs = false := by
  have : (List.range xs.length).all (termAt xs) = false := by
    rw [List.all_eq_false]
    exact ⟨k, by simpa using hk, by simp [h]⟩
  simp [polyOk, this]
theorem polyOk_true {xs : List (List Int × Int)} (hl : xs.length ≤ 600) (h : ∀ j, j < xs.length → termAt xs j = true) : polyOk xs = true := by
  have : (List.range xs.length).all (termAt xs) = true := by
    rw [List.all_eq_true]; intro j hj; exact h j (by simpa using hj)
  simp [polyOk, this, hl]
theorem termAt_next {xs : List (List Int × Int)} {k : Nat} (h : ∀ j, j < k → termAt xs j = true) (h1 : termAt xs k = true) : ∀ j, j < k + 1 → termAt xs j = true := by
  intro j hj
  rcases Nat.lt_or_ge j k with h2 | h2
  · exact h j h2
  · obtain rfl : j = k := by omega
    exact h1
theorem termAt_head {xs : List (List Int × Int)} {k : Nat} {p : List Int × Int} (h : xs[k]? = some p) (h1 : headOk p = false) : termAt xs k = false := by simp [termAt, termOf_at h, h1]
theorem termAt_exp {xs : List (List Int × Int)} {k i : Nat} {s : List Int} {c x : Int} (h : xs[k]? = some (s, c)) (hx : s[i]? = some x) (h1 : small x = false) : termAt xs k = false := by
  have : s.all small = false := by
    rw [List.all_eq_false]
    exact ⟨x, List.mem_of_getElem? hx, by simp [h1]⟩
  simp [termAt, termOf_at h, this]
theorem all_small {s : List Int} {n : Nat} (hn : s.length = n) (h : ∀ j x, j < n → s[j]? = some x → small x = true) : s.all small = true := by
  rw [List.all_eq_true]
  intro x hx
  obtain ⟨j, hj⟩ := List.getElem?_of_mem hx
  exact h j x (by have := (List.getElem?_eq_some_iff.1 hj).1; omega) hj
theorem termAt_rise {xs : List (List Int × Int)} {k : Nat} {s t : List Int} {c d : Int} (h : xs[k]? = some (s, c)) (hy : xs[k - 1]? = some (t, d)) (h0 : k ≠ 0) (h1 : ¬ keyL s < keyL t) : termAt xs k = false := by
  simp [termAt, termOf_at h, termOf_at hy, h1, h0]
theorem termAt_first {xs : List (List Int × Int)} {s : List Int} {c : Int} (h : xs[0]? = some (s, c)) (h1 : headOk (s, c) = true) (h2 : s.all small = true) : termAt xs 0 = true := by
  simp only [termAt, termOf_at h, h1, h2]; rfl
theorem termAt_rest {xs : List (List Int × Int)} {k : Nat} {s t : List Int} {c d : Int} (h : xs[k]? = some (s, c)) (hy : xs[k - 1]? = some (t, d)) (h1 : headOk (s, c) = true) (h2 : s.all small = true) (h3 : keyL s < keyL t) : termAt xs k = true := by
  simp only [termAt, termOf_at h, termOf_at hy, h1, h2, h3]; simp
theorem termAt_ok {xs : List (List Int × Int)} {k : Nat} {s : List Int} {c : Int} (h : xs[k]? = some (s, c)) (h1 : termAt xs k = true) : s.length = 7 ∧ Digs s ∧ coefOk c = true := by
  simp only [termAt, termOf_at h, headOk, Bool.and_eq_true, decide_eq_true_eq] at h1
  refine ⟨h1.1.1.1, fun x hx => ?_, h1.1.1.2⟩
  have := List.all_eq_true.1 h1.1.2 x hx
  simp [small] at this
  unfold isD
  omega
theorem small_digs {s : List Int} (h : s.all small = true) : Digs s := fun x hx => by
  have := List.all_eq_true.1 h x hx
  simp [small] at this
  unfold isD
  omega

set_option maxRecDepth 100000 in
set_option maxHeartbeats 3200000 in
theorem implPolyOk_any (a : Option Addr) (n c : Nat) (xs : List (List Int × Int)) (w : World) (hr : RP w a xs) (hn : xs.length = n) (hb : n ≤ 1048576) :
    Calls Tryz.prog 53 #[.slice a n c] w fun e w' => e = .returned (.bool (polyOk xs)) ∧ Below w.heap.size w w' := by
  have Hn := Lib.hid hn; clear hn
  by_cases h600 : n ≤ 600
  case neg =>
    have H0 := Lib.hid (polyOk_long (xs := xs) (by rw [Hn.out]; exact h600))
    go_enter Tryz.func53, Tryz.ntmps53
    go_wp2
    go_ret
    exact ⟨ret_bool H0.out.symm, Below.refl _ _⟩
  go_enter Tryz.func53, Tryz.ntmps53
  go_wp2
  go_loopw [12] (fun i wr => ∃ k : Nat, k ≤ n ∧ i = .int .i64 k ∧ Hid (∀ j, j < k → termAt xs j = true) ∧ Below w.heap.size w wr) (fun i _ => n - (intOf i).toNat)
  case atStart => exact ⟨0, Nat.zero_le _, rfl, by intro j hj; omega, Below.refl _ _⟩
  case round =>
    obtain ⟨k, hk, rfl, HA, hd⟩ := hrel
    by_cases hlt : k < n
    · obtain ⟨b, off, rfl, hcell⟩ := (hr.below hd).at (k := k) (by rw [Hn.out]; exact hlt)
      obtain ⟨s, x, hx⟩ := part_at Hn.out hlt
      obtain ⟨a1, c1, hc1, hc2, hri, _⟩ := hcell k _ hx
      simp only at hc1 hc2 hri
      have hlast : k ≠ 0 → ∃ t d a2 c2, xs[k-1]? = some (t, d) ∧ wr.cell? ⟨b, off + (k-1) * 2, none⟩ = some (.slice a2 t.length c2) ∧ RI wr a2 t := by
        intro h0
        obtain ⟨t, d, ht⟩ := part_at (k := k - 1) Hn.out (by omega)
        obtain ⟨a2, c2, e1, e2, e3, _⟩ := hcell (k - 1) _ ht
        exact ⟨t, d, a2, c2, ht, e1, e3⟩
      clear hcell
      have Hx := Lib.hid hx; clear hx
      obtain ⟨l, hl⟩ : ∃ l, s.length = l := ⟨_, rfl⟩
      rw [hl] at hc1
      have Hl := Lib.hid hl; clear hl
      have q1 : (k : Int) < (n : Int) := by omega
      obtain ⟨W, hW⟩ : ∃ W, wr.alloc (.cells #[.slice a1 l c1, .int .i64 x] 74) = W := ⟨_, rfl⟩
      have hBW : Below wr.heap.size wr W := by rw [← hW]; exact (Below.refl _ _).alloc (Nat.le_refl _) _
      have hdW := hd.trans (hBW.mono hd.size)
      have g0 : W.heap[wr.heap.size]? = some (.cells #[.slice a1 l c1, .int .i64 x] 74) := by rw [← hW]; exact heap_alloc_new wr _
      have p0 : W.cell? ⟨wr.heap.size, 0, none⟩ = some (.slice a1 l c1) := by rw [cell_of_row W _ 0 _ _ (0, 0) g0]; rfl
      have p1 : W.cell? ⟨wr.heap.size, 1, none⟩ = some (.int .i64 x) := by rw [cell_of_row W _ 1 _ _ (0, 0) g0]; rfl
      have hriW := hri.below hBW
      clear g0
      by_cases hl7 : l = 7
      case neg =>
        clear hlast
        have e0 : ((l : Int) != 7) = true := by rw [bne_iff_ne]; omega
        have H0 := Lib.hid (polyOk_false (k := k) (by rw [Hn.out]; exact hlt) (termAt_head Hx.out (by simp [headOk, Hl.out, hl7])))
        go_wp2
        go_ret
        exact ⟨ret_bool H0.out.symm, hdW⟩
      subst hl7
      have e0 : (((7 : Nat) : Int) != 7) = false := by decide
      by_cases hc0 : x = 0
      case pos =>
        clear hlast
        have e1 : (x == 0) = true := by simp [hc0]
        have H0 := Lib.hid (polyOk_false (k := k) (by rw [Hn.out]; exact hlt) (termAt_head Hx.out (by simp [headOk, coefOk, hc0])))
        clear hc0
        go_wp2
        go_ret
        exact ⟨ret_bool H0.out.symm, hdW⟩
      have e1 : (x == 0) = false := by simp [hc0]
      by_cases hlo : x < -1000000
      case pos =>
        clear hlast
        have H0 := Lib.hid (polyOk_false (k := k) (by rw [Hn.out]; exact hlt) (termAt_head Hx.out (by simp [headOk, coefOk]; omega)))
        have e2 : decide (x < -1000000) = true := by simp [hlo]
        go_wp2
        go_ret
        exact ⟨ret_bool H0.out.symm, hdW⟩
      have e2 : decide (x < -1000000) = false := by simp [hlo]
      by_cases hhi : 1000000 < x
      case pos =>
        clear hlast
        have H0 := Lib.hid (polyOk_false (k := k) (by rw [Hn.out]; exact hlt) (termAt_head Hx.out (by simp [headOk, coefOk]; omega)))
        have e3 : decide (1000000 < x) = true := by simp [hhi]
        go_wp2
        go_ret
        exact ⟨ret_bool H0.out.symm, hdW⟩
      have e3 : decide (1000000 < x) = false := by simp [hhi]
      have Hhead := Lib.hid (show headOk (s, x) = true by simp [headOk, coefOk, Hl.out]; omega)
      clear hc0
      go_wp2
      go_loop [39] (fun iv => ∃ i : Nat, i ≤ 7 ∧ iv = .int .i64 i ∧ Hid (∀ j z, j < i → s[j]? = some z → small z = true)) (fun iv => 7 - (intOf iv).toNat)
      case atStart => exact ⟨0, by omega, rfl, fun j z hj => by omega⟩
      case round =>
        obtain ⟨i, hi, rfl, HS⟩ := hrel
        by_cases hi7 : i < 7
        · obtain ⟨bs, offs, rfl, hcs⟩ := hriW.at (k := i) (by rw [Hl.out]; exact hi7)
          obtain ⟨z, hz⟩ := some_at Hl.out hi7
          have hcz := hcs i z hz
          have r1 : (i : Int) < 7 := by omega
          have HZ := Lib.hid hz
          clear hcs hz
          by_cases hz1 : z < 0
          · have H0 := Lib.hid (polyOk_false (k := k) (by rw [Hn.out]; exact hlt) (termAt_exp Hx.out HZ.out (by simp [small]; omega)))
            have e4 : decide (z < 0) = true := by simp [hz1]
            clear hlast
            go_wp2
            go_ret
            exact ⟨ret_bool H0.out.symm, hdW⟩
          · have e4 : decide (z < 0) = false := by simp [hz1]
            by_cases hz2 : 24 < z
            · have H0 := Lib.hid (polyOk_false (k := k) (by rw [Hn.out]; exact hlt) (termAt_exp Hx.out HZ.out (by simp [small]; omega)))
              have e5 : decide (24 < z) = true := by simp [hz2]
              clear hlast
              go_wp2
              go_ret
              exact ⟨ret_bool H0.out.symm, hdW⟩
            · have e5 : decide (24 < z) = false := by simp [hz2]
              have HS1 := Lib.hid (show ∀ j u, j < i + 1 → s[j]? = some u → small u = true from fun j u hj hu => by
                rcases Nat.lt_or_ge j i with h | h
                · exact HS.out j u h hu
                · obtain rfl : j = i := by omega
                  rw [HZ.out] at hu
                  obtain rfl := Option.some.inj hu
                  simp [small]; omega)
              clear hlast
              go_wp2
              go_round
              case rel => exact ⟨i + 1, by omega, by go_num, HS1.out⟩
              case measure => simp [intOf]; omega
        · obtain rfl : i = 7 := by omega
          have HSm := Lib.hid (all_small Hl.out HS.out)
          by_cases hk0 : k = 0
          · subst hk0
            have g0 : decide ((0 : Int) < 0) = false := by decide
            clear hlast
            go_wp2
            go_quiet (fail)
            go_wp2
            go_roundw
            case rel => exact ⟨1, by omega, rfl, termAt_next HA.out (termAt_first Hx.out Hhead.out HSm.out), hdW.trans (Drew.below (Drew.drewN _ _) _)⟩
            case measure => simp [intOf]; omega
          · obtain ⟨t, d, a2, c2, ht, hc3, hri2⟩ := hlast hk0
            clear hlast
            obtain ⟨ht7, htd, _⟩ := termAt_ok ht (HA.out (k - 1) (by omega))
            have Ht := Lib.hid ht; clear ht
            rw [ht7] at hc3
            have hc4 : W.cell? ⟨b, off + (k-1) * 2, none⟩ = some (.slice a2 7 c2) := by rw [hBW.cell (World.block_lt_of_cell? wr _ hc3)]; exact hc3
            have hri3 := hri2.below hBW
            obtain ⟨by1, _⟩ := byTo_key ht7 Hl.out htd (small_digs HSm.out)
            have Hby := Lib.hid by1
            have Hsd := Lib.hid (small_digs HSm.out)
            have Htd := Lib.hid htd
            have Ht7 := Lib.hid ht7
            clear hc3 ht7 htd by1
            have g0 : 0 < k := by omega
            have g1 : (0 : Int) ≤ (k : Int) - 1 := by omega
            have g2 : (k : Int) - 1 < (n : Int) := by omega
            have g3 : IntKind.i64.wrap ((k : Int) - 1) = (k : Int) - 1 := IntWalk.i64_in _ (by omega)
            have g4 : ((k : Int) - 1).toNat = k - 1 := by omega
            obtain ⟨o, ho⟩ : ∃ o, byTo t s 7 = o := ⟨_, rfl⟩
            have HO := Lib.hid ho
            by_cases hneg : o < 0
            · have Hlt := Lib.hid (Hby.out.1 (by rw [ho]; exact hneg))
              have g5 : decide (0 ≤ o) = false := by simp; omega
              clear ho hneg
              go_wp2
              go_quiet ((go_at_call 94; exact quiet (isInt (byTerms_any _ _ _ _ t s _ (hri3.drew (Drew.drewN _ _)) (hriW.drew (Drew.drewN _ _)) Ht7.out Hl.out Htd.out Hsd.out) HO.out)))
              clear g3 g4
              go_wp2
              go_roundw
              case rel => exact ⟨k + 1, by omega, by go_num, termAt_next HA.out (termAt_rest Hx.out Ht.out Hhead.out HSm.out Hlt.out), hdW.trans (Drew.below (Drew.drewN _ _) _)⟩
              case measure => simp [intOf]; omega
            · have H0 := Lib.hid (polyOk_false (k := k) (by rw [Hn.out]; exact hlt) (termAt_rise Hx.out Ht.out hk0 (fun h => hneg (by rw [← ho]; exact Hby.out.2 h))))
              have g5 : decide (0 ≤ o) = true := by simp; omega
              clear ho hneg
              go_wp2
              go_quiet ((go_at_call 94; exact quiet (isInt (byTerms_any _ _ _ _ t s _ (hri3.drew (Drew.drewN _ _)) (hriW.drew (Drew.drewN _ _)) Ht7.out Hl.out Htd.out Hsd.out) HO.out)))
              clear g3 g4
              go_wp2
              go_ret
              exact ⟨ret_bool H0.out.symm, hdW.trans (Drew.below (Drew.drewN _ _) _)⟩
    · obtain rfl : k = n := by omega
      have H0 := Lib.hid (polyOk_true (by rw [Hn.out]; exact h600) (by rw [Hn.out]; exact HA.out))
      go_wp2
      go_ret
      exact ⟨ret_bool H0.out.symm, hd⟩
end Go.Proofs.YtomejjbkakpoiaaGreat
