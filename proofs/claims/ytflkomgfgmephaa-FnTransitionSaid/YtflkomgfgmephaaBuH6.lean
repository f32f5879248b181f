/-
  slices.SortFunc at impl.Term: the kit's shelf, laid at this program's numbers.
  Places below a number; rows written out place by place.
  Contract of slices.SortFunc at a row of terms of the call's own, by an order that parts whatever two of them; given by the kit's shelf.
  Terms put in descending order of their keys: slices.SortFunc with the comparison of closed.
-/
import Derived.Test.YtflkomgfgmephaaFacts
import Derived.Shelf.SlSortCmp.NoneTotal
import Derived.Test.YtflkomgfgmephaaLaid
import Derived.Test.YtflkomgfgmephaaKT
import Derived.Test.YtflkomgfgmephaaPolyTerm
namespace Go.Proofs.Ytflkomgfgmephaa
open Go.RowKit Go.Shelf

def renSortT : Ren := ⟨fun k => if k = 6 then 73 else if k = 14 then 93 else if k = 15 then 80 else if k = 20 then 115 else if k = 21 then 116 else if k = 22 then 117 else if k = 23 then 118 else if k = 24 then 119 else if k = 25 then 120 else if k = 26 then 121 else if k = 27 then 122 else if k = 28 then 103 else if k = 29 then 104 else if k = 46 then 139 else if k = 47 then 124 else if k = 48 then 125 else if k = 49 then 140 else if k = 50 then 141 else if k = 57 then 147 else 0, fun k => if k = 22 then 27 else if k = 24 then 72 else if k = 25 then 100 else if k = 39 then 50 else if k = 45 then 115 else if k = 46 then 116 else if k = 50 then 120 else if k = 53 then 123 else if k = 55 then 125 else if k = 66 then 137 else if k = 70 then 141 else if k = 76 then 152 else if k = 77 then 153 else k, fun k => k⟩
theorem laysSortT : SlLaysF0.n6 Try.prog renSortT where
  mixed := by kernel_rfl
  f6 := ⟨Try.f73.name, by kernel_rfl, by kernel_rfl⟩
  f14 := ⟨Try.f93.name, by kernel_rfl, by kernel_rfl⟩
  f15 := by kernel_rfl
  f20 := ⟨Try.f115.name, by kernel_rfl, by kernel_rfl⟩
  f21 := ⟨Try.f116.name, by kernel_rfl, by kernel_rfl⟩
  f22 := ⟨Try.f117.name, by kernel_rfl, by kernel_rfl⟩
  f23 := ⟨Try.f118.name, by kernel_rfl, by kernel_rfl⟩
  f24 := ⟨Try.f119.name, by kernel_rfl, by kernel_rfl⟩
  f25 := ⟨Try.f120.name, by kernel_rfl, by kernel_rfl⟩
  f26 := ⟨Try.f121.name, by kernel_rfl, by kernel_rfl⟩
  f27 := ⟨Try.f122.name, by kernel_rfl, by kernel_rfl⟩
  f28 := by kernel_rfl
  f29 := by kernel_rfl
  f46 := ⟨Try.f139.name, by kernel_rfl, by kernel_rfl⟩
  f47 := by kernel_rfl
  f48 := by kernel_rfl
  f49 := ⟨Try.f140.name, by kernel_rfl, by kernel_rfl⟩
  f50 := ⟨Try.f141.name, by kernel_rfl, by kernel_rfl⟩
  f57 := ⟨Try.f147.name, by kernel_rfl, by kernel_rfl⟩
  t0 := by kernel_rfl
  a0 := fun w => by kernel_rfl
  z0 := fun w => by kernel_rfl
  v0 := fun w => by kernel_rfl
  t3 := by kernel_rfl
  a3 := fun w => by kernel_rfl
  z3 := fun w => by kernel_rfl
  v3 := fun w => by kernel_rfl
  t4 := by kernel_rfl
  a4 := fun w => by kernel_rfl
  z4 := fun w => by kernel_rfl
  v4 := fun w => by kernel_rfl
  t5 := by kernel_rfl
  a5 := fun w => by kernel_rfl
  z5 := fun w => by kernel_rfl
  v5 := fun w => by kernel_rfl
  t9 := by kernel_rfl
  a9 := fun w => by kernel_rfl
  z9 := fun w => by kernel_rfl
  v9 := fun w => by kernel_rfl
  t22 := by kernel_rfl
  a22 := fun w => by kernel_rfl
  z22 := fun w => by kernel_rfl
  v22 := fun w => by kernel_rfl
  t25 := by kernel_rfl
  a25 := fun w => by kernel_rfl
  z25 := fun w => by kernel_rfl
  v25 := fun w => by kernel_rfl
  t39 := by kernel_rfl
  a39 := fun w => by kernel_rfl
  z39 := fun w => by kernel_rfl
  v39 := fun w => by kernel_rfl
  t45 := by kernel_rfl
  a45 := fun w => by kernel_rfl
  z45 := fun w => by kernel_rfl
  v45 := fun w => by kernel_rfl
  t46 := by kernel_rfl
  a46 := fun w => by kernel_rfl
  z46 := fun w => by kernel_rfl
  v46 := fun w => by kernel_rfl
  t50 := by kernel_rfl
  a50 := fun w => by kernel_rfl
  z50 := fun w => by kernel_rfl
  v50 := fun w => by kernel_rfl
  t53 := by kernel_rfl
  a53 := fun w => by kernel_rfl
  z53 := fun w => by kernel_rfl
  v53 := fun w => by kernel_rfl
  t55 := by kernel_rfl
  a55 := fun w => by kernel_rfl
  z55 := fun w => by kernel_rfl
  v55 := fun w => by kernel_rfl
  t66 := by kernel_rfl
  a66 := fun w => by kernel_rfl
  z66 := fun w => by kernel_rfl
  v66 := fun w => by kernel_rfl
  t70 := by kernel_rfl
  a70 := fun w => by kernel_rfl
  z70 := fun w => by kernel_rfl
  v70 := fun w => by kernel_rfl
  t76 := by kernel_rfl
  a76 := fun w => by kernel_rfl
  z76 := fun w => by kernel_rfl
  v76 := fun w => by kernel_rfl
  t77 := by kernel_rfl
  a77 := fun w => by kernel_rfl
  z77 := fun w => by kernel_rfl
  v77 := fun w => by kernel_rfl
end Go.Proofs.Ytflkomgfgmephaa

namespace Go.Proofs.Ytflkomgfgmephaa
open Go.RowKit Go.Shelf Go.Sort

def Ix (n : Nat) : Type := { k : Nat // k < n }
def encX (vs : List Value) {n : Nat} (i : Ix n) : List Value := [vs.getD (i.1 * 2) undef, vs.getD (i.1 * 2 + 1) undef]
def allX (n : Nat) : List (Ix n) := (List.range n).attachWith (fun k => k < n) (fun _ hk => List.mem_range.1 hk)
theorem allX_val (n : Nat) : (allX n).map (fun i => i.1) = List.range n := List.attachWith_map_subtype_val _
theorem allX_length (n : Nat) : (allX n).length = n := by rw [← List.length_map (f := fun i : Ix n => i.1), allX_val, List.length_range]
theorem allX_at {n k : Nat} (h : k < n) : (allX n)[k]? = some ⟨k, h⟩ := by
  have h1 : (allX n)[k]? = some ((allX n)[k]'(by rw [allX_length]; exact h)) := List.getElem?_eq_getElem _
  have h2 : ((allX n)[k]'(by rw [allX_length]; exact h)).1 = k := by
    have := congrArg (fun l => l[k]?) (allX_val n)
    simp only [List.getElem?_map, h1, Option.map_some, List.getElem?_range h] at this
    exact Option.some.inj this
  rw [h1]
  congr 1
  exact Subtype.ext h2
def flatX (vs : List Value) {n : Nat} (l : List (Ix n)) : List Value := l.flatMap (encX vs)
theorem flatX_length (vs : List Value) {n : Nat} (l : List (Ix n)) : (flatX vs l).length = l.length * 2 := by
  induction l with
  | nil => rfl
  | cons i l ih => unfold flatX at *; rw [List.flatMap_cons, List.length_append, ih, List.length_cons]; simp [encX]; omega
theorem flatX_at (vs : List Value) {n : Nat} : ∀ (l : List (Ix n)) (k : Nat) (i : Ix n), l[k]? = some i → (flatX vs l)[k * 2]? = some (vs.getD (i.1 * 2) undef) ∧ (flatX vs l)[k * 2 + 1]? = some (vs.getD (i.1 * 2 + 1) undef)
  | [], _, _, h => by simp at h
  | j :: l, 0, i, h => by
    simp only [List.getElem?_cons_zero, Option.some.injEq] at h
    subst h
    exact ⟨rfl, rfl⟩
  | j :: l, k + 1, i, h => by
    simp only [List.getElem?_cons_succ] at h
    have := flatX_at vs l k i h
    have e : (k + 1) * 2 = k * 2 + 1 + 1 := by omega
    rw [e]
    unfold flatX at *
    rw [List.flatMap_cons]
    simpa [encX] using this
theorem flat_X (vs : List Value) {n : Nat} [Inhabited (Ix n)] (l : List (Ix n)) : flatK (encX vs) 2 l.toArray = (flatX vs l).toArray := by
  apply Array.ext_getElem?
  intro t
  by_cases ht : t < l.length * 2
  · have h1 : (flatK (encX vs) 2 l.toArray)[t]? = some (flatK (encX vs) 2 l.toArray)[t]! := by
      rw [getElem!_pos _ t (by simpa using ht)]; exact Array.getElem?_eq_getElem _
    rw [h1, get_flatK _ _ _ _ (by simpa using ht)]
    have hk : t / 2 < l.length := by omega
    have e3 : l.toArray[t / 2]! = l[t / 2]'hk := by simp [hk]
    obtain ⟨e1, e2⟩ := flatX_at vs l (t / 2) _ (List.getElem?_eq_getElem hk)
    rw [e3, List.getElem?_toArray]
    rcases Nat.mod_two_eq_zero_or_one t with h | h
    · rw [h, show (flatX vs l)[t]? = (flatX vs l)[t / 2 * 2]? by congr 1; omega, e1]
      rfl
    · rw [h, show (flatX vs l)[t]? = (flatX vs l)[t / 2 * 2 + 1]? by congr 1; omega, e2]
      rfl
  · rw [Array.getElem?_eq_none (by simp; omega), Array.getElem?_eq_none (by simp [flatX_length]; omega)]
theorem flatX_all {vs : List Value} {n : Nat} (h : vs.length = n * 2) : flatX vs (allX n) = vs := by
  apply List.ext_getElem?
  intro t
  by_cases ht : t < n * 2
  · obtain ⟨e1, e2⟩ := flatX_at vs (allX n) (t / 2) ⟨t / 2, by omega⟩ (allX_at (by omega))
    simp only at e1 e2
    have hv : vs[t]? = some (vs.getD t undef) := by rw [List.getD_eq_getElem?_getD, List.getElem?_eq_getElem (by omega)]; rfl
    rw [hv]
    rcases Nat.mod_two_eq_zero_or_one t with h0 | h0
    · have e : t / 2 * 2 = t := by omega
      rw [e] at e1
      exact e1
    · have e : t / 2 * 2 + 1 = t := by omega
      rw [e] at e2
      exact e2
  · rw [List.getElem?_eq_none (by rw [flatX_length, allX_length]; omega), List.getElem?_eq_none (by omega)]
end Go.Proofs.Ytflkomgfgmephaa

namespace Go.Proofs.Ytflkomgfgmephaa
open Go.RowKit Go.Shelf Go.Sort

theorem sizeOf_Term (w : World) : (Go.sizeOf 72).run Try.prog w = .ok 2 w := by kernel_rfl
theorem isAgg_Term (w : World) : (isAgg 72).run Try.prog w = .ok true w := by kernel_rfl
theorem sortX_any {n : Nat} (cf : Ix n → Ix n → Int) (hO : SWO (ltOf cf)) (hT : ∀ x y, (ltOf cf) x y = false → (ltOf cf) y x = false → x = y)
    (f : Nat) (ef : ∀ args w, (callFunc f args).run Try.prog w = .ok (.enter f args) w) (B S g c : Nat) (vs : List Value) (w : World) (ho : w.ownsRow B 72 2 (.slice (some ⟨g, 0, none⟩) n c) n vs) (_hS : g < S) (hpos : 0 < n)
    (h1 : ∀ v ∈ vs, v.oneCell' = true) (hcmp : ∀ (W : World), w.grownBy W (some g) → ∀ x y : Ix n, Calls Try.prog f #[.agg (encX vs x).toArray, .agg (encX vs y).toArray] W fun e w' => e = .returned (.int .i64 (cf x y)) ∧ Laid W w') (hb : n ≤ 1048576) :
    Calls Try.prog 73 #[.slice (some ⟨g, 0, none⟩) n c, .func (.func f) #[] #[]] w fun e w' => e = .returned (.tuple #[]) ∧
      w'.ownsRow B 72 2 (.slice (some ⟨g, 0, none⟩) n c) n (flatX vs ((allX n).mergeSort fun x y => !(ltOf cf) y x)) ∧ w.grownBy w' (some g) := by
  haveI : Inhabited (Ix n) := ⟨⟨0, hpos⟩⟩
  have hvl := ho.1
  rcases ho.2 with ⟨_, h2⟩ | ⟨g', cap, cur, hv, hg, hh, hn, hm, hs, ht⟩
  · omega
  · simp only [Value.slice.injEq, Option.some.injEq, Addr.mk.injEq] at hv
    obtain ⟨⟨rfl, _⟩, _, rfl⟩ := hv
    have hgz : g < w.heap.size := (Array.getElem?_eq_some_iff.1 hh).1
    have hll : (allX n).toArray.size = n := by simp [allX_length]
    have hfl : flatK (encX vs) 2 (allX n).toArray = vs.toArray := by rw [flat_X, flatX_all hvl]
    have hH : HoldsK (encX vs) 2 w g 0 (allX n).toArray := by
      unfold HoldsK
      rw [hfl]
      intro j hj
      have hj' : j < n * 2 := by simpa [hvl] using hj
      rw [Nat.zero_add]
      refine ⟨?_, ho.frozenAt _⟩
      rw [ho.cellAt _ (by simpa using hj')]
      simp [hvl, hj']
    have h1' : ∀ (x : Ix n), ∀ v ∈ encX vs x, v.oneCell' = true := by
      intro x v hv
      have hx := x.2
      have hget : ∀ t, t < vs.length → vs.getD t undef ∈ vs := fun t ht => by rw [List.getD_eq_getElem?_getD, List.getElem?_eq_getElem ht]; exact List.getElem_mem ht
      simp only [encX, List.mem_cons, List.not_mem_nil, or_false] at hv
      rcases hv with rfl | rfl
      · exact h1 _ (hget _ (by omega))
      · exact h1 _ (hget _ (by omega))
    have key := AnyQ.slices_SortFunc_total laysSortT 2 isAgg_Term sizeOf_Term (encX vs) (fun _ => rfl) h1' cf hO f #[] g 0 c (allX n).toArray w ef
      (by
        intro m os dk hdk x y
        refine (hcmp _ ?_ x y).mono ?_
        · unfold sortWorldK putRowK
          exact grownBy_sortedV _
        · rintro e w' ⟨he, q, os', hw⟩
          exact ⟨he, q, os', hw⟩) hH hgz (by rw [hll]; omega) hT
    rw [hll] at key
    refine Calls.mono key ?_
    rintro e w' ⟨rfl, m, os, rfl⟩
    generalize hso : ((allX n).mergeSort fun x y => !(ltOf cf) y x) = so
    have hsl : so.length = n := by rw [← hso, List.length_mergeSort, allX_length]
    have hlen : (flatX vs so).length = n * 2 := by rw [flatX_length, hsl]
    have hnew := heap_sortedV (n := m) (os := os) (flatX vs so).toArray hh
    have hgr := grownBy_sortedV (w := w) (g := g) (n := m) (os := os) (flatX vs so).toArray
    unfold sortWorldK putRowK
    rw [flat_X]
    refine ⟨rfl, ⟨hlen, .inr ⟨g, c, _, rfl, hg, hnew, hn, hm, by simp [putCells, hs], ?_⟩⟩, hgr⟩
    rw [← hlen]
    exact take_putCellsV cur _ (by rw [hlen, hs]; exact Nat.mul_le_mul_right 2 hn)
end Go.Proofs.Ytflkomgfgmephaa

namespace Go.Proofs.Ytflkomgfgmephaa
open Go.RowKit Go.Shelf Go.Sort

set_option maxRecDepth 100000 in
set_option maxHeartbeats 800000 in
theorem closedCmp_any (a b : Option Addr) (c d : Nat) (x y : Int) (xs ys : List Int) (w : World) (hr : RI w a xs) (hs : RI w b ys) (hn : xs.length = 7) (hm : ys.length = 7) (dx : Digs xs) (dy : Digs ys) :
    Calls Try.prog 74 #[.agg #[.slice a 7 c, .int .i64 x], .agg #[.slice b 7 d, .int .i64 y]] w fun e w' => e = .returned (.int .i64 (byTo xs ys 7)) ∧ Laid w w' := by
  have hL := ((Laid.refl w).alloc (.cells #[.slice a 7 c, .int .i64 x] 72)).alloc (.cells #[.slice b 7 d, .int .i64 y] 72)
  have hB := ((Below.refl w.heap.size w).alloc (Nat.le_refl _) (.cells #[.slice a 7 c, .int .i64 x] 72)).alloc (by simp only [World.alloc, Array.size_push]; omega) (.cells #[.slice b 7 d, .int .i64 y] 72)
  have hr1 := hr.below hB
  have hs1 := hs.below hB
  have HL := Lib.hid hL
  have Hn := Lib.hid hn
  have Hm := Lib.hid hm
  have Hdx := Lib.hid dx
  have Hdy := Lib.hid dy
  obtain ⟨R, hR⟩ : ∃ R, byTo xs ys 7 = R := ⟨_, rfl⟩
  rw [hR]
  have HR := Lib.hid hR
  clear hL hB hn hm dx dy hR
  go_enter Try.func74, Try.ntmps74
  go_wp2_with fail
  refine (isInt (byTerms_any _ _ _ _ xs ys _ hr1 hs1 Hn.out Hm.out Hdx.out Hdy.out) HR.out).mono ?_
  rintro e w1 ⟨rfl, hd⟩
  have hfin := HL.out.trans hd.laid
  go_wp2
  go_ret
  exact ⟨rfl, hfin⟩

def termOfT (xs : List (List Int × Int)) (k : Nat) : List Int × Int := xs.getD k ([], 0)
def keyX (xs : List (List Int × Int)) {n : Nat} (i : Ix n) : Int := keyL (termOfT xs i.1).1
theorem termT_at {xs : List (List Int × Int)} {k : Nat} {p : List Int × Int} (h : xs[k]? = some p) : termOfT xs k = p := by simp [termOfT, h]
theorem termT_ex {xs : List (List Int × Int)} {k n : Nat} (h : xs.length = n) (hk : k < n) : xs[k]? = some (termOfT xs k) := by
  obtain ⟨p, hp⟩ := some_of (show k < xs.length by omega)
  rw [hp, termT_at hp]
/-- terms whose exponents are seven digits, no two alike -/
structure GoodT (xs : List (List Int × Int)) : Prop where
  each : ∀ p ∈ xs, p.1.length = 7 ∧ Digs p.1
  apart : ∀ (i j : Nat) (p q : List Int × Int), xs[i]? = some p → xs[j]? = some q → keyL p.1 = keyL q.1 → i = j
theorem sortTerms_any (B S : Nat) (a : Option Addr) (n c : Nat) (xs : List (List Int × Int)) (w : World) (ho : TO w B S a n c xs) (hg : GoodT xs) (hb : n ≤ 1048576) :
    Calls Try.prog 73 #[.slice a n c, .func (.func 74) #[] #[]] w fun e w' => e = .returned (.tuple #[]) ∧
      ∃ xs', xs'.Perm xs ∧ xs'.Pairwise (fun p q => keyL q.1 < keyL p.1) ∧ TO w' B S a n c xs' ∧ Only B S w w' := by
  have hlen := ho.len
  rcases Nat.eq_zero_or_pos n with h0 | h0
  · subst h0
    have hx : xs = [] := List.length_eq_zero_iff.1 hlen
    subst hx
    refine Calls.mono (AnyF.slices_SortFunc_none laysSortT a c _ w) ?_
    rintro e w' ⟨rfl, rfl⟩
    exact ⟨rfl, [], List.Perm.refl _, List.Pairwise.nil, ho, Only.refl _ _ _⟩
  obtain ⟨vs, h1, h2, h3⟩ := ho
  rcases row2_shape h1 with ⟨hn0, _⟩ | ⟨g, rfl, hBg, hgw, hnc, hcell, cur, hcur⟩
  · omega
  have hgS : g < S := h2 g rfl
  have hvl := h3.len
  have ev : ∀ k, k < n → ∃ a' c', vs.getD (k * 2) undef = .slice a' 7 c' ∧ vs.getD (k * 2 + 1) undef = .int .i64 (termOfT xs k).2 ∧ OwI w B S a' 7 c' (termOfT xs k).1 := by
    intro k hk
    have hx := termT_ex hlen hk
    obtain ⟨a', c', e1, e2, e3⟩ := h3.each k _ hx
    have h7 := (hg.each _ (List.mem_of_getElem? hx)).1
    rw [h7] at e1 e3
    exact ⟨a', c', by rw [List.getD_eq_getElem?_getD, e1]; rfl, by rw [List.getD_eq_getElem?_getD, e2]; rfl, e3⟩
  have hdig : ∀ k, k < n → (termOfT xs k).1.length = 7 ∧ Digs (termOfT xs k).1 := fun k hk => hg.each _ (List.mem_of_getElem? (termT_ex hlen hk))
  let cf : Ix n → Ix n → Int := fun i j => byTo (termOfT xs i.1).1 (termOfT xs j.1).1 7
  have hlt : ∀ i j : Ix n, ltOf cf i j = decide (keyX xs j < keyX xs i) := by
    intro i j
    unfold ltOf
    have := (byTo_key (hdig i.1 i.2).1 (hdig j.1 j.2).1 (hdig i.1 i.2).2 (hdig j.1 j.2).2).1
    simp only [decide_eq_decide]
    exact this
  have hO : SWO (ltOf cf) := by
    refine ⟨fun x => ?_, fun x y z p q => ?_, fun x y z p q => ?_⟩
    · rw [hlt]; simp
    · rw [hlt] at *; simp only [decide_eq_true_eq] at *; omega
    · rw [hlt] at *; simp only [decide_eq_false_iff_not] at *; omega
  have hT : ∀ x y : Ix n, ltOf cf x y = false → ltOf cf y x = false → x = y := by
    intro x y p q
    rw [hlt] at *
    simp only [decide_eq_false_iff_not] at *
    refine Subtype.ext (hg.apart x.1 y.1 _ _ (termT_ex hlen x.2) (termT_ex hlen y.2) ?_)
    unfold keyX at *
    omega
  have hone : ∀ v ∈ vs, v.oneCell' = true := by
    intro v hv
    obtain ⟨t, ht⟩ := List.getElem?_of_mem hv
    have htl := lt_of_some ht
    obtain ⟨a', c', e1, e2, _⟩ := ev (t / 2) (by omega)
    have hvd : vs.getD t undef = v := by rw [List.getD_eq_getElem?_getD, ht]; rfl
    rcases Nat.mod_two_eq_zero_or_one t with hm | hm
    · have e : t / 2 * 2 = t := by omega
      rw [e, hvd] at e1
      rw [e1]; rfl
    · have e : t / 2 * 2 + 1 = t := by omega
      rw [e, hvd] at e2
      rw [e2]; rfl
  have hcmp : ∀ (W : World), w.grownBy W (some g) → ∀ x y : Ix n, Calls Try.prog 74 #[.agg (encX vs x).toArray, .agg (encX vs y).toArray] W fun e w' => e = .returned (.int .i64 (cf x y)) ∧ Laid W w' := by
    intro W hW x y
    obtain ⟨a1, c1, e1, e2, e3⟩ := ev x.1 x.2
    obtain ⟨a2, c2, f1, f2, f3⟩ := ev y.1 y.2
    have keep : ∀ {a0 : Option Addr} {c0 : Nat} {zs : List Int}, OwI w B S a0 7 c0 zs → RI W a0 zs := fun hio => (hio.1.kept hW (fun k hk e => ne_blockT h1 hio k e hk)).ri
    unfold encX
    rw [e1, e2, f1, f2]
    exact closedCmp_any a1 a2 c1 c2 _ _ _ _ W (keep e3) (keep f3) (hdig x.1 x.2).1 (hdig y.1 y.2).1 (hdig x.1 x.2).2 (hdig y.1 y.2).2
  refine (sortX_any cf hO hT 74 (fun args w => by kernel_rfl) B S g c vs w h1 hgS h0 hone hcmp hb).mono ?_
  rintro e w' ⟨rfl, hown, hgr⟩
  generalize hso : ((allX n).mergeSort fun x y => !(ltOf cf) y x) = so at hown
  have hperm : so.Perm (allX n) := by rw [← hso]; exact List.mergeSort_perm _ _
  have hsl : so.length = n := by rw [hperm.length_eq, allX_length]
  have hsorted : so.Pairwise fun x y => (!(ltOf cf) y x) = true := by
    rw [← hso]
    refine List.pairwise_mergeSort (fun x y z p q => ?_) (fun x y => ?_) _
    · simp only [Bool.not_eq_true'] at *
      rw [hlt] at *
      simp only [decide_eq_false_iff_not] at *
      omega
    · simp only [Bool.or_eq_true, Bool.not_eq_true']
      rw [hlt, hlt]
      simp only [decide_eq_false_iff_not]
      omega
  have hnd : so.Nodup := by
    rw [hperm.nodup_iff]
    have h9 : ((allX n).map fun i => i.1).Nodup := by rw [allX_val]; exact List.nodup_range
    rw [List.Nodup, List.pairwise_map] at h9
    exact h9.imp fun h e => h (by rw [e])
  have hxs : (allX n).map (fun i => termOfT xs i.1) = xs := by
    have : (allX n).map (fun i => termOfT xs i.1) = (List.range n).map (termOfT xs) := by rw [← allX_val n, List.map_map]; rfl
    rw [this]
    apply List.ext_getElem?
    intro k
    rcases Nat.lt_or_ge k n with hk | hk
    · rw [List.getElem?_map, List.getElem?_range hk, termT_ex hlen hk]; rfl
    · rw [List.getElem?_eq_none (by simp; omega), List.getElem?_eq_none (by omega)]
  refine ⟨rfl, so.map (fun i => termOfT xs i.1), ?_, ?_, ⟨_, hown, h2, ?_, ?_, ?_⟩, ?_⟩
  · have := hperm.map (fun i : Ix n => termOfT xs i.1)
    rw [hxs] at this
    exact this
  · rw [List.pairwise_map]
    refine (hsorted.and hnd).imp fun {x y} ⟨p, q⟩ => ?_
    simp only [Bool.not_eq_true'] at p
    rw [hlt] at p
    simp only [decide_eq_false_iff_not] at p
    have hne : keyX xs x ≠ keyX xs y := fun e => q (Subtype.ext (hg.apart x.1 y.1 _ _ (termT_ex hlen x.2) (termT_ex hlen y.2) e))
    unfold keyX at *
    omega
  · rw [flatX_length, List.length_map]
  · intro k p hp
    rw [List.getElem?_map] at hp
    obtain ⟨i, hi, rfl⟩ := Option.map_eq_some_iff.1 hp
    obtain ⟨f1, f2⟩ := flatX_at vs so k i hi
    obtain ⟨a', c', e1, e2, e3⟩ := ev i.1 i.2
    rw [e1] at f1
    rw [e2] at f2
    refine ⟨a', c', ?_, f2, ?_⟩
    · rw [(hdig i.1 i.2).1]; exact f1
    · rw [(hdig i.1 i.2).1]
      exact ⟨e3.1.kept hgr (fun k hk e => ne_blockT h1 e3 k e hk), e3.2⟩
  · intro i j u v b hu hv hub hvb
    have get : ∀ i u, (flatX vs so)[i * 2]? = some u → ∃ x : Ix n, so[i]? = some x ∧ vs[x.1 * 2]? = some u := by
      intro i u hu
      have hil := lt_of_some hu
      rw [flatX_length, hsl] at hil
      obtain ⟨x, hx⟩ := some_of (show i < so.length by omega)
      obtain ⟨f1, _⟩ := flatX_at vs so i x hx
      rw [hu] at f1
      refine ⟨x, hx, ?_⟩
      have hx2 := x.2
      rw [List.getD_eq_getElem?_getD] at f1
      have hlt2 : x.1 * 2 < vs.length := by omega
      rw [List.getElem?_eq_getElem hlt2] at f1 ⊢
      rw [f1]
      rfl
    obtain ⟨x, hx, hxu⟩ := get i u hu
    obtain ⟨y, hy, hyv⟩ := get j v hv
    have hxy := h3.apart x.1 y.1 u v b hxu hyv hub hvb
    have : x = y := Subtype.ext hxy
    subst this
    obtain ⟨hi, rfl⟩ := List.getElem?_eq_some_iff.1 hx
    obtain ⟨hj, hje⟩ := List.getElem?_eq_some_iff.1 hy
    have hpw := List.pairwise_iff_getElem.1 hnd
    rcases Nat.lt_trichotomy i j with h | h | h
    · exact absurd hje.symm (hpw i j hi hj h)
    · exact h
    · exact absurd hje (hpw j i hj hi h)
  · exact Only.of_grown (v := .slice (some ⟨g, 0, none⟩) n c) hgr (fun k hk => by simp [Value.ownBlock] at hk; omega) (fun k hk => by simp [Value.ownBlock] at hk; omega)
end Go.Proofs.Ytflkomgfgmephaa
