/-
  Places below a number; rows written out place by place.
  Contract of slices.SortFunc at a row of int slices of the call's own, by slices.Compare; given by the kit's shelf.
  Contracts of slices.Index, slices.Contains at cells.
  x
-/
import Derived.Test.YtdpjcjnednmoeaaBuM12
import Derived.Test.YtdpjcjnednmoeaaBuM13
import Derived.Test.YtdpjcjnednmoeaaBuM6
import Derived.Test.YtdpjcjnednmoeaaBuM9
import Derived.Test.YtdpjcjnednmoeaaBuM8
namespace Go.Proofs.Ytdpjcjnednmoeaa
open Go.RowKit Go.Shelf Go.Sort

def Ix (n : Nat) : Type := { k : Nat // k < n }
def encX (vs : List Value) {n : Nat} (i : Ix n) : List Value := [vs.getD (i.1 * 2) undef, vs.getD (i.1 * 2 + 1) undef]
def allX (n : Nat) : List (Ix n) := (List.range n).attachWith (fun k => k < n) (fun _ hk => List.mem_range.1 hk)
theorem allX_val (n : Nat) : (allX n).map (fun i => i.1) = List.range n := List.attachWith_map_subtype_val _
theorem allX_length (n : Nat) : (allX n).length = n := by rw [← List.length_map (f := fun i : Ix n => i.1), allX_val, List.length_range]
theorem allX_at {n k : Nat} (h : k < n) : (allX n)[k]? = some ⟨k, h⟩ := by
  have h1 : (allX n)[k]? = some ((allX n)[k]'(by rw [allX_length]; exact h)) := List.getElem?_eq_getElem _
  have h2 : ((allX n)[k]'(by rw [allX_length]; exact h)).1 = k := by
    have := congrArg (fun l => l[k]?) (allX_val n)
    simp only [List.getElem?_map, h1, Option.map_some, List.getElem?_range h] at this
    exact Option.some.inj this
  rw [h1]
  congr 1
  exact Subtype.ext h2
def flatX (vs : List Value) {n : Nat} (l : List (Ix n)) : List Value := l.flatMap (encX vs)
theorem flatX_length (vs : List Value) {n : Nat} (l : List (Ix n)) : (flatX vs l).length = l.length * 2 := by
  induction l with
  | nil => rfl
  | cons i l ih => unfold flatX at *; rw [List.flatMap_cons, List.length_append, ih, List.length_cons]; simp [encX]; omega
theorem flatX_at (vs : List Value) {n : Nat} : ∀ (l : List (Ix n)) (k : Nat) (i : Ix n), l[k]? = some i → (flatX vs l)[k * 2]? = some (vs.getD (i.1 * 2) undef) ∧ (flatX vs l)[k * 2 + 1]? = some (vs.getD (i.1 * 2 + 1) undef)
  | [], _, _, h => by simp at h
  | j :: l, 0, i, h => by
    simp only [List.getElem?_cons_zero, Option.some.injEq] at h
    subst h
    exact ⟨rfl, rfl⟩
  | j :: l, k + 1, i, h => by
    simp only [List.getElem?_cons_succ] at h
    have := flatX_at vs l k i h
    have e : (k + 1) * 2 = k * 2 + 1 + 1 := by omega
    rw [e]
    unfold flatX at *
    rw [List.flatMap_cons]
    simpa [encX] using this
theorem flat_X (vs : List Value) {n : Nat} [Inhabited (Ix n)] (l : List (Ix n)) : flatK (encX vs) 2 l.toArray = (flatX vs l).toArray := by
  apply Array.ext_getElem?
  intro t
  by_cases ht : t < l.length * 2
  · have h1 : (flatK (encX vs) 2 l.toArray)[t]? = some (flatK (encX vs) 2 l.toArray)[t]! := by
      rw [getElem!_pos _ t (by simpa using ht)]; exact Array.getElem?_eq_getElem _
    rw [h1, get_flatK _ _ _ _ (by simpa using ht)]
    have hk : t / 2 < l.length := by omega
    have e3 : l.toArray[t / 2]! = l[t / 2]'hk := by simp [hk]
    obtain ⟨e1, e2⟩ := flatX_at vs l (t / 2) _ (List.getElem?_eq_getElem hk)
    rw [e3, List.getElem?_toArray]
    rcases Nat.mod_two_eq_zero_or_one t with h | h
    · rw [h, show (flatX vs l)[t]? = (flatX vs l)[t / 2 * 2]? by congr 1; omega, e1]
      rfl
    · rw [h, show (flatX vs l)[t]? = (flatX vs l)[t / 2 * 2 + 1]? by congr 1; omega, e2]
      rfl
  · rw [Array.getElem?_eq_none (by simp; omega), Array.getElem?_eq_none (by simp [flatX_length]; omega)]
theorem flatX_all {vs : List Value} {n : Nat} (h : vs.length = n * 2) : flatX vs (allX n) = vs := by
  apply List.ext_getElem?
  intro t
  by_cases ht : t < n * 2
  · obtain ⟨e1, e2⟩ := flatX_at vs (allX n) (t / 2) ⟨t / 2, by omega⟩ (allX_at (by omega))
    simp only at e1 e2
    have hv : vs[t]? = some (vs.getD t undef) := by rw [List.getD_eq_getElem?_getD, List.getElem?_eq_getElem (by omega)]; rfl
    rw [hv]
    rcases Nat.mod_two_eq_zero_or_one t with h0 | h0
    · have e : t / 2 * 2 = t := by omega
      rw [e] at e1
      exact e1
    · have e : t / 2 * 2 + 1 = t := by omega
      rw [e] at e2
      exact e2
  · rw [List.getElem?_eq_none (by rw [flatX_length, allX_length]; omega), List.getElem?_eq_none (by omega)]
end Go.Proofs.Ytdpjcjnednmoeaa

namespace Go.Proofs.Ytdpjcjnednmoeaa
open Go.RowKit Go.Shelf Go.Sort

def encC1 (vs : List Value) {n : Nat} (i : Ix n) : Value := vs.getD i.1 undef
theorem putRowC_map {n : Nat} [Inhabited (Ix n)] (vs : List Value) (W : World) (g : Nat) (l : List (Ix n)) : putRow (encC1 vs) W g 0 l.toArray = putRow id W g 0 (l.map (encC1 vs)).toArray := by
  unfold putRow
  congr 1
  funext cur
  unfold putCells
  congr 1
  funext k x
  by_cases h : k < l.length
  · rw [if_pos (by simp [h]), if_pos (by simp [h]), getElem!_pos l.toArray (k - 0) (by simpa using h), getElem!_pos (l.map (encC1 vs)).toArray (k - 0) (by simpa using h)]
    simp
  · rw [if_neg (by simp; omega), if_neg (by simp; omega)]
theorem mapC_all {vs : List Value} {n : Nat} (h : vs.length = n) : (allX n).map (encC1 vs) = vs := by
  have : (allX n).map (encC1 vs) = (List.range n).map (fun k => vs.getD k undef) := by rw [← allX_val n, List.map_map]; rfl
  rw [this]
  apply List.ext_getElem?
  intro k
  rcases Nat.lt_or_ge k n with hk | hk
  · rw [List.getElem?_map, List.getElem?_range hk, Option.map_some, List.getD_eq_getElem?_getD, List.getElem?_eq_getElem (by omega)]; rfl
  · rw [List.getElem?_eq_none (by simp; omega), List.getElem?_eq_none (by omega)]

theorem sortXC_any {n : Nat} (cf : Ix n → Ix n → Int) (hO : SWO (ltOf cf)) (hT : ∀ x y, (ltOf cf) x y = false → (ltOf cf) y x = false → x = y)
    (f : Nat) (ef : ∀ args w, (callFunc f args).run Try.prog w = .ok (.enter f args) w) (B S g c : Nat) (vs : List Value) (w : World) (ho : w.ownsRow B 44 1 (.slice (some ⟨g, 0, none⟩) n c) n vs) (_hS : g < S) (hpos : 0 < n)
    (h1 : ∀ v ∈ vs, v.oneCell' = true) (hcmp : ∀ (W : World), w.grownBy W (some g) → ∀ x y : Ix n, Calls Try.prog f #[encC1 vs x, encC1 vs y] W fun e w' => e = .returned (.int .i64 (cf x y)) ∧ Laid W w') (hb : n ≤ 1048576) :
    Calls Try.prog 53 #[.slice (some ⟨g, 0, none⟩) n c, .func (.func f) #[] #[]] w fun e w' => e = .returned (.tuple #[]) ∧
      w'.ownsRow B 44 1 (.slice (some ⟨g, 0, none⟩) n c) n (((allX n).mergeSort fun x y => !(ltOf cf) y x).map (encC1 vs)) ∧ w.grownBy w' (some g) := by
  haveI : Inhabited (Ix n) := ⟨⟨0, hpos⟩⟩
  have hvl : vs.length = n := by have := ho.1; omega
  rcases ho.2 with ⟨_, h2⟩ | ⟨g', cap, cur, hv, hg, hh, hn, hm, hs, ht⟩
  · omega
  · simp only [Value.slice.injEq, Option.some.injEq, Addr.mk.injEq] at hv
    obtain ⟨⟨rfl, _⟩, _, rfl⟩ := hv
    have hgz : g < w.heap.size := (Array.getElem?_eq_some_iff.1 hh).1
    have hll : (allX n).toArray.size = n := by simp [allX_length]
    have hH : Holds (encC1 vs) w g 0 (allX n).toArray := by
      intro j hj
      have hj' : j < n := by simpa [allX_length] using hj
      rw [Nat.zero_add]
      refine ⟨?_, ho.frozenAt _⟩
      rw [ho.cellAt j (by omega)]
      have e : (allX n).toArray[j]! = ⟨j, hj'⟩ := by
        rw [getElem!_pos (allX n).toArray j hj]
        have := allX_at hj'
        rw [List.getElem?_eq_getElem (by rw [allX_length]; exact hj')] at this
        simpa using Option.some.inj this
      rw [e]
      show _ = some (vs.getD j undef)
      rw [List.getD_eq_getElem?_getD, List.getElem?_eq_getElem (by omega)]
      rfl
    have h1' : OneCell (encC1 (n := n) vs) := by
      intro x
      have hx := x.2
      refine h1 _ ?_
      unfold encC1
      rw [List.getD_eq_getElem?_getD, List.getElem?_eq_getElem (by omega)]
      exact List.getElem_mem _
    have key := Any.slices_SortFunc_total laysSortCC (encC1 vs) h1' cf hO f #[] g 0 c (allX n).toArray w ef
      (by
        intro m os dk hdk x y
        refine (hcmp _ ?_ x y).mono ?_
        · unfold sortWorld
          rw [show dk = dk.toList.toArray from rfl, putRowC_map]
          exact grownBy_sortedV _
        · rintro e w' ⟨he, q, os', hw⟩
          exact ⟨he, q, os', hw⟩) hH hgz (by rw [hll]; omega) hT
    rw [hll] at key
    refine Calls.mono key ?_
    rintro e w' ⟨rfl, m, os, rfl⟩
    generalize hso : ((allX n).mergeSort fun x y => !(ltOf cf) y x) = so
    have hsl : so.length = n := by rw [← hso, List.length_mergeSort, allX_length]
    have hlen : (so.map (encC1 vs)).length = n := by rw [List.length_map, hsl]
    have hnew := heap_sortedV (n := m) (os := os) (so.map (encC1 vs)).toArray hh
    have hgr := grownBy_sortedV (w := w) (g := g) (n := m) (os := os) (so.map (encC1 vs)).toArray
    unfold sortWorld
    rw [putRowC_map]
    refine ⟨rfl, ⟨by rw [hlen]; omega, .inr ⟨g, c, _, rfl, hg, hnew, hn, hm, by simp [putCells, hs], ?_⟩⟩, hgr⟩
    have := take_putCellsV cur (so.map (encC1 vs)) (by rw [hlen, hs]; omega)
    rw [hlen] at this
    simpa using this
theorem sortCC_any (B S : Nat) (a : Option Addr) (n c : Nat) (xs : List (List (Int × Int))) (w : World) (ho : CCO w B S a n c xs) (hg : GoodCC xs) (hlow : ∀ p ∈ xs, LowL p) (hb : n ≤ 1048576) :
    Calls Try.prog 53 #[.slice a n c, .func (.func 54) #[] #[]] w fun e w' => e = .returned (.tuple #[]) ∧
      ∃ xs', xs'.Perm xs ∧ xs'.Pairwise (fun p q => lessD p q = true) ∧ CCO w' B S a n c xs' ∧ Only B S w w' := by
  have hlen := ho.len
  rcases Nat.eq_zero_or_pos n with h0 | h0
  · subst h0
    have hx : xs = [] := List.length_eq_zero_iff.1 hlen
    subst hx
    refine Calls.mono (AnyF.slices_SortFunc_none laysSortCC0 a c _ w) ?_
    rintro e w' ⟨rfl, rfl⟩
    exact ⟨rfl, [], List.Perm.refl _, List.Pairwise.nil, ho, Only.refl _ _ _⟩
  obtain ⟨vs, h1, h2, h3⟩ := ho
  rcases ownsRow_shape h1 with ⟨hn0, _⟩ | ⟨g, rfl, hBg, hgw, hcell, cur, hcur⟩
  · omega
  have hgS : g < S := h2 g rfl
  have hvl : vs.length = n := by rw [h3.len]; exact hlen
  have hx : ∀ k, k < n → xs[k]? = some (xs.getD k []) := fun k hk => by
    rw [List.getD_eq_getElem?_getD, List.getElem?_eq_getElem (by omega)]; rfl
  have ev : ∀ k, k < n → ∃ a' c', vs.getD k undef = .slice a' (xs.getD k []).length c' ∧ CO w B S a' (xs.getD k []).length c' (xs.getD k []) := by
    intro k hk
    obtain ⟨a', c', e1, e3⟩ := h3.each k _ (hx k hk)
    exact ⟨a', c', by rw [List.getD_eq_getElem?_getD, e1]; rfl, e3⟩
  have hdig : ∀ k, k < n → (xs.getD k []).length ≤ 1048576 := fun k hk => hg.each _ (List.mem_of_getElem? (hx k hk))
  have hlo : ∀ k, k < n → LowL (xs.getD k []) := fun k hk => hlow _ (List.mem_of_getElem? (hx k hk))
  let cf : Ix n → Ix n → Int := fun i j => cmpD (xs.getD i.1 []) (xs.getD j.1 [])
  have hlt : ∀ i j : Ix n, ltOf cf i j = lessD (xs.getD i.1 []) (xs.getD j.1 []) := by
    intro i j
    exact cmpD_less _ _
  have hO : SWO (ltOf cf) := by
    refine ⟨fun x => ?_, fun x y z p q => ?_, fun x y z p q => ?_⟩
    · rw [hlt]; exact lessD_irrefl _
    · rw [hlt] at *; exact lessD_trans p q
    · rw [hlt] at *; exact lessD_neg p q
  have hT : ∀ x y : Ix n, ltOf cf x y = false → ltOf cf y x = false → x = y := by
    intro x y p q
    rw [hlt] at *
    exact Subtype.ext (hg.apart x.1 y.1 _ _ (hx _ x.2) (hx _ y.2) (lessD_total p q))
  have hone : ∀ v ∈ vs, v.oneCell' = true := by
    intro v hv
    obtain ⟨t, ht⟩ := List.getElem?_of_mem hv
    have htl := lt_of_some ht
    obtain ⟨a', c', e1, _⟩ := ev t (by omega)
    rw [List.getD_eq_getElem?_getD, ht] at e1
    simp only [Option.getD_some] at e1
    rw [e1]; rfl
  have hcmp : ∀ (W : World), w.grownBy W (some g) → ∀ x y : Ix n, Calls Try.prog 54 #[encC1 vs x, encC1 vs y] W fun e w' => e = .returned (.int .i64 (cf x y)) ∧ Laid W w' := by
    intro W hW x y
    obtain ⟨a1, c1, e1, e3⟩ := ev x.1 x.2
    obtain ⟨a2, c2, f1, f3⟩ := ev y.1 y.2
    have keep : ∀ {a0 : Option Addr} {l0 c0 : Nat} {zs : List (Int × Int)}, CO w B S a0 l0 c0 zs → RC W a0 zs := fun hio => (hio.kept hW (fun k hk e => neC_block h1 hio k e hk)).rd
    unfold encC1
    rw [e1, f1]
    have hd1 := hdig x.1 x.2
    have hd2 := hdig y.1 y.2
    exact byDreams_any a1 a2 _ c1 _ c2 _ _ W (keep e3) (keep f3) rfl rfl (by omega) (by omega) (hlo x.1 x.2) (hlo y.1 y.2)
  refine (sortXC_any cf hO hT 54 (fun args w => by kernel_rfl) B S g c vs w h1 hgS h0 hone hcmp hb).mono ?_
  rintro e w' ⟨rfl, hown, hgr⟩
  generalize hso : ((allX n).mergeSort fun x y => !(ltOf cf) y x) = so at hown
  have hperm : so.Perm (allX n) := by rw [← hso]; exact List.mergeSort_perm _ _
  have hsl : so.length = n := by rw [hperm.length_eq, allX_length]
  have hsorted : so.Pairwise fun x y => (!(ltOf cf) y x) = true := by
    rw [← hso]
    refine List.pairwise_mergeSort (fun x y z p q => ?_) (fun x y => ?_) _
    · simp only [Bool.not_eq_true'] at *
      rw [hlt] at *
      exact lessD_neg q p
    · simp only [Bool.or_eq_true, Bool.not_eq_true']
      rw [hlt, hlt]
      cases h1 : lessD (xs.getD y.1 []) (xs.getD x.1 []) with
      | false => exact .inl rfl
      | true =>
        right
        cases h2 : lessD (xs.getD x.1 []) (xs.getD y.1 []) with
        | false => rfl
        | true => have := lessD_trans h1 h2; rw [lessD_irrefl] at this; cases this
  have hnd : so.Nodup := by
    rw [hperm.nodup_iff]
    have h9 : ((allX n).map fun i => i.1).Nodup := by rw [allX_val]; exact List.nodup_range
    rw [List.Nodup, List.pairwise_map] at h9
    exact h9.imp fun h e => h (by rw [e])
  have hxs : (allX n).map (fun i => xs.getD i.1 []) = xs := by
    have : (allX n).map (fun i => xs.getD i.1 []) = (List.range n).map (fun k => xs.getD k []) := by rw [← allX_val n, List.map_map]; rfl
    rw [this]
    apply List.ext_getElem?
    intro k
    rcases Nat.lt_or_ge k n with hk | hk
    · rw [List.getElem?_map, List.getElem?_range hk, hx k hk]; rfl
    · rw [List.getElem?_eq_none (by simp; omega), List.getElem?_eq_none (by omega)]
  have vat : ∀ (i : Nat) (u : Value), (so.map (encC1 vs))[i]? = some u → ∃ x : Ix n, so[i]? = some x ∧ vs[x.1]? = some u := by
    intro i u hu
    rw [List.getElem?_map] at hu
    obtain ⟨x, hx, rfl⟩ := Option.map_eq_some_iff.1 hu
    refine ⟨x, hx, ?_⟩
    have hx2 := x.2
    unfold encC1
    rw [List.getD_eq_getElem?_getD, List.getElem?_eq_getElem (by omega)]
    rfl
  refine ⟨rfl, so.map (fun i => xs.getD i.1 []), ?_, ?_, ⟨_, hown, h2, ?_, ?_, ?_⟩, ?_⟩
  · have := hperm.map (fun i : Ix n => xs.getD i.1 [])
    rw [hxs] at this
    exact this
  · rw [List.pairwise_map]
    refine (hsorted.and hnd).imp fun {x y} ⟨p, q⟩ => ?_
    simp only [Bool.not_eq_true'] at p
    rw [hlt] at p
    cases h2 : lessD (xs.getD x.1 []) (xs.getD y.1 []) with
    | true => rfl
    | false => exact absurd (Subtype.ext (hg.apart x.1 y.1 _ _ (hx _ x.2) (hx _ y.2) (lessD_total h2 p))) q
  · rw [List.length_map, List.length_map]
  · intro k p hp
    rw [List.getElem?_map] at hp
    obtain ⟨i, hi, rfl⟩ := Option.map_eq_some_iff.1 hp
    obtain ⟨a', c', e1, e3⟩ := ev i.1 i.2
    refine ⟨a', c', ?_, ?_⟩
    · rw [List.getElem?_map, hi, Option.map_some]
      exact congrArg some e1
    · exact e3.kept hgr (fun k hk e => neC_block h1 e3 k e hk)
  · intro i j u v b hu hv hub hvb
    obtain ⟨x, hx, hxu⟩ := vat i u hu
    obtain ⟨y, hy, hyv⟩ := vat j v hv
    have hxy := h3.apart x.1 y.1 u v b hxu hyv hub hvb
    have : x = y := Subtype.ext hxy
    subst this
    obtain ⟨hi, rfl⟩ := List.getElem?_eq_some_iff.1 hx
    obtain ⟨hj, hje⟩ := List.getElem?_eq_some_iff.1 hy
    have hpw := List.pairwise_iff_getElem.1 hnd
    rcases Nat.lt_trichotomy i j with h | h | h
    · exact absurd hje.symm (hpw i j hi hj h)
    · exact h
    · exact absurd hje (hpw j i hj hi h)
  · exact Only.of_grown (v := .slice (some ⟨g, 0, none⟩) n c) hgr (fun k hk => by simp [Value.ownBlock] at hk; omega) (fun k hk => by simp [Value.ownBlock] at hk; omega)
end Go.Proofs.Ytdpjcjnednmoeaa

namespace Go.Proofs.Ytdpjcjnednmoeaa
open Go.RowKit

set_option maxRecDepth 100000 in
set_option maxHeartbeats 1600000 in
theorem indexC_any (a : Option Addr) (n c : Nat) (xs : List (Int × Int)) (p q : Int) (w : World) (hr : RC w a xs) (hn : xs.length = n) (hb : n ≤ 1048576) :
    Calls Try.prog 59 #[.slice a n c, .agg #[.int .i64 p, .int .i64 q]] w fun e w' => ∃ r : Int, e = .returned (.int .i64 r) ∧ Hid (decide (0 ≤ r) = hasC xs p q) ∧ Below w.heap.size w w' := by
  have Hn := Lib.hid hn; clear hn
  have hB0 : Below w.heap.size w (w.alloc (.cells #[.int .i64 p, .int .i64 q] 52)) := (Below.refl _ _).alloc (Nat.le_refl _) _
  have g0 : (w.alloc (.cells #[.int .i64 p, .int .i64 q] 52)).heap[w.heap.size]? = some (.cells #[.int .i64 p, .int .i64 q] 52) := heap_alloc_new w _
  have y0 : (w.alloc (.cells #[.int .i64 p, .int .i64 q] 52)).cell? ⟨w.heap.size, 0, none⟩ = some (.int .i64 p) := by rw [cell_of_row _ _ 0 _ _ (0, 0) g0]; rfl
  have y1 : (w.alloc (.cells #[.int .i64 p, .int .i64 q] 52)).cell? ⟨w.heap.size, 1, none⟩ = some (.int .i64 q) := by rw [cell_of_row _ _ 1 _ _ (0, 0) g0]; rfl
  clear g0
  go_enter Try.func59, Try.ntmps59
  go_wp2
  go_loopw [8] (fun iv wr => Hid (∃ k : Nat, k ≤ n ∧ iv = .int .i64 k ∧ ∀ j, j < k → xs[j]? ≠ some (p, q)) ∧ Drew (w.alloc (.cells #[.int .i64 p, .int .i64 q] 52)) wr) (fun iv _ => n - (intOf iv).toNat)
  case atStart => exact ⟨⟨0, Nat.zero_le _, rfl, fun j hj => by omega⟩, Drew.refl _⟩
  case round =>
    obtain ⟨HV, hd⟩ := hrel
    obtain ⟨wo, rfl⟩ : ∃ wo : World, wo = wr := ⟨_, rfl⟩
    obtain ⟨k, hk, rfl, hno⟩ := HV.out
    clear HV
    have hB := hB0.trans (hd.below w.heap.size)
    have z0 : wo.cell? ⟨w.heap.size, 0, none⟩ = some (.int .i64 p) := by rw [hd.cell]; exact y0
    have z1 : wo.cell? ⟨w.heap.size, 1, none⟩ = some (.int .i64 q) := by rw [hd.cell]; exact y1
    by_cases hlt : k < n
    · obtain ⟨b, off, rfl, hcell⟩ := (hr.below hB).at (k := k) (by rw [Hn.out]; exact hlt)
      obtain ⟨u, v, hx⟩ := pair_at Hn.out hlt
      obtain ⟨hc1, hc2⟩ := hcell _ _ hx
      simp only at hc1 hc2
      have q1 : (k : Int) < (n : Int) := by omega
      have Hx := Lib.hid hx
      have Hno := Lib.hid hno
      clear hcell hx hno y0 y1
      by_cases he : (u, v) = (p, q)
      · have hm : xs.contains (p, q) = true := List.contains_iff_mem.2 (List.mem_of_getElem? (by rw [Hx.out, he]))
        have Hm := Lib.hid hm
        have e1 : (p == u) = true := by simp only [Prod.mk.injEq] at he; simp [he.1]
        have e2 : (q == v) = true := by simp only [Prod.mk.injEq] at he; simp [he.2]
        clear he hm
        go_wp2
        go_quiet (fail)
        go_wp2
        go_ret
        exact ⟨_, rfl, (show decide ((0 : Int) ≤ (k : Int)) = xs.contains (p, q) by rw [Hm.out]; simp), hB.trans (Drew.below (Drew.drewN wo nq) _)⟩
      · have hno2 := Lib.hid (show ∀ j, j < k + 1 → xs[j]? ≠ some (p, q) from fun j hj => by
          rcases Nat.lt_or_ge j k with h | h
          · exact Hno.out j h
          · obtain rfl : j = k := by omega
            rw [Hx.out]
            exact fun e => he (Option.some.inj e))
        have hd2 := hd.trans (Drew.drewN wo 1)
        by_cases h1 : u = p
        · have h2 : v ≠ q := fun e => he (by rw [h1, e])
          have e1 : (p == u) = true := by simp [h1]
          have e2 : (q == v) = false := by simp only [beq_eq_false_iff_ne]; exact fun e => h2 e.symm
          clear he h1 h2 hd2
          go_wp2
          go_quiet (fail)
          go_wp2
          go_roundw
          case rel => exact ⟨⟨k + 1, by omega, by go_num, hno2.out⟩, hd.trans (Drew.drewN wo nq)⟩
          case measure => simp [intOf]; omega
        · have e1 : (p == u) = false := by simp only [beq_eq_false_iff_ne]; exact fun e => h1 e.symm
          clear he h1 hd2
          go_wp2
          go_quiet (fail)
          go_wp2
          go_roundw
          case rel => exact ⟨⟨k + 1, by omega, by go_num, hno2.out⟩, hd.trans (Drew.drewN wo nq)⟩
          case measure => simp [intOf]; omega
    · obtain rfl : k = n := by omega
      have Hm := Lib.hid (contains_no Hn.out hno)
      go_wp2
      go_ret
      exact ⟨_, rfl, (show decide ((0 : Int) ≤ -1) = xs.contains (p, q) by rw [Hm.out]; simp), hB⟩
set_option maxRecDepth 100000 in
set_option maxHeartbeats 1600000 in
theorem containsC_any (a : Option Addr) (n c : Nat) (xs : List (Int × Int)) (p q : Int) (w : World) (hr : RC w a xs) (hn : xs.length = n) (hb : n ≤ 1048576) :
    Calls Try.prog 48 #[.slice a n c, .agg #[.int .i64 p, .int .i64 q]] w fun e w' => e = .returned (.bool (hasC xs p q)) ∧ Below w.heap.size w w' := by
  have Hn := Lib.hid hn; clear hn
  have hB0 : Below w.heap.size w (w.alloc (.cells #[.int .i64 p, .int .i64 q] 52)) := (Below.refl _ _).alloc (Nat.le_refl _) _
  have hr0 := hr.below hB0
  go_enter Try.func48, Try.ntmps48
  go_wp2_with fail
  refine (indexC_any _ _ _ xs p q _ hr0 Hn.out hb).mono ?_
  rintro e w1 ⟨r, rfl, hr1, hb1⟩
  have hB1 := hB0.trans (hb1.mono hB0.size)
  have Hr := Lib.hid hr1.out
  clear hr1
  go_wp2
  go_ret
  exact ⟨ret_bool (by rw [← Hr.out]), hB1⟩
end Go.Proofs.Ytdpjcjnednmoeaa

namespace Go.Proofs.Ytdpjcjnednmoeaa
open Go.RowKit

set_option maxRecDepth 100000 in
set_option maxHeartbeats 1600000 in
theorem ladIs_any (G : Nat) (a : Option Addr) (n c : Nat) (xs : List (Int × Int)) (p q : Int) (w : World) (hG : w.cell? ⟨G, 0, none⟩ = some (.slice a n c)) (hr : RC w a xs) (hn : xs.length = n) (hb : n ≤ 1048576) :
    Calls Try.prog 47 #[.int .i64 p, .int .i64 q, .pointer (some ⟨G, 0, none⟩)] w fun e w' => e = .returned (.bool (hasC xs p q)) ∧ Below w.heap.size w w' := by
  have Hn := Lib.hid hn; clear hn
  go_enter Try.func47, Try.ntmps47
  go_wp2_with fail
  refine (containsC_any _ _ _ xs p q _ hr Hn.out hb).mono ?_
  rintro e w1 ⟨rfl, hb1⟩
  go_wp2
  go_ret
  exact ⟨rfl, hb1⟩
end Go.Proofs.Ytdpjcjnednmoeaa
