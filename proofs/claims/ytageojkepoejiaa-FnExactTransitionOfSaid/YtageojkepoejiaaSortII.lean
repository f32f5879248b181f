/-
  Contract of slices.SortFunc at a row of int slices of the call's own, by slices.Compare; given by the kit's shelf.
-/
import Derived.Test.YtageojkepoejiaaSortLayII
import Derived.Test.YtageojkepoejiaaSortLayII0
import Derived.Test.YtageojkepoejiaaIxs
import Derived.Test.YtageojkepoejiaaKII2
import Derived.Test.YtageojkepoejiaaInsL
namespace Go.Proofs.Ytageojkepoejiaa
open Go.RowKit Go.Shelf Go.Sort

def enc1 (vs : List Value) {n : Nat} (i : Ix n) : Value := vs.getD i.1 undef
theorem putRow_map {n : Nat} [Inhabited (Ix n)] (vs : List Value) (W : World) (g : Nat) (l : List (Ix n)) : putRow (enc1 vs) W g 0 l.toArray = putRow id W g 0 (l.map (enc1 vs)).toArray := by
  unfold putRow
  congr 1
  funext cur
  unfold putCells
  congr 1
  funext k x
  by_cases h : k < l.length
  · rw [if_pos (by simp [h]), if_pos (by simp [h]), getElem!_pos l.toArray (k - 0) (by simpa using h), getElem!_pos (l.map (enc1 vs)).toArray (k - 0) (by simpa using h)]
    simp
  · rw [if_neg (by simp; omega), if_neg (by simp; omega)]
theorem map_all {vs : List Value} {n : Nat} (h : vs.length = n) : (allX n).map (enc1 vs) = vs := by
  have : (allX n).map (enc1 vs) = (List.range n).map (fun k => vs.getD k undef) := by rw [← allX_val n, List.map_map]; rfl
  rw [this]
  apply List.ext_getElem?
  intro k
  rcases Nat.lt_or_ge k n with hk | hk
  · rw [List.getElem?_map, List.getElem?_range hk, Option.map_some, List.getD_eq_getElem?_getD, List.getElem?_eq_getElem (by omega)]; rfl
  · rw [List.getElem?_eq_none (by simp; omega), List.getElem?_eq_none (by omega)]

theorem sortX1_any {n : Nat} (cf : Ix n → Ix n → Int) (hO : SWO (ltOf cf)) (hT : ∀ x y, (ltOf cf) x y = false → (ltOf cf) y x = false → x = y)
    (f : Nat) (ef : ∀ args w, (callFunc f args).run Try.prog w = .ok (.enter f args) w) (B S g c : Nat) (vs : List Value) (w : World) (ho : w.ownsRow B 22 1 (.slice (some ⟨g, 0, none⟩) n c) n vs) (_hS : g < S) (hpos : 0 < n)
    (h1 : ∀ v ∈ vs, v.oneCell' = true) (hcmp : ∀ (W : World), w.grownBy W (some g) → ∀ x y : Ix n, Calls Try.prog f #[enc1 vs x, enc1 vs y] W fun e w' => e = .returned (.int .i64 (cf x y)) ∧ Laid W w') (hb : n ≤ 1048576) :
    Calls Try.prog 42 #[.slice (some ⟨g, 0, none⟩) n c, .func (.func f) #[] #[]] w fun e w' => e = .returned (.tuple #[]) ∧
      w'.ownsRow B 22 1 (.slice (some ⟨g, 0, none⟩) n c) n (((allX n).mergeSort fun x y => !(ltOf cf) y x).map (enc1 vs)) ∧ w.grownBy w' (some g) := by
  haveI : Inhabited (Ix n) := ⟨⟨0, hpos⟩⟩
  have hvl : vs.length = n := by have := ho.1; omega
  rcases ho.2 with ⟨_, h2⟩ | ⟨g', cap, cur, hv, hg, hh, hn, hm, hs, ht⟩
  · omega
  · simp only [Value.slice.injEq, Option.some.injEq, Addr.mk.injEq] at hv
    obtain ⟨⟨rfl, _⟩, _, rfl⟩ := hv
    have hgz : g < w.heap.size := (Array.getElem?_eq_some_iff.1 hh).1
    have hll : (allX n).toArray.size = n := by simp [allX_length]
    have hH : Holds (enc1 vs) w g 0 (allX n).toArray := by
      intro j hj
      have hj' : j < n := by simpa [allX_length] using hj
      rw [Nat.zero_add]
      refine ⟨?_, ho.frozenAt _⟩
      rw [ho.cellAt j (by omega)]
      have e : (allX n).toArray[j]! = ⟨j, hj'⟩ := by
        rw [getElem!_pos (allX n).toArray j hj]
        have := allX_at hj'
        rw [List.getElem?_eq_getElem (by rw [allX_length]; exact hj')] at this
        simpa using Option.some.inj this
      rw [e]
      show _ = some (vs.getD j undef)
      rw [List.getD_eq_getElem?_getD, List.getElem?_eq_getElem (by omega)]
      rfl
    have h1' : OneCell (enc1 (n := n) vs) := by
      intro x
      have hx := x.2
      refine h1 _ ?_
      unfold enc1
      rw [List.getD_eq_getElem?_getD, List.getElem?_eq_getElem (by omega)]
      exact List.getElem_mem _
    have key := Any.slices_SortFunc_total laysSortII (enc1 vs) h1' cf hO f #[] g 0 c (allX n).toArray w ef
      (by
        intro m os dk hdk x y
        refine (hcmp _ ?_ x y).mono ?_
        · unfold sortWorld
          rw [show dk = dk.toList.toArray from rfl, putRow_map]
          exact grownBy_sortedV _
        · rintro e w' ⟨he, q, os', hw⟩
          exact ⟨he, q, os', hw⟩) hH hgz (by rw [hll]; omega) hT
    rw [hll] at key
    refine Calls.mono key ?_
    rintro e w' ⟨rfl, m, os, rfl⟩
    generalize hso : ((allX n).mergeSort fun x y => !(ltOf cf) y x) = so
    have hsl : so.length = n := by rw [← hso, List.length_mergeSort, allX_length]
    have hlen : (so.map (enc1 vs)).length = n := by rw [List.length_map, hsl]
    have hnew := heap_sortedV (n := m) (os := os) (so.map (enc1 vs)).toArray hh
    have hgr := grownBy_sortedV (w := w) (g := g) (n := m) (os := os) (so.map (enc1 vs)).toArray
    unfold sortWorld
    rw [putRow_map]
    refine ⟨rfl, ⟨by rw [hlen]; omega, .inr ⟨g, c, _, rfl, hg, hnew, hn, hm, by simp [putCells, hs], ?_⟩⟩, hgr⟩
    have := take_putCellsV cur (so.map (enc1 vs)) (by rw [hlen, hs]; omega)
    rw [hlen] at this
    simpa using this
theorem sortII_any (B S : Nat) (a : Option Addr) (n c : Nat) (xs : List (List Int)) (w : World) (ho : IIO w B S a n c xs) (hg : GoodII xs) (hb : n ≤ 1048576) :
    Calls Try.prog 42 #[.slice a n c, .func (.func 43) #[] #[]] w fun e w' => e = .returned (.tuple #[]) ∧
      ∃ xs', xs'.Perm xs ∧ xs'.Pairwise (fun p q => less p q = true) ∧ IIO w' B S a n c xs' ∧ Only B S w w' := by
  have hlen := ho.len
  rcases Nat.eq_zero_or_pos n with h0 | h0
  · subst h0
    have hx : xs = [] := List.length_eq_zero_iff.1 hlen
    subst hx
    refine Calls.mono (AnyF.slices_SortFunc_none laysSortII0 a c _ w) ?_
    rintro e w' ⟨rfl, rfl⟩
    exact ⟨rfl, [], List.Perm.refl _, List.Pairwise.nil, ho, Only.refl _ _ _⟩
  obtain ⟨vs, h1, h2, h3⟩ := ho
  rcases ownsRow_shape h1 with ⟨hn0, _⟩ | ⟨g, rfl, hBg, hgw, hcell, cur, hcur⟩
  · omega
  have hgS : g < S := h2 g rfl
  have hvl : vs.length = n := by rw [h3.len]; exact hlen
  have hx : ∀ k, k < n → xs[k]? = some (xs.getD k []) := fun k hk => by
    rw [List.getD_eq_getElem?_getD, List.getElem?_eq_getElem (by omega)]; rfl
  have ev : ∀ k, k < n → ∃ a' c', vs.getD k undef = .slice a' (xs.getD k []).length c' ∧ OwI w B S a' (xs.getD k []).length c' (xs.getD k []) := by
    intro k hk
    obtain ⟨a', c', e1, e3⟩ := h3.each k _ (hx k hk)
    exact ⟨a', c', by rw [List.getD_eq_getElem?_getD, e1]; rfl, e3⟩
  have hdig : ∀ k, k < n → (xs.getD k []).length ≤ 1048576 := fun k hk => hg.each _ (List.mem_of_getElem? (hx k hk))
  let cf : Ix n → Ix n → Int := fun i j => order (xs.getD i.1 []) (xs.getD j.1 [])
  have hlt : ∀ i j : Ix n, ltOf cf i j = less (xs.getD i.1 []) (xs.getD j.1 []) := by
    intro i j
    rw [less_order]
    rfl
  have hO : SWO (ltOf cf) := by
    refine ⟨fun x => ?_, fun x y z p q => ?_, fun x y z p q => ?_⟩
    · rw [hlt]; exact less_irrefl _
    · rw [hlt] at *; exact less_trans p q
    · rw [hlt] at *; exact less_neg p q
  have hT : ∀ x y : Ix n, ltOf cf x y = false → ltOf cf y x = false → x = y := by
    intro x y p q
    rw [hlt] at *
    exact Subtype.ext (hg.apart x.1 y.1 _ _ (hx _ x.2) (hx _ y.2) (less_total p q))
  have hone : ∀ v ∈ vs, v.oneCell' = true := by
    intro v hv
    obtain ⟨t, ht⟩ := List.getElem?_of_mem hv
    have htl := lt_of_some ht
    obtain ⟨a', c', e1, _⟩ := ev t (by omega)
    rw [List.getD_eq_getElem?_getD, ht] at e1
    simp only [Option.getD_some] at e1
    rw [e1]; rfl
  have hcmp : ∀ (W : World), w.grownBy W (some g) → ∀ x y : Ix n, Calls Try.prog 43 #[enc1 vs x, enc1 vs y] W fun e w' => e = .returned (.int .i64 (cf x y)) ∧ Laid W w' := by
    intro W hW x y
    obtain ⟨a1, c1, e1, e3⟩ := ev x.1 x.2
    obtain ⟨a2, c2, f1, f3⟩ := ev y.1 y.2
    have keep : ∀ {a0 : Option Addr} {l0 c0 : Nat} {zs : List Int}, OwI w B S a0 l0 c0 zs → RI W a0 zs := fun hio => (hio.1.kept hW (fun k hk e => ne_block h1 hio k e hk)).ri
    unfold enc1
    rw [e1, f1]
    have hd1 := hdig x.1 x.2
    have hd2 := hdig y.1 y.2
    refine (compare_any a1 a2 _ c1 _ c2 _ _ W (keep e3) (keep f3) rfl rfl (by omega) (by omega)).mono ?_
    rintro e w' ⟨rfl, rfl⟩
    exact ⟨rfl, Laid.refl _⟩
  refine (sortX1_any cf hO hT 43 (fun args w => by kernel_rfl) B S g c vs w h1 hgS h0 hone hcmp hb).mono ?_
  rintro e w' ⟨rfl, hown, hgr⟩
  generalize hso : ((allX n).mergeSort fun x y => !(ltOf cf) y x) = so at hown
  have hperm : so.Perm (allX n) := by rw [← hso]; exact List.mergeSort_perm _ _
  have hsl : so.length = n := by rw [hperm.length_eq, allX_length]
  have hsorted : so.Pairwise fun x y => (!(ltOf cf) y x) = true := by
    rw [← hso]
    refine List.pairwise_mergeSort (fun x y z p q => ?_) (fun x y => ?_) _
    · simp only [Bool.not_eq_true'] at *
      rw [hlt] at *
      exact less_neg q p
    · simp only [Bool.or_eq_true, Bool.not_eq_true']
      rw [hlt, hlt]
      cases h1 : less (xs.getD y.1 []) (xs.getD x.1 []) with
      | false => exact .inl rfl
      | true =>
        right
        cases h2 : less (xs.getD x.1 []) (xs.getD y.1 []) with
        | false => rfl
        | true => have := less_trans h1 h2; rw [less_irrefl] at this; cases this
  have hnd : so.Nodup := by
    rw [hperm.nodup_iff]
    have h9 : ((allX n).map fun i => i.1).Nodup := by rw [allX_val]; exact List.nodup_range
    rw [List.Nodup, List.pairwise_map] at h9
    exact h9.imp fun h e => h (by rw [e])
  have hxs : (allX n).map (fun i => xs.getD i.1 []) = xs := by
    have : (allX n).map (fun i => xs.getD i.1 []) = (List.range n).map (fun k => xs.getD k []) := by rw [← allX_val n, List.map_map]; rfl
    rw [this]
    apply List.ext_getElem?
    intro k
    rcases Nat.lt_or_ge k n with hk | hk
    · rw [List.getElem?_map, List.getElem?_range hk, hx k hk]; rfl
    · rw [List.getElem?_eq_none (by simp; omega), List.getElem?_eq_none (by omega)]
  have vat : ∀ (i : Nat) (u : Value), (so.map (enc1 vs))[i]? = some u → ∃ x : Ix n, so[i]? = some x ∧ vs[x.1]? = some u := by
    intro i u hu
    rw [List.getElem?_map] at hu
    obtain ⟨x, hx, rfl⟩ := Option.map_eq_some_iff.1 hu
    refine ⟨x, hx, ?_⟩
    have hx2 := x.2
    unfold enc1
    rw [List.getD_eq_getElem?_getD, List.getElem?_eq_getElem (by omega)]
    rfl
  refine ⟨rfl, so.map (fun i => xs.getD i.1 []), ?_, ?_, ⟨_, hown, h2, ?_, ?_, ?_⟩, ?_⟩
  · have := hperm.map (fun i : Ix n => xs.getD i.1 [])
    rw [hxs] at this
    exact this
  · rw [List.pairwise_map]
    refine (hsorted.and hnd).imp fun {x y} ⟨p, q⟩ => ?_
    simp only [Bool.not_eq_true'] at p
    rw [hlt] at p
    cases h2 : less (xs.getD x.1 []) (xs.getD y.1 []) with
    | true => rfl
    | false => exact absurd (Subtype.ext (hg.apart x.1 y.1 _ _ (hx _ x.2) (hx _ y.2) (less_total h2 p))) q
  · rw [List.length_map, List.length_map]
  · intro k p hp
    rw [List.getElem?_map] at hp
    obtain ⟨i, hi, rfl⟩ := Option.map_eq_some_iff.1 hp
    obtain ⟨a', c', e1, e3⟩ := ev i.1 i.2
    refine ⟨a', c', ?_, ?_⟩
    · rw [List.getElem?_map, hi, Option.map_some]
      exact congrArg some e1
    · exact ⟨e3.1.kept hgr (fun k hk e => ne_block h1 e3 k e hk), e3.2⟩
  · intro i j u v b hu hv hub hvb
    obtain ⟨x, hx, hxu⟩ := vat i u hu
    obtain ⟨y, hy, hyv⟩ := vat j v hv
    have hxy := h3.apart x.1 y.1 u v b hxu hyv hub hvb
    have : x = y := Subtype.ext hxy
    subst this
    obtain ⟨hi, rfl⟩ := List.getElem?_eq_some_iff.1 hx
    obtain ⟨hj, hje⟩ := List.getElem?_eq_some_iff.1 hy
    have hpw := List.pairwise_iff_getElem.1 hnd
    rcases Nat.lt_trichotomy i j with h | h | h
    · exact absurd hje.symm (hpw i j hi hj h)
    · exact h
    · exact absurd hje (hpw j i hj hi h)
  · exact Only.of_grown (v := .slice (some ⟨g, 0, none⟩) n c) hgr (fun k hk => by simp [Value.ownBlock] at hk; omega) (fun k hk => by simp [Value.ownBlock] at hk; omega)
end Go.Proofs.Ytageojkepoejiaa
