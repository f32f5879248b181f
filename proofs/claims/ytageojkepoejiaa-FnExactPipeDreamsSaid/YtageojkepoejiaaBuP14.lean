/-
  Contract of slices.SortFunc at a row of int slices of the call's own, by slices.Compare; given by the kit's shelf.
  Slices of slices of cells whose rows may share a block; append of a row.
-/
import Derived.Test.YtageojkepoejiaaBuP12
import Derived.Test.YtageojkepoejiaaBuP13
import Derived.Test.YtageojkepoejiaaBuP9
import Derived.Test.YtageojkepoejiaaBuP11
import Derived.Test.YtageojkepoejiaaBuP3
namespace Go.Proofs.Ytageojkepoejiaa
open Go.RowKit Go.Shelf Go.Sort

def encC1 (vs : List Value) {n : Nat} (i : Ix n) : Value := vs.getD i.1 undef
theorem putRowC_map {n : Nat} [Inhabited (Ix n)] (vs : List Value) (W : World) (g : Nat) (l : List (Ix n)) : putRow (encC1 vs) W g 0 l.toArray = putRow id W g 0 (l.map (encC1 vs)).toArray := by
  unfold putRow
  congr 1
  funext cur
  unfold putCells
  congr 1
  funext k x
  by_cases h : k < l.length
  · rw [if_pos (by simp [h]), if_pos (by simp [h]), getElem!_pos l.toArray (k - 0) (by simpa using h), getElem!_pos (l.map (encC1 vs)).toArray (k - 0) (by simpa using h)]
    simp
  · rw [if_neg (by simp; omega), if_neg (by simp; omega)]
theorem mapC_all {vs : List Value} {n : Nat} (h : vs.length = n) : (allX n).map (encC1 vs) = vs := by
  have : (allX n).map (encC1 vs) = (List.range n).map (fun k => vs.getD k undef) := by rw [← allX_val n, List.map_map]; rfl
  rw [this]
  apply List.ext_getElem?
  intro k
  rcases Nat.lt_or_ge k n with hk | hk
  · rw [List.getElem?_map, List.getElem?_range hk, Option.map_some, List.getD_eq_getElem?_getD, List.getElem?_eq_getElem (by omega)]; rfl
  · rw [List.getElem?_eq_none (by simp; omega), List.getElem?_eq_none (by omega)]

theorem sortXC_any {n : Nat} (cf : Ix n → Ix n → Int) (hO : SWO (ltOf cf)) (hT : ∀ x y, (ltOf cf) x y = false → (ltOf cf) y x = false → x = y)
    (f : Nat) (ef : ∀ args w, (callFunc f args).run Try.prog w = .ok (.enter f args) w) (B S g c : Nat) (vs : List Value) (w : World) (ho : w.ownsRow B 36 1 (.slice (some ⟨g, 0, none⟩) n c) n vs) (_hS : g < S) (hpos : 0 < n)
    (h1 : ∀ v ∈ vs, v.oneCell' = true) (hcmp : ∀ (W : World), w.grownBy W (some g) → ∀ x y : Ix n, Calls Try.prog f #[encC1 vs x, encC1 vs y] W fun e w' => e = .returned (.int .i64 (cf x y)) ∧ Laid W w') (hb : n ≤ 1048576) :
    Calls Try.prog 94 #[.slice (some ⟨g, 0, none⟩) n c, .func (.func f) #[] #[]] w fun e w' => e = .returned (.tuple #[]) ∧
      w'.ownsRow B 36 1 (.slice (some ⟨g, 0, none⟩) n c) n (((allX n).mergeSort fun x y => !(ltOf cf) y x).map (encC1 vs)) ∧ w.grownBy w' (some g) := by
  haveI : Inhabited (Ix n) := ⟨⟨0, hpos⟩⟩
  have hvl : vs.length = n := by have := ho.1; omega
  rcases ho.2 with ⟨_, h2⟩ | ⟨g', cap, cur, hv, hg, hh, hn, hm, hs, ht⟩
  · omega
  · simp only [Value.slice.injEq, Option.some.injEq, Addr.mk.injEq] at hv
    obtain ⟨⟨rfl, _⟩, _, rfl⟩ := hv
    have hgz : g < w.heap.size := (Array.getElem?_eq_some_iff.1 hh).1
    have hll : (allX n).toArray.size = n := by simp [allX_length]
    have hH : Holds (encC1 vs) w g 0 (allX n).toArray := by
      intro j hj
      have hj' : j < n := by simpa [allX_length] using hj
      rw [Nat.zero_add]
      refine ⟨?_, ho.frozenAt _⟩
      rw [ho.cellAt j (by omega)]
      have e : (allX n).toArray[j]! = ⟨j, hj'⟩ := by
        rw [getElem!_pos (allX n).toArray j hj]
        have := allX_at hj'
        rw [List.getElem?_eq_getElem (by rw [allX_length]; exact hj')] at this
        simpa using Option.some.inj this
      rw [e]
      show _ = some (vs.getD j undef)
      rw [List.getD_eq_getElem?_getD, List.getElem?_eq_getElem (by omega)]
      rfl
    have h1' : OneCell (encC1 (n := n) vs) := by
      intro x
      have hx := x.2
      refine h1 _ ?_
      unfold encC1
      rw [List.getD_eq_getElem?_getD, List.getElem?_eq_getElem (by omega)]
      exact List.getElem_mem _
    have key := Any.slices_SortFunc_total laysSortCC (encC1 vs) h1' cf hO f #[] g 0 c (allX n).toArray w ef
      (by
        intro m os dk hdk x y
        refine (hcmp _ ?_ x y).mono ?_
        · unfold sortWorld
          rw [show dk = dk.toList.toArray from rfl, putRowC_map]
          exact grownBy_sortedV _
        · rintro e w' ⟨he, q, os', hw⟩
          exact ⟨he, q, os', hw⟩) hH hgz (by rw [hll]; omega) hT
    rw [hll] at key
    refine Calls.mono key ?_
    rintro e w' ⟨rfl, m, os, rfl⟩
    generalize hso : ((allX n).mergeSort fun x y => !(ltOf cf) y x) = so
    have hsl : so.length = n := by rw [← hso, List.length_mergeSort, allX_length]
    have hlen : (so.map (encC1 vs)).length = n := by rw [List.length_map, hsl]
    have hnew := heap_sortedV (n := m) (os := os) (so.map (encC1 vs)).toArray hh
    have hgr := grownBy_sortedV (w := w) (g := g) (n := m) (os := os) (so.map (encC1 vs)).toArray
    unfold sortWorld
    rw [putRowC_map]
    refine ⟨rfl, ⟨by rw [hlen]; omega, .inr ⟨g, c, _, rfl, hg, hnew, hn, hm, by simp [putCells, hs], ?_⟩⟩, hgr⟩
    have := take_putCellsV cur (so.map (encC1 vs)) (by rw [hlen, hs]; omega)
    rw [hlen] at this
    simpa using this
theorem sortCC_any (B S : Nat) (a : Option Addr) (n c : Nat) (xs : List (List (Int × Int))) (w : World) (ho : CCO w B S a n c xs) (hg : GoodCC xs) (hlow : ∀ p ∈ xs, LowL p) (hb : n ≤ 1048576) :
    Calls Try.prog 94 #[.slice a n c, .func (.func 95) #[] #[]] w fun e w' => e = .returned (.tuple #[]) ∧
      ∃ xs', xs'.Perm xs ∧ xs'.Pairwise (fun p q => lessD p q = true) ∧ CCO w' B S a n c xs' ∧ Only B S w w' := by
  have hlen := ho.len
  rcases Nat.eq_zero_or_pos n with h0 | h0
  · subst h0
    have hx : xs = [] := List.length_eq_zero_iff.1 hlen
    subst hx
    refine Calls.mono (AnyF.slices_SortFunc_none laysSortCC0 a c _ w) ?_
    rintro e w' ⟨rfl, rfl⟩
    exact ⟨rfl, [], List.Perm.refl _, List.Pairwise.nil, ho, Only.refl _ _ _⟩
  obtain ⟨vs, h1, h2, h3⟩ := ho
  rcases ownsRow_shape h1 with ⟨hn0, _⟩ | ⟨g, rfl, hBg, hgw, hcell, cur, hcur⟩
  · omega
  have hgS : g < S := h2 g rfl
  have hvl : vs.length = n := by rw [h3.len]; exact hlen
  have hx : ∀ k, k < n → xs[k]? = some (xs.getD k []) := fun k hk => by
    rw [List.getD_eq_getElem?_getD, List.getElem?_eq_getElem (by omega)]; rfl
  have ev : ∀ k, k < n → ∃ a' c', vs.getD k undef = .slice a' (xs.getD k []).length c' ∧ CO w B S a' (xs.getD k []).length c' (xs.getD k []) := by
    intro k hk
    obtain ⟨a', c', e1, e3⟩ := h3.each k _ (hx k hk)
    exact ⟨a', c', by rw [List.getD_eq_getElem?_getD, e1]; rfl, e3⟩
  have hdig : ∀ k, k < n → (xs.getD k []).length ≤ 1048576 := fun k hk => hg.each _ (List.mem_of_getElem? (hx k hk))
  have hlo : ∀ k, k < n → LowL (xs.getD k []) := fun k hk => hlow _ (List.mem_of_getElem? (hx k hk))
  let cf : Ix n → Ix n → Int := fun i j => cmpD (xs.getD i.1 []) (xs.getD j.1 [])
  have hlt : ∀ i j : Ix n, ltOf cf i j = lessD (xs.getD i.1 []) (xs.getD j.1 []) := by
    intro i j
    exact cmpD_less _ _
  have hO : SWO (ltOf cf) := by
    refine ⟨fun x => ?_, fun x y z p q => ?_, fun x y z p q => ?_⟩
    · rw [hlt]; exact lessD_irrefl _
    · rw [hlt] at *; exact lessD_trans p q
    · rw [hlt] at *; exact lessD_neg p q
  have hT : ∀ x y : Ix n, ltOf cf x y = false → ltOf cf y x = false → x = y := by
    intro x y p q
    rw [hlt] at *
    exact Subtype.ext (hg.apart x.1 y.1 _ _ (hx _ x.2) (hx _ y.2) (lessD_total p q))
  have hone : ∀ v ∈ vs, v.oneCell' = true := by
    intro v hv
    obtain ⟨t, ht⟩ := List.getElem?_of_mem hv
    have htl := lt_of_some ht
    obtain ⟨a', c', e1, _⟩ := ev t (by omega)
    rw [List.getD_eq_getElem?_getD, ht] at e1
    simp only [Option.getD_some] at e1
    rw [e1]; rfl
  have hcmp : ∀ (W : World), w.grownBy W (some g) → ∀ x y : Ix n, Calls Try.prog 95 #[encC1 vs x, encC1 vs y] W fun e w' => e = .returned (.int .i64 (cf x y)) ∧ Laid W w' := by
    intro W hW x y
    obtain ⟨a1, c1, e1, e3⟩ := ev x.1 x.2
    obtain ⟨a2, c2, f1, f3⟩ := ev y.1 y.2
    have keep : ∀ {a0 : Option Addr} {l0 c0 : Nat} {zs : List (Int × Int)}, CO w B S a0 l0 c0 zs → RC W a0 zs := fun hio => (hio.kept hW (fun k hk e => neC_block h1 hio k e hk)).rd
    unfold encC1
    rw [e1, f1]
    have hd1 := hdig x.1 x.2
    have hd2 := hdig y.1 y.2
    exact byDreams_any a1 a2 _ c1 _ c2 _ _ W (keep e3) (keep f3) rfl rfl (by omega) (by omega) (hlo x.1 x.2) (hlo y.1 y.2)
  refine (sortXC_any cf hO hT 95 (fun args w => by kernel_rfl) B S g c vs w h1 hgS h0 hone hcmp hb).mono ?_
  rintro e w' ⟨rfl, hown, hgr⟩
  generalize hso : ((allX n).mergeSort fun x y => !(ltOf cf) y x) = so at hown
  have hperm : so.Perm (allX n) := by rw [← hso]; exact List.mergeSort_perm _ _
  have hsl : so.length = n := by rw [hperm.length_eq, allX_length]
  have hsorted : so.Pairwise fun x y => (!(ltOf cf) y x) = true := by
    rw [← hso]
    refine List.pairwise_mergeSort (fun x y z p q => ?_) (fun x y => ?_) _
    · simp only [Bool.not_eq_true'] at *
      rw [hlt] at *
      exact lessD_neg q p
    · simp only [Bool.or_eq_true, Bool.not_eq_true']
      rw [hlt, hlt]
      cases h1 : lessD (xs.getD y.1 []) (xs.getD x.1 []) with
      | false => exact .inl rfl
      | true =>
        right
        cases h2 : lessD (xs.getD x.1 []) (xs.getD y.1 []) with
        | false => rfl
        | true => have := lessD_trans h1 h2; rw [lessD_irrefl] at this; cases this
  have hnd : so.Nodup := by
    rw [hperm.nodup_iff]
    have h9 : ((allX n).map fun i => i.1).Nodup := by rw [allX_val]; exact List.nodup_range
    rw [List.Nodup, List.pairwise_map] at h9
    exact h9.imp fun h e => h (by rw [e])
  have hxs : (allX n).map (fun i => xs.getD i.1 []) = xs := by
    have : (allX n).map (fun i => xs.getD i.1 []) = (List.range n).map (fun k => xs.getD k []) := by rw [← allX_val n, List.map_map]; rfl
    rw [this]
    apply List.ext_getElem?
    intro k
    rcases Nat.lt_or_ge k n with hk | hk
    · rw [List.getElem?_map, List.getElem?_range hk, hx k hk]; rfl
    · rw [List.getElem?_eq_none (by simp; omega), List.getElem?_eq_none (by omega)]
  have vat : ∀ (i : Nat) (u : Value), (so.map (encC1 vs))[i]? = some u → ∃ x : Ix n, so[i]? = some x ∧ vs[x.1]? = some u := by
    intro i u hu
    rw [List.getElem?_map] at hu
    obtain ⟨x, hx, rfl⟩ := Option.map_eq_some_iff.1 hu
    refine ⟨x, hx, ?_⟩
    have hx2 := x.2
    unfold encC1
    rw [List.getD_eq_getElem?_getD, List.getElem?_eq_getElem (by omega)]
    rfl
  refine ⟨rfl, so.map (fun i => xs.getD i.1 []), ?_, ?_, ⟨_, hown, h2, ?_, ?_, ?_⟩, ?_⟩
  · have := hperm.map (fun i : Ix n => xs.getD i.1 [])
    rw [hxs] at this
    exact this
  · rw [List.pairwise_map]
    refine (hsorted.and hnd).imp fun {x y} ⟨p, q⟩ => ?_
    simp only [Bool.not_eq_true'] at p
    rw [hlt] at p
    cases h2 : lessD (xs.getD x.1 []) (xs.getD y.1 []) with
    | true => rfl
    | false => exact absurd (Subtype.ext (hg.apart x.1 y.1 _ _ (hx _ x.2) (hx _ y.2) (lessD_total h2 p))) q
  · rw [List.length_map, List.length_map]
  · intro k p hp
    rw [List.getElem?_map] at hp
    obtain ⟨i, hi, rfl⟩ := Option.map_eq_some_iff.1 hp
    obtain ⟨a', c', e1, e3⟩ := ev i.1 i.2
    refine ⟨a', c', ?_, ?_⟩
    · rw [List.getElem?_map, hi, Option.map_some]
      exact congrArg some e1
    · exact e3.kept hgr (fun k hk e => neC_block h1 e3 k e hk)
  · intro i j u v b hu hv hub hvb
    obtain ⟨x, hx, hxu⟩ := vat i u hu
    obtain ⟨y, hy, hyv⟩ := vat j v hv
    have hxy := h3.apart x.1 y.1 u v b hxu hyv hub hvb
    have : x = y := Subtype.ext hxy
    subst this
    obtain ⟨hi, rfl⟩ := List.getElem?_eq_some_iff.1 hx
    obtain ⟨hj, hje⟩ := List.getElem?_eq_some_iff.1 hy
    have hpw := List.pairwise_iff_getElem.1 hnd
    rcases Nat.lt_trichotomy i j with h | h | h
    · exact absurd hje.symm (hpw i j hi hj h)
    · exact h
    · exact absurd hje (hpw j i hj hi h)
  · exact Only.of_grown (v := .slice (some ⟨g, 0, none⟩) n c) hgr (fun k hk => by simp [Value.ownBlock] at hk; omega) (fun k hk => by simp [Value.ownBlock] at hk; omega)
end Go.Proofs.Ytageojkepoejiaa

namespace Go.Proofs.Ytageojkepoejiaa
open Go.RowKit

/-- rows of integers, each in a block of the call's own (two may share one) -/
structure InnerCS (w : World) (B S : Nat) (vs : List Value) (xss : List (List (Int × Int))) : Prop where
  len : vs.length = xss.length
  each : ∀ (k : Nat) (xs : List (Int × Int)), xss[k]? = some xs → ∃ (a : Option Addr) (c : Nat), vs[k]? = some (Value.slice a xs.length c) ∧ CO w B S a xs.length c xs
def CCS (w : World) (B S : Nat) (a : Option Addr) (n c : Nat) (xss : List (List (Int × Int))) : Prop :=
  ∃ vs, w.ownsRow B 36 1 (.slice a n c) n vs ∧ (∀ k, (Value.slice a n c).ownBlock = some k → k < S) ∧ InnerCS w B S vs xss
theorem CCO.toS {w : World} {B S : Nat} {a : Option Addr} {n c : Nat} {xss : List (List (Int × Int))} (h : CCO w B S a n c xss) : CCS w B S a n c xss := by
  obtain ⟨vs, h1, h2, h3⟩ := h
  exact ⟨vs, h1, h2, h3.len, h3.each⟩
theorem CCS.len {w : World} {B S : Nat} {a : Option Addr} {n c : Nat} {xss : List (List (Int × Int))} (h : CCS w B S a n c xss) : xss.length = n := by
  obtain ⟨vs, h1, _, h3⟩ := h
  rw [← h3.len]; have := h1.1; omega
theorem CCS.rd {w : World} {B S : Nat} {a : Option Addr} {n c : Nat} {xss : List (List (Int × Int))} (h : CCS w B S a n c xss) : RCC w a xss := by
  obtain ⟨vs, h1, _, h3⟩ := h
  rcases ownsRow_shape h1 with ⟨_, _, _, hv⟩ | ⟨g, rfl, _, _, hc, _⟩
  · left
    have := h3.len
    rw [hv] at this
    exact List.eq_nil_of_length_eq_zero this.symm
  · refine .inr ⟨g, 0, rfl, fun k xs hx => ?_⟩
    obtain ⟨a', c', hk, ho⟩ := h3.each k xs hx
    exact ⟨a', c', by rw [Nat.zero_add]; exact hc k _ hk, ho.rd⟩
theorem CCS.only {w w' : World} {B S B' S' : Nat} {a : Option Addr} {n c : Nat} {xss : List (List (Int × Int))} (h : CCS w B S a n c xss) (ho : Only B' S' w w') (hd : S ≤ B' ∨ S' ≤ B) : CCS w' B S a n c xss := by
  obtain ⟨vs, h1, h2, h3⟩ := h
  exact ⟨vs, ownsRow_only h1 h2 ho hd, h2, h3.len, fun k xs hx => by obtain ⟨a, c, h1, h2⟩ := h3.each k xs hx; exact ⟨a, c, h1, h2.only ho hd⟩⟩
theorem CCS.below {w w' : World} {B S : Nat} {a : Option Addr} {n c : Nat} {xss : List (List (Int × Int))} (h : CCS w B S a n c xss) (hb : Below w.heap.size w w') : CCS w' B S a n c xss := h.only (Only.of_below hb) (.inr (Nat.zero_le _))
theorem CCS.mono {w : World} {B S S' : Nat} {a : Option Addr} {n c : Nat} {xss : List (List (Int × Int))} (h : CCS w B S a n c xss) (hS : S ≤ S') : CCS w B S' a n c xss := by
  obtain ⟨vs, h1, h2, h3⟩ := h
  exact ⟨vs, h1, fun k hk => Nat.lt_of_lt_of_le (h2 k hk) hS, h3.len, fun k xs hx => by obtain ⟨a, c, h1, h2⟩ := h3.each k xs hx; exact ⟨a, c, h1, h2.1, fun k hk => Nat.lt_of_lt_of_le (h2.2 k hk) hS⟩⟩
theorem CCO.mono {w : World} {B S S' : Nat} {a : Option Addr} {n c : Nat} {xss : List (List (Int × Int))} (h : CCO w B S a n c xss) (hS : S ≤ S') : CCO w B S' a n c xss := by
  obtain ⟨vs, h1, h2, h3⟩ := h
  exact ⟨vs, h1, fun k hk => Nat.lt_of_lt_of_le (h2 k hk) hS, h3.len, fun k xs hx => by obtain ⟨a, c, h1, h2⟩ := h3.each k xs hx; exact ⟨a, c, h1, h2.mono (Nat.le_refl _) hS⟩, h3.apart⟩
theorem CO.grows {w w' : World} {B S B' n m : Nat} {a b : Option Addr} {c d : Nat} {xs : List (Int × Int)} {vs : List Value} {v' : Value} (h : CO w B S a n c xs) (hg : Grows w w' (.slice b m d) v') (ho : w.ownsRow B' 36 1 (.slice b m d) m vs) : CO w' B S a n c xs :=
  h.kept hg.grown (fun k hk e => neC_block ho h k e hk)

/-- append of a row of integers: 'append(out, l)' -/
theorem wpList_pushCCS {w : World} {W : World} {b : Option Addr} {m d : Nat} (hW : W = w.alloc (.cells #[.slice b m d] 36)) {ops : Array Oper} {rest : List Oper} {o : Oper} {ac : Act} {Q : Exit → Act → World → Prop} (hgd : o.guard = none) (s x : Operand)
    (ho : o.op = .call { callee := .builtin .append, args := #[s, x], argTypes := #[34, 34] })
    {B S : Nat} {a : Option Addr} {n c : Nat} {xss : List (List (Int × Int))} (hown : CCS w B S a n c xss) (hs : ac.eval s = .slice a n c)
    {ys : List (Int × Int)} {S' : Nat} (hr : CO w B S' b m d ys) (hx : ac.eval x = .slice (some ⟨w.heap.size, 0, none⟩) 1 1) (hn : n + 1 ≤ 16777216) (hbase : B ≤ w.heap.size) (hS : S ≤ w.heap.size) (hS' : S' ≤ w.heap.size)
    (h : ∀ a' c' w', CCS w' B w'.heap.size a' (n + 1) c' (xss ++ [ys]) → Grows w w' (.slice a n c) (.slice a' (n + 1) c') → wpList Try.prog ops Q rest (ac.put o.dst (.slice a' (n + 1) c')) w') :
    wpList Try.prog ops Q (o :: rest) ac W := by
  subst hW
  obtain ⟨i0, hi, hz0, hz1, hz2⟩ := info_parts Try.info36
  obtain ⟨vs, h1, h2, h3⟩ := hown
  have hlen := hr.len
  refine wpList_app _ hgd s x 34 ho B 36 i0 (.slice none 0 0) 24 Try.underlying34 hi hz0 hz1 hz2 rfl _ n vs hs (h1.alloc _) _ 1 1 [.slice b m d] hx rfl (by simp) ?_ ?_ hn (by omega) (by simp; omega) ?_
  · intro ad had j u hu
    obtain rfl := Option.some.inj had
    match j, hu with
    | 0, hu => simp at hu; subst hu; simp [Addr.add]
  · intro u hu; simp at hu; subst hu; rfl
  · intro a' c' w' h4 h5
    have hb0 : Below w.heap.size w (w.alloc (.cells #[.slice b m d] 36)) := (Below.refl _ _).alloc (Nat.le_refl _) _
    have hg := (Grows.of_below (.slice a n c) hb0).trans h5
    have hsz := hg.grown.size
    refine h a' c' w' ⟨vs ++ [.slice b m d], h4, fun k hk => (h4.lt k hk).2, by simp [h3.len], fun k zs hz => ?_⟩ hg
    rcases Nat.lt_or_ge k xss.length with hk | hk
    · rw [List.getElem?_append_left hk] at hz
      obtain ⟨a2, c2, e1, e2⟩ := h3.each k zs hz
      exact ⟨a2, c2, by rw [List.getElem?_append_left (by rw [h3.len]; exact hk)]; exact e1, (e2.grows hg h1).mono (Nat.le_refl _) (by omega)⟩
    · rw [List.getElem?_append_right hk] at hz
      have hk0 : k - xss.length = 0 := by have := lt_of_some hz; simp at this; omega
      rw [hk0] at hz
      obtain rfl : ys = zs := by simpa using hz
      refine ⟨b, d, by rw [List.getElem?_append_right (by rw [h3.len]; exact hk), h3.len, hk0, hlen]; rfl, ?_⟩
      rw [hlen]
      exact (hr.grows hg h1).mono (Nat.le_refl _) (by omega)
/-- the same where the row that is appended lies in a newer block than all that are there -/
theorem wpList_pushCC {w : World} {W : World} {b : Option Addr} {m d : Nat} (hW : W = w.alloc (.cells #[.slice b m d] 36)) {ops : Array Oper} {rest : List Oper} {o : Oper} {ac : Act} {Q : Exit → Act → World → Prop} (hgd : o.guard = none) (s x : Operand)
    (ho : o.op = .call { callee := .builtin .append, args := #[s, x], argTypes := #[34, 34] })
    {B S : Nat} {a : Option Addr} {n c : Nat} {xss : List (List (Int × Int))} (hown : CCO w B S a n c xss) (hs : ac.eval s = .slice a n c)
    {ys : List (Int × Int)} {S' : Nat} (hr : CO w S S' b m d ys) (hBS : B ≤ S) (hx : ac.eval x = .slice (some ⟨w.heap.size, 0, none⟩) 1 1) (hn : n + 1 ≤ 16777216) (hbase : B ≤ w.heap.size) (hS : S ≤ w.heap.size) (hS' : S' ≤ w.heap.size)
    (h : ∀ a' c' w', CCO w' B w'.heap.size a' (n + 1) c' (xss ++ [ys]) → Grows w w' (.slice a n c) (.slice a' (n + 1) c') → wpList Try.prog ops Q rest (ac.put o.dst (.slice a' (n + 1) c')) w') :
    wpList Try.prog ops Q (o :: rest) ac W := by
  subst hW
  obtain ⟨i0, hi, hz0, hz1, hz2⟩ := info_parts Try.info36
  obtain ⟨vs, h1, h2, h3⟩ := hown
  have hlen := hr.len
  refine wpList_app _ hgd s x 34 ho B 36 i0 (.slice none 0 0) 24 Try.underlying34 hi hz0 hz1 hz2 rfl _ n vs hs (h1.alloc _) _ 1 1 [.slice b m d] hx rfl (by simp) ?_ ?_ hn (by omega) (by simp; omega) ?_
  · intro ad had j u hu
    obtain rfl := Option.some.inj had
    match j, hu with
    | 0, hu => simp at hu; subst hu; simp [Addr.add]
  · intro u hu; simp at hu; subst hu; rfl
  · intro a' c' w' h4 h5
    have hb0 : Below w.heap.size w (w.alloc (.cells #[.slice b m d] 36)) := (Below.refl _ _).alloc (Nat.le_refl _) _
    have hg := (Grows.of_below (.slice a n c) hb0).trans h5
    have hsz := hg.grown.size
    have hold : ∀ (k : Nat) (v : Value), vs[k]? = some v → ∀ q, v.ownBlock = some q → q < S := by
      intro k v hv q hq
      have hk : k < xss.length := by rw [← h3.len]; exact lt_of_some hv
      obtain ⟨zs, hz⟩ := some_of hk
      obtain ⟨a2, c2, e1, e2⟩ := h3.each k zs hz
      rw [hv] at e1
      obtain rfl := Option.some.inj e1
      exact e2.2 q hq
    have hnew : ∀ q, (Value.slice b m d).ownBlock = some q → S ≤ q := hr.lo
    refine h a' c' w' ⟨vs ++ [.slice b m d], h4, fun k hk => (h4.lt k hk).2, by simp [h3.len], fun k zs hz => ?_, ?_⟩ hg
    · rcases Nat.lt_or_ge k xss.length with hk | hk
      · rw [List.getElem?_append_left hk] at hz
        obtain ⟨a2, c2, e1, e2⟩ := h3.each k zs hz
        exact ⟨a2, c2, by rw [List.getElem?_append_left (by rw [h3.len]; exact hk)]; exact e1, (e2.grows hg h1).mono (Nat.le_refl _) (by omega)⟩
      · rw [List.getElem?_append_right hk] at hz
        have hk0 : k - xss.length = 0 := by have := lt_of_some hz; simp at this; omega
        rw [hk0] at hz
        obtain rfl : ys = zs := by simpa using hz
        refine ⟨b, d, by rw [List.getElem?_append_right (by rw [h3.len]; exact hk), h3.len, hk0, hlen]; rfl, ?_⟩
        rw [hlen]
        exact (hr.grows hg h1).mono hBS (by omega)
    · intro i j u v g hu hv hug hvg
      rcases Nat.lt_or_ge i vs.length with hi | hi <;> rcases Nat.lt_or_ge j vs.length with hj | hj
      · rw [List.getElem?_append_left hi] at hu
        rw [List.getElem?_append_left hj] at hv
        exact h3.apart i j u v g hu hv hug hvg
      · rw [List.getElem?_append_left hi] at hu
        rw [List.getElem?_append_right hj] at hv
        have hj0 : j - vs.length = 0 := by have := lt_of_some hv; simp at this; omega
        rw [hj0] at hv
        obtain rfl : Value.slice b m d = v := by simpa using hv
        have := hold i u hu g hug
        have := hnew g hvg
        omega
      · rw [List.getElem?_append_right hi] at hu
        rw [List.getElem?_append_left hj] at hv
        have hi0 : i - vs.length = 0 := by have := lt_of_some hu; simp at this; omega
        rw [hi0] at hu
        obtain rfl : Value.slice b m d = u := by simpa using hu
        have := hold j v hv g hvg
        have := hnew g hug
        omega
      · rw [List.getElem?_append_right hi] at hu
        rw [List.getElem?_append_right hj] at hv
        have := lt_of_some hu
        have := lt_of_some hv
        simp at *
        omega
theorem CCO.lo {w : World} {B S : Nat} {a : Option Addr} {n c : Nat} {xss : List (List (Int × Int))} (h : CCO w B S a n c xss) : ∀ k, (Value.slice a n c).ownBlock = some k → B ≤ k := by
  obtain ⟨vs, h1, _⟩ := h
  exact fun k hk => (h1.lt k hk).1
theorem CCO.made (w : World) : CCO (w.alloc (.cells #[] 36)) w.heap.size (w.alloc (.cells #[] 36)).heap.size (some ⟨w.heap.size, 0, none⟩) 0 0 [] :=
  ⟨[], World.ownsRow_made _ #[] 0 (Nat.le_refl _) (Nat.zero_le _) rfl, fun k hk => by simp [Value.ownBlock] at hk; subst hk; simp, rfl, by simp, by simp⟩
theorem CCO.mono2 {w : World} {B S B' S' : Nat} {a : Option Addr} {n c : Nat} {xss : List (List (Int × Int))} (h : CCO w B S a n c xss) (hB : B' ≤ B) (hS : S ≤ S') : CCO w B' S' a n c xss := by
  obtain ⟨vs, h1, h2, h3⟩ := h
  exact ⟨vs, ownsRow_base h1 hB, fun k hk => Nat.lt_of_lt_of_le (h2 k hk) hS, h3.len, fun k xs hx => by obtain ⟨a, c, h1, h2⟩ := h3.each k xs hx; exact ⟨a, c, h1, h2.mono hB hS⟩, h3.apart⟩
theorem CCO.nil {w : World} {B S : Nat} : CCO w B S none 0 0 [] := ⟨[], World.ownsRow_nil _ _ _ _, by simp [Value.ownBlock], rfl, by simp, by simp⟩
end Go.Proofs.Ytageojkepoejiaa
