/-
  Contracts of dShifts and DrawValues.
  Contract of DrawWordOf: a permutation of at most 5 (and a reduced word of it, and any word).
  Contract of slices.SortFunc at dreams of which some may be alike.
  Contract of inOrder in full: dreams in order, each once.
  append of a list of dreams to another: 'append(out, l...)'.
  Contract of slices.Clone of lists of dreams.
  inOrder and DeleteFunc, whether or not the slice is nil.
-/
import Derived.Test.YtdpjcjnednmoeaaBuM19
import Derived.Test.YtdpjcjnednmoeaaBuM5
import Derived.Test.YtdpjcjnednmoeaaBuM14
import Derived.Test.YtdpjcjnednmoeaaBuM9
import Derived.Test.YtdpjcjnednmoeaaBuM7
import Derived.Lib.SliceRun
import Derived.Test.YtdpjcjnednmoeaaBuM10
import Derived.Test.YtdpjcjnednmoeaaBuM15
namespace Go.Proofs.Ytdpjcjnednmoeaa
open Go.RowKit

def ShiftPost (k : Nat) (g : Nat) (a : Option Addr) (m c : Nat) (xs : List Int) (w : World) (e : Ending) (w' : World) : Prop :=
  ∃ u a' c', e = .returned (.slice a' k c') ∧ (∀ y ∈ u, -9 ≤ y ∧ y ≤ 9) ∧ OwI w' w.heap.size w'.heap.size a' k c' u ∧ Cur w' g a m c xs ∧ Only g (g + 1) w w'
end Go.Proofs.Ytdpjcjnednmoeaa

namespace Go.Proofs.Ytdpjcjnednmoeaa
open Go.RowKit

theorem dPerm_of (K : Int) (k : Nat) (hK : K = (k : Int)) (h1 : 1 ≤ k) (h5 : k ≤ 5) (g : Nat) (a : Option Addr) (m c : Nat) (xs : List Int) (w : World) (hc : Cur w g a m c xs) :
    Calls Try.prog 14 #[.pointer (some ⟨g, 0, none⟩), .int .i64 K] w (PermPost k g a m c xs w) := by subst hK; exact dPerm_any k h1 h5 g a m c xs w hc
def WordPost (g : Nat) (a : Option Addr) (m c : Nat) (xs : List Int) (w : World) (e : Ending) (w' : World) : Prop :=
  ∃ a' n' c', e = .returned (.slice a' n' c') ∧ Cur w' g a m c xs ∧ Only g (g + 1) w w'
set_option maxRecDepth 100000 in
set_option maxHeartbeats 3200000 in
theorem dWord_any (n : Nat) (h1 : 2 ≤ n) (h5 : n ≤ 5) (N : Int) (hN : N = (n : Int)) (g : Nat) (a : Option Addr) (m c : Nat) (xs : List Int) (w : World) (hc : Cur w g a m c xs) :
    Calls Try.prog 16 #[.pointer (some ⟨g, 0, none⟩), .int .i64 N, .int .i64 8] w (WordPost g a m c xs w) := by
  subst hN
  have hgw := hc.lt
  have hI0 : OwI (w.alloc (.cells #[] 3)) w.heap.size (w.alloc (.cells #[] 3)).heap.size (some ⟨w.heap.size, 0, none⟩) 0 0 [] := OwI.mk (World.ownsRow_made _ #[] 0 (Nat.le_refl _) (Nat.zero_le _) rfl)
  have hB0 : Below w.heap.size w (w.alloc (.cells #[] 3)) := (Below.refl _ _).alloc (Nat.le_refl _) _
  have hO0 := (Only.refl g (g + 1) w).laid hB0
  have hC0 := hc.below hB0
  have hs0 := hB0.size
  have H1 := Lib.hid hI0; clear hI0
  go_enter Try.func16, Try.ntmps16
  go_wp2_with fail
  refine (l1Below_any 9 (by omega) (by omega) g a m c xs _ hC0).mono ?_
  rintro e w1 ⟨sz, rfl, hsz8, hC1, hO1⟩
  have H2 := Lib.hid ((H1.out.only hO1 (.inr (by omega))).mono (Nat.le_refl _) hO1.size)
  have hO2 := hO0.trans hO1
  clear H1 hC0 hO0 hO1 hB0
  go_wp2
  go_loopw [7, 9] (fun v i wr => ∃ j : Nat, j ≤ sz ∧ i = .int .i64 j ∧ Hid (∃ a' c' ys, v = .slice a' j c' ∧ OwI wr w.heap.size wr.heap.size a' j c' ys) ∧ Cur wr g a m c xs ∧ Only g (g + 1) w wr) (fun _ i _ => sz - (intOf i).toNat)
  case atStart => exact ⟨0, Nat.zero_le _, rfl, ⟨_, _, [], rfl, H2.out⟩, hC1, hO2⟩
  case round =>
    clear hO2 hC1 H2
    obtain ⟨j, hj, rfl, HV, hC, hO⟩ := hrel
    obtain ⟨wo, rfl⟩ : ∃ wo : World, wo = wr := ⟨_, rfl⟩
    obtain ⟨a', c', ys, rfl, ho⟩ := HV.out
    clear HV
    have hsz := hO.size
    have q0 : (1 : Int) < (n : Int) := by omega
    by_cases hlt : j < sz
    · have q1 : (j : Int) < (sz : Int) := by omega
      have q2 : IntKind.i64.wrap ((n : Int) - 1) = (n : Int) - 1 := IntWalk.i64_in _ (by omega)
      go_wp2_with fail
      refine (l1Below_any ((n : Int) - 1) (by omega) (by omega) g a m c xs _ hC).mono ?_
      rintro e w1 ⟨r, rfl, hr, hC1, hO1⟩
      have ho1 := ho.only hO1 (.inr (by omega))
      have hO2 := hO.trans hO1
      have hsz1 := hO1.size
      clear q2
      go_wp2_with (first | (at_builtin; go_loud (refine wpList_pushI (by rfl) (by rfl) _ _ (by rfl) ho1 (by rfl) (by rfl) (by omega) (by omega) ?_)))
      intro a2 c2 w2 ho2 hg2
      have hO3 := hg2.only (B := w.heap.size) (S := w1.heap.size) (fun k hk => ho1.1.lo k hk) (fun k hk => Nat.lt_of_lt_of_le (ho1.2 k hk) hsz1)
      have hO4 := hO2.new hO3 (Nat.le_refl _)
      have hC2 := hC1.only hO3 hgw
      go_wp2
      go_roundw
      case rel => exact ⟨j + 1, by omega, by go_num, ⟨_, _, _, rfl, ho2⟩, hC2, hO4⟩
      case measure => simp [intOf]; omega
    · obtain rfl : j = sz := by omega
      go_wp2
      go_ret
      exact ⟨_, _, _, rfl, hC, hO⟩
def WordOfPost (w : World) (e : Ending) (w' : World) : Prop :=
  ∃ n u a1 c1 a2 n2 c2 a3 n3 c3, e = .returned (.tuple #[.slice a1 n c1, .slice a2 n2 c2, .slice a3 n3 c3]) ∧ (1 ≤ n ∧ n ≤ 5) ∧ u ∈ perms n ∧ OwI w' w.heap.size w'.heap.size a1 n c1 u ∧ Below w.heap.size w w'
set_option maxRecDepth 100000 in
set_option maxHeartbeats 3200000 in
theorem drawWordOf_any (a : Option Addr) (m c : Nat) (xs : List Int) (w : World) (hr : RB w a xs) (hm : xs.length = m) (hb : m ≤ 1048576) (hx : Bytes xs) :
    Calls Try.prog 5 #[.slice a m c] w (WordOfPost w) := by
  go_enter Try.func5, Try.ntmps5
  go_wp2_with fail
  refine (l1New_any _ _ _ xs _ hr hm hb hx).mono ?_
  rintro e w1 ⟨rfl, hC1, hB1, hz1⟩
  clear hr
  go_wp2_with fail
  refine (l1Below_any 4 (by omega) (by omega) _ _ _ _ _ _ hC1).mono ?_
  rintro e w2 ⟨r, rfl, hr4, hC2, hO2⟩
  have hz2 := hO2.size
  have h1 : 1 ≤ 2 + r := by omega
  have h5 : 2 + r ≤ 5 := by omega
  clear hC1
  go_wp2_with fail
  refine (dPerm_of _ (2 + r) (by omega) h1 h5 _ _ _ _ _ _ hC2).mono ?_
  rintro e w3 ⟨u, a3, c3, rfl, hu, ho3, hC3, hO3⟩
  have HU := Lib.hid hu; clear hu
  have hO3' := hO2.trans hO3
  have hz3 := hO3.size
  clear hC2
  go_wp2_with fail
  refine (dReduced_any _ h1 h5 _ _ _ _ _ _ _ u _ hC3 ho3.rd HU.out).mono ?_
  rintro e w4 ⟨ys, a4, l4, c4, rfl, hl4, _, ho4, hC4, hO4⟩
  have hO4' := hO3'.trans hO4
  have ho34 := ho3.only hO4 (.inr (by omega))
  have hz4 := hO4.size
  clear hC3 ho3
  go_wp2_with fail
  refine (dWord_any (2 + r) (by omega) h5 _ (by omega) _ _ _ _ _ _ hC4).mono ?_
  rintro e w5 ⟨a5, n5, c5, rfl, hC5, hO5⟩
  have hz5 := hO5.size
  have ho6 := Lib.hid ((ho34.only hO5 (.inr (by omega))).mono (B' := w.heap.size) (S' := w5.heap.size) (by omega) (by omega))
  have hBf := Lib.hid ((hO4'.trans hO5).below hB1 (Nat.le_refl _) (by omega))
  clear ho34
  go_wp2
  go_ret3
  exact ⟨_, _, _, _, _, _, _, _, _, _, rfl, ⟨by omega, h5⟩, HU.out, ho6.out, hBf.out⟩
end Go.Proofs.Ytdpjcjnednmoeaa

namespace Go.Proofs.Ytdpjcjnednmoeaa
open Go.RowKit Go.Shelf Go.Sort

theorem sortXCw_any {n : Nat} (cf : Ix n → Ix n → Int) (hO : SWO (ltOf cf))
    (f : Nat) (ef : ∀ args w, (callFunc f args).run Try.prog w = .ok (.enter f args) w) (B S g c : Nat) (vs : List Value) (w : World) (ho : w.ownsRow B 44 1 (.slice (some ⟨g, 0, none⟩) n c) n vs) (_hS : g < S) (hpos : 0 < n)
    (h1 : ∀ v ∈ vs, v.oneCell' = true) (hcmp : ∀ (W : World), w.grownBy W (some g) → ∀ x y : Ix n, Calls Try.prog f #[encC1 vs x, encC1 vs y] W fun e w' => e = .returned (.int .i64 (cf x y)) ∧ Laid W w') (hb : n ≤ 1048576) :
    Calls Try.prog 53 #[.slice (some ⟨g, 0, none⟩) n c, .func (.func f) #[] #[]] w fun e w' => e = .returned (.tuple #[]) ∧
      ∃ so : List (Ix n), so.Perm (allX n) ∧ so.Pairwise (fun x y => ltOf cf y x = false) ∧ w'.ownsRow B 44 1 (.slice (some ⟨g, 0, none⟩) n c) n (so.map (encC1 vs)) ∧ w.grownBy w' (some g) := by
  haveI : Inhabited (Ix n) := ⟨⟨0, hpos⟩⟩
  have hvl : vs.length = n := by have := ho.1; omega
  rcases ho.2 with ⟨_, h2⟩ | ⟨g', cap, cur, hv, hg, hh, hn, hm, hs, ht⟩
  · omega
  · simp only [Value.slice.injEq, Option.some.injEq, Addr.mk.injEq] at hv
    obtain ⟨⟨rfl, _⟩, _, rfl⟩ := hv
    have hgz : g < w.heap.size := (Array.getElem?_eq_some_iff.1 hh).1
    have hll : (allX n).toArray.size = n := by simp [allX_length]
    have hH : Holds (encC1 vs) w g 0 (allX n).toArray := by
      intro j hj
      have hj' : j < n := by simpa [allX_length] using hj
      rw [Nat.zero_add]
      refine ⟨?_, ho.frozenAt _⟩
      rw [ho.cellAt j (by omega)]
      have e : (allX n).toArray[j]! = ⟨j, hj'⟩ := by
        rw [getElem!_pos (allX n).toArray j hj]
        have := allX_at hj'
        rw [List.getElem?_eq_getElem (by rw [allX_length]; exact hj')] at this
        simpa using Option.some.inj this
      rw [e]
      show _ = some (vs.getD j undef)
      rw [List.getD_eq_getElem?_getD, List.getElem?_eq_getElem (by omega)]
      rfl
    have h1' : OneCell (encC1 (n := n) vs) := by
      intro x
      have hx := x.2
      refine h1 _ ?_
      unfold encC1
      rw [List.getD_eq_getElem?_getD, List.getElem?_eq_getElem (by omega)]
      exact List.getElem_mem _
    have key := Any.slices_SortFunc laysSortCC (encC1 vs) h1' cf hO f #[] g 0 c (allX n).toArray w ef
      (by
        intro m os dk hdk x y
        refine (hcmp _ ?_ x y).mono ?_
        · unfold sortWorld
          rw [show dk = dk.toList.toArray from rfl, putRowC_map]
          exact grownBy_sortedV _
        · rintro e w' ⟨he, q, os', hw⟩
          exact ⟨he, q, os', hw⟩) hH hgz (by rw [hll]; omega)
    rw [hll] at key
    refine Calls.mono key ?_
    rintro e w' ⟨rfl, d', m, os, hpi, hsi, rfl⟩
    obtain ⟨so, rfl⟩ : ∃ so : List (Ix n), d' = so.toArray := ⟨d'.toList, by simp⟩
    obtain ⟨hsz, _, hpp⟩ := hpi
    have hsl : so.length = n := by
      have h : so.length = (allX n).length := by simpa using hsz
      exact h.trans (allX_length n)
    have hpm : so.Perm (allX n) := by
      have e1 : so.toArray.extract 0 n = so.toArray := by
        have h := Array.extract_size (xs := so.toArray)
        rw [show so.toArray.size = n by simpa using hsl] at h
        exact h
      have e2 : (allX n).toArray.extract 0 n = (allX n).toArray := by
        have h := Array.extract_size (xs := (allX n).toArray)
        rw [hll] at h
        exact h
      rw [e1, e2] at hpp
      simpa using hpp
    have hsp : so.Pairwise (fun x y => ltOf cf y x = false) := by
      rw [List.pairwise_iff_getElem]
      intro i j hi hj hij
      have := hsi i j (Nat.zero_le _) hij (by omega)
      rw [getElem!_pos so.toArray j (by simpa using hj), getElem!_pos so.toArray i (by simpa using hi)] at this
      simpa using this
    have hlen : (so.map (encC1 vs)).length = n := by rw [List.length_map, hsl]
    have hnew := heap_sortedV (n := m) (os := os) (so.map (encC1 vs)).toArray hh
    have hgr := grownBy_sortedV (w := w) (g := g) (n := m) (os := os) (so.map (encC1 vs)).toArray
    unfold sortWorld
    rw [putRowC_map]
    refine ⟨rfl, so, hpm, hsp, ⟨by rw [hlen]; omega, .inr ⟨g, c, _, rfl, hg, hnew, hn, hm, by simp [putCells, hs], ?_⟩⟩, hgr⟩
    have := take_putCellsV cur (so.map (encC1 vs)) (by rw [hlen, hs]; omega)
    rw [hlen] at this
    simpa using this
theorem sortCCw_any (B S : Nat) (a : Option Addr) (n c : Nat) (xs : List (List (Int × Int))) (w : World) (ho : CCO w B S a n c xs) (hg : ShortCC xs) (hlow : ∀ p ∈ xs, LowL p) (hb : n ≤ 1048576) :
    Calls Try.prog 53 #[.slice a n c, .func (.func 54) #[] #[]] w fun e w' => e = .returned (.tuple #[]) ∧
      ∃ xs', xs'.Perm xs ∧ xs'.Pairwise (fun p q => lessD q p = false) ∧ CCO w' B S a n c xs' ∧ Only B S w w' := by
  have hlen := ho.len
  rcases Nat.eq_zero_or_pos n with h0 | h0
  · subst h0
    have hx : xs = [] := List.length_eq_zero_iff.1 hlen
    subst hx
    refine Calls.mono (AnyF.slices_SortFunc_none laysSortCC0 a c _ w) ?_
    rintro e w' ⟨rfl, rfl⟩
    exact ⟨rfl, [], List.Perm.refl _, List.Pairwise.nil, ho, Only.refl _ _ _⟩
  obtain ⟨vs, h1, h2, h3⟩ := ho
  rcases ownsRow_shape h1 with ⟨hn0, _⟩ | ⟨g, rfl, hBg, hgw, hcell, cur, hcur⟩
  · omega
  have hgS : g < S := h2 g rfl
  have hvl : vs.length = n := by rw [h3.len]; exact hlen
  have hx : ∀ k, k < n → xs[k]? = some (xs.getD k []) := fun k hk => by
    rw [List.getD_eq_getElem?_getD, List.getElem?_eq_getElem (by omega)]; rfl
  have ev : ∀ k, k < n → ∃ a' c', vs.getD k undef = .slice a' (xs.getD k []).length c' ∧ CO w B S a' (xs.getD k []).length c' (xs.getD k []) := by
    intro k hk
    obtain ⟨a', c', e1, e3⟩ := h3.each k _ (hx k hk)
    exact ⟨a', c', by rw [List.getD_eq_getElem?_getD, e1]; rfl, e3⟩
  have hdig : ∀ k, k < n → (xs.getD k []).length ≤ 1048576 := fun k hk => hg _ (List.mem_of_getElem? (hx k hk))
  have hlo : ∀ k, k < n → LowL (xs.getD k []) := fun k hk => hlow _ (List.mem_of_getElem? (hx k hk))
  let cf : Ix n → Ix n → Int := fun i j => cmpD (xs.getD i.1 []) (xs.getD j.1 [])
  have hlt : ∀ i j : Ix n, ltOf cf i j = lessD (xs.getD i.1 []) (xs.getD j.1 []) := by
    intro i j
    exact cmpD_less _ _
  have hO : SWO (ltOf cf) := by
    refine ⟨fun x => ?_, fun x y z p q => ?_, fun x y z p q => ?_⟩
    · rw [hlt]; exact lessD_irrefl _
    · rw [hlt] at *; exact lessD_trans p q
    · rw [hlt] at *; exact lessD_neg p q
  have hone : ∀ v ∈ vs, v.oneCell' = true := by
    intro v hv
    obtain ⟨t, ht⟩ := List.getElem?_of_mem hv
    have htl := lt_of_some ht
    obtain ⟨a', c', e1, _⟩ := ev t (by omega)
    rw [List.getD_eq_getElem?_getD, ht] at e1
    simp only [Option.getD_some] at e1
    rw [e1]; rfl
  have hcmp : ∀ (W : World), w.grownBy W (some g) → ∀ x y : Ix n, Calls Try.prog 54 #[encC1 vs x, encC1 vs y] W fun e w' => e = .returned (.int .i64 (cf x y)) ∧ Laid W w' := by
    intro W hW x y
    obtain ⟨a1, c1, e1, e3⟩ := ev x.1 x.2
    obtain ⟨a2, c2, f1, f3⟩ := ev y.1 y.2
    have keep : ∀ {a0 : Option Addr} {l0 c0 : Nat} {zs : List (Int × Int)}, CO w B S a0 l0 c0 zs → RC W a0 zs := fun hio => (hio.kept hW (fun k hk e => neC_block h1 hio k e hk)).rd
    unfold encC1
    rw [e1, f1]
    have hd1 := hdig x.1 x.2
    have hd2 := hdig y.1 y.2
    exact byDreams_any a1 a2 _ c1 _ c2 _ _ W (keep e3) (keep f3) rfl rfl (by omega) (by omega) (hlo x.1 x.2) (hlo y.1 y.2)
  refine (sortXCw_any cf hO 54 (fun args w => by kernel_rfl) B S g c vs w h1 hgS h0 hone hcmp hb).mono ?_
  rintro e w' ⟨rfl, so, hperm, hsorted, hown, hgr⟩
  have hsl : so.length = n := by rw [hperm.length_eq, allX_length]
  have hnd : so.Nodup := by
    rw [hperm.nodup_iff]
    have h9 : ((allX n).map fun i => i.1).Nodup := by rw [allX_val]; exact List.nodup_range
    rw [List.Nodup, List.pairwise_map] at h9
    exact h9.imp fun h e => h (by rw [e])
  have hxs : (allX n).map (fun i => xs.getD i.1 []) = xs := by
    have : (allX n).map (fun i => xs.getD i.1 []) = (List.range n).map (fun k => xs.getD k []) := by rw [← allX_val n, List.map_map]; rfl
    rw [this]
    apply List.ext_getElem?
    intro k
    rcases Nat.lt_or_ge k n with hk | hk
    · rw [List.getElem?_map, List.getElem?_range hk, hx k hk]; rfl
    · rw [List.getElem?_eq_none (by simp; omega), List.getElem?_eq_none (by omega)]
  have vat : ∀ (i : Nat) (u : Value), (so.map (encC1 vs))[i]? = some u → ∃ x : Ix n, so[i]? = some x ∧ vs[x.1]? = some u := by
    intro i u hu
    rw [List.getElem?_map] at hu
    obtain ⟨x, hx, rfl⟩ := Option.map_eq_some_iff.1 hu
    refine ⟨x, hx, ?_⟩
    have hx2 := x.2
    unfold encC1
    rw [List.getD_eq_getElem?_getD, List.getElem?_eq_getElem (by omega)]
    rfl
  refine ⟨rfl, so.map (fun i => xs.getD i.1 []), ?_, ?_, ⟨_, hown, h2, ?_, ?_, ?_⟩, ?_⟩
  · have := hperm.map (fun i : Ix n => xs.getD i.1 [])
    rw [hxs] at this
    exact this
  · rw [List.pairwise_map]
    refine hsorted.imp fun {x y} p => ?_
    rw [hlt] at p
    exact p
  · rw [List.length_map, List.length_map]
  · intro k p hp
    rw [List.getElem?_map] at hp
    obtain ⟨i, hi, rfl⟩ := Option.map_eq_some_iff.1 hp
    obtain ⟨a', c', e1, e3⟩ := ev i.1 i.2
    refine ⟨a', c', ?_, ?_⟩
    · rw [List.getElem?_map, hi, Option.map_some]
      exact congrArg some e1
    · exact e3.kept hgr (fun k hk e => neC_block h1 e3 k e hk)
  · intro i j u v b hu hv hub hvb
    obtain ⟨x, hx, hxu⟩ := vat i u hu
    obtain ⟨y, hy, hyv⟩ := vat j v hv
    have hxy := h3.apart x.1 y.1 u v b hxu hyv hub hvb
    have : x = y := Subtype.ext hxy
    subst this
    obtain ⟨hi, rfl⟩ := List.getElem?_eq_some_iff.1 hx
    obtain ⟨hj, hje⟩ := List.getElem?_eq_some_iff.1 hy
    have hpw := List.pairwise_iff_getElem.1 hnd
    rcases Nat.lt_trichotomy i j with h | h | h
    · exact absurd hje.symm (hpw i j hi hj h)
    · exact h
    · exact absurd hje (hpw j i hj hi h)
  · exact Only.of_grown (v := .slice (some ⟨g, 0, none⟩) n c) hgr (fun k hk => by simp [Value.ownBlock] at hk; omega) (fun k hk => by simp [Value.ownBlock] at hk; omega)
end Go.Proofs.Ytdpjcjnednmoeaa

namespace Go.Proofs.Ytdpjcjnednmoeaa
open Go.RowKit Go.Shelf Go.Sort

set_option maxRecDepth 100000 in
set_option maxHeartbeats 1600000 in
theorem inOrder_all (B S g c n : Nat) (xs : List (List (Int × Int))) (w : World) (ho : CCO w B S (some ⟨g, 0, none⟩) n c xs) (hg : ShortCC xs) (hlow : ∀ p ∈ xs, LowL p) (hb : n ≤ 1048576) :
    Calls Try.prog 26 #[.slice (some ⟨g, 0, none⟩) n c] w fun e w' => ∃ n', e = .returned (.slice (some ⟨g, 0, none⟩) n' c) ∧ CCO w' B S (some ⟨g, 0, none⟩) n' c (ascD xs) ∧ Only B S w w' := by
  have Hg := Lib.hid hg
  have Hlow := Lib.hid hlow
  clear hg hlow
  go_enter Try.func26, Try.ntmps26
  go_wp2_with fail
  refine (sortCCw_any B S _ _ _ xs _ ho Hg.out Hlow.out hb).mono ?_
  rintro e w1 ⟨rfl, xs', hp, hs, ho1, hon⟩
  have Heq := Lib.hid (compD_asc hs hp)
  have Hsh := Lib.hid (show ShortCC xs' from fun x hx => Hg.out x (hp.mem_iff.1 hx))
  clear hp hs ho
  go_wp2_with fail
  refine (compactC_any B S g c n xs' _ ho1 hb Hsh.out).mono ?_
  rintro e w2 ⟨n', rfl, ho2, hon2⟩
  rw [Heq.out] at ho2
  have Ho2 := Lib.hid ho2
  have hon3 := hon.trans hon2
  clear ho2 ho1
  go_wp2
  go_ret
  exact ⟨_, rfl, Ho2.out, hon3⟩
end Go.Proofs.Ytdpjcjnednmoeaa

namespace Go.Proofs.Ytdpjcjnednmoeaa
open Go.RowKit

/-- as CCO; the row itself may lie in a newer block than the rows in it -/
def CCO2 (w : World) (B S T : Nat) (a : Option Addr) (n c : Nat) (xss : List (List (Int × Int))) : Prop :=
  ∃ vs, w.ownsRow B 44 1 (.slice a n c) n vs ∧ (∀ k, (Value.slice a n c).ownBlock = some k → k < T) ∧ InnerC w B S vs xss
theorem CCO.two {w : World} {B S : Nat} {a : Option Addr} {n c : Nat} {xss : List (List (Int × Int))} (h : CCO w B S a n c xss) : CCO2 w B S S a n c xss := h

theorem wpList_appCC2 {w : World} {ops : Array Oper} {rest : List Oper} {o : Oper} {ac : Act} {Q : Exit → Act → World → Prop} (hgd : o.guard = none) (s x : Operand)
    (ho : o.op = .call { callee := .builtin .append, args := #[s, x], argTypes := #[31, 31] })
    {B S T : Nat} {a : Option Addr} {n c : Nat} {xss : List (List (Int × Int))} (hown : CCO2 w B S T a n c xss) (hs : ac.eval s = .slice a n c)
    {B2 S2 : Nat} {b : Option Addr} {m d : Nat} {yss : List (List (Int × Int))} (hr : CCO w B2 S2 b m d yss) (hBS : B ≤ S) (hS2 : S ≤ B2) (hx : ac.eval x = .slice b m d) (hn : n + m ≤ 16777216) (hbase : B ≤ w.heap.size) (hS : S ≤ w.heap.size) (hSw : S2 ≤ w.heap.size)
    (h : ∀ a' c' w', CCO w' B w'.heap.size a' (n + m) c' (xss ++ yss) → Grows w w' (.slice a n c) (.slice a' (n + m) c') → wpList Try.prog ops Q rest (ac.put o.dst (.slice a' (n + m) c')) w') :
    wpList Try.prog ops Q (o :: rest) ac w := by
  obtain ⟨i0, hi, hz0, hz1, hz2⟩ := info_parts Try.info44
  obtain ⟨vs, h1, h2, h3⟩ := hown
  obtain ⟨us, k1, k2, k3⟩ := hr
  have hul : us.length = m := by have := k1.1; omega
  refine wpList_app _ hgd s x 31 ho B 44 i0 (.slice none 0 0) 24 Try.underlying31 hi hz0 hz1 hz2 rfl _ n vs hs h1 b m d us hx hul ?_ ?_ ?_ hn (by omega) hbase ?_
  · intro hb0
    rcases ownsRow_shape k1 with ⟨h0, _⟩ | ⟨g, e, _⟩
    · exact h0
    · rw [hb0] at e; cases e
  · intro ad had j u hu
    rcases ownsRow_shape k1 with ⟨_, e, _⟩ | ⟨g, e, _, _, hc, _⟩
    · rw [had] at e; cases e
    · rw [had] at e
      obtain rfl := Option.some.inj e
      have := hc j u hu
      rw [show (⟨g, 0, none⟩ : Addr).add j = ⟨g, j, none⟩ by unfold Addr.add; split <;> simp_all]
      exact this
  · intro u hu
    obtain ⟨k, hk⟩ := List.getElem?_of_mem hu
    obtain ⟨zs, hz⟩ := some_of (show k < yss.length by rw [← k3.len]; exact lt_of_some hk)
    obtain ⟨a2, c2, e1, _⟩ := k3.each k zs hz
    rw [hk] at e1
    obtain rfl := Option.some.inj e1
    rfl
  · intro a' c' w' h4 hg
    have hsz := hg.grown.size
    have hold : ∀ (k : Nat) (v : Value), vs[k]? = some v → ∀ q, v.ownBlock = some q → q < S := by
      intro k v hv q hq
      have hk : k < xss.length := by rw [← h3.len]; exact lt_of_some hv
      obtain ⟨zs, hz⟩ := some_of hk
      obtain ⟨a2, c2, e1, e2⟩ := h3.each k zs hz
      rw [hv] at e1
      obtain rfl := Option.some.inj e1
      exact e2.2 q hq
    have hnew : ∀ (k : Nat) (v : Value), us[k]? = some v → ∀ q, v.ownBlock = some q → S ≤ q := by
      intro k v hv q hq
      have hk : k < yss.length := by rw [← k3.len]; exact lt_of_some hv
      obtain ⟨zs, hz⟩ := some_of hk
      obtain ⟨a2, c2, e1, e2⟩ := k3.each k zs hz
      rw [hv] at e1
      obtain rfl := Option.some.inj e1
      exact Nat.le_trans hS2 (e2.lo q hq)
    refine h a' c' w' ⟨vs ++ us, h4, fun k hk => (h4.lt k hk).2, by simp [h3.len, k3.len], fun k zs hz => ?_, ?_⟩ hg
    · rcases Nat.lt_or_ge k xss.length with hk | hk
      · rw [List.getElem?_append_left hk] at hz
        obtain ⟨a2, c2, e1, e2⟩ := h3.each k zs hz
        exact ⟨a2, c2, by rw [List.getElem?_append_left (by rw [h3.len]; exact hk)]; exact e1, (e2.grows hg h1).mono (Nat.le_refl _) (by omega)⟩
      · rw [List.getElem?_append_right hk] at hz
        obtain ⟨a2, c2, e1, e2⟩ := k3.each _ zs hz
        exact ⟨a2, c2, by rw [List.getElem?_append_right (by rw [h3.len]; exact hk), h3.len]; exact e1, (e2.grows hg h1).mono (by omega) (by omega)⟩
    · intro i j u v g hu hv hug hvg
      rcases Nat.lt_or_ge i vs.length with hi | hi <;> rcases Nat.lt_or_ge j vs.length with hj | hj
      · rw [List.getElem?_append_left hi] at hu
        rw [List.getElem?_append_left hj] at hv
        exact h3.apart i j u v g hu hv hug hvg
      · rw [List.getElem?_append_left hi] at hu
        rw [List.getElem?_append_right hj] at hv
        have := hold i u hu g hug
        have := hnew _ v hv g hvg
        omega
      · rw [List.getElem?_append_right hi] at hu
        rw [List.getElem?_append_left hj] at hv
        have := hold j v hv g hvg
        have := hnew _ u hu g hug
        omega
      · rw [List.getElem?_append_right hi] at hu
        rw [List.getElem?_append_right hj] at hv
        have := k3.apart _ _ u v g hu hv hug hvg
        omega
theorem wpList_appCC {w : World} {ops : Array Oper} {rest : List Oper} {o : Oper} {ac : Act} {Q : Exit → Act → World → Prop} (hgd : o.guard = none) (s x : Operand)
    (ho : o.op = .call { callee := .builtin .append, args := #[s, x], argTypes := #[31, 31] })
    {B S : Nat} {a : Option Addr} {n c : Nat} {xss : List (List (Int × Int))} (hown : CCO w B S a n c xss) (hs : ac.eval s = .slice a n c)
    {B2 S2 : Nat} {b : Option Addr} {m d : Nat} {yss : List (List (Int × Int))} (hr : CCO w B2 S2 b m d yss) (hBS : B ≤ S) (hS2 : S ≤ B2) (hx : ac.eval x = .slice b m d) (hn : n + m ≤ 16777216) (hbase : B ≤ w.heap.size) (hS : S ≤ w.heap.size) (hSw : S2 ≤ w.heap.size)
    (h : ∀ a' c' w', CCO w' B w'.heap.size a' (n + m) c' (xss ++ yss) → Grows w w' (.slice a n c) (.slice a' (n + m) c') → wpList Try.prog ops Q rest (ac.put o.dst (.slice a' (n + m) c')) w') :
    wpList Try.prog ops Q (o :: rest) ac w := wpList_appCC2 hgd s x ho hown.two hs hr hBS hS2 hx hn hbase hS hSw h
end Go.Proofs.Ytdpjcjnednmoeaa

namespace Go.Proofs.Ytdpjcjnednmoeaa
open Go.RowKit

set_option maxRecDepth 100000 in
set_option maxHeartbeats 1600000 in
theorem cloneCC_any (B S g n c : Nat) (xss : List (List (Int × Int))) (w : World) (ho : CCO w B S (some ⟨g, 0, none⟩) n c xss) (hb : n ≤ 1048576) (hB : B ≤ w.heap.size) :
    Calls Try.prog 31 #[.slice (some ⟨g, 0, none⟩) n c] w fun e w' => ∃ a' c', e = .returned (.slice a' n c') ∧ CCO2 w' B S w'.heap.size a' n c' xss ∧ (∀ k, (Value.slice a' n c').ownBlock = some k → w.heap.size ≤ k) ∧ Below w.heap.size w w' := by
  have q22 : ∀ (w : World) (a : Option Addr) (n c n' c' : Nat), (binOp .eql 31 (.slice a n c) (.slice none n' c')).run Try.prog w = .ok (.bool a.isNone) w := fun w a n c n' c' => Lib.run_eql_slice_nil w _ _ a n c n' c' Try.underlying31
  have hB0 : Below w.heap.size w (w.alloc (.cells #[] 44)) := (Below.refl _ _).alloc (Nat.le_refl _) _
  have h1 : (w.alloc (.cells #[] 44)).ownsRow w.heap.size 44 1 (.slice (some ⟨w.heap.size, 0, none⟩) 0 0) 0 [] := World.ownsRow_made w #[] 0 (Nat.le_refl _) (Nat.zero_le _) rfl
  have H1 := Lib.hid h1
  have HO := Lib.hid (ho.below hB0)
  obtain ⟨i0, hi, hz0, hz1, hz2⟩ := info_parts Try.info44
  clear h1 ho
  obtain ⟨vs, v1, v2, v3⟩ := HO.out
  have hvl : vs.length = n := by have := v1.1; omega
  have HV := Lib.hid v1
  have HV3 := Lib.hid v3
  have hnews : ∀ ad, (some ⟨g, 0, none⟩ : Option Addr) = some ad → ∀ j u, vs[j]? = some u → (w.alloc (.cells #[] 44)).cell? (ad.add j) = some u := by
    intro ad had j u hu
    obtain rfl := Option.some.inj had
    rcases ownsRow_shape v1 with ⟨_, e, _⟩ | ⟨g', e, _, _, hc, _⟩
    · cases e
    · simp only [Option.some.injEq, Addr.mk.injEq] at e
      obtain ⟨rfl, _⟩ := e
      rw [show (⟨g, 0, none⟩ : Addr).add j = ⟨g, j, none⟩ by unfold Addr.add; split <;> simp_all]
      exact hc j u hu
  have hone : ∀ u ∈ vs, u.oneCell' = true := by
    intro u hu
    obtain ⟨k, hk⟩ := List.getElem?_of_mem hu
    obtain ⟨zs, hz⟩ := some_of (show k < xss.length by rw [← v3.len]; exact lt_of_some hk)
    obtain ⟨a2, c2, e1, _⟩ := v3.each k zs hz
    rw [hk] at e1
    obtain rfl := Option.some.inj e1
    rfl
  have Hnews := Lib.hid hnews
  have Hone := Lib.hid hone
  clear v1 v3 hnews hone
  go_enter Try.func31, Try.ntmps31
  go_wp2_with (first | (at_builtin; go_loud (refine wpList_app _ (by rfl) _ _ 31 (by rfl) w.heap.size 44 i0 (.slice none 0 0) 24 Try.underlying31 hi hz0 hz1 hz2 rfl _ 0 [] (by rfl) H1.out (some ⟨g, 0, none⟩) n c vs (by rfl) hvl (by simp) Hnews.out Hone.out (by omega) (by omega) (by simp) ?_)))
  intro a2 c2 w2 ho2 hg2
  have hB2 : Below w.heap.size w w2 := hg2.below hB0 (by simp) (fun k hk => by simp [Value.ownBlock] at hk; omega)
  have hfin : CCO2 w2 B S w2.heap.size a2 n c2 xss := by
    have hrow : w2.ownsRow B 44 1 (.slice a2 n c2) n vs := ownsRow_base (by simpa using ho2) hB
    refine ⟨vs, hrow, fun k hk => (hrow.lt k hk).2, HV3.out.len, fun k zs hz => ?_, HV3.out.apart⟩
    obtain ⟨a9, c9, e9, o9⟩ := HV3.out.each k zs hz
    have hs2 := hB2.size
    exact ⟨a9, c9, e9, o9.grows hg2 H1.out⟩
  have Hlo := Lib.hid (show ∀ k, (Value.slice a2 n c2).ownBlock = some k → w.heap.size ≤ k from fun k hk => (ho2.lt k (by simpa using hk)).1)
  have Hfin := Lib.hid hfin
  clear hfin ho2 hg2
  go_wp2
  go_ret
  exact ⟨a2, c2, by simp, by simpa using Hfin.out, by simpa using Hlo.out, hB2⟩
end Go.Proofs.Ytdpjcjnednmoeaa

namespace Go.Proofs.Ytdpjcjnednmoeaa
open Go.RowKit Go.Shelf Go.Sort

theorem CCO.shape {w : World} {B S : Nat} {a : Option Addr} {n c : Nat} {xss : List (List (Int × Int))} (h : CCO w B S a n c xss) : (n = 0 ∧ a = none ∧ xss = []) ∨ ∃ g, a = some ⟨g, 0, none⟩ ∧ B ≤ g ∧ g < S := by
  have hl := h.len
  obtain ⟨vs, h1, h2, h3⟩ := h
  rcases ownsRow_shape h1 with ⟨hn, e, _⟩ | ⟨g, e, hb, _⟩
  · exact .inl ⟨hn, e, List.eq_nil_of_length_eq_zero (by omega)⟩
  · exact .inr ⟨g, e, hb, h2 g (by rw [e]; rfl)⟩
theorem inOrder_gen (B S : Nat) (a : Option Addr) (n c : Nat) (xs : List (List (Int × Int))) (w : World) (ho : CCO w B S a n c xs) (hg : ShortCC xs) (hlow : ∀ p ∈ xs, LowL p) (hb : n ≤ 1048576) :
    Calls Try.prog 26 #[.slice a n c] w fun e w' => ∃ n', e = .returned (.slice a n' c) ∧ CCO w' B S a n' c (ascD xs) ∧ Only B S w w' := by
  rcases ho.shape with ⟨rfl, rfl, rfl⟩ | ⟨g, rfl, _, _⟩
  · refine (inOrder_any B S none 0 c [] w ho ⟨by simp, by simp⟩ (by simp) (by omega)).mono ?_
    rintro e w' ⟨rfl, h1, h2⟩
    exact ⟨0, rfl, h1, h2⟩
  · exact inOrder_all B S g c n xs w ho hg hlow hb
set_option maxRecDepth 100000 in
set_option maxHeartbeats 1600000 in
theorem deleteC_none (A : Nat) (aa : Option Addr) (na ca : Nat) (all : List (List (Int × Int))) (c : Nat) (w : World)
    (hA : w.cell? ⟨A, 0, none⟩ = some (.slice aa na ca)) (hra : RCC w aa all) (hna : all.length = na) (hba : na ≤ 1048576) (hsa : ShortCC all) :
    Calls Try.prog 25 #[.slice none 0 c, .func (.func 27) #[] #[.pointer (some ⟨A, 0, none⟩)]] w fun e w' => e = .returned (.slice none 0 c) ∧ Below w.heap.size w w' := by
  have Hna := Lib.hid hna
  have Hsa := Lib.hid hsa
  clear hna hsa
  go_enter Try.func25, Try.ntmps25
  go_wp2_with fail
  refine (pipeFirst_any A _ none _ _ 0 c all [] _ hA hra (.inl rfl) Hna.out rfl (Nat.zero_le _) hba Hsa.out).mono ?_
  rintro e w1 ⟨r, rfl, hr1, hb1⟩
  obtain rfl : r = -1 := by
    rcases hr1.out with ⟨h, _⟩ | ⟨k, hk, _⟩
    · exact h
    · omega
  clear hr1
  go_wp2
  go_ret
  exact ⟨rfl, hb1⟩
theorem deleteC_gen (A : Nat) (aa : Option Addr) (na ca : Nat) (all : List (List (Int × Int))) (B S : Nat) (a : Option Addr) (c n : Nat) (xss : List (List (Int × Int))) (w : World) (ho : CCO w B S a n c xss)
    (hA : ∀ w', w.grownBy w' (Value.slice a n c).ownBlock → w'.cell? ⟨A, 0, none⟩ = some (.slice aa na ca) ∧ RCC w' aa all) (hna : all.length = na) (hb : n ≤ 1048576) (hba : na ≤ 1048576) (hsa : ShortCC all) :
    Calls Try.prog 25 #[.slice a n c, .func (.func 27) #[] #[.pointer (some ⟨A, 0, none⟩)]] w fun e w' => ∃ n', e = .returned (.slice a n' c) ∧ CCO w' B S a n' c (dropD all xss) ∧ w.grownBy w' (Value.slice a n c).ownBlock := by
  rcases ho.shape with ⟨rfl, rfl, rfl⟩ | ⟨g, rfl, _, _⟩
  · obtain ⟨z0, z1⟩ := hA w (Grows.refl w (.slice none 0 c)).grown
    refine (deleteC_none A aa na ca all c w z0 z1 hna hba hsa).mono ?_
    rintro e w' ⟨rfl, h1⟩
    exact ⟨0, rfl, ho.below h1, (Grows.of_below (.slice none 0 c) h1).grown⟩
  · exact deleteC_any A aa na ca all B S g c n xss w ho hA hna hb hba hsa
end Go.Proofs.Ytdpjcjnednmoeaa
