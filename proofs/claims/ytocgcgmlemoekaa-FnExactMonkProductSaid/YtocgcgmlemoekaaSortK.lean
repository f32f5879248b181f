/-
  Classes put in ascending order of their permutations: slices.SortFunc with the comparison of sortClasses.
-/
import Derived.Test.YtocgcgmlemoekaaSortLayK
import Derived.Test.YtocgcgmlemoekaaSortTerms
import Derived.Test.YtocgcgmlemoekaaLess
import Derived.Test.YtocgcgmlemoekaaKK
namespace Go.Proofs.Ytocgcgmlemoekaa
open Go.RowKit Go.Shelf Go.Sort

theorem less_irrefl (a : List Int) : less a a = false := by
  induction a with
  | nil => rfl
  | cons x a ih => rw [less, if_pos rfl]; exact ih
theorem less_trans {a : List Int} : ∀ {b c : List Int}, less a b = true → less b c = true → less a c = true := by
  induction a with
  | nil =>
    intro b c h1 h2
    cases c with
    | nil => cases b <;> simp [less] at h2
    | cons z c => rfl
  | cons x a ih =>
    intro b c h1 h2
    cases b with
    | nil => simp [less] at h1
    | cons y b =>
      cases c with
      | nil => simp [less] at h2
      | cons z c =>
        rw [less] at h1 h2 ⊢
        split at h1
        · split at h2
          · rw [if_pos (by omega)]; exact ih h1 h2
          · rename_i e1 e2
            subst e1
            rw [if_neg e2]; exact h2
        · rename_i e1
          simp only [decide_eq_true_eq] at h1
          split at h2
          · rename_i e2
            subst e2
            rw [if_neg e1]; simpa using h1
          · simp only [decide_eq_true_eq] at h2
            rw [if_neg (by omega)]
            simp
            omega
theorem less_total {a : List Int} : ∀ {b : List Int}, less a b = false → less b a = false → a = b := by
  induction a with
  | nil =>
    intro b h1 h2
    cases b with
    | nil => rfl
    | cons y b => simp [less] at h1
  | cons x a ih =>
    intro b h1 h2
    cases b with
    | nil => simp [less] at h2
    | cons y b =>
      rw [less] at h1 h2
      split at h1
      · rename_i e
        subst e
        rw [if_pos rfl] at h2
        rw [ih h1 h2]
      · rename_i e
        rw [if_neg (fun h => e h.symm)] at h2
        simp at h1 h2
        omega
theorem less_neg {a b c : List Int} (h1 : less a b = false) (h2 : less b c = false) : less a c = false := by
  cases h : less a c with
  | false => rfl
  | true =>
    exfalso
    cases h3 : less b a with
    | true =>
      have := less_trans h3 h
      rw [this] at h2
      cases h2
    | false =>
      have := less_total h1 h3
      subst this
      rw [h] at h2
      cases h2
theorem sizeOf_Class (w : World) : (Go.sizeOf 101).run Try.prog w = .ok 2 w := by kernel_rfl
theorem isAgg_Class (w : World) : (isAgg 101).run Try.prog w = .ok true w := by kernel_rfl
theorem sortXK_any {n : Nat} (cf : Ix n → Ix n → Int) (hO : SWO (ltOf cf)) (hT : ∀ x y, (ltOf cf) x y = false → (ltOf cf) y x = false → x = y)
    (f : Nat) (ef : ∀ args w, (callFunc f args).run Try.prog w = .ok (.enter f args) w) (B S g c : Nat) (vs : List Value) (w : World) (ho : w.ownsRow B 101 2 (.slice (some ⟨g, 0, none⟩) n c) n vs) (_hS : g < S) (hpos : 0 < n)
    (h1 : ∀ v ∈ vs, v.oneCell' = true) (hcmp : ∀ (W : World), w.grownBy W (some g) → ∀ x y : Ix n, Calls Try.prog f #[.agg (encX vs x).toArray, .agg (encX vs y).toArray] W fun e w' => e = .returned (.int .i64 (cf x y)) ∧ Laid W w') (hb : n ≤ 1048576) :
    Calls Try.prog 173 #[.slice (some ⟨g, 0, none⟩) n c, .func (.func f) #[] #[]] w fun e w' => e = .returned (.tuple #[]) ∧
      w'.ownsRow B 101 2 (.slice (some ⟨g, 0, none⟩) n c) n (flatX vs ((allX n).mergeSort fun x y => !(ltOf cf) y x)) ∧ w.grownBy w' (some g) := by
  haveI : Inhabited (Ix n) := ⟨⟨0, hpos⟩⟩
  have hvl := ho.1
  rcases ho.2 with ⟨_, h2⟩ | ⟨g', cap, cur, hv, hg, hh, hn, hm, hs, ht⟩
  · omega
  · simp only [Value.slice.injEq, Option.some.injEq, Addr.mk.injEq] at hv
    obtain ⟨⟨rfl, _⟩, _, rfl⟩ := hv
    have hgz : g < w.heap.size := (Array.getElem?_eq_some_iff.1 hh).1
    have hll : (allX n).toArray.size = n := by simp [allX_length]
    have hfl : flatK (encX vs) 2 (allX n).toArray = vs.toArray := by rw [flat_X, flatX_all hvl]
    have hH : HoldsK (encX vs) 2 w g 0 (allX n).toArray := by
      unfold HoldsK
      rw [hfl]
      intro j hj
      have hj' : j < n * 2 := by simpa [hvl] using hj
      rw [Nat.zero_add]
      refine ⟨?_, ho.frozenAt _⟩
      rw [ho.cellAt _ (by simpa using hj')]
      simp [hvl, hj']
    have h1' : ∀ (x : Ix n), ∀ v ∈ encX vs x, v.oneCell' = true := by
      intro x v hv
      have hx := x.2
      have hget : ∀ t, t < vs.length → vs.getD t undef ∈ vs := fun t ht => by rw [List.getD_eq_getElem?_getD, List.getElem?_eq_getElem ht]; exact List.getElem_mem ht
      simp only [encX, List.mem_cons, List.not_mem_nil, or_false] at hv
      rcases hv with rfl | rfl
      · exact h1 _ (hget _ (by omega))
      · exact h1 _ (hget _ (by omega))
    have key := AnyQ.slices_SortFunc_total laysSortK 2 isAgg_Class sizeOf_Class (encX vs) (fun _ => rfl) h1' cf hO f #[] g 0 c (allX n).toArray w ef
      (by
        intro m os dk hdk x y
        refine (hcmp _ ?_ x y).mono ?_
        · unfold sortWorldK putRowK
          exact grownBy_sortedV _
        · rintro e w' ⟨he, q, os', hw⟩
          exact ⟨he, q, os', hw⟩) hH hgz (by rw [hll]; omega) hT
    rw [hll] at key
    refine Calls.mono key ?_
    rintro e w' ⟨rfl, m, os, rfl⟩
    generalize hso : ((allX n).mergeSort fun x y => !(ltOf cf) y x) = so
    have hsl : so.length = n := by rw [← hso, List.length_mergeSort, allX_length]
    have hlen : (flatX vs so).length = n * 2 := by rw [flatX_length, hsl]
    have hnew := heap_sortedV (n := m) (os := os) (flatX vs so).toArray hh
    have hgr := grownBy_sortedV (w := w) (g := g) (n := m) (os := os) (flatX vs so).toArray
    unfold sortWorldK putRowK
    rw [flat_X]
    refine ⟨rfl, ⟨hlen, .inr ⟨g, c, _, rfl, hg, hnew, hn, hm, by simp [putCells, hs], ?_⟩⟩, hgr⟩
    rw [← hlen]
    exact take_putCellsV cur _ (by rw [hlen, hs]; exact Nat.mul_le_mul_right 2 hn)

set_option maxRecDepth 100000 in
set_option maxHeartbeats 800000 in
theorem clsCmp_any (a b : Option Addr) (n m c d : Nat) (x y : Int) (xs ys : List Int) (w : World) (hr : RI w a xs) (hs : RI w b ys) (hn : xs.length = n) (hm : ys.length = m) (hb : n ≤ 1048576) (hb2 : m ≤ 1048576) :
    Calls Try.prog 174 #[.agg #[.slice a n c, .int .i64 x], .agg #[.slice b m d, .int .i64 y]] w fun e w' => e = .returned (.int .i64 (order xs ys)) ∧ Laid w w' := by
  have hL := ((Laid.refl w).alloc (.cells #[.slice a n c, .int .i64 x] 101)).alloc (.cells #[.slice b m d, .int .i64 y] 101)
  have hB := ((Below.refl w.heap.size w).alloc (Nat.le_refl _) (.cells #[.slice a n c, .int .i64 x] 101)).alloc (by simp only [World.alloc, Array.size_push]; omega) (.cells #[.slice b m d, .int .i64 y] 101)
  have hr1 := hr.below hB
  have hs1 := hs.below hB
  have HL := Lib.hid hL
  have Hn := Lib.hid hn
  have Hm := Lib.hid hm
  obtain ⟨R, hR⟩ : ∃ R, order xs ys = R := ⟨_, rfl⟩
  rw [hR]
  have HR := Lib.hid hR
  clear hL hB hn hm hR
  go_enter Try.func174, Try.ntmps174
  go_wp2_with fail
  refine (isInt (compare_any _ _ _ _ _ _ xs ys _ hr1 hs1 Hn.out Hm.out (by omega) (by omega)) HR.out).mono ?_
  rintro e w1 ⟨rfl, hw⟩
  subst hw
  go_wp2
  go_ret
  exact ⟨rfl, HL.out⟩
/-- lists of moderate length, no two alike -/
structure GoodK (xs : List (List Int × Int)) : Prop where
  each : ∀ p ∈ xs, p.1.length ≤ 1048576
  apart : ∀ (i j : Nat) (p q : List Int × Int), xs[i]? = some p → xs[j]? = some q → p.1 = q.1 → i = j
theorem sortClsF_any (B S : Nat) (a : Option Addr) (n c : Nat) (xs : List (List Int × Int)) (w : World) (ho : KO w B S a n c xs) (hg : GoodK xs) (hb : n ≤ 1048576) :
    Calls Try.prog 173 #[.slice a n c, .func (.func 174) #[] #[]] w fun e w' => e = .returned (.tuple #[]) ∧
      ∃ xs', xs'.Perm xs ∧ xs'.Pairwise (fun p q => less p.1 q.1 = true) ∧ KO w' B S a n c xs' ∧ Only B S w w' := by
  have hlen := ho.len
  rcases Nat.eq_zero_or_pos n with h0 | h0
  · subst h0
    have hx : xs = [] := List.length_eq_zero_iff.1 hlen
    subst hx
    refine Calls.mono (AnyF.slices_SortFunc_none laysSortK a c _ w) ?_
    rintro e w' ⟨rfl, rfl⟩
    exact ⟨rfl, [], List.Perm.refl _, List.Pairwise.nil, ho, Only.refl _ _ _⟩
  obtain ⟨vs, h1, h2, h3⟩ := ho
  rcases row2_shape h1 with ⟨hn0, _⟩ | ⟨g, rfl, hBg, hgw, hnc, hcell, cur, hcur⟩
  · omega
  have hgS : g < S := h2 g rfl
  have hvl := h3.len
  have ev : ∀ k, k < n → ∃ a' c', vs.getD (k * 2) undef = .slice a' (termOfT xs k).1.length c' ∧ vs.getD (k * 2 + 1) undef = .int .i64 (termOfT xs k).2 ∧ OwI w B S a' (termOfT xs k).1.length c' (termOfT xs k).1 := by
    intro k hk
    have hx := termT_ex hlen hk
    obtain ⟨a', c', e1, e2, e3⟩ := h3.each k _ hx
    exact ⟨a', c', by rw [List.getD_eq_getElem?_getD, e1]; rfl, by rw [List.getD_eq_getElem?_getD, e2]; rfl, e3⟩
  have hdig : ∀ k, k < n → (termOfT xs k).1.length ≤ 1048576 := fun k hk => hg.each _ (List.mem_of_getElem? (termT_ex hlen hk))
  let cf : Ix n → Ix n → Int := fun i j => order (termOfT xs i.1).1 (termOfT xs j.1).1
  have hlt : ∀ i j : Ix n, ltOf cf i j = less (termOfT xs i.1).1 (termOfT xs j.1).1 := by
    intro i j
    rw [less_order]
    rfl
  have hO : SWO (ltOf cf) := by
    refine ⟨fun x => ?_, fun x y z p q => ?_, fun x y z p q => ?_⟩
    · rw [hlt]; exact less_irrefl _
    · rw [hlt] at *; exact less_trans p q
    · rw [hlt] at *; exact less_neg p q
  have hT : ∀ x y : Ix n, ltOf cf x y = false → ltOf cf y x = false → x = y := by
    intro x y p q
    rw [hlt] at *
    exact Subtype.ext (hg.apart x.1 y.1 _ _ (termT_ex hlen x.2) (termT_ex hlen y.2) (less_total p q))
  have hone : ∀ v ∈ vs, v.oneCell' = true := by
    intro v hv
    obtain ⟨t, ht⟩ := List.getElem?_of_mem hv
    have htl := lt_of_some ht
    obtain ⟨a', c', e1, e2, _⟩ := ev (t / 2) (by omega)
    have hvd : vs.getD t undef = v := by rw [List.getD_eq_getElem?_getD, ht]; rfl
    rcases Nat.mod_two_eq_zero_or_one t with hm | hm
    · have e : t / 2 * 2 = t := by omega
      rw [e, hvd] at e1
      rw [e1]; rfl
    · have e : t / 2 * 2 + 1 = t := by omega
      rw [e, hvd] at e2
      rw [e2]; rfl
  have hcmp : ∀ (W : World), w.grownBy W (some g) → ∀ x y : Ix n, Calls Try.prog 174 #[.agg (encX vs x).toArray, .agg (encX vs y).toArray] W fun e w' => e = .returned (.int .i64 (cf x y)) ∧ Laid W w' := by
    intro W hW x y
    obtain ⟨a1, c1, e1, e2, e3⟩ := ev x.1 x.2
    obtain ⟨a2, c2, f1, f2, f3⟩ := ev y.1 y.2
    have keep : ∀ {a0 : Option Addr} {l0 c0 : Nat} {zs : List Int}, OwI w B S a0 l0 c0 zs → RI W a0 zs := fun hio => (hio.1.kept hW (fun k hk e => ne_blockTK h1 hio k e hk)).ri
    unfold encX
    rw [e1, e2, f1, f2]
    exact clsCmp_any a1 a2 _ _ c1 c2 _ _ _ _ W (keep e3) (keep f3) rfl rfl (hdig x.1 x.2) (hdig y.1 y.2)
  refine (sortXK_any cf hO hT 174 (fun args w => by kernel_rfl) B S g c vs w h1 hgS h0 hone hcmp hb).mono ?_
  rintro e w' ⟨rfl, hown, hgr⟩
  generalize hso : ((allX n).mergeSort fun x y => !(ltOf cf) y x) = so at hown
  have hperm : so.Perm (allX n) := by rw [← hso]; exact List.mergeSort_perm _ _
  have hsl : so.length = n := by rw [hperm.length_eq, allX_length]
  have hsorted : so.Pairwise fun x y => (!(ltOf cf) y x) = true := by
    rw [← hso]
    refine List.pairwise_mergeSort (fun x y z p q => ?_) (fun x y => ?_) _
    · simp only [Bool.not_eq_true'] at *
      rw [hlt] at *
      exact less_neg q p
    · simp only [Bool.or_eq_true, Bool.not_eq_true']
      rw [hlt, hlt]
      cases h1 : less (termOfT xs y.1).1 (termOfT xs x.1).1 with
      | false => exact .inl rfl
      | true =>
        right
        cases h2 : less (termOfT xs x.1).1 (termOfT xs y.1).1 with
        | false => rfl
        | true => have := less_trans h1 h2; rw [less_irrefl] at this; cases this
  have hnd : so.Nodup := by
    rw [hperm.nodup_iff]
    have h9 : ((allX n).map fun i => i.1).Nodup := by rw [allX_val]; exact List.nodup_range
    rw [List.Nodup, List.pairwise_map] at h9
    exact h9.imp fun h e => h (by rw [e])
  have hxs : (allX n).map (fun i => termOfT xs i.1) = xs := by
    have : (allX n).map (fun i => termOfT xs i.1) = (List.range n).map (termOfT xs) := by rw [← allX_val n, List.map_map]; rfl
    rw [this]
    apply List.ext_getElem?
    intro k
    rcases Nat.lt_or_ge k n with hk | hk
    · rw [List.getElem?_map, List.getElem?_range hk, termT_ex hlen hk]; rfl
    · rw [List.getElem?_eq_none (by simp; omega), List.getElem?_eq_none (by omega)]
  refine ⟨rfl, so.map (fun i => termOfT xs i.1), ?_, ?_, ⟨_, hown, h2, ?_, ?_, ?_⟩, ?_⟩
  · have := hperm.map (fun i : Ix n => termOfT xs i.1)
    rw [hxs] at this
    exact this
  · rw [List.pairwise_map]
    refine (hsorted.and hnd).imp fun {x y} ⟨p, q⟩ => ?_
    simp only [Bool.not_eq_true'] at p
    rw [hlt] at p
    cases h2 : less (termOfT xs x.1).1 (termOfT xs y.1).1 with
    | true => rfl
    | false => exact absurd (Subtype.ext (hg.apart x.1 y.1 _ _ (termT_ex hlen x.2) (termT_ex hlen y.2) (less_total h2 p))) q
  · rw [flatX_length, List.length_map]
  · intro k p hp
    rw [List.getElem?_map] at hp
    obtain ⟨i, hi, rfl⟩ := Option.map_eq_some_iff.1 hp
    obtain ⟨f1, f2⟩ := flatX_at vs so k i hi
    obtain ⟨a', c', e1, e2, e3⟩ := ev i.1 i.2
    rw [e1] at f1
    rw [e2] at f2
    refine ⟨a', c', ?_, f2, ?_⟩
    · exact f1
    · exact ⟨e3.1.kept hgr (fun k hk e => ne_blockTK h1 e3 k e hk), e3.2⟩
  · intro i j u v b hu hv hub hvb
    have get : ∀ i u, (flatX vs so)[i * 2]? = some u → ∃ x : Ix n, so[i]? = some x ∧ vs[x.1 * 2]? = some u := by
      intro i u hu
      have hil := lt_of_some hu
      rw [flatX_length, hsl] at hil
      obtain ⟨x, hx⟩ := some_of (show i < so.length by omega)
      obtain ⟨f1, _⟩ := flatX_at vs so i x hx
      rw [hu] at f1
      refine ⟨x, hx, ?_⟩
      have hx2 := x.2
      rw [List.getD_eq_getElem?_getD] at f1
      have hlt2 : x.1 * 2 < vs.length := by omega
      rw [List.getElem?_eq_getElem hlt2] at f1 ⊢
      rw [f1]
      rfl
    obtain ⟨x, hx, hxu⟩ := get i u hu
    obtain ⟨y, hy, hyv⟩ := get j v hv
    have hxy := h3.apart x.1 y.1 u v b hxu hyv hub hvb
    have : x = y := Subtype.ext hxy
    subst this
    obtain ⟨hi, rfl⟩ := List.getElem?_eq_some_iff.1 hx
    obtain ⟨hj, hje⟩ := List.getElem?_eq_some_iff.1 hy
    have hpw := List.pairwise_iff_getElem.1 hnd
    rcases Nat.lt_trichotomy i j with h | h | h
    · exact absurd hje.symm (hpw i j hi hj h)
    · exact h
    · exact absurd hje (hpw j i hj hi h)
  · exact Only.of_grown (v := .slice (some ⟨g, 0, none⟩) n c) hgr (fun k hk => by simp [Value.ownBlock] at hk; omega) (fun k hk => by simp [Value.ownBlock] at hk; omega)

theorem sortCls_any (B S : Nat) (a : Option Addr) (n c : Nat) (xs : List (List Int × Int)) (w : World) (ho : KO w B S a n c xs) (hg : GoodK xs) (hb : n ≤ 1048576) :
    Calls Try.prog 106 #[.slice a n c] w fun e w' => e = .returned (.tuple #[]) ∧
      ∃ xs', xs'.Perm xs ∧ xs'.Pairwise (fun p q => less p.1 q.1 = true) ∧ KO w' B S a n c xs' ∧ Only B S w w' := by
  have Ho := Lib.hid ho
  have Hg := Lib.hid hg
  clear ho hg
  go_enter Try.func106, Try.ntmps106
  go_wp2_with fail
  refine (sortClsF_any B S a n c xs _ Ho.out Hg.out hb).mono ?_
  rintro e w1 ⟨rfl, HV⟩
  have HV := Lib.hid HV
  go_wp2
  go_end0
  exact ⟨rfl, HV.out⟩
end Go.Proofs.Ytocgcgmlemoekaa
