/-
  Terms put in descending order of their keys: slices.SortFunc with the comparison of closed.
-/
import Derived.Test.YtiiiiolifpaehaaSortT
import Derived.Test.YtiiiiolifpaehaaPolyTerm
namespace Go.Proofs.Ytiiiiolifpaehaa
open Go.RowKit Go.Shelf Go.Sort

theorem Drew.laid {w w' : World} (h : Drew w w') : Laid w w' := by
  obtain ⟨m, rfl⟩ := h
  exact (Laid.refl w).drew m
set_option maxRecDepth 100000 in
set_option maxHeartbeats 800000 in
theorem closedCmp_any (a b : Option Addr) (c d : Nat) (x y : Int) (xs ys : List Int) (w : World) (hr : RI w a xs) (hs : RI w b ys) (hn : xs.length = 7) (hm : ys.length = 7) (dx : Digs xs) (dy : Digs ys) :
    Calls Try.prog 215 #[.agg #[.slice a 7 c, .int .i64 x], .agg #[.slice b 7 d, .int .i64 y]] w fun e w' => e = .returned (.int .i64 (byTo xs ys 7)) ∧ Laid w w' := by
  have hL := ((Laid.refl w).alloc (.cells #[.slice a 7 c, .int .i64 x] 121)).alloc (.cells #[.slice b 7 d, .int .i64 y] 121)
  have hB := ((Below.refl w.heap.size w).alloc (Nat.le_refl _) (.cells #[.slice a 7 c, .int .i64 x] 121)).alloc (by simp only [World.alloc, Array.size_push]; omega) (.cells #[.slice b 7 d, .int .i64 y] 121)
  have hr1 := hr.below hB
  have hs1 := hs.below hB
  have HL := Lib.hid hL
  have Hn := Lib.hid hn
  have Hm := Lib.hid hm
  have Hdx := Lib.hid dx
  have Hdy := Lib.hid dy
  obtain ⟨R, hR⟩ : ∃ R, byTo xs ys 7 = R := ⟨_, rfl⟩
  rw [hR]
  have HR := Lib.hid hR
  clear hL hB hn hm dx dy hR
  go_enter Try.func215, Try.ntmps215
  go_wp2_with fail
  refine (isInt (byTerms_any _ _ _ _ xs ys _ hr1 hs1 Hn.out Hm.out Hdx.out Hdy.out) HR.out).mono ?_
  rintro e w1 ⟨rfl, hd⟩
  have hfin := HL.out.trans hd.laid
  go_wp2
  go_ret
  exact ⟨rfl, hfin⟩

def termOfT (xs : List (List Int × Int)) (k : Nat) : List Int × Int := xs.getD k ([], 0)
def keyX (xs : List (List Int × Int)) {n : Nat} (i : Ix n) : Int := keyL (termOfT xs i.1).1
theorem termT_at {xs : List (List Int × Int)} {k : Nat} {p : List Int × Int} (h : xs[k]? = some p) : termOfT xs k = p := by simp [termOfT, h]
theorem termT_ex {xs : List (List Int × Int)} {k n : Nat} (h : xs.length = n) (hk : k < n) : xs[k]? = some (termOfT xs k) := by
  obtain ⟨p, hp⟩ := some_of (show k < xs.length by omega)
  rw [hp, termT_at hp]
/-- terms whose exponents are seven digits, no two alike -/
structure GoodT (xs : List (List Int × Int)) : Prop where
  each : ∀ p ∈ xs, p.1.length = 7 ∧ Digs p.1
  apart : ∀ (i j : Nat) (p q : List Int × Int), xs[i]? = some p → xs[j]? = some q → keyL p.1 = keyL q.1 → i = j
theorem sortTerms_any (B S : Nat) (a : Option Addr) (n c : Nat) (xs : List (List Int × Int)) (w : World) (ho : TO w B S a n c xs) (hg : GoodT xs) (hb : n ≤ 1048576) :
    Calls Try.prog 214 #[.slice a n c, .func (.func 215) #[] #[]] w fun e w' => e = .returned (.tuple #[]) ∧
      ∃ xs', xs'.Perm xs ∧ xs'.Pairwise (fun p q => keyL q.1 < keyL p.1) ∧ TO w' B S a n c xs' ∧ Only B S w w' := by
  have hlen := ho.len
  rcases Nat.eq_zero_or_pos n with h0 | h0
  · subst h0
    have hx : xs = [] := List.length_eq_zero_iff.1 hlen
    subst hx
    refine Calls.mono (AnyF.slices_SortFunc_none laysSortT a c _ w) ?_
    rintro e w' ⟨rfl, rfl⟩
    exact ⟨rfl, [], List.Perm.refl _, List.Pairwise.nil, ho, Only.refl _ _ _⟩
  obtain ⟨vs, h1, h2, h3⟩ := ho
  rcases row2_shape h1 with ⟨hn0, _⟩ | ⟨g, rfl, hBg, hgw, hnc, hcell, cur, hcur⟩
  · omega
  have hgS : g < S := h2 g rfl
  have hvl := h3.len
  have ev : ∀ k, k < n → ∃ a' c', vs.getD (k * 2) undef = .slice a' 7 c' ∧ vs.getD (k * 2 + 1) undef = .int .i64 (termOfT xs k).2 ∧ OwI w B S a' 7 c' (termOfT xs k).1 := by
    intro k hk
    have hx := termT_ex hlen hk
    obtain ⟨a', c', e1, e2, e3⟩ := h3.each k _ hx
    have h7 := (hg.each _ (List.mem_of_getElem? hx)).1
    rw [h7] at e1 e3
    exact ⟨a', c', by rw [List.getD_eq_getElem?_getD, e1]; rfl, by rw [List.getD_eq_getElem?_getD, e2]; rfl, e3⟩
  have hdig : ∀ k, k < n → (termOfT xs k).1.length = 7 ∧ Digs (termOfT xs k).1 := fun k hk => hg.each _ (List.mem_of_getElem? (termT_ex hlen hk))
  let cf : Ix n → Ix n → Int := fun i j => byTo (termOfT xs i.1).1 (termOfT xs j.1).1 7
  have hlt : ∀ i j : Ix n, ltOf cf i j = decide (keyX xs j < keyX xs i) := by
    intro i j
    unfold ltOf
    have := (byTo_key (hdig i.1 i.2).1 (hdig j.1 j.2).1 (hdig i.1 i.2).2 (hdig j.1 j.2).2).1
    simp only [decide_eq_decide]
    exact this
  have hO : SWO (ltOf cf) := by
    refine ⟨fun x => ?_, fun x y z p q => ?_, fun x y z p q => ?_⟩
    · rw [hlt]; simp
    · rw [hlt] at *; simp only [decide_eq_true_eq] at *; omega
    · rw [hlt] at *; simp only [decide_eq_false_iff_not] at *; omega
  have hT : ∀ x y : Ix n, ltOf cf x y = false → ltOf cf y x = false → x = y := by
    intro x y p q
    rw [hlt] at *
    simp only [decide_eq_false_iff_not] at *
    refine Subtype.ext (hg.apart x.1 y.1 _ _ (termT_ex hlen x.2) (termT_ex hlen y.2) ?_)
    unfold keyX at *
    omega
  have hone : ∀ v ∈ vs, v.oneCell' = true := by
    intro v hv
    obtain ⟨t, ht⟩ := List.getElem?_of_mem hv
    have htl := lt_of_some ht
    obtain ⟨a', c', e1, e2, _⟩ := ev (t / 2) (by omega)
    have hvd : vs.getD t undef = v := by rw [List.getD_eq_getElem?_getD, ht]; rfl
    rcases Nat.mod_two_eq_zero_or_one t with hm | hm
    · have e : t / 2 * 2 = t := by omega
      rw [e, hvd] at e1
      rw [e1]; rfl
    · have e : t / 2 * 2 + 1 = t := by omega
      rw [e, hvd] at e2
      rw [e2]; rfl
  have hcmp : ∀ (W : World), w.grownBy W (some g) → ∀ x y : Ix n, Calls Try.prog 215 #[.agg (encX vs x).toArray, .agg (encX vs y).toArray] W fun e w' => e = .returned (.int .i64 (cf x y)) ∧ Laid W w' := by
    intro W hW x y
    obtain ⟨a1, c1, e1, e2, e3⟩ := ev x.1 x.2
    obtain ⟨a2, c2, f1, f2, f3⟩ := ev y.1 y.2
    have keep : ∀ {a0 : Option Addr} {c0 : Nat} {zs : List Int}, OwI w B S a0 7 c0 zs → RI W a0 zs := fun hio => (hio.1.kept hW (fun k hk e => ne_blockT h1 hio k e hk)).ri
    unfold encX
    rw [e1, e2, f1, f2]
    exact closedCmp_any a1 a2 c1 c2 _ _ _ _ W (keep e3) (keep f3) (hdig x.1 x.2).1 (hdig y.1 y.2).1 (hdig x.1 x.2).2 (hdig y.1 y.2).2
  refine (sortX_any cf hO hT 215 (fun args w => by kernel_rfl) B S g c vs w h1 hgS h0 hone hcmp hb).mono ?_
  rintro e w' ⟨rfl, hown, hgr⟩
  generalize hso : ((allX n).mergeSort fun x y => !(ltOf cf) y x) = so at hown
  have hperm : so.Perm (allX n) := by rw [← hso]; exact List.mergeSort_perm _ _
  have hsl : so.length = n := by rw [hperm.length_eq, allX_length]
  have hsorted : so.Pairwise fun x y => (!(ltOf cf) y x) = true := by
    rw [← hso]
    refine List.pairwise_mergeSort (fun x y z p q => ?_) (fun x y => ?_) _
    · simp only [Bool.not_eq_true'] at *
      rw [hlt] at *
      simp only [decide_eq_false_iff_not] at *
      omega
    · simp only [Bool.or_eq_true, Bool.not_eq_true']
      rw [hlt, hlt]
      simp only [decide_eq_false_iff_not]
      omega
  have hnd : so.Nodup := by
    rw [hperm.nodup_iff]
    have h9 : ((allX n).map fun i => i.1).Nodup := by rw [allX_val]; exact List.nodup_range
    rw [List.Nodup, List.pairwise_map] at h9
    exact h9.imp fun h e => h (by rw [e])
  have hxs : (allX n).map (fun i => termOfT xs i.1) = xs := by
    have : (allX n).map (fun i => termOfT xs i.1) = (List.range n).map (termOfT xs) := by rw [← allX_val n, List.map_map]; rfl
    rw [this]
    apply List.ext_getElem?
    intro k
    rcases Nat.lt_or_ge k n with hk | hk
    · rw [List.getElem?_map, List.getElem?_range hk, termT_ex hlen hk]; rfl
    · rw [List.getElem?_eq_none (by simp; omega), List.getElem?_eq_none (by omega)]
  refine ⟨rfl, so.map (fun i => termOfT xs i.1), ?_, ?_, ⟨_, hown, h2, ?_, ?_, ?_⟩, ?_⟩
  · have := hperm.map (fun i : Ix n => termOfT xs i.1)
    rw [hxs] at this
    exact this
  · rw [List.pairwise_map]
    refine (hsorted.and hnd).imp fun {x y} ⟨p, q⟩ => ?_
    simp only [Bool.not_eq_true'] at p
    rw [hlt] at p
    simp only [decide_eq_false_iff_not] at p
    have hne : keyX xs x ≠ keyX xs y := fun e => q (Subtype.ext (hg.apart x.1 y.1 _ _ (termT_ex hlen x.2) (termT_ex hlen y.2) e))
    unfold keyX at *
    omega
  · rw [flatX_length, List.length_map]
  · intro k p hp
    rw [List.getElem?_map] at hp
    obtain ⟨i, hi, rfl⟩ := Option.map_eq_some_iff.1 hp
    obtain ⟨f1, f2⟩ := flatX_at vs so k i hi
    obtain ⟨a', c', e1, e2, e3⟩ := ev i.1 i.2
    rw [e1] at f1
    rw [e2] at f2
    refine ⟨a', c', ?_, f2, ?_⟩
    · rw [(hdig i.1 i.2).1]; exact f1
    · rw [(hdig i.1 i.2).1]
      exact ⟨e3.1.kept hgr (fun k hk e => ne_blockT h1 e3 k e hk), e3.2⟩
  · intro i j u v b hu hv hub hvb
    have get : ∀ i u, (flatX vs so)[i * 2]? = some u → ∃ x : Ix n, so[i]? = some x ∧ vs[x.1 * 2]? = some u := by
      intro i u hu
      have hil := lt_of_some hu
      rw [flatX_length, hsl] at hil
      obtain ⟨x, hx⟩ := some_of (show i < so.length by omega)
      obtain ⟨f1, _⟩ := flatX_at vs so i x hx
      rw [hu] at f1
      refine ⟨x, hx, ?_⟩
      have hx2 := x.2
      rw [List.getD_eq_getElem?_getD] at f1
      have hlt2 : x.1 * 2 < vs.length := by omega
      rw [List.getElem?_eq_getElem hlt2] at f1 ⊢
      rw [f1]
      rfl
    obtain ⟨x, hx, hxu⟩ := get i u hu
    obtain ⟨y, hy, hyv⟩ := get j v hv
    have hxy := h3.apart x.1 y.1 u v b hxu hyv hub hvb
    have : x = y := Subtype.ext hxy
    subst this
    obtain ⟨hi, rfl⟩ := List.getElem?_eq_some_iff.1 hx
    obtain ⟨hj, hje⟩ := List.getElem?_eq_some_iff.1 hy
    have hpw := List.pairwise_iff_getElem.1 hnd
    rcases Nat.lt_trichotomy i j with h | h | h
    · exact absurd hje.symm (hpw i j hi hj h)
    · exact h
    · exact absurd hje (hpw j i hj hi h)
  · exact Only.of_grown (v := .slice (some ⟨g, 0, none⟩) n c) hgr (fun k hk => by simp [Value.ownBlock] at hk; omega) (fun k hk => by simp [Value.ownBlock] at hk; omega)
end Go.Proofs.Ytiiiiolifpaehaa
