/-
  Contract of slices.SortFunc at a row of terms of the call's own, by an order that parts whatever two of them; given by the kit's shelf.
-/
import Derived.Test.YtiiiiolifpaehaaKT
import Derived.Test.YtiiiiolifpaehaaLaid
import Derived.Test.YtiiiiolifpaehaaSortLayT
namespace Go.Proofs.Ytiiiiolifpaehaa
open Go.RowKit Go.Shelf Go.Sort

def Ix (n : Nat) : Type := { k : Nat // k < n }
def encX (vs : List Value) {n : Nat} (i : Ix n) : List Value := [vs.getD (i.1 * 2) undef, vs.getD (i.1 * 2 + 1) undef]
def allX (n : Nat) : List (Ix n) := (List.range n).attachWith (fun k => k < n) (fun _k hk => List.mem_range.1 hk)
theorem allX_val (n : Nat) : (allX n).map (fun i => i.1) = List.range n := List.attachWith_map_subtype_val _
theorem allX_length (n : Nat) : (allX n).length = n := by rw [← List.length_map (f := fun i : Ix n => i.1), allX_val, List.length_range]
theorem allX_at {n k : Nat} (h : k < n) : (allX n)[k]? = some ⟨k, h⟩ := by
  have h1 : (allX n)[k]? = some ((allX n)[k]'(by rw [allX_length]; exact h)) := List.getElem?_eq_getElem _
  have h2 : ((allX n)[k]'(by rw [allX_length]; exact h)).1 = k := by
    have := congrArg (fun l => l[k]?) (allX_val n)
    simp only [List.getElem?_map, h1, Option.map_some, List.getElem?_range h] at this
    exact Option.some.inj this
  rw [h1]
  congr 1
  exact Subtype.ext h2
theorem sizeOf_Term (w : World) : (Go.sizeOf 121).run Try.prog w = .ok 2 w := by kernel_rfl
theorem isAgg_Term (w : World) : (isAgg 121).run Try.prog w = .ok true w := by kernel_rfl
def flatX (vs : List Value) {n : Nat} (l : List (Ix n)) : List Value := l.flatMap (encX vs)
theorem flatX_length (vs : List Value) {n : Nat} (l : List (Ix n)) : (flatX vs l).length = l.length * 2 := by
  induction l with
  | nil => rfl
  | cons i l ih => unfold flatX at *; rw [List.flatMap_cons, List.length_append, ih, List.length_cons]; simp [encX]; omega
theorem flatX_at (vs : List Value) {n : Nat} : ∀ (l : List (Ix n)) (k : Nat) (i : Ix n), l[k]? = some i → (flatX vs l)[k * 2]? = some (vs.getD (i.1 * 2) undef) ∧ (flatX vs l)[k * 2 + 1]? = some (vs.getD (i.1 * 2 + 1) undef)
  | [], _, _, h => by simp at h
  | j :: l, 0, i, h => by
    simp only [List.getElem?_cons_zero, Option.some.injEq] at h
    subst h
    exact ⟨rfl, rfl⟩
  | j :: l, k + 1, i, h => by
    simp only [List.getElem?_cons_succ] at h
    have := flatX_at vs l k i h
    have e : (k + 1) * 2 = k * 2 + 1 + 1 := by omega
    rw [e]
    unfold flatX at *
    rw [List.flatMap_cons]
    simpa [encX] using this
theorem flat_X (vs : List Value) {n : Nat} [Inhabited (Ix n)] (l : List (Ix n)) : flatK (encX vs) 2 l.toArray = (flatX vs l).toArray := by
  apply Array.ext_getElem?
  intro t
  by_cases ht : t < l.length * 2
  · have h1 : (flatK (encX vs) 2 l.toArray)[t]? = some (flatK (encX vs) 2 l.toArray)[t]! := by
      rw [getElem!_pos _ t (by simpa using ht)]; exact Array.getElem?_eq_getElem _
    rw [h1, get_flatK _ _ _ _ (by simpa using ht)]
    have hk : t / 2 < l.length := by omega
    have e3 : l.toArray[t / 2]! = l[t / 2]'hk := by simp [hk]
    obtain ⟨e1, e2⟩ := flatX_at vs l (t / 2) _ (List.getElem?_eq_getElem hk)
    rw [e3, List.getElem?_toArray]
    rcases Nat.mod_two_eq_zero_or_one t with h | h
    · rw [h, show (flatX vs l)[t]? = (flatX vs l)[t / 2 * 2]? by congr 1; omega, e1]
      rfl
    · rw [h, show (flatX vs l)[t]? = (flatX vs l)[t / 2 * 2 + 1]? by congr 1; omega, e2]
      rfl
  · rw [Array.getElem?_eq_none (by simp; omega), Array.getElem?_eq_none (by simp [flatX_length]; omega)]
theorem flatX_all {vs : List Value} {n : Nat} (h : vs.length = n * 2) : flatX vs (allX n) = vs := by
  apply List.ext_getElem?
  intro t
  by_cases ht : t < n * 2
  · obtain ⟨e1, e2⟩ := flatX_at vs (allX n) (t / 2) ⟨t / 2, by omega⟩ (allX_at (by omega))
    simp only at e1 e2
    have hv : vs[t]? = some (vs.getD t undef) := by rw [List.getD_eq_getElem?_getD, List.getElem?_eq_getElem (by omega)]; rfl
    rw [hv]
    rcases Nat.mod_two_eq_zero_or_one t with h0 | h0
    · have e : t / 2 * 2 = t := by omega
      rw [e] at e1
      exact e1
    · have e : t / 2 * 2 + 1 = t := by omega
      rw [e] at e2
      exact e2
  · rw [List.getElem?_eq_none (by rw [flatX_length, allX_length]; omega), List.getElem?_eq_none (by omega)]

theorem sortX_any {n : Nat} (cf : Ix n → Ix n → Int) (hO : SWO (ltOf cf)) (hT : ∀ x y, (ltOf cf) x y = false → (ltOf cf) y x = false → x = y)
    (f : Nat) (ef : ∀ args w, (callFunc f args).run Try.prog w = .ok (.enter f args) w) (B S g c : Nat) (vs : List Value) (w : World) (ho : w.ownsRow B 121 2 (.slice (some ⟨g, 0, none⟩) n c) n vs) (_hS : g < S) (hpos : 0 < n)
    (h1 : ∀ v ∈ vs, v.oneCell' = true) (hcmp : ∀ (W : World), w.grownBy W (some g) → ∀ x y : Ix n, Calls Try.prog f #[.agg (encX vs x).toArray, .agg (encX vs y).toArray] W fun e w' => e = .returned (.int .i64 (cf x y)) ∧ Laid W w') (hb : n ≤ 1048576) :
    Calls Try.prog 214 #[.slice (some ⟨g, 0, none⟩) n c, .func (.func f) #[] #[]] w fun e w' => e = .returned (.tuple #[]) ∧
      w'.ownsRow B 121 2 (.slice (some ⟨g, 0, none⟩) n c) n (flatX vs ((allX n).mergeSort fun x y => !(ltOf cf) y x)) ∧ w.grownBy w' (some g) := by
  haveI : Inhabited (Ix n) := ⟨⟨0, hpos⟩⟩
  have hvl := ho.1
  rcases ho.2 with ⟨_, h2⟩ | ⟨g', cap, cur, hv, hg, hh, hn, hm, hs, ht⟩
  · omega
  · simp only [Value.slice.injEq, Option.some.injEq, Addr.mk.injEq] at hv
    obtain ⟨⟨rfl, _⟩, _, rfl⟩ := hv
    have hgz : g < w.heap.size := (Array.getElem?_eq_some_iff.1 hh).1
    have hll : (allX n).toArray.size = n := by simp [allX_length]
    have hfl : flatK (encX vs) 2 (allX n).toArray = vs.toArray := by rw [flat_X, flatX_all hvl]
    have hH : HoldsK (encX vs) 2 w g 0 (allX n).toArray := by
      unfold HoldsK
      rw [hfl]
      intro j hj
      have hj' : j < n * 2 := by simpa [hvl] using hj
      rw [Nat.zero_add]
      refine ⟨?_, ho.frozenAt _⟩
      rw [ho.cellAt _ (by simpa using hj')]
      simp [hvl, hj']
    have h1' : ∀ (x : Ix n), ∀ v ∈ encX vs x, v.oneCell' = true := by
      intro x v hv
      have hx := x.2
      have hget : ∀ t, t < vs.length → vs.getD t undef ∈ vs := fun t ht => by rw [List.getD_eq_getElem?_getD, List.getElem?_eq_getElem ht]; exact List.getElem_mem ht
      simp only [encX, List.mem_cons, List.not_mem_nil, or_false] at hv
      rcases hv with rfl | rfl
      · exact h1 _ (hget _ (by omega))
      · exact h1 _ (hget _ (by omega))
    have key := AnyQ.slices_SortFunc_total laysSortT 2 isAgg_Term sizeOf_Term (encX vs) (fun _ => rfl) h1' cf hO f #[] g 0 c (allX n).toArray w ef
      (by
        intro m os dk hdk x y
        refine (hcmp _ ?_ x y).mono ?_
        · unfold sortWorldK putRowK
          exact grownBy_sortedV _
        · rintro e w' ⟨he, q, os', hw⟩
          exact ⟨he, q, os', hw⟩) hH hgz (by rw [hll]; omega) hT
    rw [hll] at key
    refine Calls.mono key ?_
    rintro e w' ⟨rfl, m, os, rfl⟩
    generalize hso : ((allX n).mergeSort fun x y => !(ltOf cf) y x) = so
    have hsl : so.length = n := by rw [← hso, List.length_mergeSort, allX_length]
    have hlen : (flatX vs so).length = n * 2 := by rw [flatX_length, hsl]
    have hnew := heap_sortedV (n := m) (os := os) (flatX vs so).toArray hh
    have hgr := grownBy_sortedV (w := w) (g := g) (n := m) (os := os) (flatX vs so).toArray
    unfold sortWorldK putRowK
    rw [flat_X]
    refine ⟨rfl, ⟨hlen, .inr ⟨g, c, _, rfl, hg, hnew, hn, hm, by simp [putCells, hs], ?_⟩⟩, hgr⟩
    rw [← hlen]
    exact take_putCellsV cur _ (by rw [hlen, hs]; exact Nat.mul_le_mul_right 2 hn)
end Go.Proofs.Ytiiiiolifpaehaa
