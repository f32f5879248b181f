/-
  Contract of slices.SortFunc at a row of cells of the call's own, by an order that parts whatever two cells; given by the kit's shelf: AnyQ.slices_SortFunc_total.
-/
import Derived.Test.YtnjfbgdighaiiaaCells
import Derived.Test.YtnjfbgdighaiiaaSortLayC
namespace Go.Proofs.Ytnjfbgdighaiiaa
open Go.RowKit Go.Shelf Go.Sort

/-- nothing but draws and new blocks -/
def Laid (w w' : World) : Prop := ∃ q os, w' = grow (w.drewN q) os
theorem Laid.refl (w : World) : Laid w w := ⟨0, #[], by rw [grow_empty]; rfl⟩
theorem Laid.alloc {w w' : World} (h : Laid w w') (o : Obj) : Laid w (w'.alloc o) := by
  obtain ⟨q, os, rfl⟩ := h
  exact ⟨q, os ++ #[o], by rw [alloc_eq_grow, grow_grow]⟩
theorem Laid.drew {w w' : World} (h : Laid w w') (n : Nat) : Laid w (w'.drewN n) := by
  obtain ⟨q, os, rfl⟩ := h
  exact ⟨q + n, os, by show grow ((w.drewN q).drewN n) os = _; rw [World.drewN_drewN]⟩
theorem Laid.trans {a b c : World} (h : Laid a b) (k : Laid b c) : Laid a c := by
  obtain ⟨q, os, rfl⟩ := k
  obtain ⟨p, os', e⟩ := h.drew q
  exact ⟨p, os' ++ os, by rw [e, grow_grow]⟩

theorem heap_sortedV {w : World} {g n : Nat} {os : Array Obj} {cur : Array Value} {e : TypeId} {fr : Nat × Nat} (d : Array Value) (hb : w.heap[g]? = some (.cells cur e fr)) :
    (grow (putRow id (Go.Sort.ahead w n) g 0 d) os).heap[g]? = some (.cells (putCells id 0 d cur) e fr) := by
  have hg : g < w.heap.size := (Array.getElem?_eq_some_iff.1 hb).1
  rw [heap_grow_old _ _ (by simpa using hg)]
  simp [putRow, mapBlock, Go.Sort.ahead, Array.getElem?_modify, hb, onCells]
theorem grownBy_sortedV {w : World} {g n : Nat} {os : Array Obj} (d : Array Value) : w.grownBy (grow (putRow id (Go.Sort.ahead w n) g 0 d) os) (some g) := by
  refine ⟨rfl, rfl, rfl, by simp, fun k hk hne => ?_⟩
  rw [heap_grow_old _ _ (by simpa using hk)]
  have : g ≠ k := fun e => hne (by rw [e])
  simp [putRow, mapBlock, Go.Sort.ahead, Array.getElem?_modify, this]
theorem take_putCellsV (cur : Array Value) (ts : List Value) (h : ts.length ≤ cur.size) : (putCells id 0 ts.toArray cur).toList.take ts.length = ts := by
  apply List.ext_getElem?
  intro j
  by_cases hj : j < ts.length
  · rw [List.getElem?_take_of_lt hj, Array.getElem?_toList]
    simp [putCells, hj, show j < cur.size by omega]
  · rw [List.getElem?_take_eq_none (by omega), List.getElem?_eq_none (by omega)]

/-- cells whose numbers are small -/
def LowP : Type := { p : Int × Int // Low p.1 ∧ Low p.2 }
instance : Inhabited LowP := ⟨⟨(0, 0), by unfold Low; omega, by unfold Low; omega⟩⟩
def encP (p : LowP) : List Value := [.int .i64 p.1.1, .int .i64 p.1.2]
def lowed (xs : List (Int × Int)) (h : ∀ p ∈ xs, Low p.1 ∧ Low p.2) : List LowP := xs.attachWith _ h
theorem lowed_val (xs : List (Int × Int)) (h : ∀ p ∈ xs, Low p.1 ∧ Low p.2) : (lowed xs h).map (fun p => p.1) = xs := by
  unfold lowed
  exact List.attachWith_map_subtype_val h
theorem lowed_length (xs : List (Int × Int)) (h : ∀ p ∈ xs, Low p.1 ∧ Low p.2) : (lowed xs h).length = xs.length := by
  unfold lowed; exact List.length_attachWith
theorem flat_prs (ys : List LowP) : flatK encP 2 ys.toArray = (prs (ys.map fun p => p.1)).toArray := by
  apply Array.ext_getElem?
  intro t
  by_cases ht : t < ys.length * 2
  · have h1 : (flatK encP 2 ys.toArray)[t]? = some (flatK encP 2 ys.toArray)[t]! := by
      rw [getElem!_pos _ t (by simpa using ht)]; exact Array.getElem?_eq_getElem _
    rw [h1, get_flatK _ _ _ _ (by simpa using ht)]
    have hk : t / 2 < ys.length := by omega
    have hp : (ys.map fun p => p.1)[t / 2]? = some (ys[t / 2]'hk).1 := by simp [hk]
    obtain ⟨e1, e2⟩ := prs_at hp
    have e3 : ys.toArray[t / 2]! = ys[t / 2]'hk := by simp [hk]
    rw [e3]
    rw [List.getElem?_toArray]
    rcases Nat.mod_two_eq_zero_or_one t with h | h
    · rw [h]
      have : t = t / 2 * 2 := by omega
      rw [show (prs (ys.map fun p => p.1))[t]? = (prs (ys.map fun p => p.1))[t / 2 * 2]? by rw [← this], e1]
      rfl
    · rw [h]
      have : t = t / 2 * 2 + 1 := by omega
      rw [show (prs (ys.map fun p => p.1))[t]? = (prs (ys.map fun p => p.1))[t / 2 * 2 + 1]? by rw [← this], e2]
      rfl
  · rw [Array.getElem?_eq_none (by simp; omega), Array.getElem?_eq_none (by simp [prs_length]; omega)]

theorem sizeOf_Cell (w : World) : (Go.sizeOf 44).run Try.prog w = .ok 2 w := by kernel_rfl
theorem isAgg_Cell (w : World) : (isAgg 44).run Try.prog w = .ok true w := by kernel_rfl

theorem sortC_any (cf : LowP → LowP → Int) (hO : SWO (ltOf cf)) (hT : ∀ x y, (ltOf cf) x y = false → (ltOf cf) y x = false → x = y) (le : (Int × Int) → (Int × Int) → Bool) (hle : ∀ x y : LowP, le x.1 y.1 = !(ltOf cf) y x)
    (f : Nat) (ef : ∀ args w, (callFunc f args).run Try.prog w = .ok (.enter f args) w) (hcmp : ∀ (x y : LowP) (w : World), Calls Try.prog f #[.agg (encP x).toArray, .agg (encP y).toArray] w fun e w' => e = .returned (.int .i64 (cf x y)) ∧ Laid w w')
    (B S : Nat) (a : Option Addr) (n c : Nat) (xs : List (Int × Int)) (w : World) (ho : CO w B S a n c xs) (hlow : ∀ p ∈ xs, Low p.1 ∧ Low p.2) (hb : n ≤ 1048576) :
    Calls Try.prog 96 #[.slice a n c, .func (.func f) #[] #[]] w fun e w' => e = .returned (.tuple #[]) ∧ CO w' B S a n c (xs.mergeSort le) ∧ Only B S w w' := by
  have hl := ho.len
  rcases Nat.eq_zero_or_pos n with h0 | h0
  · subst h0
    have hx : xs = [] := List.length_eq_zero_iff.1 hl
    subst hx
    refine Calls.mono (AnyF.slices_SortFunc_none laysSortC a c _ w) ?_
    rintro e w' ⟨rfl, rfl⟩
    refine ⟨rfl, ?_, Only.refl _ _ _⟩
    rw [List.mergeSort_nil]
    exact ho
  · have hlo := ho.lo
    have hhi := ho.2
    rcases ho.1.2 with ⟨_, h2⟩ | ⟨g, cap, cur, hv, hg, hh, hn, hm, hs, ht⟩
    · omega
    · simp only [Value.slice.injEq] at hv
      obtain ⟨rfl, _, rfl⟩ := hv
      have hgz : g < w.heap.size := (Array.getElem?_eq_some_iff.1 hh).1
      have hgS := hhi g rfl
      have hll : (lowed xs hlow).toArray.size = n := by simp [lowed_length, hl]
      have hfl : flatK encP 2 (lowed xs hlow).toArray = (prs xs).toArray := by rw [flat_prs, lowed_val]
      have hH : HoldsK encP 2 w g 0 (lowed xs hlow).toArray := by
        unfold HoldsK
        rw [hfl]
        intro j hj
        have hj' : j < n * 2 := by simpa [prs_length, hl] using hj
        rw [Nat.zero_add]
        refine ⟨?_, ho.1.frozenAt _⟩
        rw [ho.1.cellAt _ (by simpa using hj')]
        simp [prs_length, hl, hj']
      have key := AnyQ.slices_SortFunc_total laysSortC 2 isAgg_Cell sizeOf_Cell encP (fun _ => rfl) (by intro x v hv; simp [encP] at hv; rcases hv with rfl | rfl <;> rfl) cf hO f #[] g 0 c (lowed xs hlow).toArray w ef
        (by
          intro m os dk hdk x y
          refine (hcmp x y _).mono ?_
          rintro e w' ⟨he, q, os', hw⟩
          exact ⟨he, q, os', hw⟩) hH hgz (by rw [hll]; omega) hT
      rw [hll] at key
      refine Calls.mono key ?_
      rintro e w' ⟨rfl, m, os, rfl⟩
      have hms : ((lowed xs hlow).mergeSort (fun x y => !(ltOf cf) y x)).map (fun p => p.1) = xs.mergeSort le := by
        rw [List.map_mergeSort (s := le), lowed_val]
        intro x _ y _
        exact (hle x y).symm
      have hfs : flatK encP 2 ((lowed xs hlow).mergeSort (fun x y => !(ltOf cf) y x)).toArray = (prs (xs.mergeSort le)).toArray := by rw [flat_prs, hms]
      have hlen : (prs (xs.mergeSort le)).length = n * 2 := by rw [prs_length, List.length_mergeSort, hl]
      have hnew := heap_sortedV (n := m) (os := os) (prs (xs.mergeSort le)).toArray hh
      have hgr := grownBy_sortedV (w := w) (g := g) (n := m) (os := os) (prs (xs.mergeSort le)).toArray
      unfold sortWorldK putRowK
      rw [show ((lowed xs hlow).toArray.toList.mergeSort fun x y => !(ltOf cf) y x) = (lowed xs hlow).mergeSort (fun x y => !(ltOf cf) y x) from rfl, hfs]
      refine ⟨rfl, ⟨⟨hlen, .inr ⟨g, c, _, rfl, hg, hnew, hn, hm, by simp [putCells, hs], ?_⟩⟩, hhi⟩, Only.of_grown (v := .slice (some ⟨g, 0, none⟩) n c) hgr hlo hhi⟩
      rw [← hlen]
      exact take_putCellsV cur _ (by rw [hlen, hs]; exact Nat.mul_le_mul_right 2 hn)
end Go.Proofs.Ytnjfbgdighaiiaa
