/-
  Contract of slices.SortFunc at a row of terms of the call's own, by an order that parts whatever two of them; given by the kit's shelf.
-/
import Derived.Test.YtblhndkaikelaaaKT
import Derived.Test.YtblhndkaikelaaaIxs
import Derived.Test.YtblhndkaikelaaaSortLayT
namespace Go.Proofs.Ytblhndkaikelaaa
open Go.RowKit Go.Shelf Go.Sort

theorem sizeOf_Term (w : World) : (Go.sizeOf 56).run Try.prog w = .ok 2 w := by kernel_rfl
theorem isAgg_Term (w : World) : (isAgg 56).run Try.prog w = .ok true w := by kernel_rfl
theorem sortX_any {n : Nat} (cf : Ix n → Ix n → Int) (hO : SWO (ltOf cf)) (hT : ∀ x y, (ltOf cf) x y = false → (ltOf cf) y x = false → x = y)
    (f : Nat) (ef : ∀ args w, (callFunc f args).run Try.prog w = .ok (.enter f args) w) (B S g c : Nat) (vs : List Value) (w : World) (ho : w.ownsRow B 56 2 (.slice (some ⟨g, 0, none⟩) n c) n vs) (_hS : g < S) (hpos : 0 < n)
    (h1 : ∀ v ∈ vs, v.oneCell' = true) (hcmp : ∀ (W : World), w.grownBy W (some g) → ∀ x y : Ix n, Calls Try.prog f #[.agg (encX vs x).toArray, .agg (encX vs y).toArray] W fun e w' => e = .returned (.int .i64 (cf x y)) ∧ Laid W w') (hb : n ≤ 1048576) :
    Calls Try.prog 57 #[.slice (some ⟨g, 0, none⟩) n c, .func (.func f) #[] #[]] w fun e w' => e = .returned (.tuple #[]) ∧
      w'.ownsRow B 56 2 (.slice (some ⟨g, 0, none⟩) n c) n (flatX vs ((allX n).mergeSort fun x y => !(ltOf cf) y x)) ∧ w.grownBy w' (some g) := by
  haveI : Inhabited (Ix n) := ⟨⟨0, hpos⟩⟩
  have hvl := ho.1
  rcases ho.2 with ⟨_, h2⟩ | ⟨g', cap, cur, hv, hg, hh, hn, hm, hs, ht⟩
  · omega
  · simp only [Value.slice.injEq, Option.some.injEq, Addr.mk.injEq] at hv
    obtain ⟨⟨rfl, _⟩, _, rfl⟩ := hv
    have hgz : g < w.heap.size := (Array.getElem?_eq_some_iff.1 hh).1
    have hll : (allX n).toArray.size = n := by simp [allX_length]
    have hfl : flatK (encX vs) 2 (allX n).toArray = vs.toArray := by rw [flat_X, flatX_all hvl]
    have hH : HoldsK (encX vs) 2 w g 0 (allX n).toArray := by
      unfold HoldsK
      rw [hfl]
      intro j hj
      have hj' : j < n * 2 := by simpa [hvl] using hj
      rw [Nat.zero_add]
      refine ⟨?_, ho.frozenAt _⟩
      rw [ho.cellAt _ (by simpa using hj')]
      simp [hvl, hj']
    have h1' : ∀ (x : Ix n), ∀ v ∈ encX vs x, v.oneCell' = true := by
      intro x v hv
      have hx := x.2
      have hget : ∀ t, t < vs.length → vs.getD t undef ∈ vs := fun t ht => by rw [List.getD_eq_getElem?_getD, List.getElem?_eq_getElem ht]; exact List.getElem_mem ht
      simp only [encX, List.mem_cons, List.not_mem_nil, or_false] at hv
      rcases hv with rfl | rfl
      · exact h1 _ (hget _ (by omega))
      · exact h1 _ (hget _ (by omega))
    have key := AnyQ.slices_SortFunc_total laysSortT 2 isAgg_Term sizeOf_Term (encX vs) (fun _ => rfl) h1' cf hO f #[] g 0 c (allX n).toArray w ef
      (by
        intro m os dk hdk x y
        refine (hcmp _ ?_ x y).mono ?_
        · unfold sortWorldK putRowK
          exact grownBy_sortedV _
        · rintro e w' ⟨he, q, os', hw⟩
          exact ⟨he, q, os', hw⟩) hH hgz (by rw [hll]; omega) hT
    rw [hll] at key
    refine Calls.mono key ?_
    rintro e w' ⟨rfl, m, os, rfl⟩
    generalize hso : ((allX n).mergeSort fun x y => !(ltOf cf) y x) = so
    have hsl : so.length = n := by rw [← hso, List.length_mergeSort, allX_length]
    have hlen : (flatX vs so).length = n * 2 := by rw [flatX_length, hsl]
    have hnew := heap_sortedV (n := m) (os := os) (flatX vs so).toArray hh
    have hgr := grownBy_sortedV (w := w) (g := g) (n := m) (os := os) (flatX vs so).toArray
    unfold sortWorldK putRowK
    rw [flat_X]
    refine ⟨rfl, ⟨hlen, .inr ⟨g, c, _, rfl, hg, hnew, hn, hm, by simp [putCells, hs], ?_⟩⟩, hgr⟩
    rw [← hlen]
    exact take_putCellsV cur _ (by rw [hlen, hs]; exact Nat.mul_le_mul_right 2 hn)
end Go.Proofs.Ytblhndkaikelaaa
