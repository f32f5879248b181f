/-
  Contract of slices.Delete of one number of a row of the call's own; given by the kit's shelf: Any.slices_Delete_int.
-/
import Derived.Test.YtocgcgmlemoekaaBuA
import Derived.Shelf.Slices.Delete
namespace Go.Proofs.Ytocgcgmlemoekaa
open Go.RowKit Go.Shelf Go.Sort

def renDel : Ren := ⟨fun _ => 172, fun k => if k = 22 then 22 else k, fun k => k⟩
theorem laysDel : Lays2.n23 Try.prog renDel where
  mixed := by kernel_rfl
  f23 := by kernel_rfl
  t0 := by kernel_rfl
  a0 := fun w => by kernel_rfl
  z0 := fun w => by kernel_rfl
  v0 := fun w => by kernel_rfl
  t3 := by kernel_rfl
  a3 := fun w => by kernel_rfl
  z3 := fun w => by kernel_rfl
  v3 := fun w => by kernel_rfl
  t4 := by kernel_rfl
  a4 := fun w => by kernel_rfl
  z4 := fun w => by kernel_rfl
  v4 := fun w => by kernel_rfl
  t22 := by kernel_rfl
  a22 := fun w => by kernel_rfl
  z22 := fun w => by kernel_rfl
  v22 := fun w => by kernel_rfl
  i3 := by kernel_rfl

theorem OwI.holds {w : World} {B S g n c : Nat} {xs : List Int} (h : OwI w B S (some ⟨g, 0, none⟩) n c xs) : Holds (Value.int .i64) w g 0 xs.toArray := by
  intro j hj
  have hl := h.len
  have hj' : j < n := by simpa [hl] using hj
  obtain ⟨g', e, _, ⟨x, hx, hc⟩, hf⟩ := OI.cons h.1 hj'
  obtain rfl : g = g' := by simpa using e
  rw [Nat.zero_add]
  refine ⟨?_, hf⟩
  rw [hc]
  obtain ⟨_, hx'⟩ := List.getElem?_eq_some_iff.1 hx
  simp [hx]
theorem OwI.row {w : World} {B S g n c : Nat} {xs : List Int} (h : OwI w B S (some ⟨g, 0, none⟩) n c xs) : B ≤ g ∧ g < S ∧ ∃ cur, w.heap[g]? = some (.cells cur 3) ∧ n ≤ c ∧ c ≤ maxLen ∧ cur.size = c * 1 := by
  have h1 := h.1.own
  have h2 := h.2 g rfl
  rcases h1.2 with ⟨e, _⟩ | ⟨g', cap, cur, hv, hb, hh, hn, hm, hs, _⟩
  · cases e
  · simp only [Value.slice.injEq, Option.some.injEq, Addr.mk.injEq, and_true, true_and] at hv
    obtain ⟨rfl, rfl⟩ := hv
    exact ⟨hb, h2, cur, hh, hn, hm, hs⟩
theorem OwI.putRow {w : World} {B S g n c : Nat} {xs : List Int} (h : OwI w B S (some ⟨g, 0, none⟩) n c xs) (ys : List Int) (hy : ys.length = n) (q : Nat) :
    OwI (putRow (Value.int .i64) (Go.Sort.ahead w q) g 0 ys.toArray) B S (some ⟨g, 0, none⟩) n c ys ∧ Only B S w (putRow (Value.int .i64) (Go.Sort.ahead w q) g 0 ys.toArray) := by
  obtain ⟨hB, hS, cur, hh, hn, hm, hs⟩ := h.row
  have hg : g < w.heap.size := (Array.getElem?_eq_some_iff.1 hh).1
  have hnew : (Go.Sort.putRow (Value.int .i64) (Go.Sort.ahead w q) g 0 ys.toArray).heap[g]? = some (.cells (putCells (Value.int .i64) 0 ys.toArray cur) 3) := by
    unfold Go.Sort.putRow mapBlock
    simp only [Go.Sort.ahead]
    rw [Array.getElem?_modify, if_pos rfl, hh]
    rfl
  constructor
  · refine ⟨OS.of ⟨by simp [ints, hy], .inr ⟨g, c, _, rfl, hB, hnew, hn, hm, by simp [putCells, hs], ?_⟩⟩, fun k hk => ?_⟩
    · apply List.ext_getElem?
      intro k
      simp only [putCells, Nat.mul_one, List.getElem?_take, Array.getElem?_toList, Array.getElem?_mapIdx, ints, List.getElem?_map]
      by_cases hk : k < n
      · rw [if_pos hk]
        have h1 : k < cur.size := by omega
        have h2 : k < ys.length := by omega
        simp [h1, hk, hy]
      · rw [if_neg hk, List.getElem?_eq_none (by omega)]
        rfl
    · simp [Value.ownBlock] at hk
      omega
  · refine ⟨rfl, rfl, rfl, by simp [Go.Sort.putRow, mapBlock, Go.Sort.ahead], fun k hk hn => ?_⟩
    unfold Go.Sort.putRow mapBlock
    simp only [Go.Sort.ahead]
    rw [Array.getElem?_modify, if_neg (by omega)]
theorem OwI.short {w : World} {B S : Nat} {a : Option Addr} {n c : Nat} {xs : List Int} (h : OwI w B S a n c xs) {m : Nat} (hm : m ≤ n) (h0 : 0 < n) : OwI w B S a m c (xs.take m) := by
  have h1 := h.1.own
  have hl := h.len
  rcases h1.2 with ⟨e, hn⟩ | ⟨g', cap, cur, hv, hb, hh, hn, hm2, hs, ht⟩
  · simp at e; omega
  · simp only [Value.slice.injEq] at hv
    obtain ⟨rfl, _, rfl⟩ := hv
    refine ⟨OS.of ⟨by simp [ints]; omega, .inr ⟨g', _, cur, rfl, hb, hh, by omega, hm2, hs, ?_⟩⟩, fun k hk => h.2 k (by simpa [Value.ownBlock] using hk)⟩
    have e : ints (xs.take m) = (ints xs).take m := by simp [ints]
    rw [e, ← ht, List.take_take, Nat.mul_one, Nat.mul_one, Nat.min_eq_left hm]

theorem delete_any {B S g n c i : Nat} {xs : List Int} (I J : Int) (w : World) (h : OwI w B S (some ⟨g, 0, none⟩) n c xs) (hi : i < n) (hI : I = (i : Int)) (hJ : J = ((i + 1 : Nat) : Int)) :
    Calls Try.prog 172 #[.slice (some ⟨g, 0, none⟩) n c, .int .i64 I, .int .i64 J] w fun e w' => e = .returned (.slice (some ⟨g, 0, none⟩) (n - 1) c) ∧ OwI w' B S (some ⟨g, 0, none⟩) (n - 1) c (xs.eraseIdx i) ∧ Only B S w w' := by
  subst hI hJ
  have hl := h.len
  obtain ⟨_, _, cur, _, hn, hm, _⟩ := h.row
  unfold maxLen at hm
  have hd := Any.slices_Delete_int laysDel g 0 c i (i + 1) xs w h.holds (by omega) hm (by omega) (by omega)
  rw [hl] at hd
  refine hd.mono ?_
  rintro e w' ⟨rfl, q, rfl⟩
  have e1 : i + 1 - i = 1 := by omega
  rw [e1]
  have hy : (xs.take i ++ xs.drop (i + 1) ++ List.replicate 1 (0 : Int)).length = n := by simp; omega
  obtain ⟨p1, p2⟩ := h.putRow _ hy q
  refine ⟨rfl, ?_, p2⟩
  have p3 := p1.short (m := n - 1) (by omega) (by omega)
  have e2 : (xs.take i ++ xs.drop (i + 1) ++ List.replicate 1 (0 : Int)).take (n - 1) = xs.eraseIdx i := by
    rw [List.eraseIdx_eq_take_drop_succ, List.take_append_of_le_length (by simp; omega), List.take_of_length_le (by simp; omega)]
  rw [e2] at p3
  exact p3
end Go.Proofs.Ytocgcgmlemoekaa
