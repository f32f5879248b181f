/-
  append of cells to cells, as a step of a region that draws its order; parts of a row of cells.
-/
import Derived.Test.YtomejjbkakpoiaaGreatBuY9
import Derived.Deep.RegionHeld3
namespace Go.Proofs.YtomejjbkakpoiaaGreat
open Go.RowKit

theorem step_appC {w : World} {ops : Array Oper} {o : Oper} {ac : Act} {K : Act → World → Prop} {Q : Exit → Act → World → Prop} (hwant : Region.wanted o (yielded ops ac.tmps) = true) (s x : Operand)
    (ho : o.op = .call { callee := .builtin .append, args := #[s, x], argTypes := #[33, 33] })
    {B S : Nat} {a : Option Addr} {n c : Nat} {xs : List (Int × Int)} (hown : CO w B S a n c xs) (hs : ac.eval s = .slice a n c)
    {ad : Addr} {m d : Nat} {ys : List (Int × Int)} (hx : ac.eval x = .slice (some ad) m d) (hr : RC w (some ad) ys) (hm : ys.length = m) {N : Nat} (hN : n + m = N) (hn : N ≤ 1048576) (hbase : B ≤ w.heap.size)
    (h : ∀ a' c' w', CO w' B w'.heap.size a' N c' (xs ++ ys) → w.grownBy w' (Value.slice a n c).ownBlock → K (ac.put o.dst (.slice a' N c')) w') :
    if Region.wanted o (yielded ops ac.tmps) = true then Oper.wp Tryz.prog o ac w K Q else K (ac.put o.dst undef) w := by
  subst hN
  rw [if_pos hwant]
  obtain ⟨i0, hi, hz0, hz1, hz2⟩ := info_parts Tryz.infoCell
  obtain ⟨v', w', hrun, h2, h3, _⟩ := run_append_own (P := Tryz.prog) (w := w) B 33 o.type 36 i0 (.agg #[.int .i64 0, .int .i64 0]) 2 16 Tryz.underlying33 hi hz0 hz1 hz2 rfl (by decide) (.slice a n c) n (prs xs) hown.1 ad m d (prs ys) (by rw [prs_length, hm]) hr.cells (prs_one ys) (by unfold maxLen; omega) (by omega) hbase
  obtain ⟨a', c', rfl⟩ := slice_of2 h2
  unfold Oper.wp execOp
  simp only [ho, resolve, invoke, builtin, Sem.run_bind, Sem.run_pure, Result.andThen_ok, List.map_toArray, List.map_cons, List.map_nil, hs, hx, hrun]
  exact h a' c' w' (CO.mk (by rw [prs_append]; exact h2)) h3
theorem RC.take {w : World} {g o : Nat} {xs : List (Int × Int)} (h : RC w (some ⟨g, o, none⟩) xs) (k : Nat) : RC w (some ⟨g, o, none⟩) (xs.take k) := by
  rcases h with rfl | ⟨b, off, e, hc⟩
  · left; simp
  · simp only [Option.some.injEq, Addr.mk.injEq] at e
    obtain ⟨rfl, rfl, _⟩ := e
    refine .inr ⟨g, o, rfl, fun j p hp => ?_⟩
    have hj : j < k := by have := (List.getElem?_eq_some_iff.1 hp).1; rw [List.length_take] at this; omega
    rw [List.getElem?_take_of_lt hj] at hp
    exact hc j p hp
theorem RC.drop {w : World} {g o : Nat} {xs : List (Int × Int)} (h : RC w (some ⟨g, o, none⟩) xs) (k : Nat) : RC w (some ⟨g, o + k * 2, none⟩) (xs.drop k) := by
  rcases h with rfl | ⟨b, off, e, hc⟩
  · left; simp
  · simp only [Option.some.injEq, Addr.mk.injEq] at e
    obtain ⟨rfl, rfl, _⟩ := e
    refine .inr ⟨g, o + k * 2, rfl, fun j p hp => ?_⟩
    rw [List.getElem?_drop] at hp
    have := hc _ p hp
    rw [show o + (k + j) * 2 = o + k * 2 + j * 2 by omega] at this
    exact this
theorem RC.one (w : World) (p q : Int) : RC (w.alloc (.cells #[.int .i64 p, .int .i64 q] 36)) (some ⟨w.heap.size, 0, none⟩) [(p, q)] := by
  have g0 := heap_alloc_new w (.cells #[.int .i64 p, .int .i64 q] 36)
  refine .inr ⟨w.heap.size, 0, rfl, fun k u hu => ?_⟩
  match k, hu with
  | 0, hu =>
    simp at hu
    subst hu
    exact ⟨by rw [cell_of_row _ _ 0 _ _ (0, 0) g0]; rfl, by rw [cell_of_row _ _ 1 _ _ (0, 0) g0]; rfl⟩
end Go.Proofs.YtomejjbkakpoiaaGreat
