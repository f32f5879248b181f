/-
  append of one integer, as a step of a region that draws its order.
-/
import Derived.Test.YtnjfbgdighaiiaaCloneI
import Derived.Deep.RegionHeld3
namespace Go.Proofs.Ytnjfbgdighaiiaa
open Go.RowKit

theorem step_pushI {w : World} {W : World} {x0 : Int} (hW : W = w.alloc (.cells #[.int .i64 x0] 3)) {ops : Array Oper} {o : Oper} {ac : Act} {K : Act → World → Prop} {Q : Exit → Act → World → Prop} (hwant : Region.wanted o (yielded ops ac.tmps) = true) (s x : Operand)
    (ho : o.op = .call { callee := .builtin .append, args := #[s, x], argTypes := #[22, 22] })
    {B S : Nat} {a : Option Addr} {n c : Nat} {l : List Int} (hown : OwI w B S a n c l) (hs : ac.eval s = .slice a n c)
    (hx : ac.eval x = .slice (some ⟨w.heap.size, 0, none⟩) 1 1) (hn : n + 1 ≤ 16777216) (hbase : B ≤ w.heap.size)
    (h : ∀ a' c' w', OwI w' B w'.heap.size a' (n + 1) c' (l ++ [x0]) → Grows w w' (.slice a n c) (.slice a' (n + 1) c') → K (ac.put o.dst (.slice a' (n + 1) c')) w') :
    if Region.wanted o (yielded ops ac.tmps) = true then Oper.wp Try.prog o ac W K Q else K (ac.put o.dst undef) W := by
  rw [if_pos hwant]
  subst hW
  obtain ⟨i0, hi, hz0, hz1, hz2⟩ := info_parts Try.info3
  obtain ⟨v', w', hr, h2, h3⟩ := run_app (P := Try.prog) (w.alloc (.cells #[.int .i64 x0] 3)) B 22 o.type 3 i0 (.int .i64 0) 8 Try.underlying22 hi hz0 hz1 hz2 rfl (.slice a n c) n (ints l) (hown.own.alloc _) (some ⟨w.heap.size, 0, none⟩) 1 1 [.int .i64 x0] rfl (by simp)
    (by
      intro ad had j u hu
      obtain rfl := Option.some.inj had
      match j, hu with
      | 0, hu => simp at hu; subst hu; simp [Addr.add])
    (by intro u hu; simp at hu; subst hu; rfl) hn (by omega) (by simp; omega)
  obtain ⟨a', c', rfl, _⟩ := slice_of h2
  unfold Oper.wp execOp
  simp only [ho, resolve, invoke, builtin, Sem.run_bind, Sem.run_pure, Result.andThen_ok, List.map_toArray, List.map_cons, List.map_nil, hs, hx, hr]
  exact h a' c' w' (OwI.mk (by simpa [ints] using h2)) ((Grows.of_below _ ((Below.refl _ _).alloc (Nat.le_refl _) _)).trans h3)
/-- .. where the size of the heap is written another way -/
theorem wpList_pushIs {w : World} {W : World} {x0 : Int} (hW : W = w.alloc (.cells #[.int .i64 x0] 3)) {ops : Array Oper} {rest : List Oper} {o : Oper} {ac : Act} {Q : Exit → Act → World → Prop} (hgd : o.guard = none) (s x : Operand)
    (ho : o.op = .call { callee := .builtin .append, args := #[s, x], argTypes := #[22, 22] })
    {B S z : Nat} {a : Option Addr} {n c : Nat} {xs : List Int} (hown : OwI w B S a n c xs) (hs : ac.eval s = .slice a n c)
    (hx : ac.eval x = .slice (some ⟨z, 0, none⟩) 1 1) (hz : z = w.heap.size) (hn : n + 1 ≤ 16777216) (hbase : B ≤ w.heap.size)
    (h : ∀ a' c' w', OwI w' B w'.heap.size a' (n + 1) c' (xs ++ [x0]) → Grows w w' (.slice a n c) (.slice a' (n + 1) c') → wpList Try.prog ops Q rest (ac.put o.dst (.slice a' (n + 1) c')) w') :
    wpList Try.prog ops Q (o :: rest) ac W := by
  subst hz
  exact wpList_pushI hW hgd s x ho hown hs hx hn hbase h
end Go.Proofs.Ytnjfbgdighaiiaa
