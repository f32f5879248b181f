/-
  Contracts of l2Plus and l2Times.
-/
import Derived.Test.YtblhndkaikelaaaMonDiv
import Derived.Deep.RegionHeld3
namespace Go.Proofs.Ytblhndkaikelaaa
open Go.RowKit

/-- append of one monomial, as a step of a region that draws its order -/
theorem step_pushM {w : World} {W : World} {p q : Int} (hW : W = w.alloc (.cells #[.int .i64 p, .int .i64 q] 78)) {ops : Array Oper} {o : Oper} {ac : Act} {K : Act → World → Prop} {Q : Exit → Act → World → Prop} (hwant : Region.wanted o (yielded ops ac.tmps) = true) (s x : Operand)
    (ho : o.op = .call { callee := .builtin .append, args := #[s, x], argTypes := #[52, 52] })
    {B S : Nat} {a : Option Addr} {n c : Nat} {xs : List (Int × Int)} (hown : MO w B S a n c xs) (hs : ac.eval s = .slice a n c)
    (hx : ac.eval x = .slice (some ⟨w.heap.size, 0, none⟩) 1 1) (hn : n + 1 ≤ 1048576) (hbase : B ≤ w.heap.size)
    (h : ∀ a' c' w', MO w' B w'.heap.size a' (n + 1) c' (xs ++ [(p, q)]) → w.grownBy w' (Value.slice a n c).ownBlock → K (ac.put o.dst (.slice a' (n + 1) c')) w') :
    if Region.wanted o (yielded ops ac.tmps) = true then Oper.wp Try.prog o ac W K Q else K (ac.put o.dst undef) W := by
  rw [if_pos hwant]
  subst hW
  obtain ⟨i0, hi, hz0, hz1, hz2⟩ := info_parts Try.infoMon
  obtain ⟨v', w', hr, h2, h3, _⟩ := run_append_own (P := Try.prog) (w.alloc (.cells #[.int .i64 p, .int .i64 q] 78)) B 52 o.type 78 i0 (.agg #[.int .i64 0, .int .i64 0]) 2 16 Try.underlying52 hi hz0 hz1 hz2 rfl (by decide) (.slice a n c) n (prm xs) (hown.1.alloc _) ⟨w.heap.size, 0, none⟩ 1 1 [.int .i64 p, .int .i64 q] rfl
    (by
      intro j y hj
      match j, hj with
      | 0, hj => simp at hj; subst hj; simp [Addr.add]
      | 1, hj => simp at hj; subst hj; simp [Addr.add])
    (by
      intro y hy
      simp at hy
      rcases hy with rfl | rfl <;> rfl) (by unfold maxLen; omega) (by omega) (by simp; omega)
  obtain ⟨a', c', rfl⟩ := slice_of2M h2
  unfold Oper.wp execOp
  simp only [ho, resolve, invoke, builtin, Sem.run_bind, Sem.run_pure, Result.andThen_ok, List.map_toArray, List.map_cons, List.map_nil, hs, hx, hr]
  exact h a' c' w' (MO.mk (by rw [prm_append]; exact h2)) (grownBy.trans (World.grownBy_alloc w _ _) h3)
/-- as the program of the reference reckons it -/
def scaleW (c : Int) (F : Mons) : Mons := F.map fun p => (p.1, wrap64 (c * p.2))
theorem scaleW_eqv (c : Int) (F : Mons) : Eqv (scaleW c F) (scaleM c F) := by
  induction F with
  | nil => exact Eqv.refl _
  | cons p F ih => exact (Eqv.wrap _ _ _).trans (ih.cons _)
theorem scaleW_take {c : Int} {xs : Mons} {k : Nat} {p : Int × Int} (h : xs[k]? = some p) : scaleW c (xs.take (k + 1)) = scaleW c (xs.take k) ++ [(p.1, wrap64 (c * p.2))] := by
  rw [take_at h]
  unfold scaleW
  rw [List.map_append]
  rfl

end Go.Proofs.Ytblhndkaikelaaa
