/-
  The laws of a range over a map of exponents at the operations, for walks.
-/
import Derived.Test.YtiiiiolifpaehaaPolyAdd
namespace Go.Proofs.Ytiiiiolifpaehaa
open Go.RowKit Go.MapKept Go.ChangeMaps

section
variable (w : World) {ops : Array Oper} {rest : List Oper} {o : Oper} {a : Act} {Q : Exit → Act → World → Prop}
theorem wpList_range_P (hg : o.guard = none) (m : Operand) (hop : o.op = Op.range 134 m) (b : Nat) (l : Mons) (hm : a.eval m = .map (some b)) (hown : PM w b l)
    (hK : ∀ w', PRg w' b w.heap.size l l → Below w.heap.size w w' → w'.heap.size = w.heap.size + 1 → wpList Try.prog ops Q rest (a.put o.dst (.pointer (some ⟨w.heap.size, 0, none⟩))) w') :
    wpList Try.prog ops Q (o :: rest) a w := by
  refine wpList_plain hg fun K' hK' => ?_
  obtain ⟨ob, hrun, hr⟩ := hown.range
  unfold Oper.wp
  simp [execOp, hop, hm, hrun, Result.andThen]
  exact hK' _ _ (hK _ hr ((Below.refl _ _).alloc (Nat.le_refl _) _) (by simp))
theorem wpList_next_P (hg : o.guard = none) (it : Operand) (hop : o.op = Op.next it false) (b r : Nat) (l left : Mons) (hit : a.eval it = .pointer (some ⟨r, 0, none⟩)) (h : PRg w b r l left)
    (hDone : left = [] → wpList Try.prog ops Q rest (a.put o.dst (.tuple #[.bool false])) w)
    (hMore : ∀ (k c : Int) (left' : Mons) (w' : World), left.Perm ((k, c) :: left') → PRg w' b r l left' → w.grownBy w' (some r) → w'.heap.size = w.heap.size →
      (Instr.entry (.pointer (some ⟨r, 0, none⟩))).run Try.prog w' = .ok (.tuple #[kV k, .int .i64 c]) w' → wpList Try.prog ops Q rest (a.put o.dst (.tuple #[.bool true, kV k, .int .i64 c])) w') :
    wpList Try.prog ops Q (o :: rest) a w := by
  refine wpList_plain hg fun K' hK' => ?_
  unfold Oper.wp
  rcases h.next o.type with ⟨h0, hrun⟩ | ⟨⟨k, c⟩, left', w', hp, hrun, hrg, hgr, hsz, hen⟩
  · simp [execOp, hop, hit, hrun, Result.andThen]
    exact hK' _ _ (hDone h0)
  · simp [execOp, hop, hit, hrun, Result.andThen]
    exact hK' _ _ (hMore k c left' w' hp hrg hgr hsz hen)
end
theorem below_of_grown {B : Nat} {wS w w' : World} {r : Nat} (hb : Below B wS w) (hg : w.grownBy w' (some r)) (hB : B ≤ w.heap.size) (hr : B ≤ r) : Below B wS w' :=
  hb.grown hg hB (by intro q hq; obtain rfl := Option.some.inj hq; exact hr)
end Go.Proofs.Ytiiiiolifpaehaa
