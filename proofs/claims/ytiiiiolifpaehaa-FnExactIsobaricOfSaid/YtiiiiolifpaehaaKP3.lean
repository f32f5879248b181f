/-
  Contract of toPart.
-/
import Derived.Test.YtiiiiolifpaehaaKP2
import Derived.Laws.Rows
namespace Go.Proofs.Ytiiiiolifpaehaa
open Go.RowKit

theorem Only.setCell {B S : Nat} (w : World) (g j : Nat) (v : Value) (h1 : B ≤ g) (h2 : g < S) : Only B S w (w.setCell ⟨g, j, none⟩ v) :=
  ⟨rfl, rfl, rfl, by simp, fun k _ hk => heap_setCell_other w ⟨g, j, none⟩ k v (fun e => hk (by simp at e; omega))⟩
theorem Try.sizePart : (Try.prog.info? 121).map (·.size) = some 2 := by kernel_rfl

set_option maxRecDepth 100000 in
set_option maxHeartbeats 1600000 in
theorem toPart_any (a : Option Addr) (n c : Nat) (xs : List Int) (x : Int) (w : World) (hr : RI w a xs) (hn : xs.length = n) (hb : n ≤ 1048576) :
    Calls Try.prog 136 #[.agg #[.slice a n c, .int .i64 x]] w fun e w' => ∃ a' c', e = .returned (.agg #[.slice a' n c', .int .i64 x]) ∧ OwI w' w.heap.size w'.heap.size a' n c' xs ∧ Below w.heap.size w w' := by
  have Hn := Lib.hid hn; clear hn
  obtain ⟨W, hW⟩ : ∃ W, ((w.alloc (.cells #[.slice a n c, .int .i64 x] 117)).alloc (.cells #[.slice none 0 0, .int .i64 0] 121)).alloc (.cells #[.slice none 0 0, .int .i64 0] 121) = W := ⟨_, rfl⟩
  have hBW : Below w.heap.size w W := by
    rw [← hW]
    exact (((Below.refl w.heap.size w).alloc (Nat.le_refl _) _).alloc (by simp) _).alloc (by simp; omega) _
  have hsW : W.heap.size = w.heap.size + 3 := by rw [← hW]; simp
  have g0 : W.heap[w.heap.size]? = some (.cells #[.slice a n c, .int .i64 x] 117) := by
    rw [← hW]
    have h1 := heap_alloc_new w (.cells #[.slice a n c, .int .i64 x] 117)
    have hb : Below (w.heap.size + 1) (w.alloc (.cells #[.slice a n c, .int .i64 x] 117)) (((w.alloc (.cells #[.slice a n c, .int .i64 x] 117)).alloc (.cells #[.slice none 0 0, .int .i64 0] 121)).alloc (.cells #[.slice none 0 0, .int .i64 0] 121)) :=
      ((Below.refl _ _).alloc (by simp) _).alloc (by simp) _
    rw [hb.block _ (Nat.lt_succ_self _)]; exact h1
  have g1 : W.heap[w.heap.size + 1]? = some (.cells #[.slice none 0 0, .int .i64 0] 121) := by
    rw [← hW]
    have h1 := heap_alloc_new (w.alloc (.cells #[.slice a n c, .int .i64 x] 117)) (.cells #[.slice none 0 0, .int .i64 0] 121)
    have hs : (w.alloc (.cells #[.slice a n c, .int .i64 x] 117)).heap.size = w.heap.size + 1 := by simp
    rw [hs] at h1
    have hb : Below (w.heap.size + 2) ((w.alloc (.cells #[.slice a n c, .int .i64 x] 117)).alloc (.cells #[.slice none 0 0, .int .i64 0] 121)) (((w.alloc (.cells #[.slice a n c, .int .i64 x] 117)).alloc (.cells #[.slice none 0 0, .int .i64 0] 121)).alloc (.cells #[.slice none 0 0, .int .i64 0] 121)) :=
      (Below.refl _ _).alloc (by simp) _
    rw [hb.block _ (Nat.lt_succ_self _)]; exact h1
  have g2 : W.heap[w.heap.size + 1 + 1]? = some (.cells #[.slice none 0 0, .int .i64 0] 121) := by
    rw [← hW]
    have h1 := heap_alloc_new ((w.alloc (.cells #[.slice a n c, .int .i64 x] 117)).alloc (.cells #[.slice none 0 0, .int .i64 0] 121)) (.cells #[.slice none 0 0, .int .i64 0] 121)
    have hs : ((w.alloc (.cells #[.slice a n c, .int .i64 x] 117)).alloc (.cells #[.slice none 0 0, .int .i64 0] 121)).heap.size = w.heap.size + 1 + 1 := by simp
    rw [hs] at h1
    exact h1
  have k0 : W.cell? ⟨w.heap.size, 0, none⟩ = some (.slice a n c) := by rw [cell_of_row W _ 0 _ _ (0, 0) g0]; rfl
  have hrW := hr.below hBW
  have G0 := Lib.hid g0; clear g0
  have G1 := Lib.hid g1; clear g1
  have G2 := Lib.hid g2; clear g2
  go_enter Try.func136, Try.ntmps136
  go_wp2_with fail
  refine (conv_I _ _ _ xs _ hrW Hn.out (by omega)).mono ?_
  rintro e w1 ⟨a1, c1, rfl, ho, hB⟩
  have m0 : w1.heap[w.heap.size]? = some (.cells #[.slice a n c, .int .i64 x] 117) := by rw [hB.block _ (by omega)]; exact G0.out
  have m1 : w1.heap[w.heap.size + 1]? = some (.cells #[.slice none 0 0, .int .i64 0] 121) := by rw [hB.block _ (by omega)]; exact G1.out
  have m2 : w1.heap[w.heap.size + 1 + 1]? = some (.cells #[.slice none 0 0, .int .i64 0] 121) := by rw [hB.block _ (by omega)]; exact G2.out
  have c0 : w1.cell? ⟨w.heap.size, 1, none⟩ = some (.int .i64 x) := by rw [cell_of_row w1 _ 1 _ _ (0, 0) m0]; rfl
  have c2 : w1.cell? ⟨w.heap.size + 1 + 1, 0, none⟩ = some (.slice none 0 0) := by rw [cell_of_row w1 _ 0 _ _ (0, 0) m2]; rfl
  have c3 : w1.cell? ⟨w.heap.size + 1 + 1, 1, none⟩ = some (.int .i64 0) := by rw [cell_of_row w1 _ 1 _ _ (0, 0) m2]; rfl
  have c4 : w1.cell? ⟨w.heap.size + 1, 0, none⟩ = some (.slice none 0 0) := by rw [cell_of_row w1 _ 0 _ _ (0, 0) m1]; rfl
  have c5 : w1.cell? ⟨w.heap.size + 1, 1, none⟩ = some (.int .i64 0) := by rw [cell_of_row w1 _ 1 _ _ (0, 0) m1]; rfl
  have f2 := frozen_of_row w1 (w.heap.size + 1 + 1) 0 _ _ m2
  have f3 := frozen_of_row w1 (w.heap.size + 1 + 1) 1 _ _ m2
  have f4 := frozen_of_row w1 (w.heap.size + 1) 0 _ _ m1
  have f5 := frozen_of_row w1 (w.heap.size + 1) 1 _ _ m1
  have o4 : Only w.heap.size (w.heap.size + 3) w1 ((((w1.setCell ⟨w.heap.size + 1 + 1, 0, none⟩ (.slice a1 n c1)).setCell ⟨w.heap.size + 1 + 1, 1, none⟩ (.int .i64 x)).setCell ⟨w.heap.size + 1, 0, none⟩ (.slice a1 n c1)).setCell ⟨w.heap.size + 1, 1, none⟩ (.int .i64 x)) :=
    (((Only.setCell _ _ _ _ (by omega) (by omega)).trans (Only.setCell _ _ _ _ (by omega) (by omega))).trans (Only.setCell _ _ _ _ (by omega) (by omega))).trans (Only.setCell _ _ _ _ (by omega) (by omega))
  have hBf := o4.below (hBW.trans (hB.mono (by omega))) (Nat.le_refl _) (by have := hB.size; omega)
  have hrf := (ho.only o4 (.inr (by omega))).mono (B' := w.heap.size) (S' := ((((w1.setCell ⟨w.heap.size + 1 + 1, 0, none⟩ (.slice a1 n c1)).setCell ⟨w.heap.size + 1 + 1, 1, none⟩ (.int .i64 x)).setCell ⟨w.heap.size + 1, 0, none⟩ (.slice a1 n c1)).setCell ⟨w.heap.size + 1, 1, none⟩ (.int .i64 x)).heap.size) (by omega) (by simp)
  have hgf : ((((w1.setCell ⟨w.heap.size + 1 + 1, 0, none⟩ (.slice a1 n c1)).setCell ⟨w.heap.size + 1 + 1, 1, none⟩ (.int .i64 x)).setCell ⟨w.heap.size + 1, 0, none⟩ (.slice a1 n c1)).setCell ⟨w.heap.size + 1, 1, none⟩ (.int .i64 x)).heap[w.heap.size + 1]? = some (.cells #[.slice a1 n c1, .int .i64 x] 121 (0, 0)) := by
    have e1 := (heap_setCell_other w1 ⟨w.heap.size + 1 + 1, 0, none⟩ (w.heap.size + 1) (.slice a1 n c1) (by simp)).trans m1
    have e2 := (heap_setCell_other (w1.setCell ⟨w.heap.size + 1 + 1, 0, none⟩ (.slice a1 n c1)) ⟨w.heap.size + 1 + 1, 1, none⟩ (w.heap.size + 1) (.int .i64 x) (by simp)).trans e1
    have e3 := heap_setCell_same _ (w.heap.size + 1) 0 _ _ (.slice a1 n c1) e2
    exact heap_setCell_same _ (w.heap.size + 1) 1 _ _ (.int .i64 x) e3
  have HBf := Lib.hid hBf; clear hBf o4
  have Hrf := Lib.hid hrf; clear hrf
  have Hgf := Lib.hid hgf; clear hgf
  clear m0 m1 m2 k0
  go_wp2
  refine bodyPost_ret (results_cell_row rfl _ _ (w.heap.size + 1) _ _ (0, 0) _ rfl Hgf.out Try.underlying121 rfl Try.sizePart) rfl ?_
  exact ⟨_, _, rfl, Hrf.out, HBf.out⟩
end Go.Proofs.Ytiiiiolifpaehaa
