/-
  Contracts of l1PickInt, l1Pick.
-/
import Derived.Test.YtcminkcoifkbgaaGreatDoorDrawPoly2
import Derived.Test.YtcminkcoifkbgaaGreatDoorBuQ5
namespace Go.Proofs.YtcminkcoifkbgaaGreatDoor
open Go.RowKit

def PickPost (ys : List Int) (g : Nat) (a : Option Addr) (m c : Nat) (xs : List Int) (w : World) (e : Ending) (w' : World) : Prop :=
  ∃ y ∈ ys, e = .returned (.int .i64 y) ∧ Cur w' g a m c xs ∧ Only g (g + 1) w w'
set_option maxRecDepth 100000 in
set_option maxHeartbeats 1600000 in
theorem l1PickInt_any (B S : Nat) (b : Option Addr) (q d : Nat) (ys : List Int) (h1 : 1 ≤ q) (h2 : q ≤ 256) (g : Nat) (a : Option Addr) (m c : Nat) (xs : List Int) (w : World) (hc : Cur w g a m c xs) (hi : OwI w B S b q d ys) (hB : g + 1 ≤ B) :
    Calls Tryz.prog 36 #[.pointer (some ⟨g, 0, none⟩), .slice b q d] w (PickPost ys g a m c xs w) := by
  have hl := hi.len
  go_enter Tryz.func36, Tryz.ntmps36
  go_wp2_with fail
  refine (l1Below_any q (by omega) (by omega) _ _ _ _ _ _ hc).mono ?_
  rintro e w1 ⟨j, rfl, hj, hC1, hO1⟩
  have hri := (hi.only hO1 (.inr hB)).rd
  obtain ⟨b', off, rfl, hcell⟩ := hri.at (k := j) (by omega)
  obtain ⟨y, hy⟩ := some_at (k := j) hl (by omega)
  have hcy := hcell j y hy
  have q0 : (j : Int) < (q : Int) := by omega
  clear hcell hri hi
  go_wp2
  go_ret
  exact ⟨y, List.mem_of_getElem? hy, rfl, hC1, hO1⟩
def PickPostS (ys : List ByteArray) (g : Nat) (a : Option Addr) (m c : Nat) (xs : List Int) (w : World) (e : Ending) (w' : World) : Prop :=
  ∃ y ∈ ys, e = .returned (.string y) ∧ Cur w' g a m c xs ∧ Only g (g + 1) w w'
set_option maxRecDepth 100000 in
set_option maxHeartbeats 1600000 in
theorem l1Pick_any (b : Nat) (q d : Nat) (ys : List ByteArray) (hl : ys.length = q) (h1 : 1 ≤ q) (h2 : q ≤ 256) (g : Nat) (a : Option Addr) (m c : Nat) (xs : List Int) (w : World) (hc : Cur w g a m c xs)
    (hi : ∀ k x, ys[k]? = some x → w.cell? ⟨b, k, none⟩ = some (.string x)) (hB : g < b) (hbw : b < w.heap.size) :
    Calls Tryz.prog 19 #[.pointer (some ⟨g, 0, none⟩), .slice (some ⟨b, 0, none⟩) q d] w (PickPostS ys g a m c xs w) := by
  go_enter Tryz.func19, Tryz.ntmps19
  go_wp2_with fail
  refine (l1Below_any q (by omega) (by omega) _ _ _ _ _ _ hc).mono ?_
  rintro e w1 ⟨j, rfl, hj, hC1, hO1⟩
  have hjq : j < q := by omega
  obtain ⟨y, hy⟩ : ∃ y, ys[j]? = some y := ⟨ys[j]'(by omega), List.getElem?_eq_getElem (by omega)⟩
  have hcy : w1.cell? ⟨b, j, none⟩ = some (.string y) := by
    rw [← hi j y hy]
    exact World.cell?_of_block (w := w) (hO1.block b hbw (by omega))
  have q0 : (j : Int) < (q : Int) := by omega
  clear hi
  go_wp2
  go_ret
  exact ⟨y, List.mem_of_getElem? hy, rfl, hC1, hO1⟩
end Go.Proofs.YtcminkcoifkbgaaGreatDoor
