/-
  Contracts of operated, with DemazureOf, IsobaricOf and AtomOf of the program.
-/
import Derived.Test.YtcminkcoifkbgaaGreatDoorPolyOpen
namespace Go.Proofs.YtcminkcoifkbgaaGreatDoor
open Go.RowKit Go.MapKept

def isVar (x : Int) : Bool := decide (0 ≤ x ∧ x ≤ 5)
def opT (op : Nat → Mons → Mons) (xs : List (List Int × Int)) (x : Int) : List (List Int × Int) := if polyOk xs = true ∧ isVar x = true then closedT (op x.toNat (monsOf xs)) else []
def opOk (op : Nat → Mons → Mons) (xs : List (List Int × Int)) (x : Int) : Bool := polyOk xs && isVar x && polyOk (termsM (op x.toNat (monsOf xs)))
theorem opT_no {op : Nat → Mons → Mons} {xs : List (List Int × Int)} {x : Int} (h : polyOk xs = false ∨ isVar x = false) : opT op xs x = [] ∧ opOk op xs x = false := by
  unfold opT opOk
  rcases h with h | h
  · rw [if_neg (by rw [h]; simp), h]; exact ⟨rfl, rfl⟩
  · rw [if_neg (by rw [h]; simp), h]; exact ⟨rfl, by simp⟩
theorem opT_yes {op : Nat → Mons → Mons} {xs : List (List Int × Int)} {x : Int} (h : polyOk xs = true) (h' : isVar x = true) : opT op xs x = closedT (op x.toNat (monsOf xs)) ∧ opOk op xs x = polyOk (termsM (op x.toNat (monsOf xs))) := by
  unfold opT opOk
  rw [if_pos ⟨h, h'⟩, h, h']
  exact ⟨rfl, by simp⟩
theorem low_top {F : Mons} (h : Bd 24 F) {j : Nat} (hj : j < 7) : ∀ p ∈ canon F, dig p.1 j ≤ 126 := fun p hp => Int.le_trans ((h.canon p hp).2 j hj) (by omega)
end Go.Proofs.YtcminkcoifkbgaaGreatDoor
