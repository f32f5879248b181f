/-
  Contract of l3Cells: the cells of a dream put in order.
-/
import Derived.Test.YtomejjbkakpoiaaGreatStepC
import Derived.Test.YtomejjbkakpoiaaGreatBuY6
namespace Go.Proofs.YtomejjbkakpoiaaGreat
open Go.RowKit

/-- where x goes among the first k -/
def cutR (x : Int × Int) (l : List (Int × Int)) : Nat → Nat
  | 0 => 0
  | k + 1 => if cellLess x (cellOf l k) = true then cutR x l k else k + 1
theorem cutR_le (x : Int × Int) (l : List (Int × Int)) : ∀ k, cutR x l k ≤ k
  | 0 => Nat.le_refl _
  | k + 1 => by
    unfold cutR
    split
    · have := cutR_le x l k; omega
    · exact Nat.le_refl _
def insC (x : Int × Int) (l : List (Int × Int)) : List (Int × Int) := l.take (cutR x l l.length) ++ [x] ++ l.drop (cutR x l l.length)
def cellsTo (xs : List (Int × Int)) : Nat → List (Int × Int)
  | 0 => []
  | i + 1 => insC (cellOf xs i) (cellsTo xs i)
theorem insC_length (x : Int × Int) (l : List (Int × Int)) : (insC x l).length = l.length + 1 := by
  have := cutR_le x l l.length
  unfold insC
  simp
  omega
theorem cellsTo_length (xs : List (Int × Int)) : ∀ i, (cellsTo xs i).length = i
  | 0 => rfl
  | i + 1 => by rw [cellsTo, insC_length, cellsTo_length xs i]
theorem CO.addr {w : World} {B S : Nat} {a : Option Addr} {n c : Nat} {xs : List (Int × Int)} (h : CO w B S a n c xs) (hn : 0 < n) : ∃ g, a = some ⟨g, 0, none⟩ := by
  rcases h.1.2 with ⟨_, h0⟩ | ⟨g, cap, cur, hv, _⟩
  · omega
  · simp only [Value.slice.injEq] at hv
    exact ⟨g, hv.1⟩
theorem CO.cap {w : World} {B S : Nat} {a : Option Addr} {n c : Nat} {xs : List (Int × Int)} (h : CO w B S a n c xs) : n ≤ c := by
  rcases h.1.2 with ⟨_, h0⟩ | ⟨g, cap, cur, hv, _, _, h1, _⟩
  · omega
  · simp only [Value.slice.injEq] at hv
    omega
theorem RC.kept {w w' : World} {g o : Nat} {xs : List (Int × Int)} {row : Option Nat} (h : RC w (some ⟨g, o, none⟩) xs) (hg : w.grownBy w' row) (hne : row ≠ some g) : RC w' (some ⟨g, o, none⟩) xs := by
  rcases h with h | ⟨b, off, e, hc⟩
  · exact .inl h
  · simp only [Option.some.injEq, Addr.mk.injEq] at e
    obtain ⟨rfl, rfl, _⟩ := e
    exact .inr ⟨g, o, rfl, fun k p hp => ⟨hg.cell (hc k p hp).1 (fun e => hne e.symm), hg.cell (hc k p hp).2 (fun e => hne e.symm)⟩⟩

end Go.Proofs.YtomejjbkakpoiaaGreat
