/-
  The program's rounds to all reduced dreams: plain.
  The program's rounds in a form that the kernel reckons: plain.
  Contract of l3Crosses: whether cells are a dream.
-/
import Derived.Test.YtomejjbkakpoiaaGreatBuY9
import Derived.Test.YtomejjbkakpoiaaGreatBuY15
import Derived.Test.YtomejjbkakpoiaaGreatBuY11
namespace Go.Proofs.YtomejjbkakpoiaaGreat
open Go.RowKit

def pipeNext (n : Int) (all last : List (List (Int × Int))) : List (List (Int × Int)) := dropD all (ascD (last.flatMap (ladders n)))
/-- the rounds: what is there at the end; nothing where there are too many -/
def pipeTo (n : Int) : Nat → List (List (Int × Int)) → List (List (Int × Int)) → Option (List (List (Int × Int)))
  | 0, _, _ => none
  | f + 1, all, last =>
    if last = [] then some all
    else if 400 < (all ++ pipeNext n all last).length then none
    else pipeTo n f (all ++ pipeNext n all last) (pipeNext n all last)
theorem pipeTo_stop {n : Int} {f : Nat} {all : List (List (Int × Int))} : pipeTo n (f + 1) all [] = some all := by rw [pipeTo, if_pos rfl]
theorem pipeTo_many {n : Int} {f : Nat} {all last : List (List (Int × Int))} (h : last ≠ []) (h4 : 400 < (all ++ pipeNext n all last).length) : pipeTo n (f + 1) all last = none := by rw [pipeTo, if_neg h, if_pos h4]
theorem pipeTo_next {n : Int} {f : Nat} {all last : List (List (Int × Int))} (h : last ≠ []) (h4 : ¬ 400 < (all ++ pipeNext n all last).length) : pipeTo n (f + 1) all last = pipeTo n f (all ++ pipeNext n all last) (pipeNext n all last) := by rw [pipeTo, if_neg h, if_neg h4]
theorem mem_dropD {all xss : List (List (Int × Int))} {d : List (Int × Int)} (h : d ∈ dropD all xss) : d ∈ xss ∧ hasD all d = false := by
  unfold dropD at h
  obtain ⟨i, hi, rfl⟩ := List.mem_map.1 h
  have hl := kI_lt hi
  unfold kI at hi
  have hk := (List.mem_filter.1 hi).2
  unfold notIn at hk
  refine ⟨?_, by simpa using hk⟩
  rw [List.getD_eq_getElem?_getD, List.getElem?_eq_getElem hl]
  exact List.getElem_mem _
theorem pipeNext_mem {n : Int} {all last : List (List (Int × Int))} {d : List (Int × Int)} (h : d ∈ pipeNext n all last) : ∃ e ∈ last, d ∈ ladders n e := by
  have h1 := (mem_dropD h).1
  rw [mem_ascD, List.mem_flatMap] at h1
  exact h1
/-- the dreams of the rounds are as long as the first one, and their numbers are small -/
theorem pipeNext_good {n : Int} {L : Nat} {all last : List (List (Int × Int))} (h : ∀ d ∈ last, d.length = L) : ∀ d ∈ pipeNext n all last, d.length = L ∧ L ≤ 15 ∧ LowL d := by
  intro d hd
  obtain ⟨e, he, hm⟩ := pipeNext_mem hd
  obtain ⟨h1, h2, h3⟩ := ladders_each hm
  refine ⟨by rw [h2, h e he], by have := h e he; omega, ?_⟩
  unfold ladders at hm
  rw [if_pos h1, mem_ascD] at hm
  exact ((ladTo_good h1 (Nat.le_refl _)).1 d hm).1
def pipeOk (xs : List Int) : Bool := isPerm xs && decide (xs.length ≤ 6) && (pipeTo (xs.length : Int) 402 [bottom xs] [bottom xs]).isSome
def pipeT (xs : List Int) : List (List (Int × Int)) := if isPerm xs = true ∧ xs.length ≤ 6 then ascD ((pipeTo (xs.length : Int) 402 [bottom xs] [bottom xs]).getD []) else []
end Go.Proofs.YtomejjbkakpoiaaGreat

namespace Go.Proofs.YtomejjbkakpoiaaGreat
open Go.RowKit

def movG (xs : List (Int × Int)) (k : Nat) : List (List (Int × Int)) :=
  match ladAt xs (cellOf xs k) with
  | 0 => []
  | s + 1 => [cellsTo (xs.set k (((s : Nat) : Int), (cellOf xs k).2 + 1)) (xs.set k (((s : Nat) : Int), (cellOf xs k).2 + 1)).length]
theorem movG_eq (xs : List (Int × Int)) (k : Nat) : movG xs k = movC xs k := by
  unfold movG movC
  split
  · rename_i h; rw [h]
  · rename_i s h; rw [h]; simp only; rw [cellsTo_eq]
def ladToG (xs : List (Int × Int)) : Nat → List (List (Int × Int))
  | 0 => []
  | k + 1 => ladToG xs k ++ movG xs k
theorem ladToG_eq (xs : List (Int × Int)) : ∀ k, ladToG xs k = ladTo xs k
  | 0 => rfl
  | k + 1 => by rw [ladToG, ladTo, ladToG_eq xs k, movG_eq]
def laddersG (n : Int) (xs : List (Int × Int)) : List (List (Int × Int)) := if isDream n xs = true then ascD (ladToG xs xs.length) else []
theorem laddersG_eq (n : Int) (xs : List (Int × Int)) : laddersG n xs = ladders n xs := by
  unfold laddersG ladders
  rw [ladToG_eq]
def pipeNextG (n : Int) (all last : List (List (Int × Int))) : List (List (Int × Int)) := dropD all (ascD (last.flatMap (laddersG n)))
theorem pipeNextG_eq (n : Int) (all last : List (List (Int × Int))) : pipeNextG n all last = pipeNext n all last := by
  unfold pipeNextG pipeNext
  rw [show laddersG n = ladders n from funext (laddersG_eq n)]
def pipeToG (n : Int) : Nat → List (List (Int × Int)) → List (List (Int × Int)) → Option (List (List (Int × Int)))
  | 0, _, _ => none
  | f + 1, all, last =>
    if last = [] then some all
    else if 400 < (all ++ pipeNextG n all last).length then none
    else pipeToG n f (all ++ pipeNextG n all last) (pipeNextG n all last)
theorem pipeToG_eq (n : Int) : ∀ f all last, pipeToG n f all last = pipeTo n f all last
  | 0, _, _ => rfl
  | f + 1, all, last => by rw [pipeToG, pipeTo, pipeNextG_eq, pipeToG_eq n f]
def pipeCount (xs : List Int) : Nat := ((pipeToG (xs.length : Int) 402 [bottom xs] [bottom xs]).getD []).length
end Go.Proofs.YtomejjbkakpoiaaGreat

namespace Go.Proofs.YtomejjbkakpoiaaGreat
open Go.RowKit

end Go.Proofs.YtomejjbkakpoiaaGreat
