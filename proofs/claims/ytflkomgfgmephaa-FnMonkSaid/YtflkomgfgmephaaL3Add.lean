/-
  Contract of l3Add, for a permutation that is not there yet.
-/
import Derived.Test.YtflkomgfgmephaaBuI5
import Derived.Test.YtflkomgfgmephaaSameI
import Derived.Test.YtflkomgfgmephaaTrim
import Derived.Deep.RegionHeld3
namespace Go.Proofs.Ytflkomgfgmephaa
open Go.RowKit

def insAt (v : List Int) (xs : List (List Int × Int)) : Nat := (xs.takeWhile fun p => less p.1 v).length
theorem insAt_take (v : List Int) (xs : List (List Int × Int)) : xs.takeWhile (fun p => less p.1 v) = xs.take (insAt v xs) := by
  unfold insAt
  induction xs with
  | nil => rfl
  | cons p xs ih =>
    rw [List.takeWhile_cons]
    split
    · rw [List.length_cons, List.take_succ_cons, ← ih]
    · rfl
theorem insAt_drop (v : List Int) (xs : List (List Int × Int)) : xs.dropWhile (fun p => less p.1 v) = xs.drop (insAt v xs) := by
  unfold insAt
  induction xs with
  | nil => rfl
  | cons p xs ih =>
    rw [List.takeWhile_cons, List.dropWhile_cons]
    split
    · rw [List.length_cons, List.drop_succ_cons, ← ih]
    · rfl
theorem insAt_less {v : List Int} {xs : List (List Int × Int)} : ∀ {i : Nat} {p : List Int × Int}, i < insAt v xs → xs[i]? = some p → less p.1 v = true := by
  unfold insAt
  induction xs with
  | nil => intro i p hi; simp at hi
  | cons q xs ih =>
    intro i p hi hp
    rw [List.takeWhile_cons] at hi
    split at hi
    · rename_i h
      cases i with
      | zero => obtain rfl : q = p := (by simpa using hp); exact h
      | succ i => exact ih (by simpa using hi) (by simpa using hp)
    · simp at hi
theorem insAt_stop {v : List Int} {xs : List (List Int × Int)} {p : List Int × Int} (hp : xs[insAt v xs]? = some p) : less p.1 v = false := by
  unfold insAt at hp
  induction xs with
  | nil => simp at hp
  | cons q xs ih =>
    rw [List.takeWhile_cons] at hp
    split at hp
    · exact ih (by simpa using hp)
    · rename_i h
      obtain rfl : q = p := by simpa using hp
      simpa using h
theorem insAt_le (v : List Int) (xs : List (List Int × Int)) : insAt v xs ≤ xs.length := by
  have := congrArg List.length (insAt_take v xs)
  rw [List.length_take] at this
  show (xs.takeWhile fun p => less p.1 v).length ≤ _
  omega
/-- what has been put out after i -/
def insTo (v : List Int) (x : Int) (xs : List (List Int × Int)) (i : Nat) : Bool → List (List Int × Int)
  | false => xs.take i
  | true => xs.take (insAt v xs) ++ (v, x) :: (xs.take i).drop (insAt v xs)
theorem insTo_next {v : List Int} {x : Int} {xs : List (List Int × Int)} {i : Nat} {p : List Int × Int} (hp : xs[i]? = some p) {d : Bool} (hd : d = true → insAt v xs ≤ i) : insTo v x xs i d ++ [p] = insTo v x xs (i + 1) d := by
  cases d with
  | false => show xs.take i ++ [p] = _; rw [← take_at hp]; rfl
  | true =>
    have h := hd rfl
    have hl := lt_of_some hp
    show (xs.take (insAt v xs) ++ (v, x) :: (xs.take i).drop (insAt v xs)) ++ [p] = xs.take (insAt v xs) ++ (v, x) :: (xs.take (i + 1)).drop (insAt v xs)
    rw [take_at hp, List.drop_append_of_le_length (by rw [List.length_take]; omega)]
    simp
theorem insTo_put {v : List Int} {x : Int} {xs : List (List Int × Int)} : insTo v x xs (insAt v xs) false ++ [(v, x)] = insTo v x xs (insAt v xs) true := by
  show xs.take (insAt v xs) ++ [(v, x)] = xs.take (insAt v xs) ++ (v, x) :: (xs.take (insAt v xs)).drop (insAt v xs)
  rw [List.drop_of_length_le (by rw [List.length_take]; omega)]
theorem insTo_end {v : List Int} {x : Int} {xs : List (List Int × Int)} : insTo v x xs xs.length true = insK v x xs := by
  unfold insTo insK
  rw [List.take_length, insAt_take, insAt_drop]

end Go.Proofs.Ytflkomgfgmephaa
