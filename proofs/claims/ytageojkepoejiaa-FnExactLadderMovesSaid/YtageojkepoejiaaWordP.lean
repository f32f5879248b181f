/-
  The word of a dream, as the reference reckons it: the plain part.
-/
import Derived.Test.YtageojkepoejiaaBuG2
namespace Go.Proofs.Ytageojkepoejiaa
open Go.RowKit

def csum (p : Int × Int) : Int := p.1 + p.2
/-- where the row begins that cell i stands in, and the cells of the rows before it, each row turned -/
def wst (xs : List (Int × Int)) : Nat → Nat × List (Int × Int)
  | 0 => (0, [])
  | i + 1 => if (cellOf xs i).1 = (cellOf xs (wst xs i).1).1 then wst xs i else (i, (wst xs i).2 ++ ((xs.take i).drop (wst xs i).1).reverse)
def grp (xs : List (Int × Int)) (f i : Nat) : List (Int × Int) := ((xs.take i).drop f).reverse
def wordCells (xs : List (Int × Int)) : List (Int × Int) := (wst xs xs.length).2 ++ grp xs (wst xs xs.length).1 xs.length
def wordOf (xs : List (Int × Int)) : List Int := (wordCells xs).map csum
theorem wst_same {xs : List (Int × Int)} {i f : Nat} (hf : (wst xs i).1 = f) (h : (cellOf xs i).1 = (cellOf xs f).1) : wst xs (i + 1) = wst xs i := by
  rw [wst, hf, if_pos h]
theorem wst_new {xs : List (Int × Int)} {i f : Nat} (hf : (wst xs i).1 = f) (h : (cellOf xs i).1 ≠ (cellOf xs f).1) : wst xs (i + 1) = (i, (wst xs i).2 ++ grp xs f i) := by
  rw [wst, hf, if_neg h]; rfl
theorem wst_le (xs : List (Int × Int)) (i : Nat) : (wst xs i).1 ≤ i := by
  induction i with
  | zero => exact Nat.le_refl _
  | succ i ih =>
    rw [wst]
    split
    · omega
    · exact Nat.le_succ _
theorem wst_lt {xs : List (Int × Int)} {n i f : Nat} (_hn : xs.length = n) (h : i < n) (hf : (wst xs i).1 = f) : f < n := by
  have := wst_le xs i; omega
theorem grp_length {xs : List (Int × Int)} {n f i : Nat} (hn : xs.length = n) (hi : i ≤ n) : (grp xs f i).length = i - f := by
  simp [grp]; omega
theorem wst_len {xs : List (Int × Int)} {n : Nat} (hn : xs.length = n) : ∀ i, i ≤ n → (wst xs i).2.length = (wst xs i).1 := by
  intro i
  induction i with
  | zero => intro _; rfl
  | succ i ih =>
    intro h
    rw [wst]
    split
    · exact ih (by omega)
    · have h1 := ih (by omega)
      have h2 := grp_length (f := (wst xs i).1) hn (show i ≤ n by omega)
      have h3 := wst_le xs i
      unfold grp at h2
      rw [List.length_append, h2, h1]
      show _ = i
      omega
theorem grp_at {xs : List (Int × Int)} {n f i m : Nat} (hn : xs.length = n) (hi : i ≤ n) (hm : m < i - f) : (grp xs f i)[m]? = xs[i - 1 - m]? := by
  subst hn
  unfold grp
  rw [List.getElem?_reverse (by simp; omega), List.getElem?_drop, List.getElem?_take, if_pos (by simp; omega)]
  congr 1
  simp
  omega
theorem take_grp {xs : List (Int × Int)} {n f i m : Nat} {p : Int × Int} (hn : xs.length = n) (hi : i ≤ n) (hm : m < i - f) (hp : xs[i - 1 - m]? = some p) (us : List Int) :
    us ++ ((grp xs f i).map csum).take m ++ [csum p] = us ++ ((grp xs f i).map csum).take (m + 1) := by
  rw [List.append_assoc, List.take_add_one, List.getElem?_map, grp_at hn hi hm, hp]
  rfl
theorem all_grp {xs : List (Int × Int)} {n f i : Nat} (hn : xs.length = n) (hi : i ≤ n) : ((grp xs f i).map csum).take (i - f) = (grp xs f i).map csum := by
  rw [List.take_of_length_le]
  rw [List.length_map, grp_length hn hi]
  exact Nat.le_refl _
end Go.Proofs.Ytageojkepoejiaa
