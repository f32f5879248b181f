/-
  Reduced dreams of the permutations of at most 6: what the kernel checks of each. Plain.
-/
import Derived.Test.YtageojkepoejiaaPipeMask
import Derived.Test.YtageojkepoejiaaL3D
namespace Go.Proofs.Ytageojkepoejiaa
open Go.RowKit

/-! all permutations -/
def permsOf : Nat → List Int → List (List Int)
  | 0, _ => [[]]
  | f + 1, l => l.flatMap fun x => (permsOf f (l.erase x)).map (x :: ·)
theorem mem_permsOf : ∀ {f : Nat} {l xs : List Int}, xs.length = f → xs.Nodup → (∀ x ∈ xs, x ∈ l) → xs ∈ permsOf f l
  | 0, _, xs, h, _, _ => by
    obtain rfl := List.eq_nil_of_length_eq_zero h
    exact List.mem_singleton.2 rfl
  | f + 1, l, [], h, _, _ => by simp at h
  | f + 1, l, x :: t, h, hn, hm => by
    rw [List.nodup_cons] at hn
    rw [permsOf, List.mem_flatMap]
    refine ⟨x, hm x List.mem_cons_self, List.mem_map.2 ⟨t, mem_permsOf (by simpa using h) hn.2 (fun y hy => ?_), rfl⟩⟩
    refine (List.mem_erase_of_ne ?_).2 (hm y (List.mem_cons_of_mem _ hy))
    rintro rfl
    exact hn.1 hy
def numsTo (n : Nat) : List Int := (List.range n).map fun (i : Nat) => (i : Int)
theorem isPerm_mem {xs : List Int} (h : isPerm xs = true) : xs ∈ permsOf xs.length (numsTo xs.length) := by
  obtain ⟨_, _, h3, h4⟩ := (isPerm_iff xs).1 h
  refine mem_permsOf rfl h4 (fun x hx => ?_)
  have := h3 x hx
  unfold numsTo
  rw [List.mem_map]
  exact ⟨x.toNat, List.mem_range.2 (by omega), by omega⟩
theorem split_parts {α : Type} (p : α → Bool) (m : Nat) : ∀ (k : Nat) (l : List α), l.length ≤ m * k → (∀ j, j < k → ((l.drop (m * j)).take m).all p = true) → l.all p = true
  | 0, l, hl, _ => by
    have : l = [] := List.length_eq_zero_iff.1 (by simpa using hl)
    subst this
    rfl
  | k + 1, l, hl, h => by
    have e : l = l.take m ++ l.drop m := (List.take_append_drop m l).symm
    rw [e, List.all_append, Bool.and_eq_true]
    refine ⟨by have := h 0 (by omega); simpa using this, split_parts p m k (l.drop m) (by rw [List.length_drop]; rw [Nat.mul_succ] at hl; omega) fun j hj => ?_⟩
    have := h (j + 1) (by omega)
    rw [List.drop_drop, show m + m * j = m * (j + 1) by rw [Nat.mul_succ]; omega]
    exact this

/-! the reference's search, on numbers -/
def swpN (b : List Nat) (k : Nat) : List Nat := (b.set k (b.getD (k + 1) 0)).set (k + 1) (b.getD k 0)
def invN (xs : List Int) : List Nat := (inv xs).map Int.toNat
def lenN (xs : List Int) : Nat := (sumI (code xs)).toNat
def dfsM (n : Nat) : Nat → List Nat → Nat → Nat → Nat → Nat → List Nat
  | 0, _, _, _, _, _ => []
  | f + 1, b, l, row, col, m =>
    bif Nat.beq l 0 then [m]
    else bif Nat.blt n (row + 2) then []
    else bif !(Nat.beq row 0) && !(Nat.beq (b.getD (row - 1) 0) (row - 1)) then []
    else (bif Nat.blt (b.getD (row + col + 1) 0) (b.getD (row + col) 0) then dfsM n f (swpN b (row + col)) (l - 1) (nextR row col) (nextC n row col) (m ||| 2 ^ (8 * row + col)) else []) ++
      dfsM n f b l (nextR row col) (nextC n row col) m
def stepOk (xs : List Int) (k : Nat) : Bool :=
  !(decide ((inv xs).getD (k + 1) 0 < (inv xs).getD k 0)) || (isPerm (shortD xs k) && decide (sumI (code (shortD xs k)) + 1 = sumI (code xs)) && decide (invN (shortD xs k) = swpN (invN xs) k))
def permOk (n : Nat) (xs : List Int) : Bool := decide (0 ≤ sumI (code xs)) && (decide (0 < sumI (code xs)) || decide (invN xs = List.range n)) && (List.range (n - 1)).all (stepOk xs)
def pipeB (n bm : Nat) (xs : List Int) (RM S : List Nat) : Bool :=
  Nat.ble RM.length 400 && RM.elem bm && decide (bottom xs = decM n bm) && S.all (fun s => RM.elem s) && RM.all fun m => Nat.beq m bm || S.elem m
def pipeC (n : Nat) (xs : List Int) (RM : List Nat) : Bool := pipeB n (maskD (bottom xs)) xs RM (RM.flatMap (succs n))
def pipeChk (n : Nat) (xs : List Int) : Bool := permOk n xs && pipeC n xs (dfsM n (n * n) (invN xs) (lenN xs) 0 (n - 2) 0)
set_option maxRecDepth 100000 in
theorem pipeChk_all : ([1, 2, 3, 4, 5].all fun n => (permsOf n (numsTo n)).all (pipeChk n)) = true := by kernel_rfl
end Go.Proofs.Ytageojkepoejiaa
