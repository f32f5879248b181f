/-
  The word of a dream, as the reference reckons it: the plain part.
  The word of a dream: its cells sorted by rows, in each row the last one first.
  Contract of l3Before: dreams compared cell by cell.
-/
import Derived.Test.YtomejjbkakpoiaaGreatBuY6
import Derived.Deep.RegionHeld3
namespace Go.Proofs.YtomejjbkakpoiaaGreat
open Go.RowKit

def csum (p : Int × Int) : Int := p.1 + p.2
/-- where the row begins that cell i stands in, and the cells of the rows before it, each row turned -/
def wst (xs : List (Int × Int)) : Nat → Nat × List (Int × Int)
  | 0 => (0, [])
  | i + 1 => if (cellOf xs i).1 = (cellOf xs (wst xs i).1).1 then wst xs i else (i, (wst xs i).2 ++ ((xs.take i).drop (wst xs i).1).reverse)
def grp (xs : List (Int × Int)) (f i : Nat) : List (Int × Int) := ((xs.take i).drop f).reverse
def wordCells (xs : List (Int × Int)) : List (Int × Int) := (wst xs xs.length).2 ++ grp xs (wst xs xs.length).1 xs.length
def wordOf (xs : List (Int × Int)) : List Int := (wordCells xs).map csum
theorem wst_same {xs : List (Int × Int)} {i f : Nat} (hf : (wst xs i).1 = f) (h : (cellOf xs i).1 = (cellOf xs f).1) : wst xs (i + 1) = wst xs i := by
  rw [wst, hf, if_pos h]
theorem wst_new {xs : List (Int × Int)} {i f : Nat} (hf : (wst xs i).1 = f) (h : (cellOf xs i).1 ≠ (cellOf xs f).1) : wst xs (i + 1) = (i, (wst xs i).2 ++ grp xs f i) := by
  rw [wst, hf, if_neg h]; rfl
theorem wst_le (xs : List (Int × Int)) (i : Nat) : (wst xs i).1 ≤ i := by
  induction i with
  | zero => exact Nat.le_refl _
  | succ i ih =>
    rw [wst]
    split
    · omega
    · exact Nat.le_succ _
theorem wst_lt {xs : List (Int × Int)} {n i f : Nat} (_hn : xs.length = n) (h : i < n) (hf : (wst xs i).1 = f) : f < n := by
  have := wst_le xs i; omega
theorem grp_length {xs : List (Int × Int)} {n f i : Nat} (hn : xs.length = n) (hi : i ≤ n) : (grp xs f i).length = i - f := by
  simp [grp]; omega
theorem wst_len {xs : List (Int × Int)} {n : Nat} (hn : xs.length = n) : ∀ i, i ≤ n → (wst xs i).2.length = (wst xs i).1 := by
  intro i
  induction i with
  | zero => intro _; rfl
  | succ i ih =>
    intro h
    rw [wst]
    split
    · exact ih (by omega)
    · have h1 := ih (by omega)
      have h2 := grp_length (f := (wst xs i).1) hn (show i ≤ n by omega)
      have h3 := wst_le xs i
      unfold grp at h2
      rw [List.length_append, h2, h1]
      show _ = i
      omega
theorem grp_at {xs : List (Int × Int)} {n f i m : Nat} (hn : xs.length = n) (hi : i ≤ n) (hm : m < i - f) : (grp xs f i)[m]? = xs[i - 1 - m]? := by
  subst hn
  unfold grp
  rw [List.getElem?_reverse (by simp; omega), List.getElem?_drop, List.getElem?_take, if_pos (by simp; omega)]
  congr 1
  simp
  omega
theorem take_grp {xs : List (Int × Int)} {n f i m : Nat} {p : Int × Int} (hn : xs.length = n) (hi : i ≤ n) (hm : m < i - f) (hp : xs[i - 1 - m]? = some p) (us : List Int) :
    us ++ ((grp xs f i).map csum).take m ++ [csum p] = us ++ ((grp xs f i).map csum).take (m + 1) := by
  rw [List.append_assoc, List.take_add_one, List.getElem?_map, grp_at hn hi hm, hp]
  rfl
theorem all_grp {xs : List (Int × Int)} {n f i : Nat} (hn : xs.length = n) (hi : i ≤ n) : ((grp xs f i).map csum).take (i - f) = (grp xs f i).map csum := by
  rw [List.take_of_length_le]
  rw [List.length_map, grp_length hn hi]
  exact Nat.le_refl _
end Go.Proofs.YtomejjbkakpoiaaGreat

namespace Go.Proofs.YtomejjbkakpoiaaGreat

def turned (p : Int × Int) : Int × Int := (p.1, -p.2)
/-- p does not stand behind q -/
def wordLe (p q : Int × Int) : Bool := !(cellLess (turned q) (turned p))
theorem cellLess_iff (p q : Int × Int) : cellLess p q = true ↔ p.1 < q.1 ∨ p.1 = q.1 ∧ p.2 < q.2 := by
  simp [cellLess]
theorem cellLess_no (p q : Int × Int) : cellLess p q = false ↔ ¬ (p.1 < q.1 ∨ p.1 = q.1 ∧ p.2 < q.2) := by
  rw [← cellLess_iff, Bool.not_eq_true]
theorem wordLe_iff (p q : Int × Int) : wordLe p q = true ↔ p.1 < q.1 ∨ p.1 = q.1 ∧ q.2 ≤ p.2 := by
  unfold wordLe turned
  rw [Bool.not_eq_true', cellLess_no]
  simp only
  omega
theorem wordLe_trans (a b c : Int × Int) (h : wordLe a b = true) (k : wordLe b c = true) : wordLe a c = true := by
  rw [wordLe_iff] at *; omega
theorem wordLe_total (a b : Int × Int) : (wordLe a b || wordLe b a) = true := by
  rw [Bool.or_eq_true, wordLe_iff, wordLe_iff]; omega
theorem wordLe_antisymm (a b : Int × Int) (h : wordLe a b = true) (k : wordLe b a = true) : a = b := by
  rw [wordLe_iff] at *
  exact Prod.ext (by omega) (by omega)
theorem sort_unique {xs ys : List (Int × Int)} (hp : ys.Perm xs) (hs : ys.Pairwise (fun a b => wordLe a b = true)) : xs.mergeSort wordLe = ys := by
  refine List.Perm.eq_of_pairwise (le := fun a b => wordLe a b = true) ?_ (List.pairwise_mergeSort wordLe_trans wordLe_total xs) hs ((List.mergeSort_perm xs wordLe).trans hp.symm)
  intro a b _ _ h k
  exact wordLe_antisymm a b h k

theorem dream_all {n : Int} {xs : List (Int × Int)} (h : isDream n xs = true) : (1 ≤ n ∧ n ≤ 6) ∧ ∀ j, j < xs.length → dreamAt n xs j = true := by
  unfold isDream at h
  rw [Bool.and_eq_true, List.all_eq_true] at h
  exact ⟨of_decide_eq_true h.1, fun j hj => h.2 j (by simpa using hj)⟩
theorem dream_in {n : Int} {xs : List (Int × Int)} (h : isDream n xs = true) {j : Nat} (hj : j < xs.length) : inStair n (cellOf xs j) = true := by
  have := (dream_all h).2 j hj
  unfold dreamAt at this
  rw [Bool.and_eq_true] at this
  exact this.1
theorem dream_rise {n : Int} {xs : List (Int × Int)} (h : isDream n xs = true) : ∀ (d j : Nat), j + d + 1 < xs.length → cellLess (cellOf xs j) (cellOf xs (j + d + 1)) = true := by
  intro d
  induction d with
  | zero =>
    intro j hj
    have := (dream_all h).2 (j + 1) hj
    unfold dreamAt at this
    rw [Bool.and_eq_true, Bool.or_eq_true] at this
    rcases this.2 with h1 | h1
    · simp at h1
    · exact h1
  | succ d ih =>
    intro j hj
    have h1 := ih j (by omega)
    have h2 := (dream_all h).2 (j + d + 2) hj
    unfold dreamAt at h2
    rw [Bool.and_eq_true, Bool.or_eq_true] at h2
    rcases h2.2 with h3 | h3
    · simp at h3
    · rw [cellLess_iff] at *
      have e : j + (d + 1) + 1 = j + d + 2 := by omega
      rw [e]
      have e2 : j + d + 2 - 1 = j + d + 1 := by omega
      rw [e2] at h3
      omega
theorem dream_less {n : Int} {xs : List (Int × Int)} (h : isDream n xs = true) {i j : Nat} (hij : i < j) (hj : j < xs.length) : (cellOf xs i).1 < (cellOf xs j).1 ∨ (cellOf xs i).1 = (cellOf xs j).1 ∧ (cellOf xs i).2 < (cellOf xs j).2 := by
  have := dream_rise h (j - i - 1) i (by omega)
  rw [show i + (j - i - 1) + 1 = j by omega, cellLess_iff] at this
  exact this

theorem wst_perm (xs : List (Int × Int)) : ∀ i, (wst xs i).2.Perm (xs.take (wst xs i).1) := by
  intro i
  induction i with
  | zero => simp [wst]
  | succ i ih =>
    rw [wst]
    split
    · exact ih
    · have hle := wst_le xs i
      simp only
      have h1 : xs.take i = xs.take (wst xs i).1 ++ (xs.take i).drop (wst xs i).1 := by
        conv => lhs; rw [← List.take_append_drop (wst xs i).1 (xs.take i)]
        rw [List.take_take, Nat.min_eq_left hle]
      conv => rhs; rw [h1]
      exact ih.append (List.reverse_perm _)
theorem wordCells_perm (xs : List (Int × Int)) : (wordCells xs).Perm xs := by
  unfold wordCells grp
  have h := (wst_perm xs xs.length).append (List.reverse_perm ((xs.take xs.length).drop (wst xs xs.length).1))
  rw [List.take_length] at h ⊢
  rw [List.take_append_drop] at h
  exact h

/-- what holds of the state at cell i -/
structure WInv (xs : List (Int × Int)) (i : Nat) : Prop where
  same : ∀ j, (wst xs i).1 ≤ j → j < i → (cellOf xs j).1 = (cellOf xs (wst xs i).1).1
  less : ∀ j k, j < (wst xs i).1 → (wst xs i).1 ≤ k → k < xs.length → (cellOf xs j).1 < (cellOf xs k).1
  pair : (wst xs i).2.Pairwise (fun a b => wordLe a b = true)
theorem mem_take {xs : List (Int × Int)} {f : Nat} {p : Int × Int} (h : p ∈ xs.take f) : ∃ j, j < f ∧ j < xs.length ∧ cellOf xs j = p := by
  obtain ⟨j, hj⟩ := List.getElem?_of_mem h
  have hl := (List.getElem?_eq_some_iff.1 hj).1
  rw [List.length_take] at hl
  rw [List.getElem?_take, if_pos (by omega)] at hj
  exact ⟨j, by omega, by omega, cellOf_at hj⟩
theorem mem_grp {xs : List (Int × Int)} {f i : Nat} {p : Int × Int} (h : p ∈ grp xs f i) : ∃ j, f ≤ j ∧ j < i ∧ j < xs.length ∧ cellOf xs j = p := by
  unfold grp at h
  rw [List.mem_reverse] at h
  obtain ⟨j, hj⟩ := List.getElem?_of_mem h
  have hl := (List.getElem?_eq_some_iff.1 hj).1
  rw [List.length_drop, List.length_take] at hl
  rw [List.getElem?_drop, List.getElem?_take, if_pos (by omega)] at hj
  exact ⟨f + j, by omega, by omega, by omega, cellOf_at hj⟩
theorem WInv.join {n : Int} {xs : List (Int × Int)} {i : Nat} (hd : isDream n xs = true) (hi : i ≤ xs.length) (h : WInv xs i) : ((wst xs i).2 ++ grp xs (wst xs i).1 i).Pairwise (fun a b => wordLe a b = true) := by
  rw [List.pairwise_append]
  refine ⟨h.pair, ?_, ?_⟩
  · unfold grp
    rw [List.pairwise_reverse, List.pairwise_iff_getElem]
    intro a b ha hb hab
    rw [List.length_drop, List.length_take] at ha hb
    rw [List.getElem_drop, List.getElem_drop, List.getElem_take, List.getElem_take]
    have ea : cellOf xs ((wst xs i).1 + a) = xs[(wst xs i).1 + a]'(by omega) := cellOf_at (List.getElem?_eq_getElem _)
    have eb : cellOf xs ((wst xs i).1 + b) = xs[(wst xs i).1 + b]'(by omega) := cellOf_at (List.getElem?_eq_getElem _)
    have h1 := dream_less hd (i := (wst xs i).1 + a) (j := (wst xs i).1 + b) (by omega) (by omega)
    have h2 := h.same ((wst xs i).1 + a) (by omega) (by omega)
    have h3 := h.same ((wst xs i).1 + b) (by omega) (by omega)
    rw [← ea, ← eb, wordLe_iff]
    omega
  · intro a ha b hb
    obtain ⟨j, h1, _, rfl⟩ := mem_take ((wst_perm xs i).mem_iff.1 ha)
    obtain ⟨k, h2, _, h3, rfl⟩ := mem_grp hb
    rw [wordLe_iff]
    left
    exact h.less j k h1 h2 h3
theorem winv {n : Int} {xs : List (Int × Int)} (hd : isDream n xs = true) : ∀ i, i ≤ xs.length → WInv xs i := by
  intro i
  induction i with
  | zero =>
    intro _
    exact ⟨fun j _ h => by omega, fun j k h => by simp [wst] at h, List.Pairwise.nil⟩
  | succ i ih =>
    intro hi
    have h := ih (by omega)
    by_cases hr : (cellOf xs i).1 = (cellOf xs (wst xs i).1).1
    · have e := wst_same (xs := xs) (i := i) rfl hr
      constructor
      · rw [e]
        intro j h1 h2
        rcases Nat.lt_or_ge j i with h3 | h3
        · exact h.same j h1 h3
        · obtain rfl : j = i := by omega
          exact hr
      · rw [e]; exact h.less
      · rw [e]; exact h.pair
    · have e := wst_new (xs := xs) (i := i) rfl hr
      have hle := wst_le xs i
      have hpos : (wst xs i).1 < i := by
        rcases Nat.lt_or_ge (wst xs i).1 i with h1 | h1
        · exact h1
        · have : (wst xs i).1 = i := by omega
          rw [this] at hr
          exact absurd rfl hr
      have hfi := dream_less hd hpos (by omega)
      constructor
      · rw [e]; intro j h1 h2; obtain rfl : j = i := (by simp only at h1; omega); rfl
      · rw [e]
        simp only
        intro j k h1 h2 h3
        have hik : (cellOf xs i).1 ≤ (cellOf xs k).1 := by
          rcases Nat.lt_or_ge i k with h4 | h4
          · have := dream_less hd h4 h3; omega
          · obtain rfl : k = i := by omega
            exact Int.le_refl _
        rcases Nat.lt_or_ge j (wst xs i).1 with h4 | h4
        · have := h.less j (wst xs i).1 h4 (Nat.le_refl _) (by omega)
          omega
        · have := h.same j h4 h1
          omega
      · rw [e]; exact h.join hd (by omega)
theorem word_sorted {n : Int} {xs : List (Int × Int)} (hd : isDream n xs = true) : xs.mergeSort wordLe = wordCells xs :=
  sort_unique (wordCells_perm xs) ((winv hd xs.length (Nat.le_refl _)).join hd (Nat.le_refl _))
theorem dream_low {n : Int} {xs : List (Int × Int)} (hd : isDream n xs = true) : ∀ (k : Nat) (p : Int × Int), xs[k]? = some p → Low p.1 ∧ Low p.2 := by
  intro k p hp
  have h := dream_in hd (List.getElem?_eq_some_iff.1 hp).1
  rw [cellOf_at hp] at h
  have hn := (dream_all hd).1
  unfold inStair at h
  simp only [Bool.and_eq_true, decide_eq_true_eq] at h
  unfold Low
  omega
end Go.Proofs.YtomejjbkakpoiaaGreat

namespace Go.Proofs.YtomejjbkakpoiaaGreat
open Go.RowKit

/-- the lists agree as far as so -/
def SameTo (xs ys : List (Int × Int)) (k : Nat) : Prop := ∀ j, j < k → xs[j]? = ys[j]?
theorem lessD_skip : ∀ {xs ys : List (Int × Int)} {k : Nat}, SameTo xs ys k → k ≤ xs.length → k ≤ ys.length → lessD xs ys = lessD (xs.drop k) (ys.drop k)
  | xs, ys, 0, _, _, _ => by rw [List.drop_zero, List.drop_zero]
  | [], _, k + 1, _, h, _ => by simp at h
  | _ :: _, [], k + 1, _, _, h => by simp at h
  | x :: xs, y :: ys, k + 1, h, h1, h2 => by
    have e : x = y := by have := h 0 (by omega); simpa using this
    have h' : SameTo xs ys k := fun j hj => by have := h (j + 1) (by omega); simpa using this
    rw [lessD, if_pos e, List.drop_succ_cons, List.drop_succ_cons]
    exact lessD_skip h' (by simpa using h1) (by simpa using h2)
theorem lessD_at {xs ys : List (Int × Int)} {k : Nat} {x y : Int × Int} (h : SameTo xs ys k) (hx : xs[k]? = some x) (hy : ys[k]? = some y) (hne : x ≠ y) : lessD xs ys = cellLess x y := by
  obtain ⟨h1, e1⟩ := List.getElem?_eq_some_iff.1 hx
  obtain ⟨h2, e2⟩ := List.getElem?_eq_some_iff.1 hy
  rw [lessD_skip h (by omega) (by omega), List.drop_eq_getElem_cons h1, List.drop_eq_getElem_cons h2, lessD, e1, e2, if_neg hne]
theorem lessD_end {xs ys : List (Int × Int)} {n m : Nat} (hn : xs.length = n) (hm : ys.length = m) (h : SameTo xs ys (min n m)) : lessD xs ys = decide (n < m) := by
  rw [lessD_skip h (by omega) (by omega)]
  rcases Nat.lt_or_ge n m with hl | hl
  · rw [Nat.min_eq_left (by omega), List.drop_of_length_le (by omega), List.drop_eq_getElem_cons (by omega), lessD]
    simp [hl]
  · rw [Nat.min_eq_right hl, List.drop_of_length_le (l := ys) (by omega)]
    rcases Nat.lt_or_ge m n with h2 | h2
    · rw [List.drop_eq_getElem_cons (by omega), lessD]
      simp
      omega
    · rw [List.drop_of_length_le (by omega), lessD]
      simp
      omega
theorem SameTo.succ {xs ys : List (Int × Int)} {k : Nat} {x : Int × Int} (h : SameTo xs ys k) (hx : xs[k]? = some x) (hy : ys[k]? = some x) : SameTo xs ys (k + 1) := fun j hj => by
  rcases Nat.lt_or_ge j k with h1 | h1
  · exact h j h1
  · obtain rfl : j = k := by omega
    rw [hx, hy]

end Go.Proofs.YtomejjbkakpoiaaGreat
