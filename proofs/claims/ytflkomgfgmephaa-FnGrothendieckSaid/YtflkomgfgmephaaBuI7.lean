/-
  Contracts of byCells and l3Less: the order of cells; dreams.
  The word of a dream, as the reference reckons it: the plain part.
  The word of a dream: its cells sorted by rows, in each row the last one first.
  Contracts of isDream and l3Crosses: whether cells are a dream.
-/
import Derived.Test.YtflkomgfgmephaaBuI6
import Derived.Test.YtflkomgfgmephaaBuA
import Derived.Lib.QuietBelow
import Derived.BigQuiet
namespace Go.Proofs.Ytflkomgfgmephaa
open Go.RowKit

def cellLess (p q : Int × Int) : Bool := decide (p.1 < q.1) || (decide (p.1 = q.1) && decide (p.2 < q.2))
def cellCmp (p q : Int × Int) : Int := if p.1 = q.1 then p.2 - q.2 else p.1 - q.1
theorem cellCmp_less (p q : Int × Int) : decide (cellCmp p q < 0) = cellLess p q := by
  unfold cellCmp cellLess
  by_cases h : p.1 = q.1
  · rw [if_pos h]
    by_cases h2 : p.2 < q.2 <;> simp [h, h2] <;> omega
  · rw [if_neg h]
    by_cases h2 : p.1 < q.1 <;> simp [h, h2] <;> omega

def Low (x : Int) : Prop := -1000 ≤ x ∧ x ≤ 1000
set_option maxRecDepth 100000 in
set_option maxHeartbeats 800000 in
theorem byCells_any (a b c d : Int) (w : World) (ha : Low a) (hb : Low b) (hc : Low c) (hd : Low d) :
    Calls Try.prog 63 #[.agg #[.int .i64 a, .int .i64 b], .agg #[.int .i64 c, .int .i64 d]] w fun e w' => e = .returned (.int .i64 (cellCmp (a, b) (c, d))) ∧ Below w.heap.size w w' := by
  obtain ⟨a1, a2⟩ := ha
  obtain ⟨b1, b2⟩ := hb
  obtain ⟨c1, c2⟩ := hc
  obtain ⟨d1, d2⟩ := hd
  have hB := Lib.hid (((Below.refl w.heap.size w).alloc (Nat.le_refl _) (.cells #[.int .i64 a, .int .i64 b] 53)).alloc (by simp only [World.alloc, Array.size_push]; omega) (.cells #[.int .i64 c, .int .i64 d] 53))
  by_cases h1 : a = c
  · have e1 : (a != c) = false := by simp [h1]
    have Hr := Lib.hid (show cellCmp (a, b) (c, d) = b - d by unfold cellCmp; rw [if_pos h1])
    clear h1
    go_enter Try.func63, Try.ntmps63
    go_wp2
    go_ret
    exact ⟨ret_int Hr.out.symm, hB.out⟩
  · have e1 : (a != c) = true := by simp [h1]
    have Hr := Lib.hid (show cellCmp (a, b) (c, d) = a - c by unfold cellCmp; rw [if_neg h1])
    clear h1
    go_enter Try.func63, Try.ntmps63
    go_wp2
    go_ret
    exact ⟨ret_int Hr.out.symm, hB.out⟩
def cellOf (xs : List (Int × Int)) (k : Nat) : Int × Int := xs.getD k (0, 0)
theorem cellOf_at {xs : List (Int × Int)} {k : Nat} {p : Int × Int} (h : xs[k]? = some p) : cellOf xs k = p := by simp [cellOf, h]
def inStair (n : Int) (p : Int × Int) : Bool := decide (0 ≤ p.1 ∧ p.1 ≤ n - 2) && decide (0 ≤ p.2 ∧ p.2 ≤ n - 2 - p.1)
def dreamAt (n : Int) (xs : List (Int × Int)) (k : Nat) : Bool := inStair n (cellOf xs k) && (k == 0 || cellLess (cellOf xs (k - 1)) (cellOf xs k))
def isDream (n : Int) (xs : List (Int × Int)) : Bool := decide (1 ≤ n ∧ n ≤ 6) && (List.range xs.length).all (dreamAt n xs)
theorem isDream_size {n : Int} {xs : List (Int × Int)} (h : ¬ (1 ≤ n ∧ n ≤ 6)) : isDream n xs = false := by
  unfold isDream; rw [Bool.and_eq_false_iff]; left; exact decide_eq_false h
theorem isDream_false {n : Int} {xs : List (Int × Int)} {k : Nat} (hk : k < xs.length) (h : dreamAt n xs k = false) : isDream n xs = false := by
  unfold isDream; rw [Bool.and_eq_false_iff]; right; rw [List.all_eq_false]; exact ⟨k, by simpa using hk, by simp [h]⟩
theorem isDream_true {n : Int} {xs : List (Int × Int)} (hn : 1 ≤ n ∧ n ≤ 6) (h : ∀ j, j < xs.length → dreamAt n xs j = true) : isDream n xs = true := by
  unfold isDream; rw [Bool.and_eq_true, List.all_eq_true]; exact ⟨decide_eq_true hn, fun j hj => h j (by simpa using hj)⟩
theorem dream_next {n : Int} {xs : List (Int × Int)} {k : Nat} (h : ∀ j, j < k → dreamAt n xs j = true) (h1 : dreamAt n xs k = true) : ∀ j, j < k + 1 → dreamAt n xs j = true := by
  intro j hj
  rcases Nat.lt_or_ge j k with h2 | h2
  · exact h j h2
  · obtain rfl : j = k := by omega
    exact h1
theorem dreamAt_out {n : Int} {xs : List (Int × Int)} {k : Nat} {p : Int × Int} (h : xs[k]? = some p) (h1 : inStair n p = false) : dreamAt n xs k = false := by simp [dreamAt, cellOf_at h, h1]
theorem dreamAt_rise {n : Int} {xs : List (Int × Int)} {k : Nat} {p q : Int × Int} (h : xs[k]? = some p) (hq : xs[k - 1]? = some q) (h0 : k ≠ 0) (h1 : cellLess q p = false) : dreamAt n xs k = false := by
  simp [dreamAt, cellOf_at h, cellOf_at hq, h1, h0]
theorem dreamAt_first {n : Int} {xs : List (Int × Int)} {p : Int × Int} (h : xs[0]? = some p) (h1 : inStair n p = true) : dreamAt n xs 0 = true := by simp [dreamAt, cellOf_at h, h1]
theorem dreamAt_next {n : Int} {xs : List (Int × Int)} {k : Nat} {p q : Int × Int} (h : xs[k]? = some p) (hq : xs[k - 1]? = some q) (h1 : inStair n p = true) (h2 : cellLess q p = true) : dreamAt n xs k = true := by
  simp [dreamAt, cellOf_at h, cellOf_at hq, h1, h2]
/-- how many places stand before a cell -/
def place (p : Int × Int) : Int := if p.1 = 0 then p.2 else if p.1 = 1 then 5 + p.2 else if p.1 = 2 then 9 + p.2 else if p.1 = 3 then 12 + p.2 else 14 + p.2
theorem place_lt {n : Int} {p : Int × Int} (hn : n ≤ 6) (h : inStair n p = true) : place p < 15 := by
  unfold inStair at h
  simp only [Bool.and_eq_true, decide_eq_true_eq] at h
  unfold place
  split <;> (try split) <;> (try split) <;> (try split) <;> omega
theorem place_less {n : Int} {p q : Int × Int} (hn : n ≤ 6) (h : inStair n p = true) (k : inStair n q = true) (hl : cellLess q p = true) : place q < place p := by
  unfold inStair at h k
  unfold cellLess at hl
  simp only [Bool.and_eq_true, Bool.or_eq_true, decide_eq_true_eq] at h k hl
  unfold place
  split <;> split <;> (try split) <;> (try split) <;> (try split) <;> (try split) <;> (try split) <;> (try split) <;> omega
theorem dream_place {n : Int} {xs : List (Int × Int)} (hn : n ≤ 6) : ∀ k : Nat, (∀ j, j < k + 1 → dreamAt n xs j = true) → (k : Int) ≤ place (cellOf xs k) := by
  intro k
  induction k with
  | zero =>
    intro h
    have := h 0 (by omega)
    unfold dreamAt at this
    simp only [Bool.and_eq_true] at this
    have h1 := this.1
    unfold inStair at h1
    simp only [Bool.and_eq_true, decide_eq_true_eq] at h1
    unfold place
    split <;> (try split) <;> (try split) <;> (try split) <;> omega
  | succ k ih =>
    intro h
    have h1 := ih (fun j hj => h j (by omega))
    have a := h (k + 1) (by omega)
    have b := h k (by omega)
    unfold dreamAt at a b
    simp only [Bool.and_eq_true, Bool.or_eq_true, beq_iff_eq] at a b
    rcases a.2 with h2 | h2
    · omega
    · have := place_less hn a.1 b.1 h2
      omega
theorem dream_short {n : Int} {xs : List (Int × Int)} (hn : n ≤ 6) (h : ∀ j, j < xs.length → dreamAt n xs j = true) : xs.length ≤ 15 := by
  rcases Nat.eq_zero_or_pos xs.length with h0 | h0
  · omega
  · have h1 := dream_place (xs := xs) hn (xs.length - 1) (fun j hj => h j (by omega))
    have h2 := h (xs.length - 1) (by omega)
    unfold dreamAt at h2
    simp only [Bool.and_eq_true] at h2
    have := place_lt hn h2.1
    omega
theorem isDream_long {n : Int} {xs : List (Int × Int)} (h : 15 < xs.length) : isDream n xs = false := by
  cases hd : isDream n xs with
  | false => rfl
  | true =>
    unfold isDream at hd
    rw [Bool.and_eq_true, List.all_eq_true] at hd
    have h1 : 1 ≤ n ∧ n ≤ 6 := of_decide_eq_true hd.1
    have := dream_short (xs := xs) h1.2 (fun j hj => hd.2 j (by simpa using hj))
    omega
end Go.Proofs.Ytflkomgfgmephaa

namespace Go.Proofs.Ytflkomgfgmephaa
open Go.RowKit

def csum (p : Int × Int) : Int := p.1 + p.2
/-- where the row begins that cell i stands in, and the cells of the rows before it, each row turned -/
def wst (xs : List (Int × Int)) : Nat → Nat × List (Int × Int)
  | 0 => (0, [])
  | i + 1 => if (cellOf xs i).1 = (cellOf xs (wst xs i).1).1 then wst xs i else (i, (wst xs i).2 ++ ((xs.take i).drop (wst xs i).1).reverse)
def grp (xs : List (Int × Int)) (f i : Nat) : List (Int × Int) := ((xs.take i).drop f).reverse
def wordCells (xs : List (Int × Int)) : List (Int × Int) := (wst xs xs.length).2 ++ grp xs (wst xs xs.length).1 xs.length
def wordOf (xs : List (Int × Int)) : List Int := (wordCells xs).map csum
theorem wst_same {xs : List (Int × Int)} {i f : Nat} (hf : (wst xs i).1 = f) (h : (cellOf xs i).1 = (cellOf xs f).1) : wst xs (i + 1) = wst xs i := by
  rw [wst, hf, if_pos h]
theorem wst_new {xs : List (Int × Int)} {i f : Nat} (hf : (wst xs i).1 = f) (h : (cellOf xs i).1 ≠ (cellOf xs f).1) : wst xs (i + 1) = (i, (wst xs i).2 ++ grp xs f i) := by
  rw [wst, hf, if_neg h]; rfl
theorem wst_le (xs : List (Int × Int)) (i : Nat) : (wst xs i).1 ≤ i := by
  induction i with
  | zero => exact Nat.le_refl _
  | succ i ih =>
    rw [wst]
    split
    · omega
    · exact Nat.le_succ _
theorem wst_lt {xs : List (Int × Int)} {n i f : Nat} (_hn : xs.length = n) (h : i < n) (hf : (wst xs i).1 = f) : f < n := by
  have := wst_le xs i; omega
theorem grp_length {xs : List (Int × Int)} {n f i : Nat} (hn : xs.length = n) (hi : i ≤ n) : (grp xs f i).length = i - f := by
  simp [grp]; omega
theorem wst_len {xs : List (Int × Int)} {n : Nat} (hn : xs.length = n) : ∀ i, i ≤ n → (wst xs i).2.length = (wst xs i).1 := by
  intro i
  induction i with
  | zero => intro _; rfl
  | succ i ih =>
    intro h
    rw [wst]
    split
    · exact ih (by omega)
    · have h1 := ih (by omega)
      have h2 := grp_length (f := (wst xs i).1) hn (show i ≤ n by omega)
      have h3 := wst_le xs i
      unfold grp at h2
      rw [List.length_append, h2, h1]
      show _ = i
      omega
theorem grp_at {xs : List (Int × Int)} {n f i m : Nat} (hn : xs.length = n) (hi : i ≤ n) (hm : m < i - f) : (grp xs f i)[m]? = xs[i - 1 - m]? := by
  subst hn
  unfold grp
  rw [List.getElem?_reverse (by simp; omega), List.getElem?_drop, List.getElem?_take, if_pos (by simp; omega)]
  congr 1
  simp
  omega
theorem take_grp {xs : List (Int × Int)} {n f i m : Nat} {p : Int × Int} (hn : xs.length = n) (hi : i ≤ n) (hm : m < i - f) (hp : xs[i - 1 - m]? = some p) (us : List Int) :
    us ++ ((grp xs f i).map csum).take m ++ [csum p] = us ++ ((grp xs f i).map csum).take (m + 1) := by
  rw [List.append_assoc, List.take_add_one, List.getElem?_map, grp_at hn hi hm, hp]
  rfl
theorem all_grp {xs : List (Int × Int)} {n f i : Nat} (hn : xs.length = n) (hi : i ≤ n) : ((grp xs f i).map csum).take (i - f) = (grp xs f i).map csum := by
  rw [List.take_of_length_le]
  rw [List.length_map, grp_length hn hi]
  exact Nat.le_refl _
end Go.Proofs.Ytflkomgfgmephaa

namespace Go.Proofs.Ytflkomgfgmephaa

def turned (p : Int × Int) : Int × Int := (p.1, -p.2)
/-- p does not stand behind q -/
def wordLe (p q : Int × Int) : Bool := !(cellLess (turned q) (turned p))
theorem cellLess_iff (p q : Int × Int) : cellLess p q = true ↔ p.1 < q.1 ∨ p.1 = q.1 ∧ p.2 < q.2 := by
  simp [cellLess]
theorem cellLess_no (p q : Int × Int) : cellLess p q = false ↔ ¬ (p.1 < q.1 ∨ p.1 = q.1 ∧ p.2 < q.2) := by
  rw [← cellLess_iff, Bool.not_eq_true]
theorem wordLe_iff (p q : Int × Int) : wordLe p q = true ↔ p.1 < q.1 ∨ p.1 = q.1 ∧ q.2 ≤ p.2 := by
  unfold wordLe turned
  rw [Bool.not_eq_true', cellLess_no]
  simp only
  omega
theorem wordLe_trans (a b c : Int × Int) (h : wordLe a b = true) (k : wordLe b c = true) : wordLe a c = true := by
  rw [wordLe_iff] at *; omega
theorem wordLe_total (a b : Int × Int) : (wordLe a b || wordLe b a) = true := by
  rw [Bool.or_eq_true, wordLe_iff, wordLe_iff]; omega
theorem wordLe_antisymm (a b : Int × Int) (h : wordLe a b = true) (k : wordLe b a = true) : a = b := by
  rw [wordLe_iff] at *
  exact Prod.ext (by omega) (by omega)
theorem sort_unique {xs ys : List (Int × Int)} (hp : ys.Perm xs) (hs : ys.Pairwise (fun a b => wordLe a b = true)) : xs.mergeSort wordLe = ys := by
  refine List.Perm.eq_of_pairwise (le := fun a b => wordLe a b = true) ?_ (List.pairwise_mergeSort wordLe_trans wordLe_total xs) hs ((List.mergeSort_perm xs wordLe).trans hp.symm)
  intro a b _ _ h k
  exact wordLe_antisymm a b h k

theorem dream_all {n : Int} {xs : List (Int × Int)} (h : isDream n xs = true) : (1 ≤ n ∧ n ≤ 6) ∧ ∀ j, j < xs.length → dreamAt n xs j = true := by
  unfold isDream at h
  rw [Bool.and_eq_true, List.all_eq_true] at h
  exact ⟨of_decide_eq_true h.1, fun j hj => h.2 j (by simpa using hj)⟩
theorem dream_in {n : Int} {xs : List (Int × Int)} (h : isDream n xs = true) {j : Nat} (hj : j < xs.length) : inStair n (cellOf xs j) = true := by
  have := (dream_all h).2 j hj
  unfold dreamAt at this
  rw [Bool.and_eq_true] at this
  exact this.1
theorem dream_rise {n : Int} {xs : List (Int × Int)} (h : isDream n xs = true) : ∀ (d j : Nat), j + d + 1 < xs.length → cellLess (cellOf xs j) (cellOf xs (j + d + 1)) = true := by
  intro d
  induction d with
  | zero =>
    intro j hj
    have := (dream_all h).2 (j + 1) hj
    unfold dreamAt at this
    rw [Bool.and_eq_true, Bool.or_eq_true] at this
    rcases this.2 with h1 | h1
    · simp at h1
    · exact h1
  | succ d ih =>
    intro j hj
    have h1 := ih j (by omega)
    have h2 := (dream_all h).2 (j + d + 2) hj
    unfold dreamAt at h2
    rw [Bool.and_eq_true, Bool.or_eq_true] at h2
    rcases h2.2 with h3 | h3
    · simp at h3
    · rw [cellLess_iff] at *
      have e : j + (d + 1) + 1 = j + d + 2 := by omega
      rw [e]
      have e2 : j + d + 2 - 1 = j + d + 1 := by omega
      rw [e2] at h3
      omega
theorem dream_less {n : Int} {xs : List (Int × Int)} (h : isDream n xs = true) {i j : Nat} (hij : i < j) (hj : j < xs.length) : (cellOf xs i).1 < (cellOf xs j).1 ∨ (cellOf xs i).1 = (cellOf xs j).1 ∧ (cellOf xs i).2 < (cellOf xs j).2 := by
  have := dream_rise h (j - i - 1) i (by omega)
  rw [show i + (j - i - 1) + 1 = j by omega, cellLess_iff] at this
  exact this

theorem wst_perm (xs : List (Int × Int)) : ∀ i, (wst xs i).2.Perm (xs.take (wst xs i).1) := by
  intro i
  induction i with
  | zero => simp [wst]
  | succ i ih =>
    rw [wst]
    split
    · exact ih
    · have hle := wst_le xs i
      simp only
      have h1 : xs.take i = xs.take (wst xs i).1 ++ (xs.take i).drop (wst xs i).1 := by
        conv => lhs; rw [← List.take_append_drop (wst xs i).1 (xs.take i)]
        rw [List.take_take, Nat.min_eq_left hle]
      conv => rhs; rw [h1]
      exact ih.append (List.reverse_perm _)
theorem wordCells_perm (xs : List (Int × Int)) : (wordCells xs).Perm xs := by
  unfold wordCells grp
  have h := (wst_perm xs xs.length).append (List.reverse_perm ((xs.take xs.length).drop (wst xs xs.length).1))
  rw [List.take_length] at h ⊢
  rw [List.take_append_drop] at h
  exact h

/-- what holds of the state at cell i -/
structure WInv (xs : List (Int × Int)) (i : Nat) : Prop where
  same : ∀ j, (wst xs i).1 ≤ j → j < i → (cellOf xs j).1 = (cellOf xs (wst xs i).1).1
  less : ∀ j k, j < (wst xs i).1 → (wst xs i).1 ≤ k → k < xs.length → (cellOf xs j).1 < (cellOf xs k).1
  pair : (wst xs i).2.Pairwise (fun a b => wordLe a b = true)
theorem mem_take {xs : List (Int × Int)} {f : Nat} {p : Int × Int} (h : p ∈ xs.take f) : ∃ j, j < f ∧ j < xs.length ∧ cellOf xs j = p := by
  obtain ⟨j, hj⟩ := List.getElem?_of_mem h
  have hl := (List.getElem?_eq_some_iff.1 hj).1
  rw [List.length_take] at hl
  rw [List.getElem?_take, if_pos (by omega)] at hj
  exact ⟨j, by omega, by omega, cellOf_at hj⟩
theorem mem_grp {xs : List (Int × Int)} {f i : Nat} {p : Int × Int} (h : p ∈ grp xs f i) : ∃ j, f ≤ j ∧ j < i ∧ j < xs.length ∧ cellOf xs j = p := by
  unfold grp at h
  rw [List.mem_reverse] at h
  obtain ⟨j, hj⟩ := List.getElem?_of_mem h
  have hl := (List.getElem?_eq_some_iff.1 hj).1
  rw [List.length_drop, List.length_take] at hl
  rw [List.getElem?_drop, List.getElem?_take, if_pos (by omega)] at hj
  exact ⟨f + j, by omega, by omega, by omega, cellOf_at hj⟩
theorem WInv.join {n : Int} {xs : List (Int × Int)} {i : Nat} (hd : isDream n xs = true) (hi : i ≤ xs.length) (h : WInv xs i) : ((wst xs i).2 ++ grp xs (wst xs i).1 i).Pairwise (fun a b => wordLe a b = true) := by
  rw [List.pairwise_append]
  refine ⟨h.pair, ?_, ?_⟩
  · unfold grp
    rw [List.pairwise_reverse, List.pairwise_iff_getElem]
    intro a b ha hb hab
    rw [List.length_drop, List.length_take] at ha hb
    rw [List.getElem_drop, List.getElem_drop, List.getElem_take, List.getElem_take]
    have ea : cellOf xs ((wst xs i).1 + a) = xs[(wst xs i).1 + a]'(by omega) := cellOf_at (List.getElem?_eq_getElem _)
    have eb : cellOf xs ((wst xs i).1 + b) = xs[(wst xs i).1 + b]'(by omega) := cellOf_at (List.getElem?_eq_getElem _)
    have h1 := dream_less hd (i := (wst xs i).1 + a) (j := (wst xs i).1 + b) (by omega) (by omega)
    have h2 := h.same ((wst xs i).1 + a) (by omega) (by omega)
    have h3 := h.same ((wst xs i).1 + b) (by omega) (by omega)
    rw [← ea, ← eb, wordLe_iff]
    omega
  · intro a ha b hb
    obtain ⟨j, h1, _, rfl⟩ := mem_take ((wst_perm xs i).mem_iff.1 ha)
    obtain ⟨k, h2, _, h3, rfl⟩ := mem_grp hb
    rw [wordLe_iff]
    left
    exact h.less j k h1 h2 h3
theorem winv {n : Int} {xs : List (Int × Int)} (hd : isDream n xs = true) : ∀ i, i ≤ xs.length → WInv xs i := by
  intro i
  induction i with
  | zero =>
    intro _
    exact ⟨fun j _ h => by omega, fun j k h => by simp [wst] at h, List.Pairwise.nil⟩
  | succ i ih =>
    intro hi
    have h := ih (by omega)
    by_cases hr : (cellOf xs i).1 = (cellOf xs (wst xs i).1).1
    · have e := wst_same (xs := xs) (i := i) rfl hr
      constructor
      · rw [e]
        intro j h1 h2
        rcases Nat.lt_or_ge j i with h3 | h3
        · exact h.same j h1 h3
        · obtain rfl : j = i := by omega
          exact hr
      · rw [e]; exact h.less
      · rw [e]; exact h.pair
    · have e := wst_new (xs := xs) (i := i) rfl hr
      have hle := wst_le xs i
      have hpos : (wst xs i).1 < i := by
        rcases Nat.lt_or_ge (wst xs i).1 i with h1 | h1
        · exact h1
        · have : (wst xs i).1 = i := by omega
          rw [this] at hr
          exact absurd rfl hr
      have hfi := dream_less hd hpos (by omega)
      constructor
      · rw [e]; intro j h1 h2; obtain rfl : j = i := (by simp only at h1; omega); rfl
      · rw [e]
        simp only
        intro j k h1 h2 h3
        have hik : (cellOf xs i).1 ≤ (cellOf xs k).1 := by
          rcases Nat.lt_or_ge i k with h4 | h4
          · have := dream_less hd h4 h3; omega
          · obtain rfl : k = i := by omega
            exact Int.le_refl _
        rcases Nat.lt_or_ge j (wst xs i).1 with h4 | h4
        · have := h.less j (wst xs i).1 h4 (Nat.le_refl _) (by omega)
          omega
        · have := h.same j h4 h1
          omega
      · rw [e]; exact h.join hd (by omega)
theorem word_sorted {n : Int} {xs : List (Int × Int)} (hd : isDream n xs = true) : xs.mergeSort wordLe = wordCells xs :=
  sort_unique (wordCells_perm xs) ((winv hd xs.length (Nat.le_refl _)).join hd (Nat.le_refl _))
theorem dream_low {n : Int} {xs : List (Int × Int)} (hd : isDream n xs = true) : ∀ (k : Nat) (p : Int × Int), xs[k]? = some p → Low p.1 ∧ Low p.2 := by
  intro k p hp
  have h := dream_in hd (List.getElem?_eq_some_iff.1 hp).1
  rw [cellOf_at hp] at h
  have hn := (dream_all hd).1
  unfold inStair at h
  simp only [Bool.and_eq_true, decide_eq_true_eq] at h
  unfold Low
  omega
end Go.Proofs.Ytflkomgfgmephaa

namespace Go.Proofs.Ytflkomgfgmephaa
open Go.RowKit

theorem stair_bad {n : Int} {r c : Int} (h : ¬ (0 ≤ r ∧ r ≤ n - 2) ∨ ¬ (0 ≤ c ∧ c ≤ n - 2 - r)) : inStair n (r, c) = false := by
  unfold inStair
  rw [Bool.and_eq_false_iff]
  rcases h with h | h
  · exact .inl (decide_eq_false h)
  · exact .inr (decide_eq_false h)
theorem stair_ok {n : Int} {r c : Int} (h : 0 ≤ r ∧ r ≤ n - 2) (k : 0 ≤ c ∧ c ≤ n - 2 - r) : inStair n (r, c) = true := by
  unfold inStair
  rw [Bool.and_eq_true]
  exact ⟨decide_eq_true h, decide_eq_true k⟩
theorem stair_in {n : Int} {p : Int × Int} (hn : 1 ≤ n ∧ n ≤ 6) (h : inStair n p = true) : Low p.1 ∧ Low p.2 := by
  unfold inStair at h
  simp only [Bool.and_eq_true, decide_eq_true_eq] at h
  unfold Low
  omega
theorem dreamAt_stair {n : Int} {xs : List (Int × Int)} {k : Nat} {p : Int × Int} (h : xs[k]? = some p) (h1 : dreamAt n xs k = true) : inStair n p = true := by
  unfold dreamAt at h1
  rw [cellOf_at h, Bool.and_eq_true] at h1
  exact h1.1

set_option maxRecDepth 100000 in
set_option maxHeartbeats 3200000 in
theorem implDream_any (N : Int) (a : Option Addr) (n c : Nat) (xs : List (Int × Int)) (w : World) (hl : -9223372036854775808 ≤ N) (hu : N ≤ 9223372036854775807) (hr : RC w a xs) (hn : xs.length = n) (hb : n ≤ 1048576) :
    Calls Try.prog 59 #[.int .i64 N, .slice a n c] w fun e w' => e = .returned (.bool (isDream N xs)) ∧ Below w.heap.size w w' := by
  have Hn := Lib.hid hn; clear hn
  by_cases hN : 1 ≤ N ∧ N ≤ 6
  rotate_left
  · have Hres := Lib.hid (isDream_size (xs := xs) hN)
    by_cases hlow : N < 1
    · clear hN
      go_enter Try.func59, Try.ntmps59
      go_wp2
      go_ret
      exact ⟨ret_bool Hres.out.symm, Below.refl _ _⟩
    · have hhigh : 6 < N := by omega
      clear hN
      go_enter Try.func59, Try.ntmps59
      go_wp2
      go_ret
      exact ⟨ret_bool Hres.out.symm, Below.refl _ _⟩
  have HN := Lib.hid hN
  obtain ⟨hN1, hN2⟩ := hN
  have hB1 := Below.refl w.heap.size w
  go_enter Try.func59, Try.ntmps59
  go_wp2
  go_loopw [15] (fun i wr => ∃ k : Nat, k ≤ n ∧ i = .int .i64 k ∧ Hid (∀ j, j < k → dreamAt N xs j = true) ∧ Below w.heap.size w wr) (fun i _ => n - (intOf i).toNat)
  case atStart => exact ⟨0, Nat.zero_le _, rfl, by intro j hj; omega, hB1⟩
  case round =>
    clear hB1
    obtain ⟨k, hk, rfl, HA, hd⟩ := hrel
    obtain ⟨wo, rfl⟩ : ∃ wo : World, wo = wr := ⟨_, rfl⟩
    have hbs := hd.size
    by_cases hlt : k < n
    · obtain ⟨b, off, rfl, hcell⟩ := (hr.below hd).at (k := k) (by rw [Hn.out]; exact hlt)
      obtain ⟨r, c0, hx⟩ := pair_at Hn.out hlt
      obtain ⟨hc1, hc2⟩ := hcell k _ hx
      simp only at hc1 hc2
      have hlast : k ≠ 0 → ∃ r' c', xs[k-1]? = some (r', c') ∧ wo.cell? ⟨b, off + (k-1) * 2, none⟩ = some (.int .i64 r') ∧ wo.cell? ⟨b, off + (k-1) * 2 + 1, none⟩ = some (.int .i64 c') ∧ Low r' ∧ Low c' := by
        intro h0
        obtain ⟨r', c', ht⟩ := pair_at (k := k - 1) Hn.out (by omega)
        obtain ⟨e1, e2⟩ := hcell (k - 1) _ ht
        have := stair_in HN.out (dreamAt_stair ht (HA.out (k - 1) (by omega)))
        exact ⟨r', c', ht, e1, e2, this.1, this.2⟩
      clear hcell
      have Hx := Lib.hid hx; clear hx
      have q1 : (k : Int) < (n : Int) := by omega
      obtain ⟨W, hW⟩ : ∃ W, wo.alloc (.cells #[.int .i64 r, .int .i64 c0] 53) = W := ⟨_, rfl⟩
      have hBW : Below wo.heap.size wo W := by rw [← hW]; exact (Below.refl _ _).alloc (Nat.le_refl _) _
      have hdW := hd.trans (hBW.mono hbs)
      have hbW := hdW.size
      have g0 : W.heap[wo.heap.size]? = some (.cells #[.int .i64 r, .int .i64 c0] 53) := by rw [← hW]; exact heap_alloc_new wo _
      have p0 : W.cell? ⟨wo.heap.size, 0, none⟩ = some (.int .i64 r) := by rw [cell_of_row W _ 0 _ _ (0, 0) g0]; rfl
      have p1 : W.cell? ⟨wo.heap.size, 1, none⟩ = some (.int .i64 c0) := by rw [cell_of_row W _ 1 _ _ (0, 0) g0]; rfl
      have k0 := fun d os => cell_regrown p0 d os
      have k1 := fun d os => cell_regrown p1 d os
      clear g0
      by_cases h1 : r < 0
      · clear hlast
        go_wp2
        refine wp_region_quiet_below (by kernel_rfl) (by kernel_rfl) ?_
        repeat (go_big_quiet_step (fail))
        refine wpQuiet_nil ?_
        intro _ hw'
        obtain ⟨⟨dq, osq⟩, hw''⟩ := hw'
        subst hw''
        have hB2 := hdW.trans ((below_regrown W dq osq).mono hbW)
        go_wp2
        go_ret
        exact ⟨ret_bool (isDream_false (k := k) (by rw [Hn.out]; exact hlt) (dreamAt_out Hx.out (stair_bad (.inl (by omega))))).symm, hB2⟩
      have n1 : decide (r < 0) = false := by simp; omega
      by_cases h2 : N - 2 < r
      · clear hlast
        go_wp2
        refine wp_region_quiet_below (by kernel_rfl) (by kernel_rfl) ?_
        repeat (go_big_quiet_step (fail))
        refine wpQuiet_nil ?_
        intro _ hw'
        obtain ⟨⟨dq, osq⟩, hw''⟩ := hw'
        subst hw''
        have hB2 := hdW.trans ((below_regrown W dq osq).mono hbW)
        go_wp2
        go_ret
        exact ⟨ret_bool (isDream_false (k := k) (by rw [Hn.out]; exact hlt) (dreamAt_out Hx.out (stair_bad (.inl (by omega))))).symm, hB2⟩
      have n2 : decide (N - 2 < r) = false := by simp; omega
      by_cases h3 : c0 < 0
      · clear hlast
        go_wp2
        refine wp_region_quiet_below (by kernel_rfl) (by kernel_rfl) ?_
        repeat (go_big_quiet_step (fail))
        refine wpQuiet_nil ?_
        intro _ hw'
        obtain ⟨⟨dq, osq⟩, hw''⟩ := hw'
        subst hw''
        have hB2 := hdW.trans ((below_regrown W dq osq).mono hbW)
        go_wp2
        go_ret
        exact ⟨ret_bool (isDream_false (k := k) (by rw [Hn.out]; exact hlt) (dreamAt_out Hx.out (stair_bad (.inr (by omega))))).symm, hB2⟩
      have n3 : decide (c0 < 0) = false := by simp; omega
      by_cases h4 : N - 2 - r < c0
      · clear hlast
        go_wp2
        refine wp_region_quiet_below (by kernel_rfl) (by kernel_rfl) ?_
        repeat (go_big_quiet_step (fail))
        refine wpQuiet_nil ?_
        intro _ hw'
        obtain ⟨⟨dq, osq⟩, hw''⟩ := hw'
        subst hw''
        have hB2 := hdW.trans ((below_regrown W dq osq).mono hbW)
        go_wp2
        go_ret
        exact ⟨ret_bool (isDream_false (k := k) (by rw [Hn.out]; exact hlt) (dreamAt_out Hx.out (stair_bad (.inr (by omega))))).symm, hB2⟩
      have n4 : decide (N - 2 - r < c0) = false := by simp; omega
      obtain ⟨hr0, hr1⟩ : 0 ≤ r ∧ r ≤ N - 2 := by simp at n1 n2; omega
      obtain ⟨hcol0, hcol1⟩ : 0 ≤ c0 ∧ c0 ≤ N - 2 - r := by simp at n3 n4; omega
      have HS := Lib.hid (stair_ok ⟨hr0, hr1⟩ ⟨hcol0, hcol1⟩)
      by_cases hk0 : k = 0
      · clear hlast
        subst hk0
        simp only [Nat.zero_mul, Nat.add_zero] at hc1 hc2
        have g0 : decide ((0 : Int) < 0) = false := by decide
        go_wp2
        refine wp_region_quiet_below (by kernel_rfl) (by kernel_rfl) ?_
        repeat (go_big_quiet_step (fail))
        refine wpQuiet_nil ?_
        intro _ hw'
        obtain ⟨⟨dq, osq⟩, hw''⟩ := hw'
        subst hw''
        have hB2 := hdW.trans ((below_regrown W dq osq).mono hbW)
        go_wp2
        go_roundw
        case rel => exact ⟨1, by omega, rfl, dream_next HA.out (dreamAt_first Hx.out HS.out), hB2⟩
        case measure => simp [intOf]; omega
      · obtain ⟨r2, c2, ht, hc3, hc4, hl1, hl2⟩ := hlast hk0
        clear hlast
        have Ht := Lib.hid ht; clear ht
        have hc3 : W.cell? ⟨b, off + (k-1) * 2, none⟩ = some (.int .i64 r2) := by rw [hBW.cell (World.block_lt_of_cell? wo _ hc3)]; exact hc3
        have hc4 : W.cell? ⟨b, off + (k-1) * 2 + 1, none⟩ = some (.int .i64 c2) := by rw [hBW.cell (World.block_lt_of_cell? wo _ hc4)]; exact hc4
        have k2 := fun d os => cell_regrown hc3 d os
        have k3 := fun d os => cell_regrown hc4 d os
        have g0 : 0 < k := by omega
        have g1 : (0 : Int) ≤ (k : Int) - 1 := by omega
        have g2 : (k : Int) - 1 < (n : Int) := by omega
        cases hL : cellLess (r2, c2) (r, c0)
        · have HL := Lib.hid hL
          obtain ⟨oo, hoo⟩ : ∃ o, cellCmp (r2, c2) (r, c0) = o := ⟨_, rfl⟩
          have ho2 : decide (0 ≤ oo) = !(cellLess (r2, c2) (r, c0)) := by rw [← cellCmp_less, hoo]; by_cases h : oo < 0 <;> simp [h] <;> omega
          rw [hL] at ho2
          simp only [Bool.not_false] at ho2
          have cl : ∀ (d : Nat) (os : Array Obj), Calls Try.prog 63 #[.agg #[.int .i64 r2, .int .i64 c2], .agg #[.int .i64 r, .int .i64 c0]] (Go.Sort.grow (redrawn W d) os) fun e w'' => e = .returned (.int .i64 oo) ∧ ∃ p : Regrown, w'' = Go.Sort.grow (redrawn W p.d) p.os := fun d os => Calls.regrown_of (by rw [← hoo]; exact byCells_any r2 c2 r c0 _ hl1 hl2 (by unfold Low; omega) (by unfold Low; omega))
          have CL := Lib.hid cl; clear cl hL hoo
          have g3 : IntKind.i64.wrap ((k : Int) - 1) = (k : Int) - 1 := IntWalk.i64_in _ (by omega)
          have g4 : ((k : Int) - 1).toNat = k - 1 := by omega
          go_wp2
          refine wp_region_quiet_below (by kernel_rfl) (by kernel_rfl) ?_
          repeat (go_big_quiet_step (first | (go_at_call 63; exact CL.out _ _)))
          refine wpQuiet_nil ?_
          intro _ hw'
          obtain ⟨⟨dq, osq⟩, hw''⟩ := hw'
          subst hw''
          have hB2 := hdW.trans ((below_regrown W dq osq).mono hbW)
          clear g3 g4
          go_wp2
          go_ret
          exact ⟨ret_bool (isDream_false (k := k) (by rw [Hn.out]; exact hlt) (dreamAt_rise Hx.out Ht.out hk0 HL.out)).symm, hB2⟩
        · have HL := Lib.hid hL
          obtain ⟨oo, hoo⟩ : ∃ o, cellCmp (r2, c2) (r, c0) = o := ⟨_, rfl⟩
          have ho2 : decide (0 ≤ oo) = !(cellLess (r2, c2) (r, c0)) := by rw [← cellCmp_less, hoo]; by_cases h : oo < 0 <;> simp [h] <;> omega
          rw [hL] at ho2
          simp only [Bool.not_true] at ho2
          have cl : ∀ (d : Nat) (os : Array Obj), Calls Try.prog 63 #[.agg #[.int .i64 r2, .int .i64 c2], .agg #[.int .i64 r, .int .i64 c0]] (Go.Sort.grow (redrawn W d) os) fun e w'' => e = .returned (.int .i64 oo) ∧ ∃ p : Regrown, w'' = Go.Sort.grow (redrawn W p.d) p.os := fun d os => Calls.regrown_of (by rw [← hoo]; exact byCells_any r2 c2 r c0 _ hl1 hl2 (by unfold Low; omega) (by unfold Low; omega))
          have CL := Lib.hid cl; clear cl hL hoo
          have g3 : IntKind.i64.wrap ((k : Int) - 1) = (k : Int) - 1 := IntWalk.i64_in _ (by omega)
          have g4 : ((k : Int) - 1).toNat = k - 1 := by omega
          go_wp2
          refine wp_region_quiet_below (by kernel_rfl) (by kernel_rfl) ?_
          repeat (go_big_quiet_step (first | (go_at_call 63; exact CL.out _ _)))
          refine wpQuiet_nil ?_
          intro _ hw'
          obtain ⟨⟨dq, osq⟩, hw''⟩ := hw'
          subst hw''
          have hB2 := hdW.trans ((below_regrown W dq osq).mono hbW)
          clear g3 g4
          go_wp2
          go_roundw
          case rel => exact ⟨k + 1, by omega, by go_num, dream_next HA.out (dreamAt_next Hx.out Ht.out HS.out HL.out), hB2⟩
          case measure => simp [intOf]; omega
    · obtain rfl : k = n := by omega
      go_wp2
      go_ret
      exact ⟨ret_bool (isDream_true HN.out (by rw [Hn.out]; exact HA.out)).symm, hd⟩
end Go.Proofs.Ytflkomgfgmephaa
