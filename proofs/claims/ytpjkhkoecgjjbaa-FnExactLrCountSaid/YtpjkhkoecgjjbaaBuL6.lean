/-
  Contracts of ShapesIn, the program's and the reference's.
  Contracts of IsPerm, the program's and the reference's.
  Contracts of DescentsOf, the program's and the reference's.
-/
import Derived.Test.YtpjkhkoecgjjbaaBuL5
namespace Go.Proofs.Ytpjkhkoecgjjbaa
open Go.RowKit

/-- the shapes of at most r rows, each of at most c: those with x + 1 in front, for x below k -/
def shapesBy (f : Nat → List (List Int)) : Nat → List (List Int)
  | 0 => [[]]
  | k + 1 => shapesBy f k ++ (f (k + 1)).map fun l => ((k : Int) + 1) :: l
def shapes : Nat → Nat → List (List Int)
  | 0, _ => [[]]
  | r + 1, c => shapesBy (shapes r) c
theorem shapes_few : ∀ r, r ≤ 6 → ∀ c, c ≤ 6 → (shapes r c).length ≤ 924 ∧ sz_II (shapes r c) ≤ 5544 ∧ (shapes r c).all (fun l => decide (l.length ≤ 6)) = true := by
  have h : (List.range 7).all (fun r => (List.range 7).all fun c => decide ((shapes r c).length ≤ 924) && decide (sz_II (shapes r c) ≤ 5544) && (shapes r c).all (fun l => decide (l.length ≤ 6))) = true := by decide +kernel
  intro r hr c hc
  rw [List.all_eq_true] at h
  have h1 := h r (by simp; omega)
  rw [List.all_eq_true] at h1
  have h2 := h1 c (by simp; omega)
  simp only [Bool.and_eq_true, decide_eq_true_eq] at h2
  exact ⟨h2.1.1, h2.1.2, h2.2⟩

theorem IIO.one (w : World) : IIO ((w.alloc (.cells #[] 3)).alloc (.cells #[.slice (some ⟨w.heap.size, 0, none⟩) 0 0] 22)) w.heap.size
    ((w.alloc (.cells #[] 3)).alloc (.cells #[.slice (some ⟨w.heap.size, 0, none⟩) 0 0] 22)).heap.size (some ⟨w.heap.size + 1, 0, none⟩) 1 1 [[]] := by
  have h0 : (w.alloc (.cells #[] 3)).ownsRow w.heap.size 3 1 (.slice (some ⟨w.heap.size, 0, none⟩) 0 0) 0 [] := World.ownsRow_made _ #[] 0 (Nat.le_refl _) (Nat.zero_le _) rfl
  have h1 : OwI (w.alloc (.cells #[] 3)) w.heap.size (w.alloc (.cells #[] 3)).heap.size (some ⟨w.heap.size, 0, none⟩) 0 0 [] := OwI.mk h0
  have h2 := World.ownsRow_lit (base := w.heap.size) (e := 22) (size := 1) (w.alloc (.cells #[] 3)) #[.slice (some ⟨w.heap.size, 0, none⟩) 0 0] 1 (by simp) (by unfold maxLen; omega) rfl
  refine ⟨[.slice (some ⟨w.heap.size, 0, none⟩) 0 0], by simpa using h2, fun k hk => ?_, rfl, ?_, ?_⟩
  · simp [Value.ownBlock] at hk; simp; omega
  · intro k xs hx
    have hk0 : k = 0 := by have := lt_of_some hx; simp at this; omega
    subst hk0
    obtain rfl : [] = xs := by simpa using hx
    exact ⟨_, _, rfl, (h1.below ((Below.refl _ _).alloc (Nat.le_refl _) _)).mono (Nat.le_refl _) (by simp)⟩
  · intro i j u v g hu hv _ _
    have := lt_of_some hu
    have := lt_of_some hv
    simp at *
    omega

def shapesIn (R C : Int) : List (List Int) := if 0 ≤ R ∧ R ≤ 6 ∧ 0 ≤ C ∧ C ≤ 6 then shapes R.toNat C.toNat else []
theorem shapesIn_yes {R C : Int} (h : 0 ≤ R ∧ R ≤ 6 ∧ 0 ≤ C ∧ C ≤ 6) : shapesIn R C = shapes R.toNat C.toNat := if_pos h
theorem shapesIn_no {R C : Int} (h : ¬ (0 ≤ R ∧ R ≤ 6 ∧ 0 ≤ C ∧ C ≤ 6)) : shapesIn R C = [] := if_neg h
theorem shapesIn_few (R C : Int) : (shapesIn R C).length ≤ 924 ∧ sz_II (shapesIn R C) ≤ 5544 ∧ ShortII (shapesIn R C) := by
  by_cases h : 0 ≤ R ∧ R ≤ 6 ∧ 0 ≤ C ∧ C ≤ 6
  · rw [shapesIn_yes h]
    have := shapes_few R.toNat (by omega) C.toNat (by omega)
    refine ⟨this.1, this.2.1, fun xs hx => ?_⟩
    have h2 := this.2.2
    rw [List.all_eq_true] at h2
    have := h2 xs hx
    simp at this
    omega
  · rw [shapesIn_no h]
    exact ⟨by simp, by simp [sz_II], by simp [ShortII]⟩

theorem shapesBy_map (f : Nat → List (List Int)) (fr : List Int) (k : Nat) : (shapesBy f (k + 1)).map (fun s => fr ++ s) = (shapesBy f k).map (fun s => fr ++ s) ++ (f (k + 1)).map fun s => (fr ++ [(k : Int) + 1]) ++ s := by
  rw [shapesBy, List.map_append, List.map_map]
  congr 1
  apply List.map_congr_left
  intro s _
  simp
theorem shapesBy_mono (f : Nat → List (List Int)) {k c : Nat} (h : k ≤ c) : (shapesBy f k).length ≤ (shapesBy f c).length := by
  induction c with
  | zero => obtain rfl : k = 0 := (by omega); exact Nat.le_refl _
  | succ c ih =>
    rcases Nat.lt_or_ge k (c + 1) with h1 | h1
    · have := ih (by omega)
      rw [shapesBy, List.length_append]; omega
    · obtain rfl : k = c + 1 := (by omega); exact Nat.le_refl _
theorem shapesBy_succ_length (f : Nat → List (List Int)) (k : Nat) : (shapesBy f (k + 1)).length = (shapesBy f k).length + (f (k + 1)).length := by
  rw [shapesBy, List.length_append, List.length_map]

end Go.Proofs.Ytpjkhkoecgjjbaa

namespace Go.Proofs.Ytpjkhkoecgjjbaa
open Go.RowKit

def permAt (xs : List Int) (k : Nat) : Bool :=
  decide (0 ≤ xs.getD k 0) && decide (xs.getD k 0 < xs.length) && !((xs.take k).contains (xs.getD k 0))
def isPerm (xs : List Int) : Bool := decide (1 ≤ xs.length) && decide (xs.length ≤ 7) && (List.range xs.length).all (permAt xs)

theorem isPerm_false {xs : List Int} {k : Nat} (hk : k < xs.length) (h : permAt xs k = false) : isPerm xs = false := by
  simp only [isPerm, Bool.and_eq_false_iff]
  right
  rw [List.all_eq_false]
  exact ⟨k, by simpa using hk, by simp [h]⟩
theorem isPerm_true {xs : List Int} (h1 : 1 ≤ xs.length) (h2 : xs.length ≤ 7) (h : ∀ j, j < xs.length → permAt xs j = true) : isPerm xs = true := by
  have : (List.range xs.length).all (permAt xs) = true := by
    rw [List.all_eq_true]; intro j hj; exact h j (by simpa using hj)
  simp [isPerm, this, h1, h2]
theorem perm_len {xs : List Int} (h : isPerm xs = true) : 1 ≤ xs.length ∧ xs.length ≤ 7 := by
  simp [isPerm] at h; exact ⟨by omega, h.1.2⟩
theorem perm_at {xs : List Int} (h : isPerm xs = true) {k : Nat} {x : Int} (hx : xs[k]? = some x) : 0 ≤ x ∧ x < xs.length := by
  have hk := (List.getElem?_eq_some_iff.1 hx).1
  simp only [isPerm, Bool.and_eq_true, List.all_eq_true] at h
  have := h.2 k (by simpa using hk)
  simp only [permAt, getD_of hx, Bool.and_eq_true, decide_eq_true_eq] at this
  exact this.1

/-- the seven marks: which of 0 .. 6 are among the numbers -/
def met (l : List Int) : List Value := (List.range 7).map fun (j : Nat) => Value.bool (l.contains (j : Int))
theorem met_length (l : List Int) : (met l).length = 7 := by simp [met]
theorem met_at (l : List Int) {m : Nat} (h : m < 7) : (met l)[m]? = some (.bool (l.contains (m : Int))) := by simp [met, h]
theorem met_snoc (l : List Int) {m : Nat} (h : m < 7) : (met l).set m (.bool true) = met (l ++ [(m : Int)]) := by
  apply List.ext_getElem?
  intro i
  rw [List.getElem?_set, met_length]
  by_cases hi : m = i
  · subst hi
    rw [if_pos rfl, if_pos h, met_at _ h]
    simp
  · rw [if_neg hi]
    by_cases h7 : i < 7
    · rw [met_at _ h7, met_at _ h7]
      have : ((i : Int) == (m : Int)) = false := by simp; omega
      simp [List.mem_append]
      omega
    · rw [List.getElem?_eq_none (by rw [met_length]; omega), List.getElem?_eq_none (by rw [met_length]; omega)]
theorem met_made (w : World) (T : Nat) : (w.alloc (.cells #[.bool false, .bool false, .bool false, .bool false, .bool false, .bool false, .bool false] T)).ownsRow w.heap.size T 1 (.slice (some ⟨w.heap.size, 0, none⟩) 7 7) 7 (met []) :=
  ⟨by rw [met_length], .inr ⟨w.heap.size, 7, _, rfl, Nat.le_refl _, heap_alloc_new w _, Nat.le_refl _, by unfold maxLen; omega, rfl, rfl⟩⟩

end Go.Proofs.Ytpjkhkoecgjjbaa

namespace Go.Proofs.Ytpjkhkoecgjjbaa
open Go.RowKit


/-- the places below k at which the next number is smaller -/
def desc (xs : List Int) (k : Nat) : List Int := ((List.range k).filter fun i => decide (xs.getD (i + 1) 0 < xs.getD i 0)).map fun (i : Nat) => (i : Int)
def descents (xs : List Int) : List Int := if isPerm xs then desc xs (xs.length - 1) else []
theorem desc_succ (xs : List Int) {k : Nat} {x y : Int} (hx : xs[k]? = some x) (hy : xs[k + 1]? = some y) : desc xs (k + 1) = if y < x then desc xs k ++ [(k : Int)] else desc xs k := by
  unfold desc
  rw [List.range_succ, List.filter_append, List.map_append, List.filter_cons, List.filter_nil, getD_of hx, getD_of hy]
  by_cases h : y < x <;> simp only [h, decide_true, decide_false, if_true, if_false, List.map_cons, List.map_nil] <;> simp
theorem desc_len (xs : List Int) (k : Nat) : (desc xs k).length ≤ k := by
  unfold desc
  rw [List.length_map]
  exact Nat.le_trans (List.length_filter_le _ _) (by simp)
theorem descents_len (xs : List Int) : (descents xs).length ≤ 6 := by
  unfold descents
  split
  · have := desc_len xs (xs.length - 1)
    have := perm_len ‹_›
    omega
  · simp
theorem descents_at {xs : List Int} {d : Int} (h : d ∈ descents xs) : 0 ≤ d ∧ d + 1 < xs.length := by
  unfold descents at h
  split at h
  · unfold desc at h
    simp only [List.mem_map, List.mem_filter, List.mem_range] at h
    obtain ⟨i, ⟨h1, _⟩, rfl⟩ := h
    omega
  · simp at h

end Go.Proofs.Ytpjkhkoecgjjbaa
