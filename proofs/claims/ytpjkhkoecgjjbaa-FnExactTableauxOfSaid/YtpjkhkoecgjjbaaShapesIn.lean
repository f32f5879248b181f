/-
  Contracts of ShapesIn, the program's and the reference's.
-/
import Derived.Test.YtpjkhkoecgjjbaaCloneI
import Derived.Test.YtpjkhkoecgjjbaaL1In
namespace Go.Proofs.Ytpjkhkoecgjjbaa
open Go.RowKit

/-- the shapes of at most r rows, each of at most c: those with x + 1 in front, for x below k -/
def shapesBy (f : Nat → List (List Int)) : Nat → List (List Int)
  | 0 => [[]]
  | k + 1 => shapesBy f k ++ (f (k + 1)).map fun l => ((k : Int) + 1) :: l
def shapes : Nat → Nat → List (List Int)
  | 0, _ => [[]]
  | r + 1, c => shapesBy (shapes r) c
theorem shapes_few : ∀ r, r ≤ 6 → ∀ c, c ≤ 6 → (shapes r c).length ≤ 924 ∧ sz_II (shapes r c) ≤ 5544 ∧ (shapes r c).all (fun l => decide (l.length ≤ 6)) = true := by
  have h : (List.range 7).all (fun r => (List.range 7).all fun c => decide ((shapes r c).length ≤ 924) && decide (sz_II (shapes r c) ≤ 5544) && (shapes r c).all (fun l => decide (l.length ≤ 6))) = true := by decide +kernel
  intro r hr c hc
  rw [List.all_eq_true] at h
  have h1 := h r (by simp; omega)
  rw [List.all_eq_true] at h1
  have h2 := h1 c (by simp; omega)
  simp only [Bool.and_eq_true, decide_eq_true_eq] at h2
  exact ⟨h2.1.1, h2.1.2, h2.2⟩

theorem IIO.one (w : World) : IIO ((w.alloc (.cells #[] 3)).alloc (.cells #[.slice (some ⟨w.heap.size, 0, none⟩) 0 0] 22)) w.heap.size
    ((w.alloc (.cells #[] 3)).alloc (.cells #[.slice (some ⟨w.heap.size, 0, none⟩) 0 0] 22)).heap.size (some ⟨w.heap.size + 1, 0, none⟩) 1 1 [[]] := by
  have h0 : (w.alloc (.cells #[] 3)).ownsRow w.heap.size 3 1 (.slice (some ⟨w.heap.size, 0, none⟩) 0 0) 0 [] := World.ownsRow_made _ #[] 0 (Nat.le_refl _) (Nat.zero_le _) rfl
  have h1 : OwI (w.alloc (.cells #[] 3)) w.heap.size (w.alloc (.cells #[] 3)).heap.size (some ⟨w.heap.size, 0, none⟩) 0 0 [] := OwI.mk h0
  have h2 := World.ownsRow_lit (base := w.heap.size) (e := 22) (size := 1) (w.alloc (.cells #[] 3)) #[.slice (some ⟨w.heap.size, 0, none⟩) 0 0] 1 (by simp) (by unfold maxLen; omega) rfl
  refine ⟨[.slice (some ⟨w.heap.size, 0, none⟩) 0 0], by simpa using h2, fun k hk => ?_, rfl, ?_, ?_⟩
  · simp [Value.ownBlock] at hk; simp; omega
  · intro k xs hx
    have hk0 : k = 0 := by have := lt_of_some hx; simp at this; omega
    subst hk0
    obtain rfl : [] = xs := by simpa using hx
    exact ⟨_, _, rfl, (h1.below ((Below.refl _ _).alloc (Nat.le_refl _) _)).mono (Nat.le_refl _) (by simp)⟩
  · intro i j u v g hu hv _ _
    have := lt_of_some hu
    have := lt_of_some hv
    simp at *
    omega

def shapesIn (R C : Int) : List (List Int) := if 0 ≤ R ∧ R ≤ 6 ∧ 0 ≤ C ∧ C ≤ 6 then shapes R.toNat C.toNat else []
theorem shapesIn_yes {R C : Int} (h : 0 ≤ R ∧ R ≤ 6 ∧ 0 ≤ C ∧ C ≤ 6) : shapesIn R C = shapes R.toNat C.toNat := if_pos h
theorem shapesIn_no {R C : Int} (h : ¬ (0 ≤ R ∧ R ≤ 6 ∧ 0 ≤ C ∧ C ≤ 6)) : shapesIn R C = [] := if_neg h
theorem shapesIn_few (R C : Int) : (shapesIn R C).length ≤ 924 ∧ sz_II (shapesIn R C) ≤ 5544 ∧ ShortII (shapesIn R C) := by
  by_cases h : 0 ≤ R ∧ R ≤ 6 ∧ 0 ≤ C ∧ C ≤ 6
  · rw [shapesIn_yes h]
    have := shapes_few R.toNat (by omega) C.toNat (by omega)
    refine ⟨this.1, this.2.1, fun xs hx => ?_⟩
    have h2 := this.2.2
    rw [List.all_eq_true] at h2
    have := h2 xs hx
    simp at this
    omega
  · rw [shapesIn_no h]
    exact ⟨by simp, by simp [sz_II], by simp [ShortII]⟩

theorem shapesBy_map (f : Nat → List (List Int)) (fr : List Int) (k : Nat) : (shapesBy f (k + 1)).map (fun s => fr ++ s) = (shapesBy f k).map (fun s => fr ++ s) ++ (f (k + 1)).map fun s => (fr ++ [(k : Int) + 1]) ++ s := by
  rw [shapesBy, List.map_append, List.map_map]
  congr 1
  apply List.map_congr_left
  intro s _
  simp
theorem shapesBy_mono (f : Nat → List (List Int)) {k c : Nat} (h : k ≤ c) : (shapesBy f k).length ≤ (shapesBy f c).length := by
  induction c with
  | zero => obtain rfl : k = 0 := (by omega); exact Nat.le_refl _
  | succ c ih =>
    rcases Nat.lt_or_ge k (c + 1) with h1 | h1
    · have := ih (by omega)
      rw [shapesBy, List.length_append]; omega
    · obtain rfl : k = c + 1 := (by omega); exact Nat.le_refl _
theorem shapesBy_succ_length (f : Nat → List (List Int)) (k : Nat) : (shapesBy f (k + 1)).length = (shapesBy f k).length + (f (k + 1)).length := by
  rw [shapesBy, List.length_append, List.length_map]

end Go.Proofs.Ytpjkhkoecgjjbaa
