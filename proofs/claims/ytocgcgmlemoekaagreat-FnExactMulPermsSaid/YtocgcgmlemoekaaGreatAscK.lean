/-
  Classes in ascending order: one such list of them.
-/
import Derived.Test.YtocgcgmlemoekaaGreatSortK
import Derived.Test.YtocgcgmlemoekaaGreatKN
namespace Go.Proofs.YtocgcgmlemoekaaGreat
open Go.RowKit

/-- classes of the call's own, and whether they are fine -/
def PostK (w : World) (T : List (List Int × Int)) (ok : Bool) (e : Ending) (w' : World) : Prop :=
  ∃ a' n' c' r, e = .returned (.tuple #[.slice a' n' c', .bool r]) ∧ KO w' w.heap.size w'.heap.size a' n' c' T ∧ Hid (r = ok) ∧ Below w.heap.size w w'
/-- classes readable in the call's blocks, and whether they are fine -/
def PostN (w : World) (T : List (List Int × Int)) (ok : Bool) (e : Ending) (w' : World) : Prop :=
  ∃ a' n' c' r, e = .returned (.tuple #[.slice a' n' c', .bool r]) ∧ KN w' w.heap.size w'.heap.size a' n' c' T ∧ Hid (r = ok) ∧ Below w.heap.size w w'
/-! ascending lists -/
def Asc (L : List (List Int × Int)) : Prop := L.Pairwise fun p q => less p.1 q.1 = true
theorem asc_unique {L M : List (List Int × Int)} (hL : Asc L) (hM : Asc M) (h : L.Perm M) : L = M :=
  List.Perm.eq_of_pairwise (le := fun (p q : List Int × Int) => less p.1 q.1 = true) (fun x y _ _ h1 h2 => by
    have := less_trans h1 h2
    rw [less_irrefl] at this
    cases this) hL hM h
theorem insK_perm (v : List Int) (x : Int) (xs : List (List Int × Int)) : (insK v x xs).Perm ((v, x) :: xs) := by
  unfold insK
  refine List.perm_middle.trans (List.Perm.cons _ ?_)
  rw [List.takeWhile_append_dropWhile]
theorem insK_asc {v : List Int} {x : Int} {xs : List (List Int × Int)} (h : Asc xs) (hne : ∀ q ∈ xs, q.1 ≠ v) : Asc (insK v x xs) := by
  unfold insK Asc
  induction xs with
  | nil => exact List.pairwise_singleton _ _
  | cons p xs ih =>
    have hp := List.pairwise_cons.1 h
    rw [List.takeWhile_cons, List.dropWhile_cons]
    split
    · rename_i hl
      have ih' := ih hp.2 fun q hq => hne q (List.mem_cons_of_mem _ hq)
      rw [List.cons_append, List.pairwise_cons]
      refine ⟨fun q hq => ?_, ih'⟩
      have hq' : q ∈ (v, x) :: xs := (insK_perm v x xs).mem_iff.1 hq
      rcases List.mem_cons.1 hq' with rfl | hq'
      · exact hl
      · exact hp.1 q hq'
    · rename_i hl
      have hvp : less v p.1 = true := by
        cases h1 : less v p.1 with
        | true => rfl
        | false => exact absurd (less_total (by simpa using hl) h1) (hne p List.mem_cons_self)
      rw [List.nil_append, List.pairwise_cons]
      refine ⟨fun q hq => ?_, h⟩
      rcases List.mem_cons.1 hq with rfl | hq
      · exact hvp
      · exact less_trans hvp (hp.1 q hq)
/-- put into ascending order -/
def sortK : List (List Int × Int) → List (List Int × Int)
  | [] => []
  | p :: L => insK p.1 p.2 (sortK L)
theorem sortK_perm (L : List (List Int × Int)) : (sortK L).Perm L := by
  induction L with
  | nil => exact List.Perm.refl _
  | cons p L ih => exact (insK_perm _ _ _).trans (ih.cons _)
def Dst (L : List (List Int × Int)) : Prop := L.Pairwise fun p q => p.1 ≠ q.1
theorem sortK_asc {L : List (List Int × Int)} (h : Dst L) : Asc (sortK L) := by
  induction L with
  | nil => exact List.Pairwise.nil
  | cons p L ih =>
    have hp := List.pairwise_cons.1 h
    exact insK_asc (ih hp.2) fun q hq => Ne.symm (hp.1 q ((sortK_perm L).mem_iff.1 hq))
theorem GoodK.dst {L : List (List Int × Int)} (h : GoodK L) : Dst L := by
  unfold Dst
  rw [List.pairwise_iff_getElem]
  intro i j hi hj hij e
  have := h.apart i j _ _ (List.getElem?_eq_getElem hi) (List.getElem?_eq_getElem hj) e
  omega
theorem sortK_snoc {L : List (List Int × Int)} {p : List Int × Int} (h : Dst (L ++ [p])) : insK p.1 p.2 (sortK L) = sortK (L ++ [p]) := by
  have hp : Dst L ∧ ∀ q ∈ L, q.1 ≠ p.1 := by
    obtain ⟨h1, _, h3⟩ := List.pairwise_append.1 h
    exact ⟨h1, fun q hq => h3 q hq p (by simp)⟩
  refine asc_unique (insK_asc (sortK_asc hp.1) fun q hq => hp.2 q ((sortK_perm L).mem_iff.1 hq)) (sortK_asc h) ?_
  refine (insK_perm _ _ _).trans (((sortK_perm L).cons _).trans ?_)
  exact (List.perm_append_singleton p L).symm.trans (sortK_perm _).symm
theorem sz_T_bound {L : List (List Int × Int)} {B : Nat} (h : ∀ p ∈ L, p.1.length ≤ B) : sz_T L ≤ L.length * (B + 1) := by
  induction L with
  | nil => exact Nat.zero_le _
  | cons p L ih =>
    have h1 := ih fun q hq => h q (List.mem_cons_of_mem _ hq)
    have h2 := h p List.mem_cons_self
    rw [sz_T, List.length_cons, Nat.succ_mul]
    omega
end Go.Proofs.YtocgcgmlemoekaaGreat
