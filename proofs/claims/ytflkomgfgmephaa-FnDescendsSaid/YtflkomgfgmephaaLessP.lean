/-
  The order of lists of numbers: plain.
-/
import Derived.Test.YtflkomgfgmephaaLess
namespace Go.Proofs.Ytflkomgfgmephaa

theorem less_irrefl (a : List Int) : less a a = false := by
  induction a with
  | nil => rfl
  | cons x a ih => rw [less, if_pos rfl]; exact ih
theorem less_trans {a : List Int} : ∀ {b c : List Int}, less a b = true → less b c = true → less a c = true := by
  induction a with
  | nil =>
    intro b c h1 h2
    cases c with
    | nil => cases b <;> simp [less] at h2
    | cons z c => rfl
  | cons x a ih =>
    intro b c h1 h2
    cases b with
    | nil => simp [less] at h1
    | cons y b =>
      cases c with
      | nil => simp [less] at h2
      | cons z c =>
        rw [less] at h1 h2 ⊢
        split at h1
        · split at h2
          · rw [if_pos (by omega)]; exact ih h1 h2
          · rename_i e1 e2
            subst e1
            rw [if_neg e2]; exact h2
        · rename_i e1
          simp only [decide_eq_true_eq] at h1
          split at h2
          · rename_i e2
            subst e2
            rw [if_neg e1]; simpa using h1
          · simp only [decide_eq_true_eq] at h2
            rw [if_neg (by omega)]
            simp
            omega
theorem less_total {a : List Int} : ∀ {b : List Int}, less a b = false → less b a = false → a = b := by
  induction a with
  | nil =>
    intro b h1 h2
    cases b with
    | nil => rfl
    | cons y b => simp [less] at h1
  | cons x a ih =>
    intro b h1 h2
    cases b with
    | nil => simp [less] at h2
    | cons y b =>
      rw [less] at h1 h2
      split at h1
      · rename_i e
        subst e
        rw [if_pos rfl] at h2
        rw [ih h1 h2]
      · rename_i e
        rw [if_neg (fun h => e h.symm)] at h2
        simp at h1 h2
        omega
theorem less_neg {a b c : List Int} (h1 : less a b = false) (h2 : less b c = false) : less a c = false := by
  cases h : less a c with
  | false => rfl
  | true =>
    exfalso
    cases h3 : less b a with
    | true =>
      have := less_trans h3 h
      rw [this] at h2
      cases h2
    | false =>
      have := less_total h1 h3
      subst this
      rw [h] at h2
      cases h2
end Go.Proofs.Ytflkomgfgmephaa
