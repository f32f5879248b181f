/-
  Places below a number; rows written out place by place.
-/
import Derived.Test.YtageojkepoejiaaLaid
namespace Go.Proofs.Ytageojkepoejiaa
open Go.RowKit Go.Shelf Go.Sort

def Ix (n : Nat) : Type := { k : Nat // k < n }
def encX (vs : List Value) {n : Nat} (i : Ix n) : List Value := [vs.getD (i.1 * 2) undef, vs.getD (i.1 * 2 + 1) undef]
def allX (n : Nat) : List (Ix n) := (List.range n).attachWith (fun k => k < n) (fun _ hk => List.mem_range.1 hk)
theorem allX_val (n : Nat) : (allX n).map (fun i => i.1) = List.range n := List.attachWith_map_subtype_val _
theorem allX_length (n : Nat) : (allX n).length = n := by rw [← List.length_map (f := fun i : Ix n => i.1), allX_val, List.length_range]
theorem allX_at {n k : Nat} (h : k < n) : (allX n)[k]? = some ⟨k, h⟩ := by
  have h1 : (allX n)[k]? = some ((allX n)[k]'(by rw [allX_length]; exact h)) := List.getElem?_eq_getElem _
  have h2 : ((allX n)[k]'(by rw [allX_length]; exact h)).1 = k := by
    have := congrArg (fun l => l[k]?) (allX_val n)
    simp only [List.getElem?_map, h1, Option.map_some, List.getElem?_range h] at this
    exact Option.some.inj this
  rw [h1]
  congr 1
  exact Subtype.ext h2
def flatX (vs : List Value) {n : Nat} (l : List (Ix n)) : List Value := l.flatMap (encX vs)
theorem flatX_length (vs : List Value) {n : Nat} (l : List (Ix n)) : (flatX vs l).length = l.length * 2 := by
  induction l with
  | nil => rfl
  | cons i l ih => unfold flatX at *; rw [List.flatMap_cons, List.length_append, ih, List.length_cons]; simp [encX]; omega
theorem flatX_at (vs : List Value) {n : Nat} : ∀ (l : List (Ix n)) (k : Nat) (i : Ix n), l[k]? = some i → (flatX vs l)[k * 2]? = some (vs.getD (i.1 * 2) undef) ∧ (flatX vs l)[k * 2 + 1]? = some (vs.getD (i.1 * 2 + 1) undef)
  | [], _, _, h => by simp at h
  | j :: l, 0, i, h => by
    simp only [List.getElem?_cons_zero, Option.some.injEq] at h
    subst h
    exact ⟨rfl, rfl⟩
  | j :: l, k + 1, i, h => by
    simp only [List.getElem?_cons_succ] at h
    have := flatX_at vs l k i h
    have e : (k + 1) * 2 = k * 2 + 1 + 1 := by omega
    rw [e]
    unfold flatX at *
    rw [List.flatMap_cons]
    simpa [encX] using this
theorem flat_X (vs : List Value) {n : Nat} [Inhabited (Ix n)] (l : List (Ix n)) : flatK (encX vs) 2 l.toArray = (flatX vs l).toArray := by
  apply Array.ext_getElem?
  intro t
  by_cases ht : t < l.length * 2
  · have h1 : (flatK (encX vs) 2 l.toArray)[t]? = some (flatK (encX vs) 2 l.toArray)[t]! := by
      rw [getElem!_pos _ t (by simpa using ht)]; exact Array.getElem?_eq_getElem _
    rw [h1, get_flatK _ _ _ _ (by simpa using ht)]
    have hk : t / 2 < l.length := by omega
    have e3 : l.toArray[t / 2]! = l[t / 2]'hk := by simp [hk]
    obtain ⟨e1, e2⟩ := flatX_at vs l (t / 2) _ (List.getElem?_eq_getElem hk)
    rw [e3, List.getElem?_toArray]
    rcases Nat.mod_two_eq_zero_or_one t with h | h
    · rw [h, show (flatX vs l)[t]? = (flatX vs l)[t / 2 * 2]? by congr 1; omega, e1]
      rfl
    · rw [h, show (flatX vs l)[t]? = (flatX vs l)[t / 2 * 2 + 1]? by congr 1; omega, e2]
      rfl
  · rw [Array.getElem?_eq_none (by simp; omega), Array.getElem?_eq_none (by simp [flatX_length]; omega)]
theorem flatX_all {vs : List Value} {n : Nat} (h : vs.length = n * 2) : flatX vs (allX n) = vs := by
  apply List.ext_getElem?
  intro t
  by_cases ht : t < n * 2
  · obtain ⟨e1, e2⟩ := flatX_at vs (allX n) (t / 2) ⟨t / 2, by omega⟩ (allX_at (by omega))
    simp only at e1 e2
    have hv : vs[t]? = some (vs.getD t undef) := by rw [List.getD_eq_getElem?_getD, List.getElem?_eq_getElem (by omega)]; rfl
    rw [hv]
    rcases Nat.mod_two_eq_zero_or_one t with h0 | h0
    · have e : t / 2 * 2 = t := by omega
      rw [e] at e1
      exact e1
    · have e : t / 2 * 2 + 1 = t := by omega
      rw [e] at e2
      exact e2
  · rw [List.getElem?_eq_none (by rw [flatX_length, allX_length]; omega), List.getElem?_eq_none (by omega)]
end Go.Proofs.Ytageojkepoejiaa
