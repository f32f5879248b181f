/-
  Contract of toTermS, the copy owned.
-/
import Derived.Test.YtblhndkaikelaaaKT3
namespace Go.Proofs.Ytblhndkaikelaaa
open Go.RowKit

theorem TO.zeros {w : World} {B n : Nat} {vs : List Value} (h : w.ownsRow B 56 2 (.slice (some ⟨B, 0, none⟩) n n) n vs)
    (hv : ∀ k, k < n → vs[k * 2]? = some (.slice none 0 0) ∧ vs[k * 2 + 1]? = some (.int .i64 0)) : TO w B w.heap.size (some ⟨B, 0, none⟩) n n (List.replicate n ([], 0)) := by
  have hl : vs.length = n * 2 := h.1
  refine ⟨vs, h, fun k hk => (h.lt k hk).2, by simp; omega, fun k p hp => ?_, fun i j u v g hu hv' hug _ => ?_⟩
  · rw [List.getElem?_replicate] at hp
    split at hp
    · rename_i hk
      obtain rfl := Option.some.inj hp
      exact ⟨none, 0, (hv k hk).1, (hv k hk).2, ⟨rfl, World.ownsRow_nil _ _ _ _⟩, by simp [Value.ownBlock]⟩
    · cases hp
  · have hi := lt_of_some hu
    rw [(hv i (by omega)).1] at hu
    obtain rfl := Option.some.inj hu
    cases hug
theorem TO.put {w : World} {B S g n c : Nat} {xs : List (List Int × Int)} (h : TO w B S (some ⟨g, 0, none⟩) n c xs) {i : Nat} {p : List Int × Int} (hi : xs[i]? = some p) {S1 S' : Nat} {a' : Option Addr} {l c' : Nat} {ys : List Int} (hy : OwI w S1 S' a' l c' ys) (hS1 : S ≤ S1) (hB : B ≤ S1) (hSS : S ≤ S') (v : Int) :
    (∃ old, w.cell? ⟨g, i * 2, none⟩ = some old) ∧ w.frozen? ⟨g, i * 2, none⟩ = false ∧
    (∃ old, (w.setCell ⟨g, i * 2, none⟩ (.slice a' l c')).cell? ⟨g, i * 2 + 1, none⟩ = some old) ∧ (w.setCell ⟨g, i * 2, none⟩ (.slice a' l c')).frozen? ⟨g, i * 2 + 1, none⟩ = false ∧
    TO ((w.setCell ⟨g, i * 2, none⟩ (.slice a' l c')).setCell ⟨g, i * 2 + 1, none⟩ (.int .i64 v)) B S' (some ⟨g, 0, none⟩) n c (xs.set i (ys, v)) := by
  obtain ⟨vs, h1, h2, h3⟩ := h
  obtain ⟨b0, d0, e1, e2, ho⟩ := h3.each i p hi
  have hlv : vs.length = n * 2 := h1.1
  have hil := lt_of_some hi
  have hln := h3.len
  have s1 := h1.stored (i * 2) (.slice a' l c')
  have s2 := s1.1.stored (i * 2 + 1) (.int .i64 v)
  have e3 : (vs.set (i * 2) (.slice a' l c'))[i * 2 + 1]? = some (.int .i64 p.2) := by rw [List.getElem?_set, if_neg (by omega)]; exact e2
  refine ⟨⟨_, (row2_cell h1 e1).1⟩, (row2_cell h1 e1).2, ⟨_, (row2_cell s1.1 e3).1⟩, (row2_cell s1.1 e3).2, _, s2.1, fun k hk => Nat.lt_of_lt_of_le (h2 k hk) hSS, ?_⟩
  have fin : ∀ {B0 S0 : Nat} {b : Option Addr} {m d : Nat} {zs : List Int}, OwI w B0 S0 b m d zs → OwI ((w.setCell ⟨g, i * 2, none⟩ (.slice a' l c')).setCell ⟨g, i * 2 + 1, none⟩ (.int .i64 v)) B0 S0 b m d zs := fun hio => by
    have i1 : OwI (w.setCell ⟨g, i * 2, none⟩ (.slice a' l c')) _ _ _ _ _ _ := ⟨hio.1.kept s1.2 (fun k hk e => ne_blockT h1 hio g rfl (by rw [hk, ← Option.some.inj e])), hio.2⟩
    exact ⟨i1.1.kept s2.2 (fun k hk e => ne_blockT s1.1 i1 g rfl (by rw [hk, ← Option.some.inj e])), i1.2⟩
  have hold : ∀ k u, vs[k * 2]? = some u → ∀ r, u.ownBlock = some r → r < S := by
    intro k u hu r hur
    have hk := lt_of_some hu
    obtain ⟨q, hq⟩ := some_of (show k < xs.length by omega)
    obtain ⟨a2, c2, f1, _, f3⟩ := h3.each k q hq
    rw [hu] at f1
    obtain rfl := Option.some.inj f1
    exact f3.2 r hur
  have hnew : ∀ r, (Value.slice a' l c').ownBlock = some r → S1 ≤ r := fun r hr => hy.1.lo r hr
  refine ⟨by rw [List.length_set, List.length_set, List.length_set]; exact h3.len, fun k q hq => ?_, ?_⟩
  · rw [List.getElem?_set] at hq
    by_cases hk : i = k
    · subst hk
      rw [if_pos rfl, if_pos hil] at hq
      obtain rfl := Option.some.inj hq
      obtain rfl := hy.len
      refine ⟨a', c', ?_, ?_, ?_⟩
      · rw [List.getElem?_set, if_neg (by omega), List.getElem?_set, if_pos rfl, if_pos (by omega)]
      · rw [List.getElem?_set, if_pos rfl, if_pos (by rw [List.length_set]; omega)]
      · exact (fin hy).mono hB (Nat.le_refl _)
    · rw [if_neg hk] at hq
      obtain ⟨a2, c2, f1, f2, ho2⟩ := h3.each k q hq
      refine ⟨a2, c2, ?_, ?_, (fin ho2).mono (Nat.le_refl _) hSS⟩
      · rw [List.getElem?_set, if_neg (by omega), List.getElem?_set, if_neg (by omega)]; exact f1
      · rw [List.getElem?_set, if_neg (by omega), List.getElem?_set, if_neg (by omega)]; exact f2
  · have split : ∀ k u, ((vs.set (i * 2) (.slice a' l c')).set (i * 2 + 1) (.int .i64 v))[k * 2]? = some u → (k ≠ i ∧ vs[k * 2]? = some u) ∨ (k = i ∧ u = .slice a' l c') := by
      intro k u hu
      rw [List.getElem?_set, if_neg (by omega), List.getElem?_set] at hu
      by_cases hk : i = k
      · subst hk
        rw [if_pos rfl, if_pos (by omega)] at hu
        exact .inr ⟨rfl, (Option.some.inj hu).symm⟩
      · rw [if_neg (by omega)] at hu
        exact .inl ⟨fun e => hk e.symm, hu⟩
    intro k j u v' r hu hv hur hvr
    rcases split k u hu with ⟨_, hu2⟩ | ⟨ei, eu⟩ <;> rcases split j v' hv with ⟨_, hv2⟩ | ⟨ej, ev⟩
    · exact h3.apart k j u v' r hu2 hv2 hur hvr
    · rw [ev] at hvr
      have := hold k u hu2 r hur
      have := hnew r hvr
      omega
    · rw [eu] at hur
      have := hold j v' hv2 r hvr
      have := hnew r hur
      omega
    · omega

end Go.Proofs.Ytblhndkaikelaaa
