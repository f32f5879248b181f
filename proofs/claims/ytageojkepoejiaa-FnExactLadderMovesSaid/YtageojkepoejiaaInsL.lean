/-
  Plain: ordered lists of lists of numbers; one put in.
-/
import Derived.Test.YtageojkepoejiaaBuG2
namespace Go.Proofs.Ytageojkepoejiaa

/-- lists of moderate length, no two alike -/
structure GoodII (xs : List (List Int)) : Prop where
  each : ∀ p ∈ xs, p.length ≤ 1048576
  apart : ∀ (i j : Nat) (p q : List Int), xs[i]? = some p → xs[j]? = some q → p = q → i = j
/-- how many of the list's first ones lie ahead of x -/
def cutL (x : List Int) : List (List Int) → Nat
  | [] => 0
  | y :: l => if less y x = true then cutL x l + 1 else 0
/-- x put in at its place, unless it is there -/
def insL (x : List Int) (l : List (List Int)) : List (List Int) := if l[cutL x l]? = some x then l else l.take (cutL x l) ++ [x] ++ l.drop (cutL x l)
theorem cutL_le (x : List Int) : ∀ l : List (List Int), cutL x l ≤ l.length
  | [] => Nat.le_refl _
  | y :: l => by
    unfold cutL
    split
    · have := cutL_le x l; simp; omega
    · exact Nat.zero_le _
theorem cutL_lo {x : List Int} : ∀ {l : List (List Int)} {k : Nat} {y : List Int}, k < cutL x l → l[k]? = some y → less y x = true
  | [], _, _, h, _ => by simp [cutL] at h
  | z :: l, k, y, h, hy => by
    unfold cutL at h
    split at h
    · rename_i hz
      match k, hy with
      | 0, hy => simp at hy; rw [← hy]; exact hz
      | k + 1, hy => exact cutL_lo (l := l) (k := k) (by omega) (by simpa using hy)
    · omega
theorem cutL_hi {x : List Int} : ∀ {l : List (List Int)} {y : List Int}, l[cutL x l]? = some y → less y x = false
  | [], _, h => by simp at h
  | z :: l, y, h => by
    unfold cutL at h
    split at h
    · exact cutL_hi (l := l) (by simpa using h)
    · rename_i hz
      simp at h
      rw [← h]
      simpa using hz
/-- the place is known by its two sides -/
theorem cutL_at {x : List Int} {l : List (List Int)} {k : Nat} (hk : k ≤ cutL x l) (h : k = l.length ∨ ∃ y, l[k]? = some y ∧ less y x = false) : cutL x l = k := by
  have := cutL_le x l
  rcases h with h | ⟨y, hy, hn⟩
  · omega
  · rcases Nat.lt_or_ge k (cutL x l) with hlt | hge
    · have := cutL_lo hlt hy
      rw [hn] at this
      cases this
    · omega
def AscL (l : List (List Int)) : Prop := l.Pairwise fun p q => less p q = true
theorem mem_insL {x y : List Int} {l : List (List Int)} : y ∈ insL x l ↔ y = x ∨ y ∈ l := by
  unfold insL
  split
  · rename_i h
    exact ⟨.inr, fun h' => h'.elim (fun e => e ▸ List.mem_of_getElem? h) id⟩
  · have e : l = l.take (cutL x l) ++ l.drop (cutL x l) := (List.take_append_drop _ _).symm
    conv => rhs; rw [e]
    simp only [List.mem_append, List.mem_singleton]
    constructor
    · rintro ((h | h) | h)
      · exact .inr (.inl h)
      · exact .inl h
      · exact .inr (.inr h)
    · rintro (h | h | h)
      · exact .inl (.inr h)
      · exact .inl (.inl h)
      · exact .inr h
theorem asc_insL {x : List Int} {l : List (List Int)} (h : AscL l) : AscL (insL x l) := by
  unfold insL
  split
  · exact h
  · rename_i hne
    have h0 := h
    unfold AscL at *
    rw [← List.take_append_drop (cutL x l) l, List.pairwise_append] at h
    obtain ⟨h1, h2, h3⟩ := h
    have lo : ∀ y ∈ l.take (cutL x l), less y x = true := by
      intro y hy
      obtain ⟨k, hk⟩ := List.getElem?_of_mem hy
      have hkl := (List.getElem?_eq_some_iff.1 hk).1
      rw [List.length_take] at hkl
      rw [List.getElem?_take_of_lt (by omega)] at hk
      exact cutL_lo (by omega) hk
    have hi : ∀ y ∈ l.drop (cutL x l), less x y = true := by
      intro y hy
      obtain ⟨k, hk⟩ := List.getElem?_of_mem hy
      rw [List.getElem?_drop] at hk
      have hlt : cutL x l < l.length := by have := (List.getElem?_eq_some_iff.1 hk).1; omega
      have hz : l[cutL x l]? = some l[cutL x l] := List.getElem?_eq_getElem hlt
      have hn := cutL_hi hz
      have hxz : less x l[cutL x l] = true := by
        cases hc : less x l[cutL x l] with
        | true => rfl
        | false => exact absurd (by rw [hz, less_total hn hc]) hne
      match k, hk with
      | 0, hk =>
        rw [Nat.add_zero, hz] at hk
        rw [← Option.some.inj hk]
        exact hxz
      | k + 1, hk =>
        obtain ⟨hkl, e⟩ := List.getElem?_eq_some_iff.1 hk
        have := List.pairwise_iff_getElem.1 h0 (cutL x l) (cutL x l + (k + 1)) hlt hkl (by omega)
        rw [e] at this
        exact less_trans hxz this
    rw [List.append_assoc, List.pairwise_append]
    refine ⟨h1, ?_, ?_⟩
    · rw [List.singleton_append, List.pairwise_cons]
      exact ⟨hi, h2⟩
    · intro y hy z hz
      rw [List.singleton_append, List.mem_cons] at hz
      rcases hz with rfl | hz
      · exact lo y hy
      · exact h3 y hy z hz
theorem asc_ext : ∀ {a b : List (List Int)}, AscL a → AscL b → (∀ x, x ∈ a ↔ x ∈ b) → a = b
  | [], [], _, _, _ => rfl
  | [], y :: b, _, _, h => absurd ((h y).2 List.mem_cons_self) (by simp)
  | x :: a, [], _, _, h => absurd ((h x).1 List.mem_cons_self) (by simp)
  | x :: a, y :: b, ha, hb, h => by
    obtain ⟨ha1, ha2⟩ := List.pairwise_cons.1 ha
    obtain ⟨hb1, hb2⟩ := List.pairwise_cons.1 hb
    have hxy : x = y := by
      rcases List.mem_cons.1 ((h x).1 List.mem_cons_self) with e | e
      · exact e
      · rcases List.mem_cons.1 ((h y).2 List.mem_cons_self) with e' | e'
        · exact e'.symm
        · have := less_trans (hb1 x e) (ha1 y e')
          rw [less_irrefl] at this
          cases this
    subst hxy
    rw [asc_ext ha2 hb2 fun z => ?_]
    constructor
    · intro hz
      rcases List.mem_cons.1 ((h z).1 (List.mem_cons_of_mem _ hz)) with e | e
      · subst e
        have := ha1 z hz
        rw [less_irrefl] at this
        cases this
      · exact e
    · intro hz
      rcases List.mem_cons.1 ((h z).2 (List.mem_cons_of_mem _ hz)) with e | e
      · subst e
        have := hb1 z hz
        rw [less_irrefl] at this
        cases this
      · exact e
/-- all of a list put in one behind the other -/
def ascOf (L : List (List Int)) : List (List Int) := L.foldl (fun l x => insL x l) []
theorem foldl_insL (L : List (List Int)) : ∀ l, AscL l → AscL (L.foldl (fun l x => insL x l) l) ∧ ∀ y, y ∈ L.foldl (fun l x => insL x l) l ↔ y ∈ L ∨ y ∈ l := by
  induction L with
  | nil => intro l h; exact ⟨h, fun y => by simp⟩
  | cons x L ih =>
    intro l h
    obtain ⟨h1, h2⟩ := ih _ (asc_insL (x := x) h)
    refine ⟨h1, fun y => ?_⟩
    rw [List.foldl_cons, h2, mem_insL, List.mem_cons]
    constructor
    · rintro (h | h | h)
      · exact .inl (.inr h)
      · exact .inl (.inl h)
      · exact .inr h
    · rintro ((h | h) | h)
      · exact .inr (.inl h)
      · exact .inl h
      · exact .inr (.inr h)
theorem ascOf_asc (L : List (List Int)) : AscL (ascOf L) := (foldl_insL L [] List.Pairwise.nil).1
theorem mem_ascOf {L : List (List Int)} {y : List Int} : y ∈ ascOf L ↔ y ∈ L := by
  rw [ascOf, (foldl_insL L [] List.Pairwise.nil).2]
  simp
theorem ascOf_snoc (L : List (List Int)) (x : List Int) : ascOf (L ++ [x]) = insL x (ascOf L) := by
  unfold ascOf
  rw [List.foldl_append]
  rfl
/-- an ordered list of the same ones is that list -/
theorem ascOf_perm {L l : List (List Int)} (hp : l.Perm L) (hs : l.Pairwise fun p q => less p q = true) : l = ascOf L := asc_ext hs (ascOf_asc L) fun x => by rw [mem_ascOf]; exact hp.mem_iff
theorem insL_length (x : List Int) (l : List (List Int)) : (insL x l).length ≤ l.length + 1 := by
  unfold insL
  split
  · omega
  · have := cutL_le x l
    simp
    omega
end Go.Proofs.Ytageojkepoejiaa
