/-
  Plain: ordered lists of dreams; one put in.
-/
import Derived.Test.YtageojkepoejiaaBuG2
namespace Go.Proofs.Ytageojkepoejiaa

/-- lists of moderate length, no two alike -/
structure GoodCC (xs : List (List (Int × Int))) : Prop where
  each : ∀ p ∈ xs, p.length ≤ 1048576
  apart : ∀ (i j : Nat) (p q : List (Int × Int)), xs[i]? = some p → xs[j]? = some q → p = q → i = j
/-- how many of the list's first ones lie ahead of x -/
def cutD (x : List (Int × Int)) : List (List (Int × Int)) → Nat
  | [] => 0
  | y :: l => if lessD y x = true then cutD x l + 1 else 0
/-- x put in at its place, unless it is there -/
def insD (x : List (Int × Int)) (l : List (List (Int × Int))) : List (List (Int × Int)) := if l[cutD x l]? = some x then l else l.take (cutD x l) ++ [x] ++ l.drop (cutD x l)
theorem cutD_le (x : List (Int × Int)) : ∀ l : List (List (Int × Int)), cutD x l ≤ l.length
  | [] => Nat.le_refl _
  | y :: l => by
    unfold cutD
    split
    · have := cutD_le x l; simp; omega
    · exact Nat.zero_le _
theorem cutD_lo {x : List (Int × Int)} : ∀ {l : List (List (Int × Int))} {k : Nat} {y : List (Int × Int)}, k < cutD x l → l[k]? = some y → lessD y x = true
  | [], _, _, h, _ => by simp [cutD] at h
  | z :: l, k, y, h, hy => by
    unfold cutD at h
    split at h
    · rename_i hz
      match k, hy with
      | 0, hy => simp at hy; rw [← hy]; exact hz
      | k + 1, hy => exact cutD_lo (l := l) (k := k) (by omega) (by simpa using hy)
    · omega
theorem cutD_hi {x : List (Int × Int)} : ∀ {l : List (List (Int × Int))} {y : List (Int × Int)}, l[cutD x l]? = some y → lessD y x = false
  | [], _, h => by simp at h
  | z :: l, y, h => by
    unfold cutD at h
    split at h
    · exact cutD_hi (l := l) (by simpa using h)
    · rename_i hz
      simp at h
      rw [← h]
      simpa using hz
/-- the place is known by its two sides -/
theorem cutD_at {x : List (Int × Int)} {l : List (List (Int × Int))} {k : Nat} (hk : k ≤ cutD x l) (h : k = l.length ∨ ∃ y, l[k]? = some y ∧ lessD y x = false) : cutD x l = k := by
  have := cutD_le x l
  rcases h with h | ⟨y, hy, hn⟩
  · omega
  · rcases Nat.lt_or_ge k (cutD x l) with hlt | hge
    · have := cutD_lo hlt hy
      rw [hn] at this
      cases this
    · omega
def AscD (l : List (List (Int × Int))) : Prop := l.Pairwise fun p q => lessD p q = true
theorem mem_insD {x y : List (Int × Int)} {l : List (List (Int × Int))} : y ∈ insD x l ↔ y = x ∨ y ∈ l := by
  unfold insD
  split
  · rename_i h
    exact ⟨.inr, fun h' => h'.elim (fun e => e ▸ List.mem_of_getElem? h) id⟩
  · have e : l = l.take (cutD x l) ++ l.drop (cutD x l) := (List.take_append_drop _ _).symm
    conv => rhs; rw [e]
    simp only [List.mem_append, List.mem_singleton]
    constructor
    · rintro ((h | h) | h)
      · exact .inr (.inl h)
      · exact .inl h
      · exact .inr (.inr h)
    · rintro (h | h | h)
      · exact .inl (.inr h)
      · exact .inl (.inl h)
      · exact .inr h
theorem asc_insD {x : List (Int × Int)} {l : List (List (Int × Int))} (h : AscD l) : AscD (insD x l) := by
  unfold insD
  split
  · exact h
  · rename_i hne
    have h0 := h
    unfold AscD at *
    rw [← List.take_append_drop (cutD x l) l, List.pairwise_append] at h
    obtain ⟨h1, h2, h3⟩ := h
    have lo : ∀ y ∈ l.take (cutD x l), lessD y x = true := by
      intro y hy
      obtain ⟨k, hk⟩ := List.getElem?_of_mem hy
      have hkl := (List.getElem?_eq_some_iff.1 hk).1
      rw [List.length_take] at hkl
      rw [List.getElem?_take_of_lt (by omega)] at hk
      exact cutD_lo (by omega) hk
    have hi : ∀ y ∈ l.drop (cutD x l), lessD x y = true := by
      intro y hy
      obtain ⟨k, hk⟩ := List.getElem?_of_mem hy
      rw [List.getElem?_drop] at hk
      have hlt : cutD x l < l.length := by have := (List.getElem?_eq_some_iff.1 hk).1; omega
      have hz : l[cutD x l]? = some l[cutD x l] := List.getElem?_eq_getElem hlt
      have hn := cutD_hi hz
      have hxz : lessD x l[cutD x l] = true := by
        cases hc : lessD x l[cutD x l] with
        | true => rfl
        | false => exact absurd (by rw [hz, lessD_total hn hc]) hne
      match k, hk with
      | 0, hk =>
        rw [Nat.add_zero, hz] at hk
        rw [← Option.some.inj hk]
        exact hxz
      | k + 1, hk =>
        obtain ⟨hkl, e⟩ := List.getElem?_eq_some_iff.1 hk
        have := List.pairwise_iff_getElem.1 h0 (cutD x l) (cutD x l + (k + 1)) hlt hkl (by omega)
        rw [e] at this
        exact lessD_trans hxz this
    rw [List.append_assoc, List.pairwise_append]
    refine ⟨h1, ?_, ?_⟩
    · rw [List.singleton_append, List.pairwise_cons]
      exact ⟨hi, h2⟩
    · intro y hy z hz
      rw [List.singleton_append, List.mem_cons] at hz
      rcases hz with rfl | hz
      · exact lo y hy
      · exact h3 y hy z hz
theorem ascD_ext : ∀ {a b : List (List (Int × Int))}, AscD a → AscD b → (∀ x, x ∈ a ↔ x ∈ b) → a = b
  | [], [], _, _, _ => rfl
  | [], y :: b, _, _, h => absurd ((h y).2 List.mem_cons_self) (by simp)
  | x :: a, [], _, _, h => absurd ((h x).1 List.mem_cons_self) (by simp)
  | x :: a, y :: b, ha, hb, h => by
    obtain ⟨ha1, ha2⟩ := List.pairwise_cons.1 ha
    obtain ⟨hb1, hb2⟩ := List.pairwise_cons.1 hb
    have hxy : x = y := by
      rcases List.mem_cons.1 ((h x).1 List.mem_cons_self) with e | e
      · exact e
      · rcases List.mem_cons.1 ((h y).2 List.mem_cons_self) with e' | e'
        · exact e'.symm
        · have := lessD_trans (hb1 x e) (ha1 y e')
          rw [lessD_irrefl] at this
          cases this
    subst hxy
    rw [ascD_ext ha2 hb2 fun z => ?_]
    constructor
    · intro hz
      rcases List.mem_cons.1 ((h z).1 (List.mem_cons_of_mem _ hz)) with e | e
      · subst e
        have := ha1 z hz
        rw [lessD_irrefl] at this
        cases this
      · exact e
    · intro hz
      rcases List.mem_cons.1 ((h z).2 (List.mem_cons_of_mem _ hz)) with e | e
      · subst e
        have := hb1 z hz
        rw [lessD_irrefl] at this
        cases this
      · exact e
/-- all of a list put in one behind the other -/
def ascD (L : List (List (Int × Int))) : List (List (Int × Int)) := L.foldl (fun l x => insD x l) []
theorem foldl_insD (L : List (List (Int × Int))) : ∀ l, AscD l → AscD (L.foldl (fun l x => insD x l) l) ∧ ∀ y, y ∈ L.foldl (fun l x => insD x l) l ↔ y ∈ L ∨ y ∈ l := by
  induction L with
  | nil => intro l h; exact ⟨h, fun y => by simp⟩
  | cons x L ih =>
    intro l h
    obtain ⟨h1, h2⟩ := ih _ (asc_insD (x := x) h)
    refine ⟨h1, fun y => ?_⟩
    rw [List.foldl_cons, h2, mem_insD, List.mem_cons]
    constructor
    · rintro (h | h | h)
      · exact .inl (.inr h)
      · exact .inl (.inl h)
      · exact .inr h
    · rintro ((h | h) | h)
      · exact .inr (.inl h)
      · exact .inl h
      · exact .inr (.inr h)
theorem ascD_asc (L : List (List (Int × Int))) : AscD (ascD L) := (foldl_insD L [] List.Pairwise.nil).1
theorem mem_ascD {L : List (List (Int × Int))} {y : List (Int × Int)} : y ∈ ascD L ↔ y ∈ L := by
  rw [ascD, (foldl_insD L [] List.Pairwise.nil).2]
  simp
theorem ascD_snoc (L : List (List (Int × Int))) (x : List (Int × Int)) : ascD (L ++ [x]) = insD x (ascD L) := by
  unfold ascD
  rw [List.foldl_append]
  rfl
/-- an ordered list of the same ones is that list -/
theorem ascD_perm {L l : List (List (Int × Int))} (hp : l.Perm L) (hs : l.Pairwise fun p q => lessD p q = true) : l = ascD L := ascD_ext hs (ascD_asc L) fun x => by rw [mem_ascD]; exact hp.mem_iff
theorem insD_length (x : List (Int × Int)) (l : List (List (Int × Int))) : (insD x l).length ≤ l.length + 1 := by
  unfold insD
  split
  · omega
  · have := cutD_le x l
    simp
    omega
end Go.Proofs.Ytageojkepoejiaa
