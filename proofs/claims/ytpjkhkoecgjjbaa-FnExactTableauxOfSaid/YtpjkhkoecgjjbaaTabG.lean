/-
  What both searches for fillings share: the list, the shape, the cut at 400.
-/
import Derived.Test.YtpjkhkoecgjjbaaPush3
import Derived.Test.YtpjkhkoecgjjbaaTabF
namespace Go.Proofs.Ytpjkhkoecgjjbaa
open Go.RowKit

theorem IIO.grows3 {w w' : World} {T H m k ct cl : Nat} {at' al : Option Addr} {t : List (List Int)} {v' : Value} (h : IIO w T H at' m ct t) (hg : Grows w w' (.slice al k cl) v') (hoff : ∀ q, (Value.slice al k cl).ownBlock = some q → q < T ∨ H ≤ q) : IIO w' T H at' m ct t := by
  cases hv : (Value.slice al k cl).ownBlock with
  | none => exact h.only (Only.of_grown (B := 0) (S := 0) hg.grown (fun k hk => by rw [hv] at hk; cases hk) (fun k hk => by rw [hv] at hk; cases hk)) (.inr (Nat.zero_le _))
  | some q0 =>
    have hon : Only q0 (q0 + 1) w w' := Only.of_grown hg.grown (fun k hk => by rw [hv] at hk; obtain rfl := Option.some.inj hk; exact Nat.le_refl _) (fun k hk => by rw [hv] at hk; obtain rfl := Option.some.inj hk; exact Nat.lt_succ_self _)
    have := hoff q0 hv
    exact h.only hon (by omega)
/-- the shape reads so, and lies in older blocks -/
def ShB (w : World) (B : Nat) (a : Option Addr) (xs : List Int) : Prop := RI w a xs ∧ (xs = [] ∨ ∀ ad, a = some ad → ad.block < B)
theorem ShB.below {w w' : World} {B : Nat} {a : Option Addr} {xs : List Int} (h : ShB w B a xs) (hb : Below B w w') : ShB w' B a xs := by
  refine ⟨?_, h.2⟩
  rcases h.1 with h1 | ⟨b, off, ha, hc⟩
  · exact .inl h1
  · rcases h.2 with h2 | h2
    · exact .inl h2
    · refine .inr ⟨b, off, ha, fun k x hx => ?_⟩
      have := h2 _ ha
      rw [hb.cell (p := ⟨b, off + k, none⟩) this]
      exact hc k x hx
theorem IIO.base {w : World} {B S : Nat} {a : Option Addr} {n c : Nat} {xss : List (List Int)} (h : IIO w B S a n c xss) : ∀ k, (Value.slice a n c).ownBlock = some k → B ≤ k := by
  obtain ⟨vs, h1, _⟩ := h
  exact fun k hk => (h1.lt k hk).1
theorem IIIO.lo {w : World} {B S : Nat} {a : Option Addr} {n c : Nat} {xsss : List (List (List Int))} (h : IIIO w B S a n c xsss) : ∀ k, (Value.slice a n c).ownBlock = some k → B ≤ k := by
  obtain ⟨vs, lo, hi, h1, _⟩ := h
  exact fun k hk => (h1.lt k hk).1
theorem IIIO.hi {w : World} {B S : Nat} {a : Option Addr} {n c : Nat} {xsss : List (List (List Int))} (h : IIIO w B S a n c xsss) : ∀ k, (Value.slice a n c).ownBlock = some k → k < S := by
  obtain ⟨vs, lo, hi, _, h2, _⟩ := h
  exact h2
theorem lastT_new (t : List (List Int)) : lastT (t ++ [[]]) = [] := by
  unfold lastT rowAt
  rw [List.length_append, List.getD_eq_getElem?_getD]
  simp
theorem fullT_new {shape : List Int} {t : List (List Int)} (hs : ShOk shape) (h : t.length < shape.length) : fullT shape (t ++ [[]]) = false := by
  have e3 : (t ++ [[]]).length - 1 = t.length := by simp
  have := (hs.pos t.length h).1
  unfold fullT
  rw [lastT_new, e3]
  simp
  intro h0
  rw [List.getD_eq_getElem?_getD] at this
  omega
theorem TOk.short {shape : List Int} {t : List (List Int)} (hs : ShOk shape) (h : TOk shape t) : ShortII t := by
  intro row hr
  obtain ⟨i, hi, he⟩ := List.getElem_of_mem hr
  have hri : rowAt t i = row := by unfold rowAt; rw [List.getD_eq_getElem?_getD, List.getElem?_eq_getElem hi, he]; rfl
  have hlen := h.len
  have hp := (hs.pos i (by omega)).2
  rcases Nat.lt_or_ge (i + 1) t.length with h1 | h1
  · have := h.full i h1
    rw [hri] at this
    omega
  · have := h.last (by omega)
    have e : lastT t = row := by unfold lastT; rw [show t.length - 1 = i by omega]; exact hri
    rw [e, show t.length - 1 = i by omega] at this
    omega
theorem Cut.nil {L : List (List (List Int))} (h : L.length ≤ 401) : Cut L [] L := ⟨h, fun _ => by simp, fun h2 => by simp at h2; omega⟩
theorem Cut.one {L : List (List (List Int))} {t : List (List Int)} (h : L.length ≤ 400) : Cut L [t] (L ++ [t]) := ⟨by simp; omega, fun _ => rfl, fun h2 => by simp at h2 ⊢; omega⟩
theorem Cut.then {L P L1 D L2 : List (List (List Int))} (h : Cut L P L1) (hk : L1.length ≤ 400) (h2 : Cut L1 D L2) : Cut L (P ++ D) L2 := by
  have e : L1 = L ++ P := by
    rcases Nat.lt_or_ge 400 (L.length + P.length) with h3 | h3
    · have := h.2.2 h3; omega
    · exact h.2.1 h3
  subst e
  rw [List.length_append] at hk
  refine ⟨h2.1, fun h3 => ?_, fun h3 => ?_⟩
  · rw [List.length_append] at h3
    rw [h2.2.1 (by rw [List.length_append]; omega), List.append_assoc]
  · rw [List.length_append] at h3
    exact h2.2.2 (by rw [List.length_append]; omega)
theorem Cut.over {L P L1 D : List (List (List Int))} (h : Cut L P L1) (hk : 400 < L1.length) (hP : P.length ≤ D.length) : Cut L D L1 := by
  refine ⟨h.1, fun h3 => ?_, fun _ => ?_⟩
  · have := h.2.1 (by omega)
    subst this
    rw [List.length_append] at hk
    omega
  · have := h.1; omega
end Go.Proofs.Ytpjkhkoecgjjbaa
