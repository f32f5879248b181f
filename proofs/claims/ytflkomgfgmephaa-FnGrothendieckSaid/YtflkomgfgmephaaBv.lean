/-
  Polynomials whose exponents are bounded each, place by place: what the operators make of the bounds.
-/
import Derived.Test.YtflkomgfgmephaaBuI1
namespace Go.Proofs.Ytflkomgfgmephaa
open Go.RowKit

def Bv (b : Nat → Nat) (F : Mons) : Prop := ∀ p ∈ F, inK p.1 ∧ ∀ j : Nat, j < 7 → dig p.1 j ≤ ((b j : Nat) : Int)
theorem Bv.mono {b c : Nat → Nat} {F : Mons} (h : Bv b F) (hbc : ∀ j, j < 7 → b j ≤ c j) : Bv c F := fun p hp => ⟨(h p hp).1, fun j hj => by have := (h p hp).2 j hj; have := hbc j hj; omega⟩
theorem Bv.nil (b : Nat → Nat) : Bv b [] := fun p hp => by cases hp
theorem Bv.canon {b : Nat → Nat} {F : Mons} (h : Bv b F) : Bv b (canon F) := fun p hp => by
  obtain ⟨q, hq, e⟩ := mem_canon hp
  rw [← e]
  exact h q hq
theorem Bv.plus {b : Nat → Nat} {c : Int} {F G : Mons} (h : Bv b F) (h' : Bv b G) : Bv b (plusM F c G) := fun p hp => by
  rcases List.mem_append.1 hp with hp | hp
  · exact h p hp
  · obtain ⟨q, hq, rfl⟩ := List.mem_map.1 hp
    exact h' q hq
theorem Bv.raised {b c : Nat → Nat} {F : Mons} (h : Bv b F) {i : Nat} (hi : i ≤ 6) (hb : b i ≤ 126) (hc : ∀ j, j < 7 → j ≠ i → b j ≤ c j) (hc' : b i + 1 ≤ c i) : Bv c (raisedM i F) := fun p hp => by
  obtain ⟨q, hq, rfl⟩ := List.mem_map.1 hp
  obtain ⟨h1, h2⟩ := h q hq
  have h0 := h2 i (by omega)
  obtain ⟨h3, h4, h5⟩ := key_raise h1 hi (by omega)
  refine ⟨h3, fun j hj => ?_⟩
  by_cases e : j = i
  · subst e
    show dig (q.1 + unit j) j ≤ _
    rw [h4]
    omega
  · show dig (q.1 + unit i) j ≤ _
    rw [h5 j hj e]
    have := h2 j hj
    have := hc j hj e
    omega
theorem Bv.divided {b c : Nat → Nat} {F : Mons} (h : Bv b F) {i : Nat} (hi : i ≤ 5) (hc : ∀ j, j < 7 → j ≠ i → j ≠ i + 1 → b j ≤ c j) (h1 : b i ≤ c i + 1) (h2 : b (i + 1) ≤ c i + 1) (h3 : b i ≤ c (i + 1) + 1) (h4 : b (i + 1) ≤ c (i + 1) + 1) : Bv c (dividedM i F) := fun p hp => by
  obtain ⟨q, hq, hp⟩ := List.mem_flatMap.1 hp
  obtain ⟨k, hk, rfl⟩ := List.mem_map.1 hp
  obtain ⟨g1, g2⟩ := h q hq
  obtain ⟨g3, g4, g5, g6⟩ := dd_key g1 hi hk
  refine ⟨g3, fun j hj => ?_⟩
  have b1 := g2 i (by omega)
  have b2 := g2 (i + 1) (by omega)
  by_cases e : j = i
  · subst e; show dig k j ≤ _; omega
  · by_cases e' : j = i + 1
    · subst e'; show dig k (i + 1) ≤ _; omega
    · show dig k j ≤ _
      rw [g6 j hj e e']
      have := g2 j hj
      have := hc j hj e e'
      omega
theorem Bv.count {b : Nat → Nat} {F : Mons} (h : Bv b F) : (Go.Proofs.Ytflkomgfgmephaa.canon F).length ≤ (b 0 + 1) * ((b 1 + 1) * ((b 2 + 1) * ((b 3 + 1) * ((b 4 + 1) * ((b 5 + 1) * (b 6 + 1)))))) := by
  have hx : Bx [b 0 + 1, b 1 + 1, b 2 + 1, b 3 + 1, b 4 + 1, b 5 + 1, b 6 + 1] F := fun p hp => ⟨(h p hp).1, fun i d hd hi => by
    have h2 := (h p hp).2 i hi
    have hc : i = 0 ∨ i = 1 ∨ i = 2 ∨ i = 3 ∨ i = 4 ∨ i = 5 ∨ i = 6 := by omega
    rcases hc with rfl | rfl | rfl | rfl | rfl | rfl | rfl <;> simp at hd <;> omega⟩
  have := hx.count rfl
  simpa using this
theorem Bv.bd {b : Nat → Nat} {F : Mons} (h : Bv b F) (hb : ∀ j, j < 7 → b j ≤ 126) : Bd 126 F := fun p hp => ⟨(h p hp).1, fun j hj => by have := (h p hp).2 j hj; have := hb j hj; omega⟩

/-! below the staircase of n -/
def sb (n : Nat) (j : Nat) : Nat := n - 1 - j
theorem partK_sb : ∀ n, n < 8 → ∀ j : Nat, j < 7 → dig (partK n n) j = ((n - 1 - j : Nat) : Int) := by decide
theorem Bv.stair {n : Nat} (hn : n ≤ 7) : Bv (sb n) [(partK n n, 1)] := fun p hp => by
  rw [List.mem_singleton] at hp
  subst hp
  obtain ⟨h1, h2, _⟩ := partK_in n (by omega) n (by omega) (Nat.le_refl _)
  exact ⟨⟨h1, h2⟩, fun j hj => by rw [partK_sb n (by omega) j hj]; exact Int.le_refl _⟩
theorem Bv.sb_divided {n : Nat} {F : Mons} (h : Bv (sb n) F) {i : Nat} (hi : i ≤ 5) (hn : i + 1 < n) : Bv (sb n) (dividedM i F) :=
  h.divided hi (fun _ _ _ _ => Nat.le_refl _) (by unfold sb; omega) (by unfold sb; omega) (by unfold sb; omega) (by unfold sb; omega)
theorem Bv.sb_iso {n : Nat} (hn7 : n ≤ 7) {F : Mons} (h : Bv (sb n) F) {i : Nat} (hi : i ≤ 5) (hn : i + 1 < n) : Bv (sb n) (isoM i F) := by
  have h1 : Bv (fun j => if j = i + 1 then sb n j + 1 else sb n j) (raisedM (i + 1) F) := h.raised (by omega) (by unfold sb; omega) (fun j _ hne => by simp [hne]) (by simp)
  have h2 : Bv (fun j => if j = i + 1 then sb n j + 1 else sb n j) F := h.mono fun j _ => by by_cases e : j = i + 1 <;> simp [e]
  refine (h2.plus (c := -1) h1).divided hi (fun j _ _ h4 => by simp [h4]) ?_ ?_ ?_ ?_ <;> simp [sb] <;> omega
theorem Bv.dem_same {b : Nat → Nat} {F : Mons} {i : Nat} (h : Bv b F) (hi : i ≤ 5) (hb : b i ≤ 126) (he : b (i + 1) = b i) : Bv b (demM i F) := by
  have h1 : Bv (fun j => if j = i then b j + 1 else b j) (raisedM i F) := h.raised (by omega) hb (fun j _ hne => by simp [hne]) (by simp)
  refine h1.divided hi (fun j _ h3 _ => by simp [h3]) ?_ ?_ ?_ ?_ <;> simp [he]
end Go.Proofs.Ytflkomgfgmephaa
