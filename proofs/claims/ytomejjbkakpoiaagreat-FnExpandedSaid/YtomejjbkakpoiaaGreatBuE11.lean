/-
  First ascents, exchanged one behind the other: plain.
  Polynomials below the staircase of seven: closed under divided differences, 5040 monomials at most.
  Polynomials whose exponents are bounded each, place by place: what the operators make of the bounds.
  Contracts of open and of operated, with DemazureOf, IsobaricOf and AtomOf of the program.
-/
import Derived.Test.YtomejjbkakpoiaaGreatBuE10
import Derived.Test.YtomejjbkakpoiaaGreatBuE7
import Derived.StillTailTactics
namespace Go.Proofs.YtomejjbkakpoiaaGreat
open Go.RowKit

def sw : List Int → Nat → List Int
  | a :: b :: r, 0 => b :: a :: r
  | a :: r, k + 1 => a :: sw r k
  | l, _ => l
theorem sw_swp {w : List Int} : ∀ {k : Nat}, k + 1 < w.length → swp w k (k + 1) = sw w k := by
  induction w with
  | nil => intro k h; simp at h
  | cons a r ih =>
    intro k h
    cases k with
    | zero =>
      cases r with
      | nil => simp at h
      | cons b r => rfl
    | succ k =>
      have h2 := ih (k := k) (by simpa using h)
      unfold swp at h2 ⊢
      cases r with
      | nil => simp at h
      | cons b r =>
        rw [sw, ← h2]
        rfl
theorem sw_perm (w : List Int) : ∀ k : Nat, (sw w k).Perm w := by
  induction w with
  | nil => intro k; cases k <;> exact List.Perm.refl _
  | cons a r ih =>
    intro k
    cases k with
    | zero =>
      cases r with
      | nil => exact List.Perm.refl _
      | cons b r => exact List.Perm.swap _ _ _
    | succ k => rw [sw]; exact (ih k).cons a
theorem sw_length (w : List Int) (k : Nat) : (sw w k).length = w.length := (sw_perm w k).length_eq
/-- how many pairs rise -/
def nin : List Int → Nat
  | [] => 0
  | a :: r => (r.filter fun x => decide (a < x)).length + nin r
def asc : List Int → Option Nat
  | a :: b :: r => if a < b then some 0 else (asc (b :: r)).map (· + 1)
  | _ => none
theorem asc_some {w : List Int} : ∀ {k : Nat}, asc w = some k → ∃ x y, w[k]? = some x ∧ w[k + 1]? = some y ∧ x < y ∧ ∀ (j : Nat) (u v : Int), j < k → w[j]? = some u → w[j + 1]? = some v → ¬ u < v := by
  induction w with
  | nil => intro k h; simp [asc] at h
  | cons a r ih =>
    intro k h
    cases r with
    | nil => simp [asc] at h
    | cons b r =>
      rw [asc] at h
      split at h
      · rename_i hab
        obtain rfl := Option.some.inj h
        exact ⟨a, b, rfl, rfl, hab, fun j _ _ hj => by omega⟩
      · rename_i hab
        obtain ⟨q, hq, rfl⟩ := Option.map_eq_some_iff.1 h
        obtain ⟨x, y, h1, h2, h3, h4⟩ := ih hq
        refine ⟨x, y, h1, h2, h3, fun j u v hj hu hv => ?_⟩
        cases j with
        | zero =>
          obtain rfl : a = u := Option.some.inj hu
          obtain rfl : b = v := Option.some.inj hv
          exact hab
        | succ j => exact h4 j u v (by omega) hu hv
theorem asc_none {w : List Int} (h : asc w = none) : ∀ (j : Nat) (u v : Int), w[j]? = some u → w[j + 1]? = some v → ¬ u < v := by
  induction w with
  | nil => intro j u v hu; simp at hu
  | cons a r ih =>
    intro j u v hu hv
    cases r with
    | nil => simp at hv
    | cons b r =>
      rw [asc] at h
      split at h
      · cases h
      · rename_i hab
        have h2 := Option.map_eq_none_iff.1 h
        cases j with
        | zero =>
          obtain rfl : a = u := Option.some.inj hu
          obtain rfl : b = v := Option.some.inj hv
          exact hab
        | succ j => exact ih h2 j u v hu hv
theorem asc_at {w : List Int} {k : Nat} {x y : Int} (hx : w[k]? = some x) (hy : w[k + 1]? = some y) (h : x < y) (hb : ∀ (j : Nat) (u v : Int), j < k → w[j]? = some u → w[j + 1]? = some v → ¬ u < v) : asc w = some k := by
  cases ha : asc w with
  | none => exact absurd h (asc_none ha k x y hx hy)
  | some q =>
    obtain ⟨x', y', h1, h2, h3, h4⟩ := asc_some ha
    rcases Nat.lt_trichotomy q k with hq | hq | hq
    · exact absurd h3 (hb q x' y' hq h1 h2)
    · rw [hq]
    · exact absurd h (h4 k x y hq hx hy)
theorem asc_all {w : List Int} (hb : ∀ (j : Nat) (u v : Int), w[j]? = some u → w[j + 1]? = some v → ¬ u < v) : asc w = none := by
  cases ha : asc w with
  | none => rfl
  | some q =>
    obtain ⟨x, y, h1, h2, h3, _⟩ := asc_some ha
    exact absurd h3 (hb q x y h1 h2)
theorem nin_sw {w : List Int} : ∀ {k : Nat}, asc w = some k → nin (sw w k) + 1 = nin w := by
  induction w with
  | nil => intro k h; simp [asc] at h
  | cons a r ih =>
    intro k h
    cases r with
    | nil => simp [asc] at h
    | cons b r =>
      rw [asc] at h
      split at h
      · rename_i hab
        obtain rfl := Option.some.inj h
        have hba : ¬ b < a := by omega
        simp only [sw, nin, List.filter_cons, hab, hba, decide_true, decide_false, if_true, List.length_cons]
        simp
        omega
      · rename_i hab
        obtain ⟨q, hq, rfl⟩ := Option.map_eq_some_iff.1 h
        have h1 := ih hq
        have h2 := ((sw_perm (b :: r) q).filter fun x => decide (a < x)).length_eq
        show nin (a :: sw (b :: r) q) + 1 = nin (a :: b :: r)
        rw [nin, h2]
        show _ = (List.filter (fun x => decide (a < x)) (b :: r)).length + nin (b :: r)
        omega
def upf : Nat → List Int → List Nat
  | 0, _ => []
  | f + 1, w => match asc w with
    | none => []
    | some k => k :: upf f (sw w k)
def endf : Nat → List Int → List Int
  | 0, w => w
  | f + 1, w => match asc w with
    | none => w
    | some k => endf f (sw w k)
/-- the places of the first ascents, one behind the other; and what is left, which falls -/
def ups (w : List Int) : List Nat := upf (nin w) w
def fell (w : List Int) : List Int := endf (nin w) w
theorem ups_some {w : List Int} {k : Nat} (h : asc w = some k) : ups w = k :: ups (sw w k) ∧ fell w = fell (sw w k) := by
  have h1 := nin_sw h
  unfold ups fell
  rw [← h1, upf, endf, h]
  exact ⟨rfl, rfl⟩
theorem ups_none {w : List Int} (h : asc w = none) : ups w = [] ∧ fell w = w := by
  unfold ups fell
  cases nin w with
  | zero => exact ⟨rfl, rfl⟩
  | succ n => rw [upf, endf, h]; exact ⟨rfl, rfl⟩
theorem fell_perm (w : List Int) : (fell w).Perm w := by
  have : ∀ n v, (endf n v).Perm v := by
    intro n
    induction n with
    | zero => intro v; exact List.Perm.refl _
    | succ n ih =>
      intro v
      rw [endf]
      split
      · exact List.Perm.refl _
      · exact (ih _).trans (sw_perm _ _)
  exact this _ w
theorem asc_lt {w : List Int} {k : Nat} (h : asc w = some k) : k + 1 < w.length := by
  obtain ⟨_, y, _, h2, _⟩ := asc_some h
  exact (List.getElem?_eq_some_iff.1 h2).1
theorem ups_lt (w : List Int) : ∀ k ∈ ups w, k + 1 < w.length := by
  have : ∀ n v, ∀ k ∈ upf n v, k + 1 < v.length := by
    intro n
    induction n with
    | zero => intro v k hk; cases hk
    | succ n ih =>
      intro v k hk
      rw [upf] at hk
      split at hk
      · cases hk
      · rename_i q hq
        rcases List.mem_cons.1 hk with rfl | hk
        · exact asc_lt hq
        · have := ih _ k hk
          rw [sw_length] at this
          exact this
  exact this _ w
end Go.Proofs.YtomejjbkakpoiaaGreat

namespace Go.Proofs.YtomejjbkakpoiaaGreat
open Go.RowKit

def B7 (F : Mons) : Prop := ∀ p ∈ F, inK p.1 ∧ ∀ j : Nat, j < 7 → dig p.1 j < 7 - (j : Int)
theorem B7.bx {F : Mons} (h : B7 F) : Bx [7, 6, 5, 4, 3, 2, 1] F := fun p hp => ⟨(h p hp).1, fun i b hb hi => by
  have h2 := (h p hp).2 i hi
  have hc : i = 0 ∨ i = 1 ∨ i = 2 ∨ i = 3 ∨ i = 4 ∨ i = 5 ∨ i = 6 := by omega
  rcases hc with rfl | rfl | rfl | rfl | rfl | rfl | rfl <;> simp at hb <;> omega⟩
theorem B7.count {F : Mons} (h : B7 F) : (canon F).length ≤ 5040 := h.bx.count rfl
theorem B7.canon {F : Mons} (h : B7 F) : B7 (canon F) := fun p hp => by
  obtain ⟨q, hq, e⟩ := mem_canon hp
  rw [← e]
  exact h q hq
theorem B7.divided {F : Mons} (h : B7 F) {i : Nat} (hi : i ≤ 5) : B7 (dividedM i F) := fun p hp => by
  obtain ⟨q, hq, hp⟩ := List.mem_flatMap.1 hp
  obtain ⟨k, hk, rfl⟩ := List.mem_map.1 hp
  obtain ⟨h1, h2⟩ := h q hq
  obtain ⟨h3, h4, h5, h6⟩ := dd_key h1 hi hk
  refine ⟨h3, fun j hj => ?_⟩
  have b1 := h2 i (by omega)
  have b2 := h2 (i + 1) (by omega)
  by_cases e : j = i
  · subst e; show dig k j < _; omega
  · by_cases e' : j = i + 1
    · subst e'; show dig k (i + 1) < _; omega
    · show dig k j < _
      rw [h6 j hj e e']
      exact h2 j hj
theorem B7.bd {F : Mons} (h : B7 F) : Bd 24 F := fun p hp => ⟨(h p hp).1, fun j hj => by have := (h p hp).2 j hj; omega⟩
theorem partK_digs : ∀ n, n < 8 → ∀ j : Nat, j < 7 → dig (partK n n) j < 7 - (j : Int) := by decide
theorem B7.stair {n : Nat} (hn : n ≤ 7) : B7 [(partK n n, 1)] := fun p hp => by
  rw [List.mem_singleton] at hp
  subst hp
  obtain ⟨h1, h2, _⟩ := partK_in n (by omega) n (by omega) (Nat.le_refl _)
  exact ⟨⟨h1, h2⟩, partK_digs n (by omega)⟩
def lowM (op : Nat → Mons → Mons) (w : List Int) (F : Mons) : Mons := (ups w).foldr op F
theorem B7.low {F : Mons} (h : B7 F) : ∀ l : List Nat, (∀ k ∈ l, k ≤ 5) → B7 (l.foldr dividedM F) := by
  intro l
  induction l with
  | nil => intro _; exact h
  | cons k l ih => intro hl; exact (ih fun q hq => hl q (List.mem_cons_of_mem _ hq)).divided (hl k List.mem_cons_self)
theorem canon_one {k c : Int} (h0 : c ≠ 0) (hc : in64 c) : canon [(k, c)] = [(k, c)] :=
  (canon_unique (List.pairwise_singleton _ _) (fun p hp => by rw [List.mem_singleton] at hp; subst hp; exact ⟨h0, hc.1, hc.2⟩) (Eqv.refl _)).symm
end Go.Proofs.YtomejjbkakpoiaaGreat

namespace Go.Proofs.YtomejjbkakpoiaaGreat
open Go.RowKit

def Bv (b : Nat → Nat) (F : Mons) : Prop := ∀ p ∈ F, inK p.1 ∧ ∀ j : Nat, j < 7 → dig p.1 j ≤ ((b j : Nat) : Int)
theorem Bv.mono {b c : Nat → Nat} {F : Mons} (h : Bv b F) (hbc : ∀ j, j < 7 → b j ≤ c j) : Bv c F := fun p hp => ⟨(h p hp).1, fun j hj => by have := (h p hp).2 j hj; have := hbc j hj; omega⟩
theorem Bv.nil (b : Nat → Nat) : Bv b [] := fun p hp => by cases hp
theorem Bv.canon {b : Nat → Nat} {F : Mons} (h : Bv b F) : Bv b (canon F) := fun p hp => by
  obtain ⟨q, hq, e⟩ := mem_canon hp
  rw [← e]
  exact h q hq
theorem Bv.plus {b : Nat → Nat} {c : Int} {F G : Mons} (h : Bv b F) (h' : Bv b G) : Bv b (plusM F c G) := fun p hp => by
  rcases List.mem_append.1 hp with hp | hp
  · exact h p hp
  · obtain ⟨q, hq, rfl⟩ := List.mem_map.1 hp
    exact h' q hq
theorem Bv.raised {b c : Nat → Nat} {F : Mons} (h : Bv b F) {i : Nat} (hi : i ≤ 6) (hb : b i ≤ 126) (hc : ∀ j, j < 7 → j ≠ i → b j ≤ c j) (hc' : b i + 1 ≤ c i) : Bv c (raisedM i F) := fun p hp => by
  obtain ⟨q, hq, rfl⟩ := List.mem_map.1 hp
  obtain ⟨h1, h2⟩ := h q hq
  have h0 := h2 i (by omega)
  obtain ⟨h3, h4, h5⟩ := key_raise h1 hi (by omega)
  refine ⟨h3, fun j hj => ?_⟩
  by_cases e : j = i
  · subst e
    show dig (q.1 + unit j) j ≤ _
    rw [h4]
    omega
  · show dig (q.1 + unit i) j ≤ _
    rw [h5 j hj e]
    have := h2 j hj
    have := hc j hj e
    omega
theorem Bv.divided {b c : Nat → Nat} {F : Mons} (h : Bv b F) {i : Nat} (hi : i ≤ 5) (hc : ∀ j, j < 7 → j ≠ i → j ≠ i + 1 → b j ≤ c j) (h1 : b i ≤ c i + 1) (h2 : b (i + 1) ≤ c i + 1) (h3 : b i ≤ c (i + 1) + 1) (h4 : b (i + 1) ≤ c (i + 1) + 1) : Bv c (dividedM i F) := fun p hp => by
  obtain ⟨q, hq, hp⟩ := List.mem_flatMap.1 hp
  obtain ⟨k, hk, rfl⟩ := List.mem_map.1 hp
  obtain ⟨g1, g2⟩ := h q hq
  obtain ⟨g3, g4, g5, g6⟩ := dd_key g1 hi hk
  refine ⟨g3, fun j hj => ?_⟩
  have b1 := g2 i (by omega)
  have b2 := g2 (i + 1) (by omega)
  by_cases e : j = i
  · subst e; show dig k j ≤ _; omega
  · by_cases e' : j = i + 1
    · subst e'; show dig k (i + 1) ≤ _; omega
    · show dig k j ≤ _
      rw [g6 j hj e e']
      have := g2 j hj
      have := hc j hj e e'
      omega
theorem Bv.count {b : Nat → Nat} {F : Mons} (h : Bv b F) : (Go.Proofs.YtomejjbkakpoiaaGreat.canon F).length ≤ (b 0 + 1) * ((b 1 + 1) * ((b 2 + 1) * ((b 3 + 1) * ((b 4 + 1) * ((b 5 + 1) * (b 6 + 1)))))) := by
  have hx : Bx [b 0 + 1, b 1 + 1, b 2 + 1, b 3 + 1, b 4 + 1, b 5 + 1, b 6 + 1] F := fun p hp => ⟨(h p hp).1, fun i d hd hi => by
    have h2 := (h p hp).2 i hi
    have hc : i = 0 ∨ i = 1 ∨ i = 2 ∨ i = 3 ∨ i = 4 ∨ i = 5 ∨ i = 6 := by omega
    rcases hc with rfl | rfl | rfl | rfl | rfl | rfl | rfl <;> simp at hd <;> omega⟩
  have := hx.count rfl
  simpa using this
theorem Bv.bd {b : Nat → Nat} {F : Mons} (h : Bv b F) (hb : ∀ j, j < 7 → b j ≤ 126) : Bd 126 F := fun p hp => ⟨(h p hp).1, fun j hj => by have := (h p hp).2 j hj; have := hb j hj; omega⟩

/-! below the staircase of n -/
def sb (n : Nat) (j : Nat) : Nat := n - 1 - j
theorem partK_sb : ∀ n, n < 8 → ∀ j : Nat, j < 7 → dig (partK n n) j = ((n - 1 - j : Nat) : Int) := by decide
theorem Bv.stair {n : Nat} (hn : n ≤ 7) : Bv (sb n) [(partK n n, 1)] := fun p hp => by
  rw [List.mem_singleton] at hp
  subst hp
  obtain ⟨h1, h2, _⟩ := partK_in n (by omega) n (by omega) (Nat.le_refl _)
  exact ⟨⟨h1, h2⟩, fun j hj => by rw [partK_sb n (by omega) j hj]; exact Int.le_refl _⟩
theorem Bv.sb_divided {n : Nat} {F : Mons} (h : Bv (sb n) F) {i : Nat} (hi : i ≤ 5) (hn : i + 1 < n) : Bv (sb n) (dividedM i F) :=
  h.divided hi (fun _ _ _ _ => Nat.le_refl _) (by unfold sb; omega) (by unfold sb; omega) (by unfold sb; omega) (by unfold sb; omega)
theorem Bv.sb_iso {n : Nat} (hn7 : n ≤ 7) {F : Mons} (h : Bv (sb n) F) {i : Nat} (hi : i ≤ 5) (hn : i + 1 < n) : Bv (sb n) (isoM i F) := by
  have h1 : Bv (fun j => if j = i + 1 then sb n j + 1 else sb n j) (raisedM (i + 1) F) := h.raised (by omega) (by unfold sb; omega) (fun j _ hne => by simp [hne]) (by simp)
  have h2 : Bv (fun j => if j = i + 1 then sb n j + 1 else sb n j) F := h.mono fun j _ => by by_cases e : j = i + 1 <;> simp [e]
  refine (h2.plus (c := -1) h1).divided hi (fun j _ _ h4 => by simp [h4]) ?_ ?_ ?_ ?_ <;> simp [sb] <;> omega
theorem Bv.dem_same {b : Nat → Nat} {F : Mons} {i : Nat} (h : Bv b F) (hi : i ≤ 5) (hb : b i ≤ 126) (he : b (i + 1) = b i) : Bv b (demM i F) := by
  have h1 : Bv (fun j => if j = i then b j + 1 else b j) (raisedM i F) := h.raised (by omega) hb (fun j _ hne => by simp [hne]) (by simp)
  refine h1.divided hi (fun j _ h3 _ => by simp [h3]) ?_ ?_ ?_ ?_ <;> simp [he]
end Go.Proofs.YtomejjbkakpoiaaGreat

namespace Go.Proofs.YtomejjbkakpoiaaGreat
open Go.RowKit Go.MapKept

def monsOf (xs : List (List Int × Int)) : Mons := xs.map fun p => (keyL p.1, p.2)
theorem dig_keyL {s : List Int} (hl : s.length = 7) (hd : Digs s) {i : Nat} (hi : i < 7) : s[i]? = some (dig (keyL s) i) := by
  obtain ⟨a, b, c, d, e, f, g, rfl⟩ := seven_list hl
  have h := pack_digs (hd a (by simp)) (hd b (by simp)) (hd c (by simp)) (hd d (by simp)) (hd e (by simp)) (hd f (by simp)) (hd g (by simp))
  have e1 : keyL [a, b, c, d, e, f, g] = pack a b c d e f g := by unfold pack; simp only [keyL]; omega
  rw [e1]
  obtain ⟨_, h0, h1, h2, h3, h4, h5, h6⟩ := h
  rcases seven (show i ≤ 6 by omega) with rfl | rfl | rfl | rfl | rfl | rfl | rfl <;> simp_all
theorem digs_keyL {s : List Int} (hl : s.length = 7) (hd : Digs s) : digs (keyL s) = s := by
  apply List.ext_getElem?
  intro i
  rcases Nat.lt_or_ge i 7 with h | h
  · rw [digs_at h, dig_keyL hl hd h]
  · rw [List.getElem?_eq_none (by rw [digs_length]; exact h), List.getElem?_eq_none (by omega)]
theorem polyOk_each {xs : List (List Int × Int)} (h : polyOk xs = true) {k : Nat} {s : List Int} {c : Int} (hx : xs[k]? = some (s, c)) : s.length = 7 ∧ Digs s ∧ (∀ x ∈ s, x ≤ 24) ∧ -1000000 ≤ c ∧ c ≤ 1000000 ∧ c ≠ 0 := by
  unfold polyOk at h
  simp only [Bool.and_eq_true, decide_eq_true_eq, List.all_eq_true, List.mem_range] at h
  have hk := (List.getElem?_eq_some_iff.1 hx).1
  have h2 := h.2 k hk
  obtain ⟨e1, e2, e3⟩ := termAt_ok hx h2
  refine ⟨e1, e2, ?_, ?_⟩
  · intro x hxs
    simp only [termAt, termOf_at hx, Bool.and_eq_true, List.all_eq_true] at h2
    have := h2.1.2 x hxs
    simp [small] at this
    omega
  · simp [coefOk] at e3
    omega
theorem polyOk_len {xs : List (List Int × Int)} (h : polyOk xs = true) : xs.length ≤ 600 := by
  unfold polyOk at h
  simp only [Bool.and_eq_true, decide_eq_true_eq] at h
  exact h.1
theorem polyOk_mons {xs : List (List Int × Int)} (h : polyOk xs = true) : Bd 24 (monsOf xs) := by
  intro p hp
  obtain ⟨q, hq, rfl⟩ := List.mem_map.1 hp
  obtain ⟨k, hk⟩ := List.getElem?_of_mem hq
  obtain ⟨e1, e2, e3, _⟩ := polyOk_each h hk
  refine ⟨keyL_small e2 (by omega), fun i hi => e3 _ (List.mem_of_getElem? (dig_keyL e1 e2 hi))⟩
theorem polyOk_in64 {xs : List (List Int × Int)} (h : polyOk xs = true) : ∀ p ∈ monsOf xs, in64 p.2 := by
  intro p hp
  obtain ⟨q, hq, rfl⟩ := List.mem_map.1 hp
  obtain ⟨k, hk⟩ := List.getElem?_of_mem hq
  obtain ⟨_, _, _, e4, e5, _⟩ := polyOk_each h hk
  unfold in64
  simp only
  omega

theorem run_arrayAt7 (a : Option Addr) (c : Nat) (w : World) : (Instr.arrayAt 85 (.slice a 7 c)).run Tryz.prog w = .ok (.pointer a) w := by
  simp [Instr.arrayAt, run_underlying arrK.hu]
set_option maxRecDepth 100000 in
set_option maxHeartbeats 3200000 in
theorem open_any (a : Option Addr) (n c : Nat) (xs : List (List Int × Int)) (w : World) (hr : RP w a xs) (hn : xs.length = n) (hok : polyOk xs = true) :
    Calls Tryz.prog 54 #[.slice a n c] w fun e w' => ∃ r, e = .returned (.map (some r)) ∧ w.heap.size ≤ r ∧ PF w' r (monsOf xs) ∧ Below w.heap.size w w' := by
  have hnb : n ≤ 600 := by rw [← hn]; exact polyOk_len hok
  have Hn := Lib.hid hn; clear hn
  have Hok := Lib.hid hok; clear hok
  have hmm := @run_makeMap Tryz.prog
  obtain ⟨W, hW⟩ : ∃ W, w.alloc (.map #[] 0) = W := ⟨_, rfl⟩
  have hBW : Below w.heap.size w W := by rw [← hW]; exact (Below.refl _ _).alloc (Nat.le_refl _) _
  have hM : PF W w.heap.size [] := by rw [← hW]; exact PF.made w
  go_enter Tryz.func54, Tryz.ntmps54
  go_wp2
  go_loopw [9] (fun i wr => ∃ k : Nat, k ≤ n ∧ i = .int .i64 k ∧ PF wr w.heap.size (monsOf (xs.take k)) ∧ Below w.heap.size w wr) (fun i _ => n - (intOf i).toNat)
  case atStart => exact ⟨0, Nat.zero_le _, rfl, hM, hBW⟩
  case round =>
    clear hM hBW
    obtain ⟨k, hk, rfl, hM, hB⟩ := hrel
    obtain ⟨wo, rfl⟩ : ∃ wo : World, wo = wr := ⟨_, rfl⟩
    have hbs := hB.size
    have hMlt := hM.lt
    by_cases hlt : k < n
    · obtain ⟨b, off, rfl, hcell⟩ := (hr.below hB).at (k := k) (by rw [Hn.out]; exact hlt)
      obtain ⟨s, x, hx⟩ := part_at Hn.out hlt
      obtain ⟨a1, c1, hc1, hc2, hri, hcap⟩ := hcell k _ hx
      simp only at hc1 hc2 hri hcap
      obtain ⟨s7, sd, _, x1, x2, _⟩ := polyOk_each Hok.out hx
      have hkk := keyL_small sd (by omega)
      have hx64 : in64 x := by unfold in64; omega
      rw [s7] at hc1 hcap
      obtain ⟨W, hW⟩ : ∃ W, wo.alloc (.cells #[.slice a1 7 c1, .int .i64 x] 74) = W := ⟨_, rfl⟩
      have hBW : Below wo.heap.size wo W := by rw [← hW]; exact (Below.refl _ _).alloc (Nat.le_refl _) _
      have g0 : W.heap[wo.heap.size]? = some (.cells #[.slice a1 7 c1, .int .i64 x] 74) := by rw [← hW]; exact heap_alloc_new wo _
      have p0 : W.cell? ⟨wo.heap.size, 0, none⟩ = some (.slice a1 7 c1) := by rw [cell_of_row W _ 0 _ _ (0, 0) g0]; rfl
      have p1 : W.cell? ⟨wo.heap.size, 1, none⟩ = some (.int .i64 x) := by rw [cell_of_row W _ 1 _ _ (0, 0) g0]; rfl
      obtain ⟨b1, off1, rfl, hce⟩ := (hri.below hBW).at (k := 0) (by rw [s7]; omega)
      have a0 := hce 0 _ (dig_keyL s7 sd (by omega))
      have a1 := hce 1 _ (dig_keyL s7 sd (by omega))
      have a2 := hce 2 _ (dig_keyL s7 sd (by omega))
      have a3 := hce 3 _ (dig_keyL s7 sd (by omega))
      have a4 := hce 4 _ (dig_keyL s7 sd (by omega))
      have a5 := hce 5 _ (dig_keyL s7 sd (by omega))
      have a6 := hce 6 _ (dig_keyL s7 sd (by omega))
      rw [Nat.add_zero] at a0
      have hM1 : PF W.drew w.heap.size (monsOf (xs.take k)) := (hM.below hBW).below (Drew.below ⟨1, rfl⟩ _)
      have hB1 := hB.trans ((hBW.trans (Drew.below ⟨1, rfl⟩ _)).mono hbs)
      have Hnx := Lib.hid (show Eqv ((keyL s, x) :: monsOf (xs.take k)) (monsOf (xs.take (k + 1))) by
        unfold monsOf
        rw [take_at hx, List.map_append]
        exact Eqv.of_perm (List.perm_append_singleton _ _).symm)
      have Hkk := Lib.hid hkk
      have q1 : (k : Int) < (n : Int) := by omega
      have hat := run_arrayAt7 (some ⟨b1, off1, none⟩) c1 W.drew
      clear hcell hce hx hM hB hBW g0 hri s7 sd hkk
      go_wp2
      go_still_tail 7, (by kernel_rfl)
      go_wp2_with fail
      refine (add_any w.heap.size (keyL s) x _ _ hM1 Hkk.out hx64).mono ?_
      rintro e w3 ⟨rfl, hM3, hg3⟩
      have hB3 := below_of_grown hB1 hg3 hB1.size (Nat.le_refl _)
      have hM4 := hM3.eqv Hnx.out
      clear hM3 hM1 hB1 hg3
      go_wp2
      go_roundw
      case rel => exact ⟨k + 1, by omega, by go_num, hM4, hB3⟩
      case measure => simp [intOf]; omega
    · obtain rfl : k = n := by omega
      rw [List.take_of_length_le (by rw [Hn.out]; exact Nat.le_refl _)] at hM
      go_wp2
      go_ret
      exact ⟨_, rfl, Nat.le_refl _, hM, hB⟩
end Go.Proofs.YtomejjbkakpoiaaGreat
