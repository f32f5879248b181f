/-
  First ascents, exchanged one behind the other: plain.
  Polynomials below the staircase of seven: closed under divided differences, 5040 monomials at most.
  Polynomials whose exponents are bounded each, place by place: what the operators make of the bounds.
  Contract of l3Up.
-/
import Derived.Test.YtjljacmepidgcaaBuK10
namespace Go.Proofs.Ytjljacmepidgcaa
open Go.RowKit

def sw : List Int → Nat → List Int
  | a :: b :: r, 0 => b :: a :: r
  | a :: r, k + 1 => a :: sw r k
  | l, _ => l
theorem sw_swp {w : List Int} : ∀ {k : Nat}, k + 1 < w.length → swp w k (k + 1) = sw w k := by
  induction w with
  | nil => intro k h; simp at h
  | cons a r ih =>
    intro k h
    cases k with
    | zero =>
      cases r with
      | nil => simp at h
      | cons b r => rfl
    | succ k =>
      have h2 := ih (k := k) (by simpa using h)
      unfold swp at h2 ⊢
      cases r with
      | nil => simp at h
      | cons b r =>
        rw [sw, ← h2]
        rfl
theorem sw_perm (w : List Int) : ∀ k : Nat, (sw w k).Perm w := by
  induction w with
  | nil => intro k; cases k <;> exact List.Perm.refl _
  | cons a r ih =>
    intro k
    cases k with
    | zero =>
      cases r with
      | nil => exact List.Perm.refl _
      | cons b r => exact List.Perm.swap _ _ _
    | succ k => rw [sw]; exact (ih k).cons a
theorem sw_length (w : List Int) (k : Nat) : (sw w k).length = w.length := (sw_perm w k).length_eq
/-- how many pairs rise -/
def nin : List Int → Nat
  | [] => 0
  | a :: r => (r.filter fun x => decide (a < x)).length + nin r
def asc : List Int → Option Nat
  | a :: b :: r => if a < b then some 0 else (asc (b :: r)).map (· + 1)
  | _ => none
theorem asc_some {w : List Int} : ∀ {k : Nat}, asc w = some k → ∃ x y, w[k]? = some x ∧ w[k + 1]? = some y ∧ x < y ∧ ∀ (j : Nat) (u v : Int), j < k → w[j]? = some u → w[j + 1]? = some v → ¬ u < v := by
  induction w with
  | nil => intro k h; simp [asc] at h
  | cons a r ih =>
    intro k h
    cases r with
    | nil => simp [asc] at h
    | cons b r =>
      rw [asc] at h
      split at h
      · rename_i hab
        obtain rfl := Option.some.inj h
        exact ⟨a, b, rfl, rfl, hab, fun j _ _ hj => by omega⟩
      · rename_i hab
        obtain ⟨q, hq, rfl⟩ := Option.map_eq_some_iff.1 h
        obtain ⟨x, y, h1, h2, h3, h4⟩ := ih hq
        refine ⟨x, y, h1, h2, h3, fun j u v hj hu hv => ?_⟩
        cases j with
        | zero =>
          obtain rfl : a = u := Option.some.inj hu
          obtain rfl : b = v := Option.some.inj hv
          exact hab
        | succ j => exact h4 j u v (by omega) hu hv
theorem asc_none {w : List Int} (h : asc w = none) : ∀ (j : Nat) (u v : Int), w[j]? = some u → w[j + 1]? = some v → ¬ u < v := by
  induction w with
  | nil => intro j u v hu; simp at hu
  | cons a r ih =>
    intro j u v hu hv
    cases r with
    | nil => simp at hv
    | cons b r =>
      rw [asc] at h
      split at h
      · cases h
      · rename_i hab
        have h2 := Option.map_eq_none_iff.1 h
        cases j with
        | zero =>
          obtain rfl : a = u := Option.some.inj hu
          obtain rfl : b = v := Option.some.inj hv
          exact hab
        | succ j => exact ih h2 j u v hu hv
theorem asc_at {w : List Int} {k : Nat} {x y : Int} (hx : w[k]? = some x) (hy : w[k + 1]? = some y) (h : x < y) (hb : ∀ (j : Nat) (u v : Int), j < k → w[j]? = some u → w[j + 1]? = some v → ¬ u < v) : asc w = some k := by
  cases ha : asc w with
  | none => exact absurd h (asc_none ha k x y hx hy)
  | some q =>
    obtain ⟨x', y', h1, h2, h3, h4⟩ := asc_some ha
    rcases Nat.lt_trichotomy q k with hq | hq | hq
    · exact absurd h3 (hb q x' y' hq h1 h2)
    · rw [hq]
    · exact absurd h (h4 k x y hq hx hy)
theorem asc_all {w : List Int} (hb : ∀ (j : Nat) (u v : Int), w[j]? = some u → w[j + 1]? = some v → ¬ u < v) : asc w = none := by
  cases ha : asc w with
  | none => rfl
  | some q =>
    obtain ⟨x, y, h1, h2, h3, _⟩ := asc_some ha
    exact absurd h3 (hb q x y h1 h2)
theorem nin_sw {w : List Int} : ∀ {k : Nat}, asc w = some k → nin (sw w k) + 1 = nin w := by
  induction w with
  | nil => intro k h; simp [asc] at h
  | cons a r ih =>
    intro k h
    cases r with
    | nil => simp [asc] at h
    | cons b r =>
      rw [asc] at h
      split at h
      · rename_i hab
        obtain rfl := Option.some.inj h
        have hba : ¬ b < a := by omega
        simp only [sw, nin, List.filter_cons, hab, hba, decide_true, decide_false, if_true, List.length_cons]
        simp
        omega
      · rename_i hab
        obtain ⟨q, hq, rfl⟩ := Option.map_eq_some_iff.1 h
        have h1 := ih hq
        have h2 := ((sw_perm (b :: r) q).filter fun x => decide (a < x)).length_eq
        show nin (a :: sw (b :: r) q) + 1 = nin (a :: b :: r)
        rw [nin, h2]
        show _ = (List.filter (fun x => decide (a < x)) (b :: r)).length + nin (b :: r)
        omega
def upf : Nat → List Int → List Nat
  | 0, _ => []
  | f + 1, w => match asc w with
    | none => []
    | some k => k :: upf f (sw w k)
def endf : Nat → List Int → List Int
  | 0, w => w
  | f + 1, w => match asc w with
    | none => w
    | some k => endf f (sw w k)
/-- the places of the first ascents, one behind the other; and what is left, which falls -/
def ups (w : List Int) : List Nat := upf (nin w) w
def fell (w : List Int) : List Int := endf (nin w) w
theorem ups_some {w : List Int} {k : Nat} (h : asc w = some k) : ups w = k :: ups (sw w k) ∧ fell w = fell (sw w k) := by
  have h1 := nin_sw h
  unfold ups fell
  rw [← h1, upf, endf, h]
  exact ⟨rfl, rfl⟩
theorem ups_none {w : List Int} (h : asc w = none) : ups w = [] ∧ fell w = w := by
  unfold ups fell
  cases nin w with
  | zero => exact ⟨rfl, rfl⟩
  | succ n => rw [upf, endf, h]; exact ⟨rfl, rfl⟩
theorem fell_perm (w : List Int) : (fell w).Perm w := by
  have : ∀ n v, (endf n v).Perm v := by
    intro n
    induction n with
    | zero => intro v; exact List.Perm.refl _
    | succ n ih =>
      intro v
      rw [endf]
      split
      · exact List.Perm.refl _
      · exact (ih _).trans (sw_perm _ _)
  exact this _ w
theorem asc_lt {w : List Int} {k : Nat} (h : asc w = some k) : k + 1 < w.length := by
  obtain ⟨_, y, _, h2, _⟩ := asc_some h
  exact (List.getElem?_eq_some_iff.1 h2).1
theorem ups_lt (w : List Int) : ∀ k ∈ ups w, k + 1 < w.length := by
  have : ∀ n v, ∀ k ∈ upf n v, k + 1 < v.length := by
    intro n
    induction n with
    | zero => intro v k hk; cases hk
    | succ n ih =>
      intro v k hk
      rw [upf] at hk
      split at hk
      · cases hk
      · rename_i q hq
        rcases List.mem_cons.1 hk with rfl | hk
        · exact asc_lt hq
        · have := ih _ k hk
          rw [sw_length] at this
          exact this
  exact this _ w
end Go.Proofs.Ytjljacmepidgcaa

namespace Go.Proofs.Ytjljacmepidgcaa
open Go.RowKit

def B7 (F : Mons) : Prop := ∀ p ∈ F, inK p.1 ∧ ∀ j : Nat, j < 7 → dig p.1 j < 7 - (j : Int)
theorem B7.bx {F : Mons} (h : B7 F) : Bx [7, 6, 5, 4, 3, 2, 1] F := fun p hp => ⟨(h p hp).1, fun i b hb hi => by
  have h2 := (h p hp).2 i hi
  have hc : i = 0 ∨ i = 1 ∨ i = 2 ∨ i = 3 ∨ i = 4 ∨ i = 5 ∨ i = 6 := by omega
  rcases hc with rfl | rfl | rfl | rfl | rfl | rfl | rfl <;> simp at hb <;> omega⟩
theorem B7.count {F : Mons} (h : B7 F) : (canon F).length ≤ 5040 := h.bx.count rfl
theorem B7.canon {F : Mons} (h : B7 F) : B7 (canon F) := fun p hp => by
  obtain ⟨q, hq, e⟩ := mem_canon hp
  rw [← e]
  exact h q hq
theorem B7.divided {F : Mons} (h : B7 F) {i : Nat} (hi : i ≤ 5) : B7 (dividedM i F) := fun p hp => by
  obtain ⟨q, hq, hp⟩ := List.mem_flatMap.1 hp
  obtain ⟨k, hk, rfl⟩ := List.mem_map.1 hp
  obtain ⟨h1, h2⟩ := h q hq
  obtain ⟨h3, h4, h5, h6⟩ := dd_key h1 hi hk
  refine ⟨h3, fun j hj => ?_⟩
  have b1 := h2 i (by omega)
  have b2 := h2 (i + 1) (by omega)
  by_cases e : j = i
  · subst e; show dig k j < _; omega
  · by_cases e' : j = i + 1
    · subst e'; show dig k (i + 1) < _; omega
    · show dig k j < _
      rw [h6 j hj e e']
      exact h2 j hj
theorem B7.bd {F : Mons} (h : B7 F) : Bd 24 F := fun p hp => ⟨(h p hp).1, fun j hj => by have := (h p hp).2 j hj; omega⟩
theorem partK_digs : ∀ n, n < 8 → ∀ j : Nat, j < 7 → dig (partK n n) j < 7 - (j : Int) := by decide
theorem B7.stair {n : Nat} (hn : n ≤ 7) : B7 [(partK n n, 1)] := fun p hp => by
  rw [List.mem_singleton] at hp
  subst hp
  obtain ⟨h1, h2, _⟩ := partK_in n (by omega) n (by omega) (Nat.le_refl _)
  exact ⟨⟨h1, h2⟩, partK_digs n (by omega)⟩
def lowM (op : Nat → Mons → Mons) (w : List Int) (F : Mons) : Mons := (ups w).foldr op F
theorem B7.low {F : Mons} (h : B7 F) : ∀ l : List Nat, (∀ k ∈ l, k ≤ 5) → B7 (l.foldr dividedM F) := by
  intro l
  induction l with
  | nil => intro _; exact h
  | cons k l ih => intro hl; exact (ih fun q hq => hl q (List.mem_cons_of_mem _ hq)).divided (hl k List.mem_cons_self)
theorem canon_one {k c : Int} (h0 : c ≠ 0) (hc : in64 c) : canon [(k, c)] = [(k, c)] :=
  (canon_unique (List.pairwise_singleton _ _) (fun p hp => by rw [List.mem_singleton] at hp; subst hp; exact ⟨h0, hc.1, hc.2⟩) (Eqv.refl _)).symm
end Go.Proofs.Ytjljacmepidgcaa

namespace Go.Proofs.Ytjljacmepidgcaa
open Go.RowKit

def Bv (b : Nat → Nat) (F : Mons) : Prop := ∀ p ∈ F, inK p.1 ∧ ∀ j : Nat, j < 7 → dig p.1 j ≤ ((b j : Nat) : Int)
theorem Bv.mono {b c : Nat → Nat} {F : Mons} (h : Bv b F) (hbc : ∀ j, j < 7 → b j ≤ c j) : Bv c F := fun p hp => ⟨(h p hp).1, fun j hj => by have := (h p hp).2 j hj; have := hbc j hj; omega⟩
theorem Bv.nil (b : Nat → Nat) : Bv b [] := fun p hp => by cases hp
theorem Bv.canon {b : Nat → Nat} {F : Mons} (h : Bv b F) : Bv b (canon F) := fun p hp => by
  obtain ⟨q, hq, e⟩ := mem_canon hp
  rw [← e]
  exact h q hq
theorem Bv.plus {b : Nat → Nat} {c : Int} {F G : Mons} (h : Bv b F) (h' : Bv b G) : Bv b (plusM F c G) := fun p hp => by
  rcases List.mem_append.1 hp with hp | hp
  · exact h p hp
  · obtain ⟨q, hq, rfl⟩ := List.mem_map.1 hp
    exact h' q hq
theorem Bv.raised {b c : Nat → Nat} {F : Mons} (h : Bv b F) {i : Nat} (hi : i ≤ 6) (hb : b i ≤ 126) (hc : ∀ j, j < 7 → j ≠ i → b j ≤ c j) (hc' : b i + 1 ≤ c i) : Bv c (raisedM i F) := fun p hp => by
  obtain ⟨q, hq, rfl⟩ := List.mem_map.1 hp
  obtain ⟨h1, h2⟩ := h q hq
  have h0 := h2 i (by omega)
  obtain ⟨h3, h4, h5⟩ := key_raise h1 hi (by omega)
  refine ⟨h3, fun j hj => ?_⟩
  by_cases e : j = i
  · subst e
    show dig (q.1 + unit j) j ≤ _
    rw [h4]
    omega
  · show dig (q.1 + unit i) j ≤ _
    rw [h5 j hj e]
    have := h2 j hj
    have := hc j hj e
    omega
theorem Bv.divided {b c : Nat → Nat} {F : Mons} (h : Bv b F) {i : Nat} (hi : i ≤ 5) (hc : ∀ j, j < 7 → j ≠ i → j ≠ i + 1 → b j ≤ c j) (h1 : b i ≤ c i + 1) (h2 : b (i + 1) ≤ c i + 1) (h3 : b i ≤ c (i + 1) + 1) (h4 : b (i + 1) ≤ c (i + 1) + 1) : Bv c (dividedM i F) := fun p hp => by
  obtain ⟨q, hq, hp⟩ := List.mem_flatMap.1 hp
  obtain ⟨k, hk, rfl⟩ := List.mem_map.1 hp
  obtain ⟨g1, g2⟩ := h q hq
  obtain ⟨g3, g4, g5, g6⟩ := dd_key g1 hi hk
  refine ⟨g3, fun j hj => ?_⟩
  have b1 := g2 i (by omega)
  have b2 := g2 (i + 1) (by omega)
  by_cases e : j = i
  · subst e; show dig k j ≤ _; omega
  · by_cases e' : j = i + 1
    · subst e'; show dig k (i + 1) ≤ _; omega
    · show dig k j ≤ _
      rw [g6 j hj e e']
      have := g2 j hj
      have := hc j hj e e'
      omega
theorem Bv.count {b : Nat → Nat} {F : Mons} (h : Bv b F) : (Go.Proofs.Ytjljacmepidgcaa.canon F).length ≤ (b 0 + 1) * ((b 1 + 1) * ((b 2 + 1) * ((b 3 + 1) * ((b 4 + 1) * ((b 5 + 1) * (b 6 + 1)))))) := by
  have hx : Bx [b 0 + 1, b 1 + 1, b 2 + 1, b 3 + 1, b 4 + 1, b 5 + 1, b 6 + 1] F := fun p hp => ⟨(h p hp).1, fun i d hd hi => by
    have h2 := (h p hp).2 i hi
    have hc : i = 0 ∨ i = 1 ∨ i = 2 ∨ i = 3 ∨ i = 4 ∨ i = 5 ∨ i = 6 := by omega
    rcases hc with rfl | rfl | rfl | rfl | rfl | rfl | rfl <;> simp at hd <;> omega⟩
  have := hx.count rfl
  simpa using this
theorem Bv.bd {b : Nat → Nat} {F : Mons} (h : Bv b F) (hb : ∀ j, j < 7 → b j ≤ 126) : Bd 126 F := fun p hp => ⟨(h p hp).1, fun j hj => by have := (h p hp).2 j hj; have := hb j hj; omega⟩

/-! below the staircase of n -/
def sb (n : Nat) (j : Nat) : Nat := n - 1 - j
theorem partK_sb : ∀ n, n < 8 → ∀ j : Nat, j < 7 → dig (partK n n) j = ((n - 1 - j : Nat) : Int) := by decide
theorem Bv.stair {n : Nat} (hn : n ≤ 7) : Bv (sb n) [(partK n n, 1)] := fun p hp => by
  rw [List.mem_singleton] at hp
  subst hp
  obtain ⟨h1, h2, _⟩ := partK_in n (by omega) n (by omega) (Nat.le_refl _)
  exact ⟨⟨h1, h2⟩, fun j hj => by rw [partK_sb n (by omega) j hj]; exact Int.le_refl _⟩
theorem Bv.sb_divided {n : Nat} {F : Mons} (h : Bv (sb n) F) {i : Nat} (hi : i ≤ 5) (hn : i + 1 < n) : Bv (sb n) (dividedM i F) :=
  h.divided hi (fun _ _ _ _ => Nat.le_refl _) (by unfold sb; omega) (by unfold sb; omega) (by unfold sb; omega) (by unfold sb; omega)
theorem Bv.sb_iso {n : Nat} (hn7 : n ≤ 7) {F : Mons} (h : Bv (sb n) F) {i : Nat} (hi : i ≤ 5) (hn : i + 1 < n) : Bv (sb n) (isoM i F) := by
  have h1 : Bv (fun j => if j = i + 1 then sb n j + 1 else sb n j) (raisedM (i + 1) F) := h.raised (by omega) (by unfold sb; omega) (fun j _ hne => by simp [hne]) (by simp)
  have h2 : Bv (fun j => if j = i + 1 then sb n j + 1 else sb n j) F := h.mono fun j _ => by by_cases e : j = i + 1 <;> simp [e]
  refine (h2.plus (c := -1) h1).divided hi (fun j _ _ h4 => by simp [h4]) ?_ ?_ ?_ ?_ <;> simp [sb] <;> omega
theorem Bv.dem_same {b : Nat → Nat} {F : Mons} {i : Nat} (h : Bv b F) (hi : i ≤ 5) (hb : b i ≤ 126) (he : b (i + 1) = b i) : Bv b (demM i F) := by
  have h1 : Bv (fun j => if j = i then b j + 1 else b j) (raisedM i F) := h.raised (by omega) hb (fun j _ hne => by simp [hne]) (by simp)
  refine h1.divided hi (fun j _ h3 _ => by simp [h3]) ?_ ?_ ?_ ?_ <;> simp [he]
end Go.Proofs.Ytjljacmepidgcaa

namespace Go.Proofs.Ytjljacmepidgcaa
open Go.RowKit

def lenOf : Value → Nat
  | .slice _ n _ => n
  | _ => 0
def natI (l : List Nat) : List Int := l.map fun k : Nat => (k : Int)
theorem natI_append (l : List Nat) (k : Nat) : natI (l ++ [k]) = natI l ++ [(k : Int)] := by simp [natI]
/-- no ascent ahead of place k -/
def flat (v : List Int) (k : Nat) : Prop := ∀ (j : Nat) (p q : Int), j < k → v[j]? = some p → v[j + 1]? = some q → ¬ p < q

set_option maxRecDepth 100000 in
set_option maxHeartbeats 6400000 in
theorem l3Up_any (a : Option Addr) (n c : Nat) (xs : List Int) (w : World) (hr : RI w a xs) (hn : xs.length = n) (hb : n ≤ 1000) (hN : nin xs ≤ 1000000) :
    Calls Try.prog 49 #[.slice a n c] w fun e w' => ∃ a' m c', e = .returned (.slice a' m c') ∧ OwI w' w.heap.size w'.heap.size a' m c' (natI (ups xs)) ∧ Below w.heap.size w w' := by
  have Hn := Lib.hid hn; clear hn
  obtain ⟨N, hN'⟩ : ∃ N, nin xs = N := ⟨_, rfl⟩
  rw [hN'] at hN
  have HN := Lib.hid hN'
  clear hN'
  have h1 : OwI (w.alloc (.cells #[] 3)) w.heap.size (w.alloc (.cells #[] 3)).heap.size (some ⟨w.heap.size, 0, none⟩) 0 0 [] := OwI.mk (World.ownsRow_made _ #[] 0 (Nat.le_refl _) (Nat.zero_le _) rfl)
  have hB0 : Below w.heap.size w (w.alloc (.cells #[] 3)) := (Below.refl _ _).alloc (Nat.le_refl _) _
  have hr0 := hr.below hB0
  go_enter Try.func49, Try.ntmps49
  go_wp2_with fail
  refine (l1Ints_any _ _ _ xs _ hr0 Hn.out (by omega)).mono ?_
  rintro e w1 ⟨a1, c1, rfl, ho1, hb1⟩
  have hB1 := hB0.trans (hb1.mono hB0.size)
  have hO1 := (h1.below hb1).mono (B' := w.heap.size) (S' := w1.heap.size) (Nat.le_refl _) hb1.size
  have hne : ∀ g, (Value.slice a1 n c1).ownBlock = some g → (Value.slice (some ⟨w.heap.size, 0, none⟩) 0 0).ownBlock ≠ some g := by
    intro g hg e
    have h2 := ho1.1.lo g hg
    simp [Value.ownBlock] at e
    subst e
    simp at h2
    omega
  have hsz : w.heap.size ≤ (w.alloc (.cells #[] 3)).heap.size := hB0.size
  have hV1 := ho1.mono (B' := w.heap.size) (S' := w1.heap.size) hsz (Nat.le_refl _)
  clear h1 hr0 hB0 ho1 hb1 hsz
  go_wp2
  go_loopw [3, 4, 5] (fun ov vv kv wr => Hid (∃ (k : Nat) (don : List Nat) (v : List Int) (a1 : Option Addr) (m c1 : Nat) (a2 : Option Addr) (c2 : Nat), kv = .int .i64 k ∧ k ≤ n ∧ ov = .slice a1 m c1 ∧ vv = .slice a2 n c2 ∧ OwI wr w.heap.size wr.heap.size a1 m c1 (natI don) ∧ OwI wr w.heap.size wr.heap.size a2 n c2 v ∧ (∀ g, (Value.slice a2 n c2).ownBlock = some g → (Value.slice a1 m c1).ownBlock ≠ some g) ∧ ups xs = don ++ ups v ∧ flat v k ∧ m + nin v = N) ∧ Below w.heap.size w wr) (fun ov _ kv _ => (N - lenOf ov) * (n + 1) + (n - (intOf kv).toNat))
  case atStart => exact ⟨⟨0, [], xs, _, 0, _, _, _, rfl, Nat.zero_le _, rfl, rfl, hO1, hV1, hne, rfl, fun j _ _ hj => by omega, by rw [HN.out]; omega⟩, hB1⟩
  case round =>
    clear hO1 hV1 hne hB1
    obtain ⟨HV, hB⟩ := hrel
    obtain ⟨wo, rfl⟩ : ∃ wo : World, wo = wr := ⟨_, rfl⟩
    obtain ⟨k, don, v, a1, m, c1, a2, c2, rfl, hk, rfl, rfl, hO, hV, hne, hup, hfl, hmN⟩ := HV.out
    clear HV
    have Hvl := Lib.hid hV.len
    have Hup := Lib.hid hup
    have Hfl := Lib.hid hfl
    have Hml := Lib.hid hO.len
    clear hup hfl
    have hbs := hB.size
    by_cases hlt : k + 1 < n
    · obtain ⟨x, hx⟩ := some_at Hvl.out (show k < n by omega)
      obtain ⟨y, hy⟩ := some_at Hvl.out hlt
      obtain ⟨b, off, hab, hcell⟩ := hV.rd.at (k := k) (by rw [Hvl.out]; omega)
      have p1 := hcell k x hx
      have p2 := hcell (k + 1) y hy
      have q1 : (k : Int) + 1 < (n : Int) := by omega
      have q2 : (k : Int) < (n : Int) := by omega
      have q3 : IntKind.i64.wrap ((k : Int) + 1) = ((k + 1 : Nat) : Int) := by rw [IntWalk.i64_in _ (by omega)]; omega
      have q4 : ((k + 1 : Nat) : Int) < (n : Int) := by omega
      have Hx := Lib.hid hx
      have Hy := Lib.hid hy
      clear hcell hx hy
      subst hab
      by_cases hxy : x < y
      · have Hasc := Lib.hid (asc_at Hx.out Hy.out hxy Hfl.out)
        have hnin := nin_sw Hasc.out
        have Hus := Lib.hid (ups_some Hasc.out).1
        have Hsw := Lib.hid (sw_swp (w := v) (k := k) (by rw [Hvl.out]; exact hlt))
        have HO := Lib.hid (fun d : Nat => hO.below (Drew.below (Drew.drewN wo d) _))
        have HVr := Lib.hid (fun d : Nat => hV.rd.below (Drew.below (Drew.drewN wo d) _))
        have hBd : ∀ d : Nat, Below w.heap.size w (wo.drewN d) := fun d => hB.trans (Drew.below (Drew.drewN wo d) _)
        have HBd := Lib.hid hBd
        have hg : decide (x < y) = true := by simp [hxy]
        clear hO hV hne hBd
        go_wp2
        go_quiet (fail)
        go_wp2_with fail
        refine (l1Swap_any _ _ _ v k (k + 1) _ _ _ (HVr.out _) Hvl.out (by omega) rfl rfl (by omega) hlt).mono ?_
        rintro e w2 ⟨a3, c3, rfl, ho3, hb3⟩
        rw [Hsw.out] at ho3
        have HO2 := Lib.hid ((HO.out _).below hb3)
        have hB2 := (HBd.out _).trans (hb3.mono (HBd.out _).size)
        have Ho3 := Lib.hid ho3
        have hs2 := hB2.size
        have hne2 : ∀ g, (Value.slice a3 n c3).ownBlock = some g → (Value.slice a1 m c1).ownBlock ≠ some g := by
          intro g hg e
          have e1 := Ho3.out.1.lo g hg
          have e2 := (HO.out 0).2 g e
          simp at e1 e2
          omega
        have Hne2 := Lib.hid hne2
        clear ho3 hb3 hne2 HVr HO
        go_wp2_with (first | (at_builtin; go_loud (refine wpList_pushI (by rfl) (by rfl) _ _ (by rfl) HO2.out (by rfl) (by rfl) (by omega) hs2 ?_)))
        intro a4 c4 w4 ho4 hg4
        have hB4 := below_grown hB2 hg4.grown hs2 HO2.out.1.lo
        have hv4 : OwI w4 w.heap.size w4.heap.size a3 n c3 (sw v k) := by
          have h5 : OwI w4 _ _ a3 n c3 (sw v k) := ⟨Ho3.out.1.kept hg4.grown (fun g hg e => Hne2.out g hg e), Ho3.out.2⟩
          exact h5.mono hbs hg4.grown.size
        have hne4 : ∀ g, (Value.slice a3 n c3).ownBlock = some g → (Value.slice a4 (m + 1) c4).ownBlock ≠ some g := by
          intro g hg e
          rcases hg4.home with h6 | h6
          · rw [h6] at e
            exact Hne2.out g hg e
          · have e1 := h6 g e
            have e2 := Ho3.out.2 g hg
            omega
        rw [← natI_append] at ho4
        have HF := Lib.hid (And.intro ho4 (And.intro hv4 hne4))
        clear ho4 hv4 hne4 HO2 Ho3 Hne2 hg4 HBd
        go_wp2
        go_roundw
        case rel => exact ⟨⟨0, don ++ [k], sw v k, _, m + 1, _, _, _, by go_num, Nat.zero_le _, rfl, rfl, HF.out.1, HF.out.2.1, HF.out.2.2, by rw [Hup.out, Hus.out, List.append_assoc]; rfl, fun j _ _ hj => by omega, by omega⟩, hB4⟩
        case measure =>
          simp only [lenOf, intOf]
          obtain ⟨r, hr'⟩ : ∃ r, N - m = r + 1 := ⟨N - m - 1, by omega⟩
          have e2 : N - (m + 1) = r := by omega
          rw [hr', e2, Nat.succ_mul]
          simp
          omega
      · have HF := Lib.hid (And.intro (hO.below (Drew.below (Drew.drewN wo 1) _)) (And.intro (hV.below (Drew.below (Drew.drewN wo 1) _)) hne))
        have Hfl2 := Lib.hid (show flat v (k + 1) from fun j p q hj hp hq => by
          rcases Nat.lt_or_ge j k with h | h
          · exact Hfl.out j p q h hp hq
          · obtain rfl : j = k := by omega
            rw [Hx.out] at hp
            rw [Hy.out] at hq
            obtain rfl := Option.some.inj hp
            obtain rfl := Option.some.inj hq
            exact hxy)
        have hBd : ∀ d : Nat, Below w.heap.size w (wo.drewN d) := fun d => hB.trans (Drew.below (Drew.drewN wo d) _)
        have HG := Lib.hid (fun d : Nat => And.intro (hO.below (Drew.below (Drew.drewN wo d) _)) (And.intro (hV.below (Drew.below (Drew.drewN wo d) _)) hne))
        have HBd := Lib.hid hBd
        have hg : decide (x < y) = false := by simp [hxy]
        clear hO hV hne hBd HF
        go_wp2
        go_quiet (fail)
        go_wp2
        go_roundw
        case rel => exact ⟨⟨k + 1, don, v, _, m, _, _, _, by go_num, by omega, rfl, rfl, (HG.out _).1, (HG.out _).2.1, (HG.out 0).2.2, Hup.out, Hfl2.out, hmN⟩, HBd.out _⟩
        case measure =>
          simp only [lenOf, intOf]
          simp
          omega
    · have Hnone := Lib.hid (ups_none (asc_all (w := v) (fun j p q hp hq => by
        have := (List.getElem?_eq_some_iff.1 hq).1
        rw [Hvl.out] at this
        exact Hfl.out j p q (by omega) hp hq))).1
      have hfin : OwI wo w.heap.size wo.heap.size a1 m c1 (natI (ups xs)) := by rw [Hup.out, Hnone.out, List.append_nil]; exact hO
      have q1 : ¬ (k : Int) + 1 < (n : Int) := by omega
      have HF := Lib.hid hfin
      clear hfin hO hV hne
      go_wp2
      go_ret
      exact ⟨_, _, _, rfl, HF.out, hB⟩
end Go.Proofs.Ytjljacmepidgcaa
