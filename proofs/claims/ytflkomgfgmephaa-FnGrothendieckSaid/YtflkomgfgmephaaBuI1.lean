/-
  How many monomials a polynomial has whose exponents are bounded each.
  First ascents, exchanged one behind the other: plain.
  Contract of l3Up.
  The staircase as a key. Plain.
  Polynomials below the staircase of seven: closed under divided differences, 5040 monomials at most.
  Schubert polynomials out of the staircase. Plain.
  Contract of staircase.
-/
import Derived.Test.YtflkomgfgmephaaClosed
import Derived.Test.YtflkomgfgmephaaBuI3
import Derived.Test.YtflkomgfgmephaaBuC
import Derived.Test.YtflkomgfgmephaaTrim
namespace Go.Proofs.Ytflkomgfgmephaa
open Go.RowKit

/-- all keys whose exponents stay below the bounds (bound + 1 each) -/
def box : List Nat → List Int
  | [] => [0]
  | b :: r => (List.range b).flatMap fun x : Nat => (box r).map fun y => (x : Int) + 128 * y
theorem box_length (bs : List Nat) : (box bs).length = bs.foldr (fun b t => b * t) 1 := by
  induction bs with
  | nil => rfl
  | cons b r ih =>
    rw [box, List.foldr_cons, ← ih]
    generalize box r = l
    have : ∀ n, ((List.range n).flatMap fun x : Nat => l.map fun y => (x : Int) + 128 * y).length = n * l.length := by
      intro n
      induction n with
      | zero => simp
      | succ n ih2 => rw [List.range_succ, List.flatMap_append, List.length_append, ih2, Nat.succ_mul]; simp
    exact this b
theorem keyL_box {bs : List Nat} : ∀ {s : List Int}, s.length = bs.length → (∀ (i : Nat) (x : Int) (b : Nat), s[i]? = some x → bs[i]? = some b → 0 ≤ x ∧ x < b) → keyL s ∈ box bs := by
  induction bs with
  | nil =>
    intro s hl _
    obtain rfl := List.eq_nil_of_length_eq_zero hl
    exact List.mem_singleton.2 rfl
  | cons b r ih =>
    intro s hl h
    cases s with
    | nil => simp at hl
    | cons x s =>
      have h0 := h 0 x b rfl rfl
      have h1 := ih (s := s) (by simpa using hl) (fun i y c hi hc => h (i + 1) y c (by simpa using hi) (by simpa using hc))
      rw [keyL, box, List.mem_flatMap]
      exact ⟨x.toNat, by rw [List.mem_range]; omega, List.mem_map.2 ⟨keyL s, h1, by omega⟩⟩
/-- the exponents at each place are below the bounds -/
def Bx (bs : List Nat) (F : Mons) : Prop := ∀ p ∈ F, inK p.1 ∧ ∀ (i b : Nat), bs[i]? = some b → i < 7 → dig p.1 i < b
theorem Bx.canon {bs : List Nat} {F : Mons} (h : Bx bs F) : Bx bs (canon F) := fun p hp => by
  obtain ⟨q, hq, e⟩ := mem_canon hp
  rw [← e]
  exact h q hq
theorem nodup_sub {l : List Int} : ∀ {m : List Int}, l.Nodup → (∀ x ∈ l, x ∈ m) → l.length ≤ m.length := by
  induction l with
  | nil => intro m _ _; exact Nat.zero_le _
  | cons a t ih =>
    intro m hn h
    rw [List.nodup_cons] at hn
    have ha := h a List.mem_cons_self
    have h1 := ih (m := m.erase a) hn.2 (fun x hx => (List.mem_erase_of_ne (fun e => hn.1 (by rw [← e]; exact hx))).2 (h x (List.mem_cons_of_mem _ hx)))
    rw [List.length_erase_of_mem ha] at h1
    have h2 := List.length_pos_of_mem ha
    rw [List.length_cons]
    omega
theorem Bx.count {bs : List Nat} {F : Mons} (h : Bx bs F) (h7 : bs.length = 7) : (Go.Proofs.Ytflkomgfgmephaa.canon F).length ≤ bs.foldr (fun b t => b * t) 1 := by
  rw [← box_length]
  have hn := canon_nodup F
  have := nodup_sub (m := box bs) hn (fun k hk => by
    obtain ⟨p, hp, rfl⟩ := List.mem_map.1 hk
    obtain ⟨h1, h2⟩ := h.canon p hp
    rw [← keyL_digs h1]
    refine keyL_box (by rw [digs_length, h7]) (fun i x b hi hb => ?_)
    have hi7 := lt_of_some hi
    rw [digs_length] at hi7
    rw [digs_at hi7] at hi
    obtain rfl := Option.some.inj hi
    exact ⟨(dig_isD p.1 i).1, h2 i b hb hi7⟩)
  rw [List.length_map] at this
  exact this
end Go.Proofs.Ytflkomgfgmephaa

namespace Go.Proofs.Ytflkomgfgmephaa
open Go.RowKit

def sw : List Int → Nat → List Int
  | a :: b :: r, 0 => b :: a :: r
  | a :: r, k + 1 => a :: sw r k
  | l, _ => l
theorem sw_swp {w : List Int} : ∀ {k : Nat}, k + 1 < w.length → swp w k (k + 1) = sw w k := by
  induction w with
  | nil => intro k h; simp at h
  | cons a r ih =>
    intro k h
    cases k with
    | zero =>
      cases r with
      | nil => simp at h
      | cons b r => rfl
    | succ k =>
      have h2 := ih (k := k) (by simpa using h)
      unfold swp at h2 ⊢
      cases r with
      | nil => simp at h
      | cons b r =>
        rw [sw, ← h2]
        rfl
theorem sw_perm (w : List Int) : ∀ k : Nat, (sw w k).Perm w := by
  induction w with
  | nil => intro k; cases k <;> exact List.Perm.refl _
  | cons a r ih =>
    intro k
    cases k with
    | zero =>
      cases r with
      | nil => exact List.Perm.refl _
      | cons b r => exact List.Perm.swap _ _ _
    | succ k => rw [sw]; exact (ih k).cons a
theorem sw_length (w : List Int) (k : Nat) : (sw w k).length = w.length := (sw_perm w k).length_eq
/-- how many pairs rise -/
def nin : List Int → Nat
  | [] => 0
  | a :: r => (r.filter fun x => decide (a < x)).length + nin r
def asc : List Int → Option Nat
  | a :: b :: r => if a < b then some 0 else (asc (b :: r)).map (· + 1)
  | _ => none
theorem asc_some {w : List Int} : ∀ {k : Nat}, asc w = some k → ∃ x y, w[k]? = some x ∧ w[k + 1]? = some y ∧ x < y ∧ ∀ (j : Nat) (u v : Int), j < k → w[j]? = some u → w[j + 1]? = some v → ¬ u < v := by
  induction w with
  | nil => intro k h; simp [asc] at h
  | cons a r ih =>
    intro k h
    cases r with
    | nil => simp [asc] at h
    | cons b r =>
      rw [asc] at h
      split at h
      · rename_i hab
        obtain rfl := Option.some.inj h
        exact ⟨a, b, rfl, rfl, hab, fun j _ _ hj => by omega⟩
      · rename_i hab
        obtain ⟨q, hq, rfl⟩ := Option.map_eq_some_iff.1 h
        obtain ⟨x, y, h1, h2, h3, h4⟩ := ih hq
        refine ⟨x, y, h1, h2, h3, fun j u v hj hu hv => ?_⟩
        cases j with
        | zero =>
          obtain rfl : a = u := Option.some.inj hu
          obtain rfl : b = v := Option.some.inj hv
          exact hab
        | succ j => exact h4 j u v (by omega) hu hv
theorem asc_none {w : List Int} (h : asc w = none) : ∀ (j : Nat) (u v : Int), w[j]? = some u → w[j + 1]? = some v → ¬ u < v := by
  induction w with
  | nil => intro j u v hu; simp at hu
  | cons a r ih =>
    intro j u v hu hv
    cases r with
    | nil => simp at hv
    | cons b r =>
      rw [asc] at h
      split at h
      · cases h
      · rename_i hab
        have h2 := Option.map_eq_none_iff.1 h
        cases j with
        | zero =>
          obtain rfl : a = u := Option.some.inj hu
          obtain rfl : b = v := Option.some.inj hv
          exact hab
        | succ j => exact ih h2 j u v hu hv
theorem asc_at {w : List Int} {k : Nat} {x y : Int} (hx : w[k]? = some x) (hy : w[k + 1]? = some y) (h : x < y) (hb : ∀ (j : Nat) (u v : Int), j < k → w[j]? = some u → w[j + 1]? = some v → ¬ u < v) : asc w = some k := by
  cases ha : asc w with
  | none => exact absurd h (asc_none ha k x y hx hy)
  | some q =>
    obtain ⟨x', y', h1, h2, h3, h4⟩ := asc_some ha
    rcases Nat.lt_trichotomy q k with hq | hq | hq
    · exact absurd h3 (hb q x' y' hq h1 h2)
    · rw [hq]
    · exact absurd h (h4 k x y hq hx hy)
theorem asc_all {w : List Int} (hb : ∀ (j : Nat) (u v : Int), w[j]? = some u → w[j + 1]? = some v → ¬ u < v) : asc w = none := by
  cases ha : asc w with
  | none => rfl
  | some q =>
    obtain ⟨x, y, h1, h2, h3, _⟩ := asc_some ha
    exact absurd h3 (hb q x y h1 h2)
theorem nin_sw {w : List Int} : ∀ {k : Nat}, asc w = some k → nin (sw w k) + 1 = nin w := by
  induction w with
  | nil => intro k h; simp [asc] at h
  | cons a r ih =>
    intro k h
    cases r with
    | nil => simp [asc] at h
    | cons b r =>
      rw [asc] at h
      split at h
      · rename_i hab
        obtain rfl := Option.some.inj h
        have hba : ¬ b < a := by omega
        simp only [sw, nin, List.filter_cons, hab, hba, decide_true, decide_false, if_true, List.length_cons]
        simp
        omega
      · rename_i hab
        obtain ⟨q, hq, rfl⟩ := Option.map_eq_some_iff.1 h
        have h1 := ih hq
        have h2 := ((sw_perm (b :: r) q).filter fun x => decide (a < x)).length_eq
        show nin (a :: sw (b :: r) q) + 1 = nin (a :: b :: r)
        rw [nin, h2]
        show _ = (List.filter (fun x => decide (a < x)) (b :: r)).length + nin (b :: r)
        omega
def upf : Nat → List Int → List Nat
  | 0, _ => []
  | f + 1, w => match asc w with
    | none => []
    | some k => k :: upf f (sw w k)
def endf : Nat → List Int → List Int
  | 0, w => w
  | f + 1, w => match asc w with
    | none => w
    | some k => endf f (sw w k)
/-- the places of the first ascents, one behind the other; and what is left, which falls -/
def ups (w : List Int) : List Nat := upf (nin w) w
def fell (w : List Int) : List Int := endf (nin w) w
theorem ups_some {w : List Int} {k : Nat} (h : asc w = some k) : ups w = k :: ups (sw w k) ∧ fell w = fell (sw w k) := by
  have h1 := nin_sw h
  unfold ups fell
  rw [← h1, upf, endf, h]
  exact ⟨rfl, rfl⟩
theorem ups_none {w : List Int} (h : asc w = none) : ups w = [] ∧ fell w = w := by
  unfold ups fell
  cases nin w with
  | zero => exact ⟨rfl, rfl⟩
  | succ n => rw [upf, endf, h]; exact ⟨rfl, rfl⟩
theorem fell_perm (w : List Int) : (fell w).Perm w := by
  have : ∀ n v, (endf n v).Perm v := by
    intro n
    induction n with
    | zero => intro v; exact List.Perm.refl _
    | succ n ih =>
      intro v
      rw [endf]
      split
      · exact List.Perm.refl _
      · exact (ih _).trans (sw_perm _ _)
  exact this _ w
theorem asc_lt {w : List Int} {k : Nat} (h : asc w = some k) : k + 1 < w.length := by
  obtain ⟨_, y, _, h2, _⟩ := asc_some h
  exact (List.getElem?_eq_some_iff.1 h2).1
theorem ups_lt (w : List Int) : ∀ k ∈ ups w, k + 1 < w.length := by
  have : ∀ n v, ∀ k ∈ upf n v, k + 1 < v.length := by
    intro n
    induction n with
    | zero => intro v k hk; cases hk
    | succ n ih =>
      intro v k hk
      rw [upf] at hk
      split at hk
      · cases hk
      · rename_i q hq
        rcases List.mem_cons.1 hk with rfl | hk
        · exact asc_lt hq
        · have := ih _ k hk
          rw [sw_length] at this
          exact this
  exact this _ w
end Go.Proofs.Ytflkomgfgmephaa

namespace Go.Proofs.Ytflkomgfgmephaa
open Go.RowKit

def lenOf : Value → Nat
  | .slice _ n _ => n
  | _ => 0
def natI (l : List Nat) : List Int := l.map fun k : Nat => (k : Int)
theorem natI_append (l : List Nat) (k : Nat) : natI (l ++ [k]) = natI l ++ [(k : Int)] := by simp [natI]
/-- no ascent ahead of place k -/
def flat (v : List Int) (k : Nat) : Prop := ∀ (j : Nat) (p q : Int), j < k → v[j]? = some p → v[j + 1]? = some q → ¬ p < q

end Go.Proofs.Ytflkomgfgmephaa

namespace Go.Proofs.Ytflkomgfgmephaa
open Go.RowKit

/-- the first j exponents of the staircase of n, as a key -/
def partK (n j : Nat) : Int := (List.range j).foldl (fun k i => k + ((n : Int) - 1 - i) * unit i) 0
theorem partK_succ (n j : Nat) : partK n (j + 1) = partK n j + ((n : Int) - 1 - j) * unit j := by
  unfold partK
  rw [List.range_succ, List.foldl_append]
  rfl
theorem partK_in : ∀ n, n < 8 → ∀ j, j < 8 → j ≤ n → 0 ≤ partK n j ∧ partK n j < 562949953421312 ∧ 0 ≤ ((n : Int) - 1 - j) * unit j + 128 ^ 7 ∧ ((n : Int) - 1 - j) * unit j < 562949953421312 := by decide
end Go.Proofs.Ytflkomgfgmephaa

namespace Go.Proofs.Ytflkomgfgmephaa
open Go.RowKit

def B7 (F : Mons) : Prop := ∀ p ∈ F, inK p.1 ∧ ∀ j : Nat, j < 7 → dig p.1 j < 7 - (j : Int)
theorem B7.bx {F : Mons} (h : B7 F) : Bx [7, 6, 5, 4, 3, 2, 1] F := fun p hp => ⟨(h p hp).1, fun i b hb hi => by
  have h2 := (h p hp).2 i hi
  have hc : i = 0 ∨ i = 1 ∨ i = 2 ∨ i = 3 ∨ i = 4 ∨ i = 5 ∨ i = 6 := by omega
  rcases hc with rfl | rfl | rfl | rfl | rfl | rfl | rfl <;> simp at hb <;> omega⟩
theorem B7.count {F : Mons} (h : B7 F) : (canon F).length ≤ 5040 := h.bx.count rfl
theorem B7.canon {F : Mons} (h : B7 F) : B7 (canon F) := fun p hp => by
  obtain ⟨q, hq, e⟩ := mem_canon hp
  rw [← e]
  exact h q hq
theorem B7.divided {F : Mons} (h : B7 F) {i : Nat} (hi : i ≤ 5) : B7 (dividedM i F) := fun p hp => by
  obtain ⟨q, hq, hp⟩ := List.mem_flatMap.1 hp
  obtain ⟨k, hk, rfl⟩ := List.mem_map.1 hp
  obtain ⟨h1, h2⟩ := h q hq
  obtain ⟨h3, h4, h5, h6⟩ := dd_key h1 hi hk
  refine ⟨h3, fun j hj => ?_⟩
  have b1 := h2 i (by omega)
  have b2 := h2 (i + 1) (by omega)
  by_cases e : j = i
  · subst e; show dig k j < _; omega
  · by_cases e' : j = i + 1
    · subst e'; show dig k (i + 1) < _; omega
    · show dig k j < _
      rw [h6 j hj e e']
      exact h2 j hj
theorem B7.bd {F : Mons} (h : B7 F) : Bd 24 F := fun p hp => ⟨(h p hp).1, fun j hj => by have := (h p hp).2 j hj; omega⟩
theorem partK_digs : ∀ n, n < 8 → ∀ j : Nat, j < 7 → dig (partK n n) j < 7 - (j : Int) := by decide
theorem B7.stair {n : Nat} (hn : n ≤ 7) : B7 [(partK n n, 1)] := fun p hp => by
  rw [List.mem_singleton] at hp
  subst hp
  obtain ⟨h1, h2, _⟩ := partK_in n (by omega) n (by omega) (Nat.le_refl _)
  exact ⟨⟨h1, h2⟩, partK_digs n (by omega)⟩
def lowM (op : Nat → Mons → Mons) (w : List Int) (F : Mons) : Mons := (ups w).foldr op F
theorem B7.low {F : Mons} (h : B7 F) : ∀ l : List Nat, (∀ k ∈ l, k ≤ 5) → B7 (l.foldr dividedM F) := by
  intro l
  induction l with
  | nil => intro _; exact h
  | cons k l ih => intro hl; exact (ih fun q hq => hl q (List.mem_cons_of_mem _ hq)).divided (hl k List.mem_cons_self)
theorem canon_one {k c : Int} (h0 : c ≠ 0) (hc : in64 c) : canon [(k, c)] = [(k, c)] :=
  (canon_unique (List.pairwise_singleton _ _) (fun p hp => by rw [List.mem_singleton] at hp; subst hp; exact ⟨h0, hc.1, hc.2⟩) (Eqv.refl _)).symm
end Go.Proofs.Ytflkomgfgmephaa

namespace Go.Proofs.Ytflkomgfgmephaa
open Go.RowKit

theorem nin_le (l : List Int) : nin l ≤ l.length * l.length := by
  induction l with
  | nil => exact Nat.le_refl _
  | cons a r ih =>
    rw [nin, List.length_cons, Nat.succ_mul, Nat.mul_succ]
    have := List.length_filter_le (fun x => decide (a < x)) r
    omega
theorem upf_le : ∀ (f : Nat) (w : List Int), (upf f w).length ≤ f := by
  intro f
  induction f with
  | zero => intro w; exact Nat.le_refl _
  | succ f ih =>
    intro w
    rw [upf]
    split
    · exact Nat.zero_le _
    · rw [List.length_cons]; exact Nat.succ_le_succ (ih _)
theorem nin_small {v : List Int} (h : v.length ≤ 7) : nin v ≤ 49 := Nat.le_trans (nin_le v) (Nat.mul_le_mul h h)
def schM (v : List Int) (m : Nat) : Mons := (ups v).foldr dividedM [(partK m m, 1)]
end Go.Proofs.Ytflkomgfgmephaa

namespace Go.Proofs.Ytflkomgfgmephaa
open Go.RowKit Go.MapKept Go.ChangeMaps

theorem partK_free : ∀ n, n < 8 → ∀ j, j < 8 → j < n → dig (partK n j) j = 0 := by decide
theorem partK_step {n j : Nat} (hn : n ≤ 7) (hj : j < n) : dset (partK n j) j ((n : Int) - 1 - j) = partK n (j + 1) := by
  unfold dset
  rw [partK_free n (by omega) j (by omega) hj, partK_succ, Int.sub_zero]
set_option maxRecDepth 100000 in
set_option maxHeartbeats 3200000 in
theorem implStair_any (n : Nat) (w : World) (hn : n ≤ 7) :
    Calls Try.prog 57 #[.int .i64 n] w fun e w' => ∃ r, e = .returned (.map (some r)) ∧ PF w' r [(partK n n, 1)] ∧ Below w.heap.size w w' := by
  have hmm := @run_makeMap Try.prog
  have g0 : Hid ((w.alloc (.cells #[.int .i64 0, .int .i64 0, .int .i64 0, .int .i64 0, .int .i64 0, .int .i64 0, .int .i64 0] 98)).heap[w.heap.size]? = some (.cells (cells7 (partK n 0)) 98)) := heap_alloc_new w _
  have hBW : Below w.heap.size w (w.alloc (.cells #[.int .i64 0, .int .i64 0, .int .i64 0, .int .i64 0, .int .i64 0, .int .i64 0, .int .i64 0] 98)) := (Below.refl _ _).alloc (Nat.le_refl _) _
  have q0 : IntKind.i64.wrap ((n : Int) - 1) = (n : Int) - 1 := IntWalk.i64_in _ (by omega)
  go_enter Try.func57, Try.ntmps57
  go_wp2
  go_loopw [7] (fun iv wr => ∃ j : Nat, j ≤ n ∧ iv = .int .i64 j ∧ wr.heap[w.heap.size]? = some (.cells (cells7 (partK n j)) 98) ∧ Below w.heap.size w wr) (fun iv _ => n - (intOf iv).toNat)
  case atStart => exact ⟨0, Nat.zero_le _, rfl, g0.out, hBW⟩
  case round =>
    clear g0 hBW
    obtain ⟨j, hj, rfl, g1, hB⟩ := hrel
    obtain ⟨wo, rfl⟩ : ∃ wo : World, wo = wr := ⟨_, rfl⟩
    obtain ⟨b1, b2, _, _⟩ := partK_in n (by omega) j (by omega) hj
    by_cases hlt : j < n
    · have g2 := cells7_set g1 ⟨b1, b2⟩ (i := j) (by omega) (x := (n : Int) - 1 - j) (by unfold isD; omega)
      rw [partK_step hn hlt] at g2
      obtain ⟨p0, f0⟩ := cells7_cell g1 (i := j) (by omega)
      have q1 : (j : Int) < (n : Int) := by omega
      have q2 : IntKind.i64.wrap ((n : Int) - 1 - j) = (n : Int) - 1 - j := IntWalk.i64_in _ (by omega)
      have q3 : (j : Int) < 7 := by omega
      have HF := Lib.hid (And.intro g2 (hB.trans (below_setCell j (.int .i64 ((n : Int) - 1 - j)) (Nat.le_refl _))))
      clear g2 hB g1
      go_wp2
      go_roundw
      case rel => exact ⟨j + 1, by omega, by go_num, HF.out.1, HF.out.2⟩
      case measure => clear q2; simp [intOf]; omega
    · obtain rfl : j = n := by omega
      obtain ⟨a0, a1, a2, a3, a4, a5, a6⟩ := cells7_at g1
      obtain ⟨U, hU⟩ : ∃ U, wo.alloc (.map #[] 0) = U := ⟨_, rfl⟩
      have hBU : Below wo.heap.size wo U := by rw [← hU]; exact (Below.refl _ _).alloc (Nat.le_refl _) _
      have hM : PF U wo.heap.size [] := by rw [← hU]; exact PF.made wo
      have g2 : U.heap[w.heap.size]? = some (.cells (cells7 (partK j j)) 98) := by rw [hBU.block _ (Array.getElem?_eq_some_iff.1 g1).1]; exact g1
      obtain ⟨d0, d1, d2, d3, d4, d5, d6⟩ := cells7_at g2
      obtain ⟨w3, hup, hM3, hg3⟩ := hM.store (k := partK j j) (c := 1) ⟨b1, b2⟩ (by unfold in64; omega) (by decide) (coef_miss (by simp))
      have hB3 := Lib.hid (below_of_grown (hB.trans (hBU.mono hB.size)) hg3 (Nat.le_trans hB.size hBU.size) hB.size)
      have HM3 := Lib.hid hM3
      unfold kV at hup
      clear hM3 hM hg3 hB g1 g2 hBU a0 a1 a2 a3 a4 a5 a6
      go_wp2
      go_ret
      exact ⟨_, rfl, HM3.out, hB3.out⟩
end Go.Proofs.Ytflkomgfgmephaa
