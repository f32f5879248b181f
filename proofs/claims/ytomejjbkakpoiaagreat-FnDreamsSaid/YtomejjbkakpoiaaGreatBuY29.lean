/-
  The laws' own words for the program's operations on polynomials, within the limits.
  How many monomials a polynomial has whose exponents are bounded each.
  The staircase as a key. Plain.
  First ascents, exchanged one behind the other: plain.
  Polynomials below the staircase of seven: closed under divided differences, 5040 monomials at most.
-/
import Derived.Test.YtomejjbkakpoiaaGreatBuY27
import Derived.Test.YtomejjbkakpoiaaGreatBuY28
import Derived.Test.YtomejjbkakpoiaaGreatBuY24
import Derived.Test.YtomejjbkakpoiaaGreatPolyOps
import Derived.Test.YtomejjbkakpoiaaGreatBuY17
namespace Go.Proofs.YtomejjbkakpoiaaGreat
open Go.RowKit

/-- the slice reads as the terms of a polynomial within the limits -/
structure PT (w : World) (a : Option Addr) (n : Nat) (F : Mons) : Prop where
  rd : RP w a (termsM F)
  len : (termsM F).length = n
  small : n ≤ 600
theorem PT.below {w w' : World} {a : Option Addr} {n : Nat} {F : Mons} (h : PT w a n F) (hb : Below w.heap.size w w') : PT w' a n F := ⟨h.rd.below hb, h.len, h.small⟩
theorem PT.of {w : World} {B S : Nat} {a : Option Addr} {n c : Nat} {F : Mons} (h : TO w B S a n c (termsM F)) (hF : OKp F) : PT w a n F :=
  ⟨h.rd, h.len, by rw [← h.len]; exact hF.len⟩
theorem PT.eqv {w : World} {a : Option Addr} {n : Nat} {F G : Mons} (h : PT w a n F) (e : Eqv F G) : PT w a n G := by
  obtain ⟨h1, h2, h3⟩ := h
  rw [termsM_eqv e] at h1 h2
  exact ⟨h1, h2, h3⟩
theorem terms_short (F : Mons) : ∀ p ∈ termsM F, p.1.length ≤ 1048576 := by
  intro p hp
  obtain ⟨k, hk⟩ := List.getElem?_of_mem hp
  obtain ⟨q, _, rfl⟩ := termsM_at hk
  simp [term, digs_length]
theorem isVar_nat {i : Nat} (hi : i ≤ 5) : isVar (i : Int) = true := by unfold isVar; rw [decide_eq_true_eq]; omega
theorem terms_law (a b : Option Addr) (n c m d : Nat) (F G : Mons) (w : World) (h : PT w a n F) (h' : PT w b m G) (e : Eqv F G) :
    Calls Tryz.prog 12 #[.slice a n c, .slice b m d] w fun e w' => e = .returned (.bool true) ∧ Drew w w' := by
  have h1 := h.small
  exact is (lawTerms_any a b n c m d (termsM F) (termsM G) w h.rd h'.rd h.len h'.len (by omega) (terms_short F)) (by rw [termsM_eqv e]; simp)
theorem op_terms {op : Nat → Mons → Mons} (hop : ∀ {i : Nat} {F G : Mons}, Eqv F G → Eqv (op i F) (op i G)) {F : Mons} {i : Nat} (hi : i ≤ 5) (hF : OKp F) (hR : OKp (op i F)) :
    opT op (termsM F) (i : Int) = termsM (op i F) ∧ opOk op (termsM F) (i : Int) = true := by
  obtain ⟨h1, h2⟩ := opT_yes (op := op) hF.ok (isVar_nat hi)
  rw [Int.toNat_natCast] at h1 h2
  rw [h1, h2, closedT_op (op := op i) (fun h => hop h) hF hR, termsM_op (op := op i) (fun h => hop h) hF]
  exact ⟨rfl, hR.ok⟩
set_option maxRecDepth 100000 in
set_option maxHeartbeats 3200000 in
theorem implAdd_ok (a b : Option Addr) (n c m d : Nat) (F G : Mons) (k : Int) (w : World) (hx : PT w a n F) (hy : PT w b m G) (hk : -1000 ≤ k ∧ k ≤ 1000) (hF : OKp F) (hG : OKp G) (hR : OKp (plusM F k G)) :
    Calls Tryz.prog 42 #[.slice a n c, .int .i64 k, .slice b m d] w fun e w' => ∃ a' n' c', e = .returned (.tuple #[.slice a' n' c', .bool true]) ∧ PT w' a' n' (plusM F k G) ∧ Below w.heap.size w w' := by
  have Hok := Lib.hid hF.ok
  have Hv := Lib.hid hG.ok
  have hs1 := hx.small
  have hs2 := hy.small
  have hkl : ¬ k < -1000 := by omega
  have hku : ¬ k > 1000 := by omega
  have HR := Lib.hid hR
  have HF := Lib.hid hF
  have HG := Lib.hid hG
  clear hF hG hR
  go_enter Tryz.func42, Tryz.ntmps42
  go_wp2_with fail
  refine (is (implPolyOk_any _ _ _ (termsM F) _ hx.rd hx.len (by omega)) Hok.out).mono ?_
  rintro e w1 ⟨rfl, hb1⟩
  have hy1 := hy.below hb1
  go_wp2_with fail
  refine (is (implPolyOk_any _ _ _ (termsM G) _ hy1.rd hy1.len (by omega)) Hv.out).mono ?_
  rintro e w2 ⟨rfl, hb2⟩
  have hB2 := hb1.trans (hb2.mono hb1.size)
  have hx2 := hx.below hB2
  have hy2 := hy.below hB2
  go_wp2_with fail
  refine (open_any _ _ _ (termsM F) _ hx2.rd hx2.len Hok.out).mono ?_
  rintro e w3 ⟨r3, rfl, hr3, hF3, hb3⟩
  have hB3 := hB2.trans (hb3.mono hB2.size)
  have hy3 := hy2.below hb3
  go_wp2_with fail
  refine (open_any _ _ _ (termsM G) _ hy3.rd hy3.len Hv.out).mono ?_
  rintro e w4 ⟨r4, rfl, hr4, hG4, hb4⟩
  have hB4 := hB3.trans (hb4.mono hB3.size)
  have hF4 := hF3.below hb4
  go_wp2_with fail
  refine (plus_any r3 r4 k (monsOf (termsM F)) (monsOf (termsM G)) _ hF4 hG4).mono ?_
  rintro e w5 ⟨r5, rfl, hr5, hF5, hb5⟩
  have hB5 := hB4.trans (hb5.mono hB4.size)
  go_wp2_with fail
  refine (closed_any r5 _ _ hF5).mono ?_
  rintro e w6 ⟨a6, n6, c6, r6, rfl, ho6, hh6, hb6⟩
  have hB6 := hB5.trans (hb6.mono hB5.size)
  have e0 : Eqv (plusM (monsOf (termsM F)) k (monsOf (termsM G))) (plusM F k G) := by
    rw [monsOf_terms HF.out.bd, monsOf_terms HG.out.bd]
    exact plusM_eqv (canon_self F) (canon_self G)
  obtain rfl : r6 = true := by rw [hh6.out, termsM_eqv e0]; exact HR.out.ok
  rw [closedT_ok (by rw [termsM_eqv e0]; exact HR.out.ok), termsM_eqv e0] at ho6
  have Ho6 := Lib.hid (PT.of ho6 HR.out)
  clear ho6
  go_wp2
  go_ret2
  exact ⟨_, _, _, rfl, Ho6.out, hB6⟩
set_option maxRecDepth 100000 in
set_option maxHeartbeats 1600000 in
theorem plus_law (a b : Option Addr) (n c m d : Nat) (F G : Mons) (k : Int) (w : World) (hx : PT w a n F) (hy : PT w b m G) (hk : -1000 ≤ k ∧ k ≤ 1000) (hF : OKp F) (hG : OKp G) (hR : OKp (plusM F k G)) :
    Calls Tryz.prog 10 #[.slice a n c, .int .i64 k, .slice b m d] w fun e w' => ∃ a' n' c', e = .returned (.slice a' n' c') ∧ PT w' a' n' (plusM F k G) ∧ Below w.heap.size w w' := by
  go_enter Tryz.func10, Tryz.ntmps10
  go_wp2_with fail
  refine (implAdd_ok _ _ _ _ _ _ F G k _ hx hy hk hF hG hR).mono ?_
  rintro e w1 ⟨a1, n1, c1, rfl, ho, hb⟩
  have Ho := Lib.hid ho
  clear ho
  go_wp2
  go_ret
  exact ⟨_, _, _, rfl, Ho.out, hb⟩
theorem implMul_ok (a b : Option Addr) (n c m d : Nat) (F G : Mons) (w : World) (hx : PT w a n F) (hy : PT w b m G) (hF : OKp F) (hG : OKp G) (hR : OKp (timesM F G)) :
    Calls Tryz.prog 59 #[.slice a n c, .slice b m d] w fun e w' => ∃ a' n' c', e = .returned (.tuple #[.slice a' n' c', .bool true]) ∧ PT w' a' n' (timesM F G) ∧ Below w.heap.size w w' := by
  have hs1 := hx.small
  have hs2 := hy.small
  obtain ⟨h1, h2⟩ := mul_yes hF.ok hG.ok
  have e0 : Eqv (timesM (monsOf (termsM F)) (monsOf (termsM G))) (timesM F G) := by
    rw [monsOf_terms hF.bd, monsOf_terms hG.bd]
    exact timesM_eqv (canon_self F) (canon_self G)
  rw [termsM_eqv e0] at h2
  rw [closedT_ok (by rw [termsM_eqv e0]; exact hR.ok), termsM_eqv e0] at h1
  refine (implMul_any a b n c m d (termsM F) (termsM G) w hx.rd hy.rd hx.len hy.len (by omega) (by omega)).mono ?_
  rintro e w1 ⟨a1, n1, c1, r1, rfl, ho, hr, hb⟩
  obtain rfl : r1 = true := by rw [hr.out, h2]; exact hR.ok
  rw [h1] at ho
  exact ⟨_, _, _, rfl, PT.of ho hR, hb⟩
end Go.Proofs.YtomejjbkakpoiaaGreat

namespace Go.Proofs.YtomejjbkakpoiaaGreat
open Go.RowKit

/-- all keys whose exponents stay below the bounds (bound + 1 each) -/
def box : List Nat → List Int
  | [] => [0]
  | b :: r => (List.range b).flatMap fun x : Nat => (box r).map fun y => (x : Int) + 128 * y
theorem box_length (bs : List Nat) : (box bs).length = bs.foldr (fun b t => b * t) 1 := by
  induction bs with
  | nil => rfl
  | cons b r ih =>
    rw [box, List.foldr_cons, ← ih]
    generalize box r = l
    have : ∀ n, ((List.range n).flatMap fun x : Nat => l.map fun y => (x : Int) + 128 * y).length = n * l.length := by
      intro n
      induction n with
      | zero => simp
      | succ n ih2 => rw [List.range_succ, List.flatMap_append, List.length_append, ih2, Nat.succ_mul]; simp
    exact this b
theorem keyL_box {bs : List Nat} : ∀ {s : List Int}, s.length = bs.length → (∀ (i : Nat) (x : Int) (b : Nat), s[i]? = some x → bs[i]? = some b → 0 ≤ x ∧ x < b) → keyL s ∈ box bs := by
  induction bs with
  | nil =>
    intro s hl _
    obtain rfl := List.eq_nil_of_length_eq_zero hl
    exact List.mem_singleton.2 rfl
  | cons b r ih =>
    intro s hl h
    cases s with
    | nil => simp at hl
    | cons x s =>
      have h0 := h 0 x b rfl rfl
      have h1 := ih (s := s) (by simpa using hl) (fun i y c hi hc => h (i + 1) y c (by simpa using hi) (by simpa using hc))
      rw [keyL, box, List.mem_flatMap]
      exact ⟨x.toNat, by rw [List.mem_range]; omega, List.mem_map.2 ⟨keyL s, h1, by omega⟩⟩
/-- the exponents at each place are below the bounds -/
def Bx (bs : List Nat) (F : Mons) : Prop := ∀ p ∈ F, inK p.1 ∧ ∀ (i b : Nat), bs[i]? = some b → i < 7 → dig p.1 i < b
theorem Bx.canon {bs : List Nat} {F : Mons} (h : Bx bs F) : Bx bs (canon F) := fun p hp => by
  obtain ⟨q, hq, e⟩ := mem_canon hp
  rw [← e]
  exact h q hq
theorem nodup_sub {l : List Int} : ∀ {m : List Int}, l.Nodup → (∀ x ∈ l, x ∈ m) → l.length ≤ m.length := by
  induction l with
  | nil => intro m _ _; exact Nat.zero_le _
  | cons a t ih =>
    intro m hn h
    rw [List.nodup_cons] at hn
    have ha := h a List.mem_cons_self
    have h1 := ih (m := m.erase a) hn.2 (fun x hx => (List.mem_erase_of_ne (fun e => hn.1 (by rw [← e]; exact hx))).2 (h x (List.mem_cons_of_mem _ hx)))
    rw [List.length_erase_of_mem ha] at h1
    have h2 := List.length_pos_of_mem ha
    rw [List.length_cons]
    omega
theorem Bx.count {bs : List Nat} {F : Mons} (h : Bx bs F) (h7 : bs.length = 7) : (Go.Proofs.YtomejjbkakpoiaaGreat.canon F).length ≤ bs.foldr (fun b t => b * t) 1 := by
  rw [← box_length]
  have hn := canon_nodup F
  have := nodup_sub (m := box bs) hn (fun k hk => by
    obtain ⟨p, hp, rfl⟩ := List.mem_map.1 hk
    obtain ⟨h1, h2⟩ := h.canon p hp
    rw [← keyL_digs h1]
    refine keyL_box (by rw [digs_length, h7]) (fun i x b hi hb => ?_)
    have hi7 := lt_of_some hi
    rw [digs_length] at hi7
    rw [digs_at hi7] at hi
    obtain rfl := Option.some.inj hi
    exact ⟨(dig_isD p.1 i).1, h2 i b hb hi7⟩)
  rw [List.length_map] at this
  exact this
end Go.Proofs.YtomejjbkakpoiaaGreat

namespace Go.Proofs.YtomejjbkakpoiaaGreat
open Go.RowKit

/-- the first j exponents of the staircase of n, as a key -/
def partK (n j : Nat) : Int := (List.range j).foldl (fun k i => k + ((n : Int) - 1 - i) * unit i) 0
theorem partK_succ (n j : Nat) : partK n (j + 1) = partK n j + ((n : Int) - 1 - j) * unit j := by
  unfold partK
  rw [List.range_succ, List.foldl_append]
  rfl
theorem partK_in : ∀ n, n < 8 → ∀ j, j < 8 → j ≤ n → 0 ≤ partK n j ∧ partK n j < 562949953421312 ∧ 0 ≤ ((n : Int) - 1 - j) * unit j + 128 ^ 7 ∧ ((n : Int) - 1 - j) * unit j < 562949953421312 := by decide
end Go.Proofs.YtomejjbkakpoiaaGreat

namespace Go.Proofs.YtomejjbkakpoiaaGreat
open Go.RowKit

def sw : List Int → Nat → List Int
  | a :: b :: r, 0 => b :: a :: r
  | a :: r, k + 1 => a :: sw r k
  | l, _ => l
theorem sw_swp {w : List Int} : ∀ {k : Nat}, k + 1 < w.length → swp w k (k + 1) = sw w k := by
  induction w with
  | nil => intro k h; simp at h
  | cons a r ih =>
    intro k h
    cases k with
    | zero =>
      cases r with
      | nil => simp at h
      | cons b r => rfl
    | succ k =>
      have h2 := ih (k := k) (by simpa using h)
      unfold swp at h2 ⊢
      cases r with
      | nil => simp at h
      | cons b r =>
        rw [sw, ← h2]
        rfl
theorem sw_perm (w : List Int) : ∀ k : Nat, (sw w k).Perm w := by
  induction w with
  | nil => intro k; cases k <;> exact List.Perm.refl _
  | cons a r ih =>
    intro k
    cases k with
    | zero =>
      cases r with
      | nil => exact List.Perm.refl _
      | cons b r => exact List.Perm.swap _ _ _
    | succ k => rw [sw]; exact (ih k).cons a
theorem sw_length (w : List Int) (k : Nat) : (sw w k).length = w.length := (sw_perm w k).length_eq
/-- how many pairs rise -/
def nin : List Int → Nat
  | [] => 0
  | a :: r => (r.filter fun x => decide (a < x)).length + nin r
def asc : List Int → Option Nat
  | a :: b :: r => if a < b then some 0 else (asc (b :: r)).map (· + 1)
  | _ => none
theorem asc_some {w : List Int} : ∀ {k : Nat}, asc w = some k → ∃ x y, w[k]? = some x ∧ w[k + 1]? = some y ∧ x < y ∧ ∀ (j : Nat) (u v : Int), j < k → w[j]? = some u → w[j + 1]? = some v → ¬ u < v := by
  induction w with
  | nil => intro k h; simp [asc] at h
  | cons a r ih =>
    intro k h
    cases r with
    | nil => simp [asc] at h
    | cons b r =>
      rw [asc] at h
      split at h
      · rename_i hab
        obtain rfl := Option.some.inj h
        exact ⟨a, b, rfl, rfl, hab, fun j _ _ hj => by omega⟩
      · rename_i hab
        obtain ⟨q, hq, rfl⟩ := Option.map_eq_some_iff.1 h
        obtain ⟨x, y, h1, h2, h3, h4⟩ := ih hq
        refine ⟨x, y, h1, h2, h3, fun j u v hj hu hv => ?_⟩
        cases j with
        | zero =>
          obtain rfl : a = u := Option.some.inj hu
          obtain rfl : b = v := Option.some.inj hv
          exact hab
        | succ j => exact h4 j u v (by omega) hu hv
theorem asc_none {w : List Int} (h : asc w = none) : ∀ (j : Nat) (u v : Int), w[j]? = some u → w[j + 1]? = some v → ¬ u < v := by
  induction w with
  | nil => intro j u v hu; simp at hu
  | cons a r ih =>
    intro j u v hu hv
    cases r with
    | nil => simp at hv
    | cons b r =>
      rw [asc] at h
      split at h
      · cases h
      · rename_i hab
        have h2 := Option.map_eq_none_iff.1 h
        cases j with
        | zero =>
          obtain rfl : a = u := Option.some.inj hu
          obtain rfl : b = v := Option.some.inj hv
          exact hab
        | succ j => exact ih h2 j u v hu hv
theorem asc_at {w : List Int} {k : Nat} {x y : Int} (hx : w[k]? = some x) (hy : w[k + 1]? = some y) (h : x < y) (hb : ∀ (j : Nat) (u v : Int), j < k → w[j]? = some u → w[j + 1]? = some v → ¬ u < v) : asc w = some k := by
  cases ha : asc w with
  | none => exact absurd h (asc_none ha k x y hx hy)
  | some q =>
    obtain ⟨x', y', h1, h2, h3, h4⟩ := asc_some ha
    rcases Nat.lt_trichotomy q k with hq | hq | hq
    · exact absurd h3 (hb q x' y' hq h1 h2)
    · rw [hq]
    · exact absurd h (h4 k x y hq hx hy)
theorem asc_all {w : List Int} (hb : ∀ (j : Nat) (u v : Int), w[j]? = some u → w[j + 1]? = some v → ¬ u < v) : asc w = none := by
  cases ha : asc w with
  | none => rfl
  | some q =>
    obtain ⟨x, y, h1, h2, h3, _⟩ := asc_some ha
    exact absurd h3 (hb q x y h1 h2)
theorem nin_sw {w : List Int} : ∀ {k : Nat}, asc w = some k → nin (sw w k) + 1 = nin w := by
  induction w with
  | nil => intro k h; simp [asc] at h
  | cons a r ih =>
    intro k h
    cases r with
    | nil => simp [asc] at h
    | cons b r =>
      rw [asc] at h
      split at h
      · rename_i hab
        obtain rfl := Option.some.inj h
        have hba : ¬ b < a := by omega
        simp only [sw, nin, List.filter_cons, hab, hba, decide_true, decide_false, if_true, List.length_cons]
        simp
        omega
      · rename_i hab
        obtain ⟨q, hq, rfl⟩ := Option.map_eq_some_iff.1 h
        have h1 := ih hq
        have h2 := ((sw_perm (b :: r) q).filter fun x => decide (a < x)).length_eq
        show nin (a :: sw (b :: r) q) + 1 = nin (a :: b :: r)
        rw [nin, h2]
        show _ = (List.filter (fun x => decide (a < x)) (b :: r)).length + nin (b :: r)
        omega
def upf : Nat → List Int → List Nat
  | 0, _ => []
  | f + 1, w => match asc w with
    | none => []
    | some k => k :: upf f (sw w k)
def endf : Nat → List Int → List Int
  | 0, w => w
  | f + 1, w => match asc w with
    | none => w
    | some k => endf f (sw w k)
/-- the places of the first ascents, one behind the other; and what is left, which falls -/
def ups (w : List Int) : List Nat := upf (nin w) w
def fell (w : List Int) : List Int := endf (nin w) w
theorem ups_some {w : List Int} {k : Nat} (h : asc w = some k) : ups w = k :: ups (sw w k) ∧ fell w = fell (sw w k) := by
  have h1 := nin_sw h
  unfold ups fell
  rw [← h1, upf, endf, h]
  exact ⟨rfl, rfl⟩
theorem ups_none {w : List Int} (h : asc w = none) : ups w = [] ∧ fell w = w := by
  unfold ups fell
  cases nin w with
  | zero => exact ⟨rfl, rfl⟩
  | succ n => rw [upf, endf, h]; exact ⟨rfl, rfl⟩
theorem fell_perm (w : List Int) : (fell w).Perm w := by
  have : ∀ n v, (endf n v).Perm v := by
    intro n
    induction n with
    | zero => intro v; exact List.Perm.refl _
    | succ n ih =>
      intro v
      rw [endf]
      split
      · exact List.Perm.refl _
      · exact (ih _).trans (sw_perm _ _)
  exact this _ w
theorem asc_lt {w : List Int} {k : Nat} (h : asc w = some k) : k + 1 < w.length := by
  obtain ⟨_, y, _, h2, _⟩ := asc_some h
  exact (List.getElem?_eq_some_iff.1 h2).1
theorem ups_lt (w : List Int) : ∀ k ∈ ups w, k + 1 < w.length := by
  have : ∀ n v, ∀ k ∈ upf n v, k + 1 < v.length := by
    intro n
    induction n with
    | zero => intro v k hk; cases hk
    | succ n ih =>
      intro v k hk
      rw [upf] at hk
      split at hk
      · cases hk
      · rename_i q hq
        rcases List.mem_cons.1 hk with rfl | hk
        · exact asc_lt hq
        · have := ih _ k hk
          rw [sw_length] at this
          exact this
  exact this _ w
end Go.Proofs.YtomejjbkakpoiaaGreat

namespace Go.Proofs.YtomejjbkakpoiaaGreat
open Go.RowKit

def B7 (F : Mons) : Prop := ∀ p ∈ F, inK p.1 ∧ ∀ j : Nat, j < 7 → dig p.1 j < 7 - (j : Int)
theorem B7.bx {F : Mons} (h : B7 F) : Bx [7, 6, 5, 4, 3, 2, 1] F := fun p hp => ⟨(h p hp).1, fun i b hb hi => by
  have h2 := (h p hp).2 i hi
  have hc : i = 0 ∨ i = 1 ∨ i = 2 ∨ i = 3 ∨ i = 4 ∨ i = 5 ∨ i = 6 := by omega
  rcases hc with rfl | rfl | rfl | rfl | rfl | rfl | rfl <;> simp at hb <;> omega⟩
theorem B7.count {F : Mons} (h : B7 F) : (canon F).length ≤ 5040 := h.bx.count rfl
theorem B7.canon {F : Mons} (h : B7 F) : B7 (canon F) := fun p hp => by
  obtain ⟨q, hq, e⟩ := mem_canon hp
  rw [← e]
  exact h q hq
theorem B7.divided {F : Mons} (h : B7 F) {i : Nat} (hi : i ≤ 5) : B7 (dividedM i F) := fun p hp => by
  obtain ⟨q, hq, hp⟩ := List.mem_flatMap.1 hp
  obtain ⟨k, hk, rfl⟩ := List.mem_map.1 hp
  obtain ⟨h1, h2⟩ := h q hq
  obtain ⟨h3, h4, h5, h6⟩ := dd_key h1 hi hk
  refine ⟨h3, fun j hj => ?_⟩
  have b1 := h2 i (by omega)
  have b2 := h2 (i + 1) (by omega)
  by_cases e : j = i
  · subst e; show dig k j < _; omega
  · by_cases e' : j = i + 1
    · subst e'; show dig k (i + 1) < _; omega
    · show dig k j < _
      rw [h6 j hj e e']
      exact h2 j hj
theorem B7.bd {F : Mons} (h : B7 F) : Bd 24 F := fun p hp => ⟨(h p hp).1, fun j hj => by have := (h p hp).2 j hj; omega⟩
theorem partK_digs : ∀ n, n < 8 → ∀ j : Nat, j < 7 → dig (partK n n) j < 7 - (j : Int) := by decide
theorem B7.stair {n : Nat} (hn : n ≤ 7) : B7 [(partK n n, 1)] := fun p hp => by
  rw [List.mem_singleton] at hp
  subst hp
  obtain ⟨h1, h2, _⟩ := partK_in n (by omega) n (by omega) (Nat.le_refl _)
  exact ⟨⟨h1, h2⟩, partK_digs n (by omega)⟩
def lowM (op : Nat → Mons → Mons) (w : List Int) (F : Mons) : Mons := (ups w).foldr op F
theorem B7.low {F : Mons} (h : B7 F) : ∀ l : List Nat, (∀ k ∈ l, k ≤ 5) → B7 (l.foldr dividedM F) := by
  intro l
  induction l with
  | nil => intro _; exact h
  | cons k l ih => intro hl; exact (ih fun q hq => hl q (List.mem_cons_of_mem _ hq)).divided (hl k List.mem_cons_self)
theorem canon_one {k c : Int} (h0 : c ≠ 0) (hc : in64 c) : canon [(k, c)] = [(k, c)] :=
  (canon_unique (List.pairwise_singleton _ _) (fun p hp => by rw [List.mem_singleton] at hp; subst hp; exact ⟨h0, hc.1, hc.2⟩) (Eqv.refl _)).symm
end Go.Proofs.YtomejjbkakpoiaaGreat
