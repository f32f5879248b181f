/-
  Slices of cells that a call owns; marked, held.
  Slices of slices of cells: what they read as, what a call owns of them; copied, compared, marked, held.
  Slices of slices of cells: marked, held, copied.
-/
import Derived.Test.YtdpjcjnednmoeaaBuM5
import Derived.Test.YtdpjcjnednmoeaaBuM2
namespace Go.Proofs.Ytdpjcjnednmoeaa
open Go.RowKit

def prs : List (Int × Int) → List Value
  | [] => []
  | p :: xs => .int .i64 p.1 :: .int .i64 p.2 :: prs xs
theorem prs_length (xs : List (Int × Int)) : (prs xs).length = xs.length * 2 := by
  induction xs with
  | nil => rfl
  | cons p xs ih => simp only [prs, List.length_cons, ih]; omega
theorem prs_at {xs : List (Int × Int)} : ∀ {k : Nat} {p : Int × Int}, xs[k]? = some p → (prs xs)[k * 2]? = some (.int .i64 p.1) ∧ (prs xs)[k * 2 + 1]? = some (.int .i64 p.2) := by
  induction xs with
  | nil => intro k p h; simp at h
  | cons q xs ih =>
    intro k p h
    rcases k with _ | k
    · simp only [List.getElem?_cons_zero, Option.some.injEq] at h
      subst h
      exact ⟨rfl, rfl⟩
    · simp only [List.getElem?_cons_succ] at h
      have := ih h
      have e : (k + 1) * 2 = k * 2 + 1 + 1 := by omega
      rw [e]
      simpa [prs] using this
theorem prs_append (xs ys : List (Int × Int)) : prs (xs ++ ys) = prs xs ++ prs ys := by
  induction xs with
  | nil => rfl
  | cons p xs ih => simp [prs, ih]
theorem prs_set {xs : List (Int × Int)} : ∀ {k : Nat} {p : Int × Int}, xs[k]? = some p → ∀ u : Int, (prs xs).set (k * 2) (.int .i64 u) = prs (xs.set k (u, p.2)) ∧ (prs xs).set (k * 2 + 1) (.int .i64 u) = prs (xs.set k (p.1, u)) := by
  induction xs with
  | nil => intro k p h; simp at h
  | cons q xs ih =>
    intro k p h u
    rcases k with _ | k
    · simp only [List.getElem?_cons_zero, Option.some.injEq] at h
      subst h
      exact ⟨rfl, rfl⟩
    · simp only [List.getElem?_cons_succ] at h
      obtain ⟨h1, h2⟩ := ih h u
      have e : (k + 1) * 2 = k * 2 + 1 + 1 := by omega
      rw [e]
      simp only [prs, List.set_cons_succ, h1, h2]
      exact ⟨trivial, trivial⟩

/-- the slice of cells is a row of the call's own, in a block from B on and below S -/
def CO (w : World) (B S : Nat) (a : Option Addr) (n c : Nat) (xs : List (Int × Int)) : Prop :=
  w.ownsRow B 52 2 (.slice a n c) n (prs xs) ∧ ∀ k, (Value.slice a n c).ownBlock = some k → k < S
theorem CO.len {w : World} {B S : Nat} {a : Option Addr} {n c : Nat} {xs : List (Int × Int)} (h : CO w B S a n c xs) : xs.length = n := by
  have := h.1.1; rw [prs_length] at this; omega
theorem CO.mk {w : World} {B : Nat} {a : Option Addr} {n c : Nat} {xs : List (Int × Int)} (h : w.ownsRow B 52 2 (.slice a n c) n (prs xs)) : CO w B w.heap.size a n c xs := ⟨h, fun k hk => (h.lt k hk).2⟩
theorem CO.lo {w : World} {B S : Nat} {a : Option Addr} {n c : Nat} {xs : List (Int × Int)} (h : CO w B S a n c xs) : ∀ k, (Value.slice a n c).ownBlock = some k → B ≤ k := fun k hk => (h.1.lt k hk).1
theorem CO.nil {w : World} {B S : Nat} : CO w B S none 0 0 [] := ⟨⟨rfl, .inl ⟨rfl, rfl⟩⟩, fun k hk => by simp [Value.ownBlock] at hk⟩
theorem CO.cons {w : World} {B S : Nat} {a : Option Addr} {n c : Nat} {xs : List (Int × Int)} (h : CO w B S a n c xs) {j : Nat} {p : Int × Int} (hp : xs[j]? = some p) :
    ∃ g, a = some ⟨g, 0, none⟩ ∧ B ≤ g ∧ w.cell? ⟨g, j * 2, none⟩ = some (.int .i64 p.1) ∧ w.cell? ⟨g, j * 2 + 1, none⟩ = some (.int .i64 p.2) ∧ w.frozen? ⟨g, j * 2, none⟩ = false ∧ w.frozen? ⟨g, j * 2 + 1, none⟩ = false := by
  have hl := h.len
  have hj : j < n := by have := (List.getElem?_eq_some_iff.1 hp).1; omega
  have h' := h.1
  rcases h.1.2 with ⟨_, h2⟩ | ⟨g, cap, cur, hv, hb, _⟩
  · omega
  · simp only [Value.slice.injEq] at hv
    obtain ⟨rfl, _, rfl⟩ := hv
    obtain ⟨e1, e2⟩ := prs_at hp
    exact ⟨g, rfl, hb, by rw [h'.cellAt _ (by omega)]; exact e1, by rw [h'.cellAt _ (by omega)]; exact e2, h'.frozenAt _, h'.frozenAt _⟩
theorem CO.rd {w : World} {B S : Nat} {a : Option Addr} {n c : Nat} {xs : List (Int × Int)} (h : CO w B S a n c xs) : RC w a xs := by
  rcases xs with _ | ⟨p0, xs⟩
  · exact .inl rfl
  · obtain ⟨g, rfl, _⟩ := h.cons (j := 0) (p := p0) rfl
    refine .inr ⟨g, 0, rfl, fun k p hp => ?_⟩
    obtain ⟨g', e, _, h1, h2, _⟩ := h.cons hp
    obtain rfl : g = g' := by simpa using e
    simp only [Nat.zero_add]
    exact ⟨h1, h2⟩
theorem CO.store {w : World} {B S g n c : Nat} {xs : List (Int × Int)} (h : CO w B S (some ⟨g, 0, none⟩) n c xs) {j : Nat} {p : Int × Int} (hp : xs[j]? = some p) (u : Int) :
    (CO (w.setCell ⟨g, j * 2, none⟩ (.int .i64 u)) B S (some ⟨g, 0, none⟩) n c (xs.set j (u, p.2)) ∧ w.grownBy (w.setCell ⟨g, j * 2, none⟩ (.int .i64 u)) (some g)) ∧
    (CO (w.setCell ⟨g, j * 2 + 1, none⟩ (.int .i64 u)) B S (some ⟨g, 0, none⟩) n c (xs.set j (p.1, u)) ∧ w.grownBy (w.setCell ⟨g, j * 2 + 1, none⟩ (.int .i64 u)) (some g)) := by
  obtain ⟨e1, e2⟩ := prs_set hp u
  have s1 := h.1.stored (j * 2) (.int .i64 u)
  have s2 := h.1.stored (j * 2 + 1) (.int .i64 u)
  exact ⟨⟨⟨by rw [← e1]; exact s1.1, h.2⟩, s1.2⟩, ⟨⟨by rw [← e2]; exact s2.1, h.2⟩, s2.2⟩⟩
theorem CO.only {w w' : World} {B S B' S' : Nat} {a : Option Addr} {n c : Nat} {xs : List (Int × Int)} (h : CO w B S a n c xs) (ho : Only B' S' w w') (hd : S ≤ B' ∨ S' ≤ B) : CO w' B S a n c xs := by
  refine ⟨⟨h.1.1, ?_⟩, h.2⟩
  have hh := h.2
  have hl := h.lo
  rcases h.1.2 with h2 | ⟨g, cap, cur, hv, hg, hb, r⟩
  · exact .inl h2
  · simp only [Value.slice.injEq] at hv
    obtain ⟨rfl, _, rfl⟩ := hv
    have h1 := hh g rfl
    have h3 := hl g rfl
    exact .inr ⟨g, c, cur, rfl, hg, by rw [ho.block g (Array.getElem?_eq_some_iff.1 hb).1 (by omega)]; exact hb, r⟩
theorem CO.below {w w' : World} {B S : Nat} {a : Option Addr} {n c : Nat} {xs : List (Int × Int)} (h : CO w B S a n c xs) (hb : Below w.heap.size w w') : CO w' B S a n c xs := h.only (Only.of_below hb) (.inr (Nat.zero_le _))
theorem CO.mono {w : World} {B S B' S' : Nat} {a : Option Addr} {n c : Nat} {xs : List (Int × Int)} (h : CO w B S a n c xs) (hB : B' ≤ B) (hS : S ≤ S') : CO w B' S' a n c xs := by
  refine ⟨⟨h.1.1, ?_⟩, fun k hk => Nat.lt_of_lt_of_le (h.2 k hk) hS⟩
  rcases h.1.2 with h2 | ⟨g, cap, cur, hv, hg, r⟩
  · exact .inl h2
  · exact .inr ⟨g, cap, cur, hv, Nat.le_trans hB hg, r⟩

theorem CO.kept {w w' : World} {B S n c : Nat} {a : Option Addr} {xs : List (Int × Int)} {row : Option Nat} (h : CO w B S a n c xs) (hg : w.grownBy w' row) (hne : ∀ k, (Value.slice a n c).ownBlock = some k → row ≠ some k) : CO w' B S a n c xs := by
  refine ⟨h.1.kept hg ?_, h.2⟩
  cases hv : (Value.slice a n c).ownBlock with
  | none => exact .inl rfl
  | some k => exact .inr (fun e => hne k hv e.symm)
def sz_C (xs : List (Int × Int)) : Nat := xs.length * 2
def mk_C (xs : List (Int × Int)) (k : Int) : List (Int × Int) := (List.range xs.length).map fun (i : Nat) => (k + (i * 2 : Nat), k + (i * 2 : Nat) + 1)
theorem mk_C_length (xs : List (Int × Int)) (k : Int) : (mk_C xs k).length = xs.length := by simp [mk_C]
theorem mk_C_at {xs : List (Int × Int)} {k : Int} {n j : Nat} (h : xs.length = n) (hj : j < n) : (mk_C xs k)[j]? = some (k + (j * 2 : Nat), k + (j * 2 : Nat) + 1) := by
  subst h; simp [mk_C, hj]
def partC (xs : List (Int × Int)) (k : Int) (j : Nat) : List (Int × Int) := (mk_C xs k).take j ++ xs.drop j
theorem partC_at {xs : List (Int × Int)} {k : Int} {n j : Nat} {p : Int × Int} (h : xs.length = n) (hj : j < n) (hp : xs[j]? = some p) : (partC xs k j)[j]? = some p := by
  unfold partC
  have hl : ((mk_C xs k).take j).length = j := by rw [List.length_take, mk_C_length]; omega
  rw [List.getElem?_append_right (by omega), hl, Nat.sub_self, List.getElem?_drop, Nat.add_zero]
  exact hp
theorem partC_succ {xs : List (Int × Int)} {k : Int} {n j : Nat} (h : xs.length = n) (hj : j < n) : (partC xs k j).set j (k + (j * 2 : Nat), k + (j * 2 : Nat) + 1) = partC xs k (j + 1) := by
  obtain ⟨p, q, hp⟩ := pair_at h hj
  unfold partC
  have hl : ((mk_C xs k).take j).length = j := by rw [List.length_take, mk_C_length]; omega
  have e1 := List.take_add_one (l := mk_C xs k) (i := j)
  rw [mk_C_at h hj] at e1
  have hj' := (List.getElem?_eq_some_iff.1 hp).1
  rw [List.drop_eq_getElem_cons hj', List.set_append_right _ _ (by omega), hl, Nat.sub_self, List.set_cons_zero, e1]
  simp

end Go.Proofs.Ytdpjcjnednmoeaa

namespace Go.Proofs.Ytdpjcjnednmoeaa
open Go.RowKit

theorem Try.info44 : (Try.prog.info? 44).map (fun i => (i.zero, i.size, i.bytes)) = some (some (.slice none 0 0), 1, 24) := by kernel_rfl

/-- the slice at address a reads as xss -/
def RCC (w : World) (a : Option Addr) (xss : List (List (Int × Int))) : Prop :=
  xss = [] ∨ ∃ b off, a = some ⟨b, off, none⟩ ∧ ∀ k xs, xss[k]? = some xs → ∃ a' c', w.cell? ⟨b, off + k, none⟩ = some (.slice a' xs.length c') ∧ RC w a' xs
theorem RCC.at {w : World} {a : Option Addr} {xss : List (List (Int × Int))} (h : RCC w a xss) {k : Nat} (hk : k < xss.length) :
    ∃ b off, a = some ⟨b, off, none⟩ ∧ ∀ k xs, xss[k]? = some xs → ∃ a' c', w.cell? ⟨b, off + k, none⟩ = some (.slice a' xs.length c') ∧ RC w a' xs := by
  rcases h with rfl | h
  · simp at hk
  · exact h
theorem RCC.below {w w' : World} {a : Option Addr} {xss : List (List (Int × Int))} (h : RCC w a xss) (hb : Below w.heap.size w w') : RCC w' a xss := by
  rcases h with h | ⟨b, off, ha, hc⟩
  · exact .inl h
  · exact .inr ⟨b, off, ha, fun k xs hx => by
      obtain ⟨a', c', h1, h2⟩ := hc k xs hx
      exact ⟨a', c', by rw [hb.cell (World.block_lt_of_cell? w _ h1)]; exact h1, h2.below hb⟩⟩
theorem RCC.drew {w w' : World} {a : Option Addr} {xss : List (List (Int × Int))} (h : RCC w a xss) (d : Drew w w') : RCC w' a xss := h.below (d.below _)

/-- a row of slices: each holds its integers in a block of its own, from block B on and below S -/
structure InnerC (w : World) (B S : Nat) (vs : List Value) (xss : List (List (Int × Int))) : Prop where
  len : vs.length = xss.length
  each : ∀ (k : Nat) (xs : List (Int × Int)), xss[k]? = some xs → ∃ (a : Option Addr) (c : Nat), vs[k]? = some (Value.slice a xs.length c) ∧ CO w B S a xs.length c xs
  apart : ∀ (i j : Nat) (u v : Value) (g : Nat), vs[i]? = some u → vs[j]? = some v → u.ownBlock = some g → v.ownBlock = some g → i = j
/-- the slice is a row of the call's own and so are its rows -/
def CCO (w : World) (B S : Nat) (a : Option Addr) (n c : Nat) (xss : List (List (Int × Int))) : Prop :=
  ∃ vs, w.ownsRow B 44 1 (.slice a n c) n vs ∧ (∀ k, (Value.slice a n c).ownBlock = some k → k < S) ∧ InnerC w B S vs xss
theorem CCO.len {w : World} {B S : Nat} {a : Option Addr} {n c : Nat} {xss : List (List (Int × Int))} (h : CCO w B S a n c xss) : xss.length = n := by
  obtain ⟨vs, h1, _, h3⟩ := h
  rw [← h3.len]; have := h1.1; omega
theorem CCO.rd {w : World} {B S : Nat} {a : Option Addr} {n c : Nat} {xss : List (List (Int × Int))} (h : CCO w B S a n c xss) : RCC w a xss := by
  obtain ⟨vs, h1, _, h3⟩ := h
  rcases ownsRow_shape h1 with ⟨_, _, _, hv⟩ | ⟨g, rfl, _, _, hc, _⟩
  · left
    have := h3.len
    rw [hv] at this
    exact List.eq_nil_of_length_eq_zero this.symm
  · refine .inr ⟨g, 0, rfl, fun k xs hx => ?_⟩
    obtain ⟨a', c', hk, ho⟩ := h3.each k xs hx
    exact ⟨a', c', by rw [Nat.zero_add]; exact hc k _ hk, ho.rd⟩
theorem InnerC.only {w w' : World} {B S B' S' : Nat} {vs : List Value} {xss : List (List (Int × Int))} (h : InnerC w B S vs xss) (ho : Only B' S' w w') (hd : S ≤ B' ∨ S' ≤ B) : InnerC w' B S vs xss :=
  ⟨h.len, fun k xs hx => by obtain ⟨a, c, h1, h2⟩ := h.each k xs hx; exact ⟨a, c, h1, h2.only ho hd⟩, h.apart⟩
theorem CCO.only {w w' : World} {B S B' S' : Nat} {a : Option Addr} {n c : Nat} {xss : List (List (Int × Int))} (h : CCO w B S a n c xss) (ho : Only B' S' w w') (hd : S ≤ B' ∨ S' ≤ B) : CCO w' B S a n c xss := by
  obtain ⟨vs, h1, h2, h3⟩ := h
  exact ⟨vs, ownsRow_only h1 h2 ho hd, h2, h3.only ho hd⟩
theorem CCO.below {w w' : World} {B S : Nat} {a : Option Addr} {n c : Nat} {xss : List (List (Int × Int))} (h : CCO w B S a n c xss) (hb : Below w.heap.size w w') : CCO w' B S a n c xss := h.only (Only.of_below hb) (.inr (Nat.zero_le _))

/-! compared -/
theorem eqsC_of_all {xs ys : List (List (Int × Int))} (hl : xs.length = ys.length) (h : ∀ j, j < xs.length → xs[j]? = ys[j]?) : decide (xs = ys) = true := by
  rw [decide_eq_true_iff]
  apply List.ext_getElem?
  intro j
  rcases Nat.lt_or_ge j xs.length with h1 | h1
  · exact h j h1
  · rw [List.getElem?_eq_none h1, List.getElem?_eq_none (by omega)]
theorem nesC_of_at {xs ys : List (List (Int × Int))} {k : Nat} {x y : List (Int × Int)} (hx : xs[k]? = some x) (hy : ys[k]? = some y) (h : x ≠ y) : decide (xs = ys) = false := by
  rw [decide_eq_false_iff_not]
  rintro rfl
  rw [hx] at hy
  exact h (by simpa using hy)

/-- a row's length is no more than so -/
def ShortCC (xss : List (List (Int × Int))) : Prop := ∀ xs ∈ xss, xs.length ≤ 1048576

end Go.Proofs.Ytdpjcjnednmoeaa

namespace Go.Proofs.Ytdpjcjnednmoeaa
open Go.RowKit

def mk_CC : List (List (Int × Int)) → Int → List (List (Int × Int))
  | [], _ => []
  | xs :: r, k => mk_C xs k :: mk_CC r (k + (sz_C xs : Int))
def sz_CC : List (List (Int × Int)) → Nat
  | [] => 0
  | xs :: r => sz_C xs + sz_CC r
theorem sz_CC_append (xs ys : List (List (Int × Int))) : sz_CC (xs ++ ys) = sz_CC xs + sz_CC ys := by
  induction xs with
  | nil => simp [sz_CC]
  | cons x xs ih => rw [List.cons_append, sz_CC, sz_CC, ih]; omega
theorem mk_CC_length (xs : List (List (Int × Int))) (k : Int) : (mk_CC xs k).length = xs.length := by
  induction xs generalizing k with
  | nil => rfl
  | cons x xs ih => rw [mk_CC, List.length_cons, List.length_cons, ih]
theorem mk_CC_append (xs ys : List (List (Int × Int))) (k : Int) : mk_CC (xs ++ ys) k = mk_CC xs k ++ mk_CC ys (k + (sz_CC xs : Int)) := by
  induction xs generalizing k with
  | nil => simp [sz_CC, mk_CC]
  | cons x xs ih =>
    rw [List.cons_append, mk_CC, mk_CC, ih, sz_CC, List.cons_append]
    congr 3
    simp; omega
theorem sz_CC_take {xs : List (List (Int × Int))} {i : Nat} {x : List (Int × Int)} (h : xs[i]? = some x) : sz_CC (xs.take (i + 1)) = sz_CC (xs.take i) + sz_C x := by
  rw [take_at h, sz_CC_append]; rfl
theorem sz_CC_le (xs : List (List (Int × Int))) (i : Nat) : sz_CC (xs.take i) ≤ sz_CC xs := by
  conv => rhs; rw [← List.take_append_drop i xs, sz_CC_append]
  omega
theorem sz_CC_each {xs : List (List (Int × Int))} {x : List (Int × Int)} (h : x ∈ xs) : sz_C x ≤ sz_CC xs := by
  induction xs with
  | nil => cases h
  | cons y ys ih =>
    rw [sz_CC]
    rcases List.mem_cons.1 h with rfl | h
    · omega
    · have := ih h; omega
def markC_part (xs : List (List (Int × Int))) (k : Int) (i : Nat) : List (List (Int × Int)) := mk_CC (xs.take i) k ++ xs.drop i
theorem markC_part_zero (xs : List (List (Int × Int))) (k : Int) : markC_part xs k 0 = xs := by simp [markC_part, mk_CC]
theorem markC_part_all {xs : List (List (Int × Int))} {n : Nat} (h : xs.length = n) (k : Int) : markC_part xs k n = mk_CC xs k := by simp [markC_part, ← h]
theorem markC_part_at {xs : List (List (Int × Int))} {i : Nat} {x : List (Int × Int)} (h : xs[i]? = some x) (k : Int) : (markC_part xs k i)[i]? = some x := by
  have hi := lt_of_some h
  have hl : (mk_CC (xs.take i) k).length = i := by rw [mk_CC_length, List.length_take]; omega
  unfold markC_part
  rw [List.getElem?_append_right (by omega), hl, Nat.sub_self, List.getElem?_drop, Nat.add_zero]
  exact h
theorem markC_part_succ {xs : List (List (Int × Int))} {i : Nat} {x : List (Int × Int)} (h : xs[i]? = some x) (k : Int) : (markC_part xs k i).set i (mk_C x (k + (sz_CC (xs.take i) : Int))) = markC_part xs k (i + 1) := by
  have hi := lt_of_some h
  have hl : (mk_CC (xs.take i) k).length = i := by rw [mk_CC_length, List.length_take]; omega
  unfold markC_part
  rw [drop_at h, List.set_append_right _ _ (by omega), hl, Nat.sub_self, take_at h, mk_CC_append]
  simp [mk_CC]
theorem mk_CC_at {xs : List (List (Int × Int))} {i : Nat} {x : List (Int × Int)} (h : xs[i]? = some x) (k : Int) : (mk_CC xs k)[i]? = some (mk_C x (k + (sz_CC (xs.take i) : Int))) := by
  have hi := lt_of_some h
  have hl : (mk_CC (xs.take i) k).length = i := by rw [mk_CC_length, List.length_take]; omega
  conv => lhs; rw [← List.take_append_drop i xs, mk_CC_append, drop_at h]
  rw [List.getElem?_append_right (by omega), hl, Nat.sub_self, mk_CC]
  rfl
/-- a row of integers lies in another block than a row of slices -/
theorem neC_block {w : World} {B S B' n l : Nat} {a a' : Option Addr} {c c' : Nat} {vs : List Value} {xs : List (Int × Int)} (h : w.ownsRow B' 44 1 (.slice a n c) n vs) (hi : CO w B S a' l c' xs) :
    ∀ k, (Value.slice a n c).ownBlock = some k → (Value.slice a' l c').ownBlock ≠ some k := by
  intro k hk hk'
  rcases ownsRow_shape h with ⟨_, rfl, _⟩ | ⟨g, rfl, _, _, _, cur, hg⟩
  · cases hk
  · have e1 : g = k := by simpa [Value.ownBlock] using hk
    rcases hi.1.2 with ⟨hv, _⟩ | ⟨g', cap', cur', hv, _, hh, _⟩
    · rw [hv] at hk'; cases hk'
    · rw [hv] at hk'
      have e2 : g' = k := by simpa [Value.ownBlock] using hk'
      subst e1 e2
      rw [hg] at hh
      simp at hh
theorem CCO.open {w : World} {B S : Nat} {a : Option Addr} {n c : Nat} {yss : List (List (Int × Int))} (h : CCO w B S a n c yss) {i : Nat} {xs : List (Int × Int)} (hi : yss[i]? = some xs) :
    ∃ g a' c', a = some ⟨g, 0, none⟩ ∧ w.cell? ⟨g, i, none⟩ = some (.slice a' xs.length c') ∧ CO w B S a' xs.length c' xs ∧
      ∀ w' ys, ys.length = xs.length → CO w' B S a' xs.length c' ys → w.grownBy w' (Value.slice a' xs.length c').ownBlock → CCO w' B S a n c (yss.set i ys) := by
  obtain ⟨vs, h1, h2, h3⟩ := h
  obtain ⟨a', c', hv, ho⟩ := h3.each i xs hi
  rcases ownsRow_shape h1 with ⟨_, _, _, hv0⟩ | ⟨g, rfl, hB, hlt, hc, _⟩
  · rw [hv0] at hv; cases hv
  · refine ⟨g, a', c', rfl, hc i _ hv, ho, fun w' ys hl hos hg => ?_⟩
    refine ⟨vs, grown_keeps h1 hg (fun k hk e => neC_block h1 ho k hk e), h2, ?_⟩
    refine ⟨by rw [List.length_set]; exact h3.len, fun k zs hz => ?_, h3.apart⟩
    rw [List.getElem?_set] at hz
    by_cases hk : i = k
    · subst hk
      rw [if_pos rfl, if_pos (lt_of_some hi)] at hz
      obtain rfl := Option.some.inj hz
      exact ⟨a', c', by rw [hl]; exact hv, by rw [hl]; exact hos⟩
    · rw [if_neg hk] at hz
      obtain ⟨a2, c2, hv2, ho2⟩ := h3.each k zs hz
      exact ⟨a2, c2, hv2, ho2.kept hg (fun q hq e => hk (h3.apart i k _ _ q hv hv2 e hq))⟩

end Go.Proofs.Ytdpjcjnednmoeaa
