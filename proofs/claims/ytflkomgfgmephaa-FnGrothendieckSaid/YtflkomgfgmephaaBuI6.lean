/-
  Slices of cells: what they read as, what a call owns of them; compared.
  Slices of cells that a call owns; marked, held.
  Contracts of BottomDream, the program's and the reference's.
  Contracts of szCellS, toCell, toCellS; what came in, opened: a slice of cells.
  Contract of slices.Clone of cells.
-/
import Derived.Test.YtflkomgfgmephaaBuA
import Derived.StillTailTactics
import Derived.Test.YtflkomgfgmephaaBuI3
import Derived.Test.YtflkomgfgmephaaSzI
import Derived.Test.YtflkomgfgmephaaOpen
import Derived.Deep.SlicePairs
import Derived.Laws.Rows
namespace Go.Proofs.Ytflkomgfgmephaa
open Go.RowKit

/-- the slice at address a reads as pairs -/
def RC (w : World) (a : Option Addr) (xs : List (Int × Int)) : Prop :=
  xs = [] ∨ ∃ b off, a = some ⟨b, off, none⟩ ∧ ∀ k p, xs[k]? = some p → w.cell? ⟨b, off + k * 2, none⟩ = some (.int .i64 p.1) ∧ w.cell? ⟨b, off + k * 2 + 1, none⟩ = some (.int .i64 p.2)
theorem RC.at {w : World} {a : Option Addr} {xs : List (Int × Int)} (h : RC w a xs) {k : Nat} (hk : k < xs.length) :
    ∃ b off, a = some ⟨b, off, none⟩ ∧ ∀ k p, xs[k]? = some p → w.cell? ⟨b, off + k * 2, none⟩ = some (.int .i64 p.1) ∧ w.cell? ⟨b, off + k * 2 + 1, none⟩ = some (.int .i64 p.2) := by
  rcases h with rfl | h
  · simp at hk
  · exact h
theorem RC.below {w w' : World} {a : Option Addr} {xs : List (Int × Int)} (h : RC w a xs) (hb : Below w.heap.size w w') : RC w' a xs := by
  rcases h with h | ⟨b, off, ha, hc⟩
  · exact .inl h
  · exact .inr ⟨b, off, ha, fun k x hx => by
      obtain ⟨h1, h2⟩ := hc k x hx
      exact ⟨by rw [hb.cell (World.block_lt_of_cell? w _ h1)]; exact h1, by rw [hb.cell (World.block_lt_of_cell? w _ h2)]; exact h2⟩⟩

theorem eqp_of_all {xs ys : List (Int × Int)} (hl : xs.length = ys.length) (h : ∀ j, j < xs.length → xs[j]? = ys[j]?) : decide (xs = ys) = true := by
  rw [decide_eq_true_iff]
  apply List.ext_getElem?
  intro j
  rcases Nat.lt_or_ge j xs.length with h1 | h1
  · exact h j h1
  · rw [List.getElem?_eq_none h1, List.getElem?_eq_none (by omega)]
theorem nep_of_at {xs ys : List (Int × Int)} {k : Nat} {x y : Int × Int} (hx : xs[k]? = some x) (hy : ys[k]? = some y) (h : x ≠ y) : decide (xs = ys) = false := by
  rw [decide_eq_false_iff_not]
  rintro rfl
  rw [hx] at hy
  exact h (by simpa using hy)
theorem pair_at {xs : List (Int × Int)} {n k : Nat} (h : xs.length = n) (hk : k < n) : ∃ p q, xs[k]? = some (p, q) := ⟨(xs[k]'(by omega)).1, (xs[k]'(by omega)).2, List.getElem?_eq_getElem (by omega)⟩

end Go.Proofs.Ytflkomgfgmephaa

namespace Go.Proofs.Ytflkomgfgmephaa
open Go.RowKit

def prs : List (Int × Int) → List Value
  | [] => []
  | p :: xs => .int .i64 p.1 :: .int .i64 p.2 :: prs xs
theorem prs_length (xs : List (Int × Int)) : (prs xs).length = xs.length * 2 := by
  induction xs with
  | nil => rfl
  | cons p xs ih => simp only [prs, List.length_cons, ih]; omega
theorem prs_at {xs : List (Int × Int)} : ∀ {k : Nat} {p : Int × Int}, xs[k]? = some p → (prs xs)[k * 2]? = some (.int .i64 p.1) ∧ (prs xs)[k * 2 + 1]? = some (.int .i64 p.2) := by
  induction xs with
  | nil => intro k p h; simp at h
  | cons q xs ih =>
    intro k p h
    rcases k with _ | k
    · simp only [List.getElem?_cons_zero, Option.some.injEq] at h
      subst h
      exact ⟨rfl, rfl⟩
    · simp only [List.getElem?_cons_succ] at h
      have := ih h
      have e : (k + 1) * 2 = k * 2 + 1 + 1 := by omega
      rw [e]
      simpa [prs] using this
theorem prs_append (xs ys : List (Int × Int)) : prs (xs ++ ys) = prs xs ++ prs ys := by
  induction xs with
  | nil => rfl
  | cons p xs ih => simp [prs, ih]
theorem prs_set {xs : List (Int × Int)} : ∀ {k : Nat} {p : Int × Int}, xs[k]? = some p → ∀ u : Int, (prs xs).set (k * 2) (.int .i64 u) = prs (xs.set k (u, p.2)) ∧ (prs xs).set (k * 2 + 1) (.int .i64 u) = prs (xs.set k (p.1, u)) := by
  induction xs with
  | nil => intro k p h; simp at h
  | cons q xs ih =>
    intro k p h u
    rcases k with _ | k
    · simp only [List.getElem?_cons_zero, Option.some.injEq] at h
      subst h
      exact ⟨rfl, rfl⟩
    · simp only [List.getElem?_cons_succ] at h
      obtain ⟨h1, h2⟩ := ih h u
      have e : (k + 1) * 2 = k * 2 + 1 + 1 := by omega
      rw [e]
      simp only [prs, List.set_cons_succ, h1, h2]
      exact ⟨trivial, trivial⟩

/-- the slice of cells is a row of the call's own, in a block from B on and below S -/
def CO (w : World) (B S : Nat) (a : Option Addr) (n c : Nat) (xs : List (Int × Int)) : Prop :=
  w.ownsRow B 53 2 (.slice a n c) n (prs xs) ∧ ∀ k, (Value.slice a n c).ownBlock = some k → k < S
theorem CO.len {w : World} {B S : Nat} {a : Option Addr} {n c : Nat} {xs : List (Int × Int)} (h : CO w B S a n c xs) : xs.length = n := by
  have := h.1.1; rw [prs_length] at this; omega
theorem CO.mk {w : World} {B : Nat} {a : Option Addr} {n c : Nat} {xs : List (Int × Int)} (h : w.ownsRow B 53 2 (.slice a n c) n (prs xs)) : CO w B w.heap.size a n c xs := ⟨h, fun k hk => (h.lt k hk).2⟩
theorem CO.lo {w : World} {B S : Nat} {a : Option Addr} {n c : Nat} {xs : List (Int × Int)} (h : CO w B S a n c xs) : ∀ k, (Value.slice a n c).ownBlock = some k → B ≤ k := fun k hk => (h.1.lt k hk).1
theorem CO.nil {w : World} {B S : Nat} : CO w B S none 0 0 [] := ⟨⟨rfl, .inl ⟨rfl, rfl⟩⟩, fun k hk => by simp [Value.ownBlock] at hk⟩
theorem CO.cons {w : World} {B S : Nat} {a : Option Addr} {n c : Nat} {xs : List (Int × Int)} (h : CO w B S a n c xs) {j : Nat} {p : Int × Int} (hp : xs[j]? = some p) :
    ∃ g, a = some ⟨g, 0, none⟩ ∧ B ≤ g ∧ w.cell? ⟨g, j * 2, none⟩ = some (.int .i64 p.1) ∧ w.cell? ⟨g, j * 2 + 1, none⟩ = some (.int .i64 p.2) ∧ w.frozen? ⟨g, j * 2, none⟩ = false ∧ w.frozen? ⟨g, j * 2 + 1, none⟩ = false := by
  have hl := h.len
  have hj : j < n := by have := (List.getElem?_eq_some_iff.1 hp).1; omega
  have h' := h.1
  rcases h.1.2 with ⟨_, h2⟩ | ⟨g, cap, cur, hv, hb, _⟩
  · omega
  · simp only [Value.slice.injEq] at hv
    obtain ⟨rfl, _, rfl⟩ := hv
    obtain ⟨e1, e2⟩ := prs_at hp
    exact ⟨g, rfl, hb, by rw [h'.cellAt _ (by omega)]; exact e1, by rw [h'.cellAt _ (by omega)]; exact e2, h'.frozenAt _, h'.frozenAt _⟩
theorem CO.rd {w : World} {B S : Nat} {a : Option Addr} {n c : Nat} {xs : List (Int × Int)} (h : CO w B S a n c xs) : RC w a xs := by
  rcases xs with _ | ⟨p0, xs⟩
  · exact .inl rfl
  · obtain ⟨g, rfl, _⟩ := h.cons (j := 0) (p := p0) rfl
    refine .inr ⟨g, 0, rfl, fun k p hp => ?_⟩
    obtain ⟨g', e, _, h1, h2, _⟩ := h.cons hp
    obtain rfl : g = g' := by simpa using e
    simp only [Nat.zero_add]
    exact ⟨h1, h2⟩
theorem CO.store {w : World} {B S g n c : Nat} {xs : List (Int × Int)} (h : CO w B S (some ⟨g, 0, none⟩) n c xs) {j : Nat} {p : Int × Int} (hp : xs[j]? = some p) (u : Int) :
    (CO (w.setCell ⟨g, j * 2, none⟩ (.int .i64 u)) B S (some ⟨g, 0, none⟩) n c (xs.set j (u, p.2)) ∧ w.grownBy (w.setCell ⟨g, j * 2, none⟩ (.int .i64 u)) (some g)) ∧
    (CO (w.setCell ⟨g, j * 2 + 1, none⟩ (.int .i64 u)) B S (some ⟨g, 0, none⟩) n c (xs.set j (p.1, u)) ∧ w.grownBy (w.setCell ⟨g, j * 2 + 1, none⟩ (.int .i64 u)) (some g)) := by
  obtain ⟨e1, e2⟩ := prs_set hp u
  have s1 := h.1.stored (j * 2) (.int .i64 u)
  have s2 := h.1.stored (j * 2 + 1) (.int .i64 u)
  exact ⟨⟨⟨by rw [← e1]; exact s1.1, h.2⟩, s1.2⟩, ⟨⟨by rw [← e2]; exact s2.1, h.2⟩, s2.2⟩⟩
theorem CO.only {w w' : World} {B S B' S' : Nat} {a : Option Addr} {n c : Nat} {xs : List (Int × Int)} (h : CO w B S a n c xs) (ho : Only B' S' w w') (hd : S ≤ B' ∨ S' ≤ B) : CO w' B S a n c xs := by
  refine ⟨⟨h.1.1, ?_⟩, h.2⟩
  have hh := h.2
  have hl := h.lo
  rcases h.1.2 with h2 | ⟨g, cap, cur, hv, hg, hb, r⟩
  · exact .inl h2
  · simp only [Value.slice.injEq] at hv
    obtain ⟨rfl, _, rfl⟩ := hv
    have h1 := hh g rfl
    have h3 := hl g rfl
    exact .inr ⟨g, c, cur, rfl, hg, by rw [ho.block g (Array.getElem?_eq_some_iff.1 hb).1 (by omega)]; exact hb, r⟩
theorem CO.below {w w' : World} {B S : Nat} {a : Option Addr} {n c : Nat} {xs : List (Int × Int)} (h : CO w B S a n c xs) (hb : Below w.heap.size w w') : CO w' B S a n c xs := h.only (Only.of_below hb) (.inr (Nat.zero_le _))
theorem CO.mono {w : World} {B S B' S' : Nat} {a : Option Addr} {n c : Nat} {xs : List (Int × Int)} (h : CO w B S a n c xs) (hB : B' ≤ B) (hS : S ≤ S') : CO w B' S' a n c xs := by
  refine ⟨⟨h.1.1, ?_⟩, fun k hk => Nat.lt_of_lt_of_le (h.2 k hk) hS⟩
  rcases h.1.2 with h2 | ⟨g, cap, cur, hv, hg, r⟩
  · exact .inl h2
  · exact .inr ⟨g, cap, cur, hv, Nat.le_trans hB hg, r⟩

def sz_C (xs : List (Int × Int)) : Nat := xs.length * 2
def mk_C (xs : List (Int × Int)) (k : Int) : List (Int × Int) := (List.range xs.length).map fun (i : Nat) => (k + (i * 2 : Nat), k + (i * 2 : Nat) + 1)
theorem mk_C_length (xs : List (Int × Int)) (k : Int) : (mk_C xs k).length = xs.length := by simp [mk_C]
theorem mk_C_at {xs : List (Int × Int)} {k : Int} {n j : Nat} (h : xs.length = n) (hj : j < n) : (mk_C xs k)[j]? = some (k + (j * 2 : Nat), k + (j * 2 : Nat) + 1) := by
  subst h; simp [mk_C, hj]
def partC (xs : List (Int × Int)) (k : Int) (j : Nat) : List (Int × Int) := (mk_C xs k).take j ++ xs.drop j
theorem partC_at {xs : List (Int × Int)} {k : Int} {n j : Nat} {p : Int × Int} (h : xs.length = n) (hj : j < n) (hp : xs[j]? = some p) : (partC xs k j)[j]? = some p := by
  unfold partC
  have hl : ((mk_C xs k).take j).length = j := by rw [List.length_take, mk_C_length]; omega
  rw [List.getElem?_append_right (by omega), hl, Nat.sub_self, List.getElem?_drop, Nat.add_zero]
  exact hp
theorem partC_succ {xs : List (Int × Int)} {k : Int} {n j : Nat} (h : xs.length = n) (hj : j < n) : (partC xs k j).set j (k + (j * 2 : Nat), k + (j * 2 : Nat) + 1) = partC xs k (j + 1) := by
  obtain ⟨p, q, hp⟩ := pair_at h hj
  unfold partC
  have hl : ((mk_C xs k).take j).length = j := by rw [List.length_take, mk_C_length]; omega
  have e1 := List.take_add_one (l := mk_C xs k) (i := j)
  rw [mk_C_at h hj] at e1
  have hj' := (List.getElem?_eq_some_iff.1 hp).1
  rw [List.drop_eq_getElem_cons hj', List.set_append_right _ _ (by omega), hl, Nat.sub_self, List.set_cons_zero, e1]
  simp

end Go.Proofs.Ytflkomgfgmephaa

namespace Go.Proofs.Ytflkomgfgmephaa
open Go.RowKit

theorem Try.infoCell : (Try.prog.info? 53).map (fun i => (i.zero, i.size, i.bytes)) = some (some (.agg #[.int .i64 0, .int .i64 0]), 2, 16) := by kernel_rfl
theorem slice_of2 {w : World} {B e n : Nat} {v : Value} {xs : List Value} (h : w.ownsRow B e 2 v n xs) : ∃ a c, v = .slice a n c := by
  rcases h.2 with ⟨rfl, rfl⟩ | ⟨g, cap, cur, rfl, _⟩
  · exact ⟨none, 0, rfl⟩
  · exact ⟨_, cap, rfl⟩
theorem wpList_pushC {w W : World} {p q : Int} (hW : W = w.alloc (.cells #[.int .i64 p, .int .i64 q] 53)) {ops : Array Oper} {rest : List Oper} {o : Oper} {ac : Act} {Q : Exit → Act → World → Prop} (hgd : o.guard = none) (s x : Operand)
    (ho : o.op = .call { callee := .builtin .append, args := #[s, x], argTypes := #[51, 51] })
    {B S : Nat} {a : Option Addr} {n c : Nat} {xs : List (Int × Int)} (hown : CO w B S a n c xs) (hs : ac.eval s = .slice a n c)
    (hx : ac.eval x = .slice (some ⟨w.heap.size, 0, none⟩) 1 1) (hn : n + 1 ≤ 1048576) (hbase : B ≤ w.heap.size)
    (h : ∀ a' c' w', CO w' B w'.heap.size a' (n + 1) c' (xs ++ [(p, q)]) → w.grownBy w' (Value.slice a n c).ownBlock → wpList Try.prog ops Q rest (ac.put o.dst (.slice a' (n + 1) c')) w') :
    wpList Try.prog ops Q (o :: rest) ac W := by
  subst hW
  obtain ⟨i0, hi, hz0, hz1, hz2⟩ := info_parts Try.infoCell
  refine wpList_append_own _ hgd s x 51 ho B 53 i0 (.agg #[.int .i64 0, .int .i64 0]) 2 16 Try.underlying51 hi hz0 hz1 hz2 rfl (by decide) _ n (prs xs) hs (hown.1.alloc _) ⟨w.heap.size, 0, none⟩ 1 1 [.int .i64 p, .int .i64 q] hx rfl ?_ ?_ (by unfold maxLen; omega) (by omega) (by simp; omega) ?_
  · intro j y hj
    match j, hj with
    | 0, hj => simp at hj; subst hj; simp [Addr.add]
    | 1, hj => simp at hj; subst hj; simp [Addr.add]
  · intro y hy
    simp at hy
    rcases hy with rfl | rfl <;> rfl
  · intro v' w' h2 h3 _
    obtain ⟨a', c', rfl⟩ := slice_of2 h2
    exact h a' c' w' (CO.mk (by rw [prs_append]; exact h2)) (grownBy.trans (World.grownBy_alloc w _ _) h3)
theorem CO.made (w : World) : CO (w.alloc (.cells #[] 53)) w.heap.size (w.alloc (.cells #[] 53)).heap.size (some ⟨w.heap.size, 0, none⟩) 0 0 [] :=
  CO.mk (World.ownsRow_made _ #[] 0 (Nat.le_refl _) (Nat.zero_le _) rfl)
/-- a row of integers lies in another block than a row of cells -/
theorem ne_blockC {w : World} {B B' S n l : Nat} {a a' : Option Addr} {c c' : Nat} {ps : List (Int × Int)} {xs : List Int} (h : CO w B' S a n c ps) (hi : OS w B a' l c' xs) :
    ∀ k, (Value.slice a' l c').ownBlock = some k → (Value.slice a n c).ownBlock ≠ some k := by
  intro k hk hk'
  rcases h.1.2 with ⟨hv, _⟩ | ⟨g, cap, cur, hv, _, hh, _⟩
  · rw [hv] at hk'; cases hk'
  · rw [hv] at hk'
    rcases ownsRow_shape hi.own with ⟨_, rfl, _⟩ | ⟨g', rfl, _, _, _, cur', hg'⟩
    · cases hk
    · have e1 : g = k := by simpa [Value.ownBlock] using hk'
      have e2 : g' = k := by simpa [Value.ownBlock] using hk
      subst e1 e2
      rw [hh] at hg'
      simp at hg'

def rowCells (i m : Nat) : List (Int × Int) := (List.range m).map fun (j : Nat) => ((i : Int), (j : Int))
theorem rowCells_succ (i m : Nat) : rowCells i (m + 1) = rowCells i m ++ [((i : Int), (m : Int))] := by simp [rowCells, List.range_succ]
def bot (c : List Int) : Nat → List (Int × Int)
  | 0 => []
  | i + 1 => bot c i ++ rowCells i (c.getD i 0).toNat
theorem bot_len (c : List Int) {n : Nat} (h : ∀ (i : Nat) (x : Int), c[i]? = some x → 0 ≤ x ∧ x ≤ n) (k : Nat) : (bot c k).length ≤ k * n := by
  induction k with
  | zero => simp [bot]
  | succ k ih =>
    rw [bot, List.length_append, Nat.succ_mul]
    have : (rowCells k (c.getD k 0).toNat).length ≤ n := by
      simp only [rowCells, List.length_map, List.length_range]
      rw [List.getD_eq_getElem?_getD]
      cases hc : c[k]? with
      | none => simp
      | some x => have := h k x hc; simp only [Option.getD_some]; omega
    omega
def bottom (xs : List Int) : List (Int × Int) := if isPerm xs = true ∧ xs.length ≤ 6 then bot (code xs) xs.length else []
theorem code_bd {xs : List Int} (i : Nat) (x : Int) (h : (code xs)[i]? = some x) : 0 ≤ x ∧ x ≤ (xs.length : Nat) := by
  have hi := (List.getElem?_eq_some_iff.1 h).1
  rw [code_length] at hi
  rw [code_at rfl hi] at h
  obtain rfl := Option.some.inj h
  have := cnt_le xs i (xs.length - 1 - i)
  omega
theorem bottom_len (xs : List Int) : (bottom xs).length ≤ 36 := by
  unfold bottom
  split
  · have := bot_len (code xs) (n := xs.length) code_bd xs.length
    have h6 : xs.length ≤ 6 := by omega
    have := Nat.mul_le_mul h6 h6
    omega
  · simp
theorem bottom_no {xs : List Int} (h : isPerm xs = false ∨ 6 < xs.length) : bottom xs = [] := by
  rw [bottom, if_neg]
  rintro ⟨h1, h2⟩
  rcases h with h | h
  · rw [h1] at h; cases h
  · omega
theorem bottom_ok {xs : List Int} {n : Nat} (hn : xs.length = n) (h : isPerm xs = true) (h6 : n ≤ 6) : bottom xs = bot (code xs) n := by
  subst hn
  rw [bottom, if_pos ⟨h, h6⟩]
theorem codeOf_ok {xs : List Int} (h : isPerm xs = true) : codeOf xs = code xs := by rw [codeOf, h]; rfl

end Go.Proofs.Ytflkomgfgmephaa

namespace Go.Proofs.Ytflkomgfgmephaa
open Go.RowKit Go.ChangeShapes

def Wide_C (n : Nat) (_xs : List (Int × Int)) : Prop := n ≤ 9223372036854775807
def Wf_C (xs : List (Int × Int)) : Prop := ∀ p ∈ xs, (Lit.int .i64 p.1).wf = true ∧ (Lit.int .i64 p.2).wf = true
def ms_C (xs : List (Int × Int)) : Nat := xs.length
def Short_C (_xs : List (Int × Int)) : Prop := True
theorem ms_C_len (xs : List (Int × Int)) : xs.length ≤ ms_C xs := Nat.le_refl _
theorem ms_C_short (xs : List (Int × Int)) (_h : ms_C xs ≤ 1048576) : Short_C xs := trivial
theorem Try.sizeCell : (Try.prog.info? 53).map (·.size) = some 2 := by kernel_rfl
def fillC (xs : List (Int × Int)) (n k : Nat) : List (Int × Int) := xs.take k ++ List.replicate (n - k) (0, 0)
theorem fillC_length {xs : List (Int × Int)} {n k : Nat} (h : xs.length = n) (hk : k ≤ n) : (fillC xs n k).length = n := by simp [fillC]; omega
theorem fillC_all {xs : List (Int × Int)} {n : Nat} (h : xs.length = n) : fillC xs n n = xs := by simp [fillC, ← h]
theorem fillC_succ {xs : List (Int × Int)} {n k : Nat} {x : Int × Int} (h : xs.length = n) (hk : k < n) (hx : xs[k]? = some x) : (fillC xs n k).set k x = fillC xs n (k + 1) := by
  subst h
  apply List.ext_getElem?
  intro j
  obtain ⟨_, rfl⟩ := List.getElem?_eq_some_iff.1 hx
  rw [List.getElem?_set]
  by_cases hj : k = j
  · subst hj
    rw [if_pos rfl, if_pos (by rw [fillC_length rfl (by omega)]; exact hk)]
    unfold fillC
    rw [List.getElem?_append_left (by simp; omega), List.getElem?_take, if_pos (by omega), List.getElem?_eq_getElem hk]
  · simp only [if_neg hj, fillC]
    rw [List.getElem?_append, List.getElem?_append]
    simp only [List.length_take, List.getElem?_take, List.getElem?_replicate]
    repeat' split
    all_goals first | rfl | omega
theorem fillC_at {xs : List (Int × Int)} {n k : Nat} (h : xs.length = n) (hk : k < n) : ∃ p, (fillC xs n k)[k]? = some p := ⟨_, List.getElem?_eq_getElem (by rw [fillC_length h (by omega)]; exact hk)⟩
theorem prs_replicate (n : Nat) : prs (List.replicate n (0, 0)) = (madeCells (Value.agg #[.int .i64 0, .int .i64 0]).cells (n * 2)).toList := by
  apply List.ext_getElem?
  intro j
  have e : (Value.agg #[.int .i64 0, .int .i64 0]).cells = #[.int .i64 0, .int .i64 0] := rfl
  rw [e]
  by_cases hj : j < n * 2
  · have h1 : (prs (List.replicate n ((0 : Int), (0 : Int))))[j]? = some (.int .i64 0) := by
      have hp : (List.replicate n ((0 : Int), (0 : Int)))[j / 2]? = some (0, 0) := by rw [List.getElem?_replicate, if_pos (by omega)]
      obtain ⟨e1, e2⟩ := prs_at hp
      rcases Nat.mod_two_eq_zero_or_one j with h | h
      · have : j = j / 2 * 2 := by omega
        rw [this]; exact e1
      · have : j = j / 2 * 2 + 1 := by omega
        rw [this]; exact e2
    rw [h1]
    rcases Nat.mod_two_eq_zero_or_one j with h | h <;> simp [madeCells, hj, h]
  · rw [List.getElem?_eq_none (by rw [prs_length, List.length_replicate]; omega)]
    simp [madeCells, hj]

end Go.Proofs.Ytflkomgfgmephaa

namespace Go.Proofs.Ytflkomgfgmephaa
open Go.RowKit

theorem ms_C_sz (xs : List (Int × Int)) : sz_C xs ≤ 2 * ms_C xs := by unfold sz_C ms_C; omega
theorem prs_one (xs : List (Int × Int)) : ∀ u ∈ prs xs, u.oneCell' = true := by
  induction xs with
  | nil => intro u hu; simp [prs] at hu
  | cons p xs ih =>
    intro u hu
    simp only [prs, List.mem_cons] at hu
    rcases hu with rfl | rfl | hu
    · rfl
    · rfl
    · exact ih u hu
theorem prs_cells {w : World} {b : Nat} {off : Nat} {xs : List (Int × Int)} (h : ∀ k p, xs[k]? = some p → w.cell? ⟨b, off + k * 2, none⟩ = some (.int .i64 p.1) ∧ w.cell? ⟨b, off + k * 2 + 1, none⟩ = some (.int .i64 p.2)) :
    ∀ j u, (prs xs)[j]? = some u → w.cell? ((⟨b, off, none⟩ : Addr).add j) = some u := by
  intro j u hu
  have hj := (List.getElem?_eq_some_iff.1 hu).1
  rw [prs_length] at hj
  obtain ⟨p, q, hp⟩ := pair_at (k := j / 2) rfl (show j / 2 < xs.length by omega)
  obtain ⟨h1, h2⟩ := h _ _ hp
  obtain ⟨e1, e2⟩ := prs_at hp
  have ea : (⟨b, off, none⟩ : Addr).add j = ⟨b, off + j, none⟩ := by unfold Addr.add; split <;> simp_all
  rw [ea]
  rcases Nat.mod_two_eq_zero_or_one j with h | h
  · have e : j = j / 2 * 2 := by omega
    rw [e] at hu
    rw [e1] at hu
    rw [← hu, e]
    simpa using h1
  · have e : j = j / 2 * 2 + 1 := by omega
    rw [e] at hu
    rw [e2] at hu
    rw [← hu, e]
    rw [← Nat.add_assoc]
    exact h2
theorem RC.cells {w : World} {ad : Addr} {xs : List (Int × Int)} (h : RC w (some ad) xs) : ∀ j u, (prs xs)[j]? = some u → w.cell? (ad.add j) = some u := by
  rcases h with rfl | ⟨b, off, e, hc⟩
  · intro j u hu; simp [prs] at hu
  · obtain rfl := Option.some.inj e
    exact prs_cells hc
theorem wpList_appC {w : World} {ops : Array Oper} {rest : List Oper} {o : Oper} {ac : Act} {Q : Exit → Act → World → Prop} (hgd : o.guard = none) (s x : Operand)
    (ho : o.op = .call { callee := .builtin .append, args := #[s, x], argTypes := #[51, 51] })
    {B S : Nat} {a : Option Addr} {n c : Nat} {xs : List (Int × Int)} (hown : CO w B S a n c xs) (hs : ac.eval s = .slice a n c)
    {ad : Addr} {m d : Nat} {ys : List (Int × Int)} (hr : RC w (some ad) ys) (hm : ys.length = m) (hx : ac.eval x = .slice (some ad) m d) (hn : n + m ≤ 2097152) (hbase : B ≤ w.heap.size)
    (h : ∀ a' c' w', CO w' B w'.heap.size a' (n + m) c' (xs ++ ys) → w.grownBy w' (Value.slice a n c).ownBlock → wpList Try.prog ops Q rest (ac.put o.dst (.slice a' (n + m) c')) w') :
    wpList Try.prog ops Q (o :: rest) ac w := by
  obtain ⟨i0, hi, hz0, hz1, hz2⟩ := info_parts Try.infoCell
  refine wpList_append_own _ hgd s x 51 ho B 53 i0 (.agg #[.int .i64 0, .int .i64 0]) 2 16 Try.underlying51 hi hz0 hz1 hz2 rfl (by decide) _ n (prs xs) hs hown.1 ad m d (prs ys) hx (by rw [prs_length, hm]) hr.cells (prs_one ys) (by unfold maxLen; omega) (by omega) hbase ?_
  intro v' w' h2 h3 _
  obtain ⟨a', c', rfl⟩ := slice_of2 h2
  exact h a' c' w' (CO.mk (by rw [prs_append]; exact h2)) h3

set_option maxRecDepth 100000 in
set_option maxHeartbeats 400000 in
theorem cloneC_any (a : Option Addr) (n c : Nat) (xs : List (Int × Int)) (w : World) (hr : RC w a xs) (hn : xs.length = n) (hb : n ≤ 1048576) :
    Calls Try.prog 60 #[.slice a n c] w fun e w' => ∃ a' c', e = .returned (.slice a' n c') ∧ CO w' w.heap.size w'.heap.size a' n c' xs ∧ Below w.heap.size w w' := by
  have q22 : ∀ (w : World) (a : Option Addr) (n c n' c' : Nat), (binOp .eql 51 (.slice a n c) (.slice none n' c')).run Try.prog w = .ok (.bool a.isNone) w := fun w a n c n' c' => Lib.run_eql_slice_nil w _ _ a n c n' c' Try.underlying51
  rcases a with _ | ad
  · have hx : xs = [] := by
      rcases hr with h | ⟨b, off, h, _⟩
      · exact h
      · cases h
    subst hx
    simp only [List.length_nil] at hn
    subst hn
    go_enter Try.func60, Try.ntmps60
    go_wp2
    go_ret
    exact ⟨_, _, rfl, CO.nil, Below.refl _ _⟩
  · have h1 : CO (w.alloc (.cells #[] 53)) w.heap.size (w.alloc (.cells #[] 53)).heap.size (some ⟨w.heap.size, 0, none⟩) 0 0 [] := CO.made w
    have hB0 : Below w.heap.size w (w.alloc (.cells #[] 53)) := (Below.refl _ _).alloc (Nat.le_refl _) _
    have Hn := Lib.hid hn; clear hn
    have H1 := Lib.hid h1; clear h1
    have hr0 := hr.below hB0
    go_enter Try.func60, Try.ntmps60
    go_wp2_with (first | (at_builtin; go_loud (refine wpList_appC (by rfl) _ _ (by rfl) H1.out (by rfl) hr0 Hn.out (by rfl) (by omega) (by simp) ?_)))
    intro a2 c2 w2 ho2 hg2
    have hB2 : Below w.heap.size w w2 := hB0.grown hg2 (by simp) (fun k hk => by simp [Value.ownBlock] at hk; omega)
    go_wp2
    go_ret
    exact ⟨a2, c2, by simp, by simpa using ho2, hB2⟩
end Go.Proofs.Ytflkomgfgmephaa
