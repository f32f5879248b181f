/-
  What came in, opened: a slice of integers.
  Contracts of szCellS, toCell, toCellS; what came in, opened: a slice of cells.
  Contracts of byCells and l3Less: the order of cells; dreams.
  The order of dreams, cell by cell: plain.
  Contract of l1HasCell.
  Contracts of slices.Equal at cells, and of slices.CompactFunc where no two neighbours are alike.
-/
import Derived.Test.YtdpjcjnednmoeaaBuM4
import Derived.ProofKit
import Derived.OpenShut
import Derived.ShutString
import Derived.ChangeOld
import Derived.Below
import Derived.Test.YtdpjcjnednmoeaaBuM7
import Derived.Deep.SlicePairs
import Derived.Laws.Rows
import Derived.Test.YtdpjcjnednmoeaaBuM1
import Derived.Lib.QuietBelow
import Derived.BigQuiet
namespace Go.Proofs.Ytdpjcjnednmoeaa
open Go.ChangeShapes Go.WideShapes Go.ChangeAt Go.RowKit


/-- a slice of integers that came in -/
def IsRow (k : IntKind) (w : World) (a : Option Addr) (len cap : Nat) (zs : List Int) : Prop :=
  (a = none ∧ len = 0 ∧ cap = 0 ∧ zs = []) ∨
  ∃ x, a = some x ∧ len ≤ cap ∧ cap ≤ maxLen ∧ zs.length = cap ∧ (∀ i, i < zs.length → w.cell? (x.add i) = some (.int k (zs.getD i 0))) ∧ ∀ n ∈ zs, (Lit.int k n).wf = true

theorem IsRow.ri {w : World} {a : Option Addr} {len cap : Nat} {zs : List Int} (h : IsRow .i64 w a len cap zs) :
    RI w a (zs.take len) ∧ (zs.take len).length = len ∧ len ≤ 9223372036854775807 ∧ ∀ n ∈ zs.take len, (Lit.int .i64 n).wf = true := by
  rcases h with ⟨rfl, rfl, rfl, rfl⟩ | ⟨x, rfl, hl, hm, hz, hcell, hwz⟩
  · exact ⟨.inl rfl, rfl, by omega, by simp⟩
  · refine ⟨?_, by simp; omega, by unfold maxLen at hm; omega, fun n hn => hwz n (List.mem_of_mem_take hn)⟩
    by_cases h0 : len = 0
    · left; simp [h0]
    · right
      obtain ⟨b, off, spot⟩ := x
      have hc := hcell 0 (by omega)
      have hspot : spot = none := by simpa [Addr.add] using World.cell?_spot hc
      subst hspot
      refine ⟨b, off, rfl, fun k y hy => ?_⟩
      have hk : k < zs.length := by have := (List.getElem?_eq_some_iff.1 hy).1; simp at this; omega
      have hc := hcell k hk
      rw [List.getElem?_take] at hy
      split at hy
      · rw [List.getD_eq_getElem?_getD, hy] at hc
        rw [← (by simpa using hc : w.cell? ((⟨b, off, none⟩ : Addr).add k) = some (.int .i64 y))]
        unfold Addr.add
        split
        · subst_vars; rfl
        · rfl
      · cases hy

theorem IsRow.rb {w : World} {a : Option Addr} {len cap : Nat} {zs : List Int} (h : IsRow .u8 w a len cap zs) :
    RB w a (zs.take len) ∧ (zs.take len).length = len ∧ len ≤ 9223372036854775807 ∧ Bytes (zs.take len) := by
  rcases h with ⟨rfl, rfl, rfl, rfl⟩ | ⟨x, rfl, hl, hm, hz, hcell, hwz⟩
  · exact ⟨.inl rfl, rfl, by omega, by simp [Bytes]⟩
  · refine ⟨?_, by simp; omega, by unfold maxLen at hm; omega, fun n hn => bounds_u8 (hwz n (List.mem_of_mem_take hn))⟩
    by_cases h0 : len = 0
    · left; simp [h0]
    · right
      obtain ⟨b, off, spot⟩ := x
      have hc := hcell 0 (by omega)
      have hspot : spot = none := by simpa [Addr.add] using World.cell?_spot hc
      subst hspot
      refine ⟨b, off, rfl, fun k y hy => ?_⟩
      have hk : k < zs.length := by have := (List.getElem?_eq_some_iff.1 hy).1; simp at this; omega
      have hc := hcell k hk
      rw [List.getElem?_take] at hy
      split at hy
      · rw [List.getD_eq_getElem?_getD, hy] at hc
        rw [← (by simpa using hc : w.cell? ((⟨b, off, none⟩ : Addr).add k) = some (.int .u8 y))]
        unfold Addr.add
        split
        · subst_vars; rfl
        · rfl
      · cases hy
theorem open_I {H : Type} {enc : TypeId × Value → H} {W : World} {a : Option Addr} {len cap : Nat} {d : DataW H} {p : List MemPlace} (h : DataW.Trod enc Try.prog W 0 (fun _ => true) true 24 (.slice a len cap) d p) :
    ∃ xs, RI W a xs ∧ xs.length = len ∧ len ≤ 9223372036854775807 ∧ ∀ n ∈ xs, (Lit.int .i64 n).wf = true := by
  obtain ⟨zs, hz⟩ : ∃ zs, IsRow .i64 W a len cap zs := by
    obtain ⟨fuel, hf⟩ := h
    rcases open_ints Try.underlying24 Try.underlying3 (by kernel_rfl) hf with ⟨hcs, _⟩ | ⟨x, l, c, zs, hcs, _, hl, hm, hz, _, hcell, hwz⟩
    · simp [Value.cells] at hcs
      obtain ⟨rfl, rfl, rfl⟩ := hcs
      exact ⟨[], .inl ⟨rfl, rfl, rfl, rfl⟩⟩
    · simp [Value.cells] at hcs
      obtain ⟨rfl, rfl, rfl⟩ := hcs
      exact ⟨zs, .inr ⟨_, rfl, hl, hm, by simpa using hz, hcell, hwz⟩⟩
  exact ⟨_, hz.ri⟩
theorem open_B {H : Type} {enc : TypeId × Value → H} {W : World} {a : Option Addr} {len cap : Nat} {d : DataW H} {p : List MemPlace} (h : DataW.Trod enc Try.prog W 0 (fun _ => true) true 22 (.slice a len cap) d p) :
    ∃ xs, RB W a xs ∧ xs.length = len ∧ len ≤ 9223372036854775807 ∧ Bytes xs := by
  obtain ⟨zs, hz⟩ : ∃ zs, IsRow .u8 W a len cap zs := by
    obtain ⟨fuel, hf⟩ := h
    rcases open_ints Try.underlying22 Try.underlying5 (by kernel_rfl) hf with ⟨hcs, _⟩ | ⟨x, l, c, zs, hcs, _, hl, hm, hz, _, hcell, hwz⟩
    · simp [Value.cells] at hcs
      obtain ⟨rfl, rfl, rfl⟩ := hcs
      exact ⟨[], .inl ⟨rfl, rfl, rfl, rfl⟩⟩
    · simp [Value.cells] at hcs
      obtain ⟨rfl, rfl, rfl⟩ := hcs
      exact ⟨zs, .inr ⟨_, rfl, hl, hm, by simpa using hz, hcell, hwz⟩⟩
  exact ⟨_, hz.rb⟩
end Go.Proofs.Ytdpjcjnednmoeaa

namespace Go.Proofs.Ytdpjcjnednmoeaa
open Go.RowKit Go.ChangeShapes

def Wide_C (n : Nat) (_xs : List (Int × Int)) : Prop := n ≤ 9223372036854775807
def Wf_C (xs : List (Int × Int)) : Prop := ∀ p ∈ xs, (Lit.int .i64 p.1).wf = true ∧ (Lit.int .i64 p.2).wf = true
def ms_C (xs : List (Int × Int)) : Nat := xs.length
def Short_C (_xs : List (Int × Int)) : Prop := True
theorem ms_C_len (xs : List (Int × Int)) : xs.length ≤ ms_C xs := Nat.le_refl _
theorem ms_C_short (xs : List (Int × Int)) (_h : ms_C xs ≤ 1048576) : Short_C xs := trivial
theorem Try.sizeCell : (Try.prog.info? 52).map (·.size) = some 2 := by kernel_rfl
def fillC (xs : List (Int × Int)) (n k : Nat) : List (Int × Int) := xs.take k ++ List.replicate (n - k) (0, 0)
theorem fillC_length {xs : List (Int × Int)} {n k : Nat} (h : xs.length = n) (hk : k ≤ n) : (fillC xs n k).length = n := by simp [fillC]; omega
theorem fillC_all {xs : List (Int × Int)} {n : Nat} (h : xs.length = n) : fillC xs n n = xs := by simp [fillC, ← h]
theorem fillC_succ {xs : List (Int × Int)} {n k : Nat} {x : Int × Int} (h : xs.length = n) (hk : k < n) (hx : xs[k]? = some x) : (fillC xs n k).set k x = fillC xs n (k + 1) := by
  subst h
  apply List.ext_getElem?
  intro j
  obtain ⟨_, rfl⟩ := List.getElem?_eq_some_iff.1 hx
  rw [List.getElem?_set]
  by_cases hj : k = j
  · subst hj
    rw [if_pos rfl, if_pos (by rw [fillC_length rfl (by omega)]; exact hk)]
    unfold fillC
    rw [List.getElem?_append_left (by simp; omega), List.getElem?_take, if_pos (by omega), List.getElem?_eq_getElem hk]
  · simp only [if_neg hj, fillC]
    rw [List.getElem?_append, List.getElem?_append]
    simp only [List.length_take, List.getElem?_take, List.getElem?_replicate]
    repeat' split
    all_goals first | rfl | omega
theorem fillC_at {xs : List (Int × Int)} {n k : Nat} (h : xs.length = n) (hk : k < n) : ∃ p, (fillC xs n k)[k]? = some p := ⟨_, List.getElem?_eq_getElem (by rw [fillC_length h (by omega)]; exact hk)⟩
theorem prs_replicate (n : Nat) : prs (List.replicate n (0, 0)) = (madeCells (Value.agg #[.int .i64 0, .int .i64 0]).cells (n * 2)).toList := by
  apply List.ext_getElem?
  intro j
  have e : (Value.agg #[.int .i64 0, .int .i64 0]).cells = #[.int .i64 0, .int .i64 0] := rfl
  rw [e]
  by_cases hj : j < n * 2
  · have h1 : (prs (List.replicate n ((0 : Int), (0 : Int))))[j]? = some (.int .i64 0) := by
      have hp : (List.replicate n ((0 : Int), (0 : Int)))[j / 2]? = some (0, 0) := by rw [List.getElem?_replicate, if_pos (by omega)]
      obtain ⟨e1, e2⟩ := prs_at hp
      rcases Nat.mod_two_eq_zero_or_one j with h | h
      · have : j = j / 2 * 2 := by omega
        rw [this]; exact e1
      · have : j = j / 2 * 2 + 1 := by omega
        rw [this]; exact e2
    rw [h1]
    rcases Nat.mod_two_eq_zero_or_one j with h | h <;> simp [madeCells, hj, h]
  · rw [List.getElem?_eq_none (by rw [prs_length, List.length_replicate]; omega)]
    simp [madeCells, hj]

end Go.Proofs.Ytdpjcjnednmoeaa

namespace Go.Proofs.Ytdpjcjnednmoeaa
open Go.RowKit

def cellLess (p q : Int × Int) : Bool := decide (p.1 < q.1) || (decide (p.1 = q.1) && decide (p.2 < q.2))
def cellCmp (p q : Int × Int) : Int := if p.1 = q.1 then p.2 - q.2 else p.1 - q.1
theorem cellCmp_less (p q : Int × Int) : decide (cellCmp p q < 0) = cellLess p q := by
  unfold cellCmp cellLess
  by_cases h : p.1 = q.1
  · rw [if_pos h]
    by_cases h2 : p.2 < q.2 <;> simp [h, h2] <;> omega
  · rw [if_neg h]
    by_cases h2 : p.1 < q.1 <;> simp [h, h2] <;> omega

def Low (x : Int) : Prop := -1000 ≤ x ∧ x ≤ 1000
set_option maxRecDepth 100000 in
set_option maxHeartbeats 800000 in
theorem byCells_any (a b c d : Int) (w : World) (ha : Low a) (hb : Low b) (hc : Low c) (hd : Low d) :
    Calls Try.prog 51 #[.agg #[.int .i64 a, .int .i64 b], .agg #[.int .i64 c, .int .i64 d]] w fun e w' => e = .returned (.int .i64 (cellCmp (a, b) (c, d))) ∧ Below w.heap.size w w' := by
  obtain ⟨a1, a2⟩ := ha
  obtain ⟨b1, b2⟩ := hb
  obtain ⟨c1, c2⟩ := hc
  obtain ⟨d1, d2⟩ := hd
  have hB := Lib.hid (((Below.refl w.heap.size w).alloc (Nat.le_refl _) (.cells #[.int .i64 a, .int .i64 b] 52)).alloc (by simp only [World.alloc, Array.size_push]; omega) (.cells #[.int .i64 c, .int .i64 d] 52))
  by_cases h1 : a = c
  · have e1 : (a != c) = false := by simp [h1]
    have Hr := Lib.hid (show cellCmp (a, b) (c, d) = b - d by unfold cellCmp; rw [if_pos h1])
    clear h1
    go_enter Try.func51, Try.ntmps51
    go_wp2
    go_ret
    exact ⟨ret_int Hr.out.symm, hB.out⟩
  · have e1 : (a != c) = true := by simp [h1]
    have Hr := Lib.hid (show cellCmp (a, b) (c, d) = a - c by unfold cellCmp; rw [if_neg h1])
    clear h1
    go_enter Try.func51, Try.ntmps51
    go_wp2
    go_ret
    exact ⟨ret_int Hr.out.symm, hB.out⟩
def cellOf (xs : List (Int × Int)) (k : Nat) : Int × Int := xs.getD k (0, 0)
theorem cellOf_at {xs : List (Int × Int)} {k : Nat} {p : Int × Int} (h : xs[k]? = some p) : cellOf xs k = p := by simp [cellOf, h]
def inStair (n : Int) (p : Int × Int) : Bool := decide (0 ≤ p.1 ∧ p.1 ≤ n - 2) && decide (0 ≤ p.2 ∧ p.2 ≤ n - 2 - p.1)
def dreamAt (n : Int) (xs : List (Int × Int)) (k : Nat) : Bool := inStair n (cellOf xs k) && (k == 0 || cellLess (cellOf xs (k - 1)) (cellOf xs k))
def isDream (n : Int) (xs : List (Int × Int)) : Bool := decide (1 ≤ n ∧ n ≤ 6) && (List.range xs.length).all (dreamAt n xs)
theorem isDream_size {n : Int} {xs : List (Int × Int)} (h : ¬ (1 ≤ n ∧ n ≤ 6)) : isDream n xs = false := by
  unfold isDream; rw [Bool.and_eq_false_iff]; left; exact decide_eq_false h
theorem isDream_false {n : Int} {xs : List (Int × Int)} {k : Nat} (hk : k < xs.length) (h : dreamAt n xs k = false) : isDream n xs = false := by
  unfold isDream; rw [Bool.and_eq_false_iff]; right; rw [List.all_eq_false]; exact ⟨k, by simpa using hk, by simp [h]⟩
theorem isDream_true {n : Int} {xs : List (Int × Int)} (hn : 1 ≤ n ∧ n ≤ 6) (h : ∀ j, j < xs.length → dreamAt n xs j = true) : isDream n xs = true := by
  unfold isDream; rw [Bool.and_eq_true, List.all_eq_true]; exact ⟨decide_eq_true hn, fun j hj => h j (by simpa using hj)⟩
theorem dream_next {n : Int} {xs : List (Int × Int)} {k : Nat} (h : ∀ j, j < k → dreamAt n xs j = true) (h1 : dreamAt n xs k = true) : ∀ j, j < k + 1 → dreamAt n xs j = true := by
  intro j hj
  rcases Nat.lt_or_ge j k with h2 | h2
  · exact h j h2
  · obtain rfl : j = k := by omega
    exact h1
theorem dreamAt_out {n : Int} {xs : List (Int × Int)} {k : Nat} {p : Int × Int} (h : xs[k]? = some p) (h1 : inStair n p = false) : dreamAt n xs k = false := by simp [dreamAt, cellOf_at h, h1]
theorem dreamAt_rise {n : Int} {xs : List (Int × Int)} {k : Nat} {p q : Int × Int} (h : xs[k]? = some p) (hq : xs[k - 1]? = some q) (h0 : k ≠ 0) (h1 : cellLess q p = false) : dreamAt n xs k = false := by
  simp [dreamAt, cellOf_at h, cellOf_at hq, h1, h0]
theorem dreamAt_first {n : Int} {xs : List (Int × Int)} {p : Int × Int} (h : xs[0]? = some p) (h1 : inStair n p = true) : dreamAt n xs 0 = true := by simp [dreamAt, cellOf_at h, h1]
theorem dreamAt_next {n : Int} {xs : List (Int × Int)} {k : Nat} {p q : Int × Int} (h : xs[k]? = some p) (hq : xs[k - 1]? = some q) (h1 : inStair n p = true) (h2 : cellLess q p = true) : dreamAt n xs k = true := by
  simp [dreamAt, cellOf_at h, cellOf_at hq, h1, h2]
/-- how many places stand before a cell -/
def place (p : Int × Int) : Int := if p.1 = 0 then p.2 else if p.1 = 1 then 5 + p.2 else if p.1 = 2 then 9 + p.2 else if p.1 = 3 then 12 + p.2 else 14 + p.2
theorem place_lt {n : Int} {p : Int × Int} (hn : n ≤ 6) (h : inStair n p = true) : place p < 15 := by
  unfold inStair at h
  simp only [Bool.and_eq_true, decide_eq_true_eq] at h
  unfold place
  split <;> (try split) <;> (try split) <;> (try split) <;> omega
theorem place_less {n : Int} {p q : Int × Int} (hn : n ≤ 6) (h : inStair n p = true) (k : inStair n q = true) (hl : cellLess q p = true) : place q < place p := by
  unfold inStair at h k
  unfold cellLess at hl
  simp only [Bool.and_eq_true, Bool.or_eq_true, decide_eq_true_eq] at h k hl
  unfold place
  split <;> split <;> (try split) <;> (try split) <;> (try split) <;> (try split) <;> (try split) <;> (try split) <;> omega
theorem dream_place {n : Int} {xs : List (Int × Int)} (hn : n ≤ 6) : ∀ k : Nat, (∀ j, j < k + 1 → dreamAt n xs j = true) → (k : Int) ≤ place (cellOf xs k) := by
  intro k
  induction k with
  | zero =>
    intro h
    have := h 0 (by omega)
    unfold dreamAt at this
    simp only [Bool.and_eq_true] at this
    have h1 := this.1
    unfold inStair at h1
    simp only [Bool.and_eq_true, decide_eq_true_eq] at h1
    unfold place
    split <;> (try split) <;> (try split) <;> (try split) <;> omega
  | succ k ih =>
    intro h
    have h1 := ih (fun j hj => h j (by omega))
    have a := h (k + 1) (by omega)
    have b := h k (by omega)
    unfold dreamAt at a b
    simp only [Bool.and_eq_true, Bool.or_eq_true, beq_iff_eq] at a b
    rcases a.2 with h2 | h2
    · omega
    · have := place_less hn a.1 b.1 h2
      omega
theorem dream_short {n : Int} {xs : List (Int × Int)} (hn : n ≤ 6) (h : ∀ j, j < xs.length → dreamAt n xs j = true) : xs.length ≤ 15 := by
  rcases Nat.eq_zero_or_pos xs.length with h0 | h0
  · omega
  · have h1 := dream_place (xs := xs) hn (xs.length - 1) (fun j hj => h j (by omega))
    have h2 := h (xs.length - 1) (by omega)
    unfold dreamAt at h2
    simp only [Bool.and_eq_true] at h2
    have := place_lt hn h2.1
    omega
theorem isDream_long {n : Int} {xs : List (Int × Int)} (h : 15 < xs.length) : isDream n xs = false := by
  cases hd : isDream n xs with
  | false => rfl
  | true =>
    unfold isDream at hd
    rw [Bool.and_eq_true, List.all_eq_true] at hd
    have h1 : 1 ≤ n ∧ n ≤ 6 := of_decide_eq_true hd.1
    have := dream_short (xs := xs) h1.2 (fun j hj => hd.2 j (by simpa using hj))
    omega
end Go.Proofs.Ytdpjcjnednmoeaa

namespace Go.Proofs.Ytdpjcjnednmoeaa

def fl : List (Int × Int) → List Int
  | [] => []
  | p :: l => p.1 :: p.2 :: fl l
theorem fl_inj : ∀ {a b : List (Int × Int)}, fl a = fl b → a = b
  | [], [], _ => rfl
  | [], _ :: _, h => by simp [fl] at h
  | _ :: _, [], h => by simp [fl] at h
  | p :: a, q :: b, h => by
    simp only [fl, List.cons.injEq] at h
    rw [Prod.ext h.1 h.2.1, fl_inj h.2.2]
def lessD : List (Int × Int) → List (Int × Int) → Bool
  | [], [] => false
  | [], _ :: _ => true
  | _ :: _, [] => false
  | p :: ps, q :: qs => if p = q then lessD ps qs else cellLess p q
theorem lessD_fl : ∀ a b : List (Int × Int), lessD a b = less (fl a) (fl b)
  | [], [] => rfl
  | [], _ :: _ => rfl
  | _ :: _, [] => rfl
  | p :: a, q :: b => by
    rw [lessD, fl, fl, less, less, lessD_fl a b]
    by_cases h : p = q
    · rw [if_pos h, if_pos (by rw [h]), if_pos (by rw [h])]
    · rw [if_neg h]
      unfold cellLess
      by_cases h1 : p.1 = q.1
      · have h2 : ¬ p.2 = q.2 := fun e => h (Prod.ext h1 e)
        rw [if_pos h1, if_neg h2]
        simp [h1]
      · rw [if_neg h1]
        simp [h1]
theorem lessD_irrefl (a : List (Int × Int)) : lessD a a = false := by rw [lessD_fl]; exact less_irrefl _
theorem lessD_trans {a b c : List (Int × Int)} (h : lessD a b = true) (k : lessD b c = true) : lessD a c = true := by
  rw [lessD_fl] at *
  exact less_trans h k
theorem lessD_total {a b : List (Int × Int)} (h : lessD a b = false) (k : lessD b a = false) : a = b := by
  rw [lessD_fl] at *
  exact fl_inj (less_total h k)
theorem lessD_neg {a b c : List (Int × Int)} (h : lessD a b = false) (k : lessD b c = false) : lessD a c = false := by
  rw [lessD_fl] at *
  exact less_neg h k
/-- the program's comparison -/
def cmpD : List (Int × Int) → List (Int × Int) → Int
  | [], [] => 0
  | [], _ :: _ => -1
  | _ :: _, [] => 1
  | p :: ps, q :: qs => if cellCmp p q = 0 then cmpD ps qs else cellCmp p q
theorem cellCmp_zero {p q : Int × Int} : cellCmp p q = 0 ↔ p = q := by
  unfold cellCmp
  constructor
  · intro h
    split at h
    · exact Prod.ext (by assumption) (by omega)
    · omega
  · rintro rfl
    simp
theorem cmpD_less : ∀ a b : List (Int × Int), decide (cmpD a b < 0) = lessD a b
  | [], [] => rfl
  | [], _ :: _ => rfl
  | _ :: _, [] => rfl
  | p :: a, q :: b => by
    rw [cmpD, lessD]
    by_cases h : p = q
    · rw [if_pos (cellCmp_zero.2 h), if_pos h]
      exact cmpD_less a b
    · rw [if_neg (fun e => h (cellCmp_zero.1 e)), if_neg h]
      exact cellCmp_less p q
end Go.Proofs.Ytdpjcjnednmoeaa

namespace Go.Proofs.Ytdpjcjnednmoeaa
open Go.RowKit

/-- whether the list has the cell -/
def hasC (xs : List (Int × Int)) (p q : Int) : Bool := xs.contains (p, q)
theorem contains_no {xs : List (Int × Int)} {x : Int × Int} {n : Nat} (hn : xs.length = n) (h : ∀ j, j < n → xs[j]? ≠ some x) : xs.contains x = false := by
  rw [Bool.eq_false_iff]
  intro hc
  obtain ⟨j, hj⟩ := List.getElem?_of_mem (List.contains_iff_mem.1 hc)
  exact h j (by have := (List.getElem?_eq_some_iff.1 hj).1; omega) hj
end Go.Proofs.Ytdpjcjnednmoeaa

namespace Go.Proofs.Ytdpjcjnednmoeaa
open Go.RowKit

theorem ne_pair {u v p q : Int} (h : (u, v) ≠ (p, q)) : (u != p) = true ∨ (u != p) = false ∧ (v != q) = true := by
  by_cases h1 : u = p
  · right
    refine ⟨by simp [h1], ?_⟩
    simp only [bne_iff_ne]
    exact fun e => h (by rw [h1, e])
  · left
    simpa using h1
set_option maxRecDepth 100000 in
set_option maxHeartbeats 1600000 in
theorem equalC_any (a b : Option Addr) (n c m d : Nat) (xs ys : List (Int × Int)) (w : World) (hr : RC w a xs) (hs : RC w b ys) (hn : xs.length = n) (hm : ys.length = m) (hb : n ≤ 1048576) :
    Calls Try.prog 30 #[.slice a n c, .slice b m d] w fun e w' => e = .returned (.bool (decide (xs = ys))) ∧ Drew w w' := by
  have Hn := Lib.hid hn; clear hn
  have Hm := Lib.hid hm; clear hm
  by_cases hnm : n = m
  · subst hnm
    go_enter Try.func30, Try.ntmps30
    go_wp2
    go_loopw [13] (fun iv wr => Hid (∃ k : Nat, k ≤ n ∧ iv = .int .i64 k ∧ ∀ j, j < k → xs[j]? = ys[j]?) ∧ Drew w wr) (fun iv _ => n - (intOf iv).toNat)
    case atStart => exact ⟨⟨0, Nat.zero_le _, rfl, fun j hj => by omega⟩, Drew.refl _⟩
    case round =>
      obtain ⟨HV, hd⟩ := hrel
      obtain ⟨wo, rfl⟩ : ∃ wo : World, wo = wr := ⟨_, rfl⟩
      obtain ⟨k, hk, rfl, hA⟩ := HV.out
      clear HV
      have HA := Lib.hid hA
      clear hA
      by_cases hlt : k < n
      · have q1 : (k : Int) < (n : Int) := by omega
        obtain ⟨b1, off, rfl, hcell⟩ := (hr.below (hd.below _)).at (k := k) (by rw [Hn.out]; exact hlt)
        obtain ⟨b2, off2, rfl, hcell2⟩ := (hs.below (hd.below _)).at (k := k) (by rw [Hm.out]; exact hlt)
        obtain ⟨u, v, hx⟩ := pair_at Hn.out hlt
        obtain ⟨p, q, hy⟩ := pair_at Hm.out hlt
        obtain ⟨hc1, hc2⟩ := hcell _ _ hx
        obtain ⟨hc3, hc4⟩ := hcell2 _ _ hy
        simp only at hc1 hc2 hc3 hc4
        have Hx := Lib.hid hx
        have Hy := Lib.hid hy
        clear hcell hcell2 hx hy
        by_cases he : (u, v) = (p, q)
        · have e1 : (u == p) = true := by simp only [Prod.mk.injEq] at he; simp [he.1]
          have e2 : (v == q) = true := by simp only [Prod.mk.injEq] at he; simp [he.2]
          have HA2 := Lib.hid (show ∀ j, j < k + 1 → xs[j]? = ys[j]? from fun j hj => by
            rcases Nat.lt_or_ge j k with h | h
            · exact HA.out j h
            · obtain rfl : j = k := by omega
              rw [Hx.out, Hy.out, he])
          clear he
          go_wp2
          go_quiet (fail)
          go_wp2
          go_roundw
          case rel => exact ⟨⟨k + 1, by omega, by go_num, HA2.out⟩, hd.trans (Drew.drewN wo nq)⟩
          case measure => simp [intOf]; omega
        · have Hne := Lib.hid (nep_of_at Hx.out Hy.out he)
          by_cases h1 : u = p
          · have h2 : v ≠ q := fun e => he (by rw [h1, e])
            have e1 : (u == p) = true := by simp [h1]
            have e2 : (v == q) = false := by simp [h2]
            clear he h1 h2
            go_wp2
            go_quiet (fail)
            go_wp2
            go_ret
            exact ⟨ret_bool Hne.out.symm, hd.trans (Drew.drewN wo nq)⟩
          · have e1 : (u == p) = false := by simp [h1]
            clear he h1
            go_wp2
            go_quiet (fail)
            go_wp2
            go_ret
            exact ⟨ret_bool Hne.out.symm, hd.trans (Drew.drewN wo nq)⟩
      · obtain rfl : k = n := by omega
        have Heq := Lib.hid (eqp_of_all (Hn.out.trans Hm.out.symm) (fun j hj => HA.out j (by rw [Hn.out] at hj; exact hj)))
        go_wp2
        go_ret
        exact ⟨ret_bool Heq.out.symm, hd⟩
  · have hne : ((n : Int) != (m : Int)) = true := by simp; omega
    have Hq := Lib.hid (show decide (xs = ys) = false by rw [decide_eq_false_iff_not]; rintro rfl; exact hnm (by rw [← Hn.out, ← Hm.out]))
    go_enter Try.func30, Try.ntmps30
    go_wp2
    go_ret
    exact ⟨ret_bool Hq.out.symm, Drew.refl _⟩

set_option maxRecDepth 100000 in
set_option maxHeartbeats 1600000 in
/-- where no two neighbours are alike nothing is dropped -/
theorem compactC_none (a : Option Addr) (n c : Nat) (xss : List (List (Int × Int))) (w : World) (hr : RCC w a xss) (hn : xss.length = n) (hb : n ≤ 1048576) (hsh : ShortCC xss) (hne : ∀ (k : Nat) (x y : List (Int × Int)), xss[k]? = some x → xss[k + 1]? = some y → y ≠ x) :
    Calls Try.prog 55 #[.slice a n c, .func (.func 30) #[] #[]] w fun e w' => e = .returned (.slice a n c) ∧ Drew w w' := by
  have Hn := Lib.hid hn; clear hn
  have Hsh := Lib.hid hsh; clear hsh
  have Hne := Lib.hid hne; clear hne
  go_enter Try.func55, Try.ntmps55
  by_cases h2 : n < 2
  · have q0 : (n : Int) < 2 := by omega
    go_wp2
    go_ret
    exact ⟨rfl, Drew.refl _⟩
  have q0 : ¬ (n : Int) < 2 := by omega
  go_wp2
  go_loopw [5] (fun iv wr => Hid (∃ k : Nat, 1 ≤ k ∧ k ≤ n ∧ iv = .int .i64 k) ∧ Drew w wr) (fun iv _ => n - (intOf iv).toNat)
  case atStart => exact ⟨⟨1, Nat.le_refl _, by omega, rfl⟩, Drew.refl _⟩
  case round =>
    obtain ⟨HV, hd⟩ := hrel
    obtain ⟨wo, rfl⟩ : ∃ wo : World, wo = wr := ⟨_, rfl⟩
    obtain ⟨k, hk1, hk, rfl⟩ := HV.out
    clear HV
    by_cases hlt : k < n
    · obtain ⟨j, hj⟩ : ∃ j, k = j + 1 := ⟨k - 1, by omega⟩
      obtain ⟨x, hx⟩ := some_of (show j < xss.length by rw [Hn.out]; omega)
      obtain ⟨y, hy⟩ := some_of (show k < xss.length by rw [Hn.out]; exact hlt)
      obtain ⟨b, off, rfl, hcell⟩ := (hr.below (hd.below _)).at (k := j) (by rw [Hn.out]; omega)
      obtain ⟨a1, c1, hc1, hr1⟩ := hcell j x hx
      obtain ⟨a2, c2, hc2, hr2⟩ := hcell k y hy
      have hxl := Hsh.out x (List.mem_of_getElem? hx)
      have hyl := Hsh.out y (List.mem_of_getElem? hy)
      have Hyx := Lib.hid (show decide (y = x) = false by simpa using Hne.out j x y hx (by rw [← hj]; exact hy))
      obtain ⟨lx, hlx⟩ : ∃ l, x.length = l := ⟨_, rfl⟩
      obtain ⟨ly, hly⟩ : ∃ l, y.length = l := ⟨_, rfl⟩
      rw [hlx] at hc1 hxl
      rw [hly] at hc2 hyl
      have Hlx := Lib.hid hlx
      have Hly := Lib.hid hly
      have q1 : (k : Int) < (n : Int) := by omega
      have q2 : (j : Int) < (n : Int) := by omega
      have q3 : wrap64 ((k : Int) - 1) = (j : Int) := by unfold wrap64; omega
      have q4 : IntKind.i64.wrap ((k : Int) - 1) = (j : Int) := by rw [IntWalk.i64_in _ (by omega)]; omega
      clear hcell hx hy hlx hly hj
      go_wp2
      go_quiet ((go_at_call 30; exact quiet (is (equalC_any _ _ _ _ _ _ y x _ (hr2.below ((Drew.drewN _ _).below _)) (hr1.below ((Drew.drewN _ _).below _)) Hly.out Hlx.out (by omega)) Hyx.out)))
      go_wp2
      go_roundw
      case rel => exact ⟨⟨k + 1, by omega, by omega, by go_num⟩, hd.trans (Drew.drewN _ _)⟩
      case measure => simp [intOf]; omega
    · obtain rfl : k = n := by omega
      go_wp2
      go_ret
      exact ⟨rfl, hd⟩
end Go.Proofs.Ytdpjcjnednmoeaa
