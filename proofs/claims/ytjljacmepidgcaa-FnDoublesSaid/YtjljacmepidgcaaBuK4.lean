/-
  Slices of pairs of a slice of integers and an integer: measured, compared.
  Contract of toPart.
  A law's bytes: what they read as; big, at0.
  What came in, opened: a slice of integers.
-/
import Derived.Test.YtjljacmepidgcaaBuK3
import Derived.Laws.Rows
import Derived.Test.YtjljacmepidgcaaBase
import Derived.ProofKit
import Derived.OpenShut
import Derived.ShutString
import Derived.ChangeOld
import Derived.Below
namespace Go.Proofs.Ytjljacmepidgcaa
open Go.RowKit

def heads (xs : List (List Int × Int)) : List (List Int) := xs.map fun p => p.1
def Wide_P (n : Nat) (xs : List (List Int × Int)) : Prop := n ≤ 9223372036854775807 ∧ ∀ p ∈ xs, p.1.length ≤ 9223372036854775807
def ms_P (xs : List (List Int × Int)) : Nat := xs.length + sz_II (heads xs)
theorem heads_at {xs : List (List Int × Int)} {k : Nat} {p : List Int × Int} (h : xs[k]? = some p) : (heads xs)[k]? = some p.1 := by simp [heads, h]
theorem heads_length (xs : List (List Int × Int)) : (heads xs).length = xs.length := by simp [heads]

theorem eqq_of_all {xs ys : List (List Int × Int)} (hl : xs.length = ys.length) (h : ∀ j, j < xs.length → xs[j]? = ys[j]?) : decide (xs = ys) = true := by
  rw [decide_eq_true_iff]
  apply List.ext_getElem?
  intro j
  rcases Nat.lt_or_ge j xs.length with h1 | h1
  · exact h j h1
  · rw [List.getElem?_eq_none h1, List.getElem?_eq_none (by omega)]
theorem neq_of_at {xs ys : List (List Int × Int)} {k : Nat} {x y : List Int × Int} (hx : xs[k]? = some x) (hy : ys[k]? = some y) (h : x ≠ y) : decide (xs = ys) = false := by
  rw [decide_eq_false_iff_not]
  rintro rfl
  rw [hx] at hy
  exact h (by simpa using hy)

end Go.Proofs.Ytjljacmepidgcaa

namespace Go.Proofs.Ytjljacmepidgcaa
open Go.RowKit

theorem Only.setCell {B S : Nat} (w : World) (g j : Nat) (v : Value) (h1 : B ≤ g) (h2 : g < S) : Only B S w (w.setCell ⟨g, j, none⟩ v) :=
  ⟨rfl, rfl, rfl, by simp, fun k _ hk => heap_setCell_other w ⟨g, j, none⟩ k v (fun e => hk (by simp at e; omega))⟩
theorem Try.sizePart : (Try.prog.info? 45).map (·.size) = some 2 := by kernel_rfl

end Go.Proofs.Ytjljacmepidgcaa

namespace Go.Proofs.Ytjljacmepidgcaa
open Go.RowKit

/-- the slice at address a reads as the bytes xs -/
def RB (w : World) (a : Option Addr) (xs : List Int) : Prop :=
  xs = [] ∨ ∃ b off, a = some ⟨b, off, none⟩ ∧ ∀ k x, xs[k]? = some x → w.cell? ⟨b, off + k, none⟩ = some (.int .u8 x)
def Bytes (xs : List Int) : Prop := ∀ x ∈ xs, 0 ≤ x ∧ x ≤ 255
theorem RB.at {w : World} {a : Option Addr} {xs : List Int} (h : RB w a xs) {k : Nat} (hk : k < xs.length) :
    ∃ b off, a = some ⟨b, off, none⟩ ∧ ∀ k x, xs[k]? = some x → w.cell? ⟨b, off + k, none⟩ = some (.int .u8 x) := by
  rcases h with rfl | h
  · simp at hk
  · exact h
theorem RB.below {w w' : World} {a : Option Addr} {xs : List Int} (h : RB w a xs) (hb : Below w.heap.size w w') : RB w' a xs := by
  rcases h with h | ⟨b, off, ha, hc⟩
  · exact .inl h
  · exact .inr ⟨b, off, ha, fun k x hx => by rw [hb.cell (World.block_lt_of_cell? w _ (hc k x hx))]; exact hc k x hx⟩

set_option maxHeartbeats 400000 in
theorem big_any (a : Option Addr) (n c : Nat) (w : World) (hb : n ≤ 9223372036854775807) :
    Calls Try.prog 4 #[.slice a n c] w fun e w' => e = .returned (.bool (decide (1048576 < n))) ∧ w = w' := by
  go_enter Try.func4, Try.ntmps4
  go_wp2
  go_ret
  exact ⟨by simp; omega, rfl⟩
end Go.Proofs.Ytjljacmepidgcaa

namespace Go.Proofs.Ytjljacmepidgcaa
open Go.ChangeShapes Go.WideShapes Go.ChangeAt Go.RowKit


/-- a slice of integers that came in -/
def IsRow (k : IntKind) (w : World) (a : Option Addr) (len cap : Nat) (zs : List Int) : Prop :=
  (a = none ∧ len = 0 ∧ cap = 0 ∧ zs = []) ∨
  ∃ x, a = some x ∧ len ≤ cap ∧ cap ≤ maxLen ∧ zs.length = cap ∧ (∀ i, i < zs.length → w.cell? (x.add i) = some (.int k (zs.getD i 0))) ∧ ∀ n ∈ zs, (Lit.int k n).wf = true

theorem IsRow.ri {w : World} {a : Option Addr} {len cap : Nat} {zs : List Int} (h : IsRow .i64 w a len cap zs) :
    RI w a (zs.take len) ∧ (zs.take len).length = len ∧ len ≤ 9223372036854775807 ∧ ∀ n ∈ zs.take len, (Lit.int .i64 n).wf = true := by
  rcases h with ⟨rfl, rfl, rfl, rfl⟩ | ⟨x, rfl, hl, hm, hz, hcell, hwz⟩
  · exact ⟨.inl rfl, rfl, by omega, by simp⟩
  · refine ⟨?_, by simp; omega, by unfold maxLen at hm; omega, fun n hn => hwz n (List.mem_of_mem_take hn)⟩
    by_cases h0 : len = 0
    · left; simp [h0]
    · right
      obtain ⟨b, off, spot⟩ := x
      have hc := hcell 0 (by omega)
      have hspot : spot = none := by simpa [Addr.add] using World.cell?_spot hc
      subst hspot
      refine ⟨b, off, rfl, fun k y hy => ?_⟩
      have hk : k < zs.length := by have := (List.getElem?_eq_some_iff.1 hy).1; simp at this; omega
      have hc := hcell k hk
      rw [List.getElem?_take] at hy
      split at hy
      · rw [List.getD_eq_getElem?_getD, hy] at hc
        rw [← (by simpa using hc : w.cell? ((⟨b, off, none⟩ : Addr).add k) = some (.int .i64 y))]
        unfold Addr.add
        split
        · subst_vars; rfl
        · rfl
      · cases hy

theorem IsRow.rb {w : World} {a : Option Addr} {len cap : Nat} {zs : List Int} (h : IsRow .u8 w a len cap zs) :
    RB w a (zs.take len) ∧ (zs.take len).length = len ∧ len ≤ 9223372036854775807 ∧ Bytes (zs.take len) := by
  rcases h with ⟨rfl, rfl, rfl, rfl⟩ | ⟨x, rfl, hl, hm, hz, hcell, hwz⟩
  · exact ⟨.inl rfl, rfl, by omega, by simp [Bytes]⟩
  · refine ⟨?_, by simp; omega, by unfold maxLen at hm; omega, fun n hn => bounds_u8 (hwz n (List.mem_of_mem_take hn))⟩
    by_cases h0 : len = 0
    · left; simp [h0]
    · right
      obtain ⟨b, off, spot⟩ := x
      have hc := hcell 0 (by omega)
      have hspot : spot = none := by simpa [Addr.add] using World.cell?_spot hc
      subst hspot
      refine ⟨b, off, rfl, fun k y hy => ?_⟩
      have hk : k < zs.length := by have := (List.getElem?_eq_some_iff.1 hy).1; simp at this; omega
      have hc := hcell k hk
      rw [List.getElem?_take] at hy
      split at hy
      · rw [List.getD_eq_getElem?_getD, hy] at hc
        rw [← (by simpa using hc : w.cell? ((⟨b, off, none⟩ : Addr).add k) = some (.int .u8 y))]
        unfold Addr.add
        split
        · subst_vars; rfl
        · rfl
      · cases hy
theorem open_I {H : Type} {enc : TypeId × Value → H} {W : World} {a : Option Addr} {len cap : Nat} {d : DataW H} {p : List MemPlace} (h : DataW.Trod enc Try.prog W 0 (fun _ => true) true 24 (.slice a len cap) d p) :
    ∃ xs, RI W a xs ∧ xs.length = len ∧ len ≤ 9223372036854775807 ∧ ∀ n ∈ xs, (Lit.int .i64 n).wf = true := by
  obtain ⟨zs, hz⟩ : ∃ zs, IsRow .i64 W a len cap zs := by
    obtain ⟨fuel, hf⟩ := h
    rcases open_ints Try.underlying24 Try.underlying3 (by kernel_rfl) hf with ⟨hcs, _⟩ | ⟨x, l, c, zs, hcs, _, hl, hm, hz, _, hcell, hwz⟩
    · simp [Value.cells] at hcs
      obtain ⟨rfl, rfl, rfl⟩ := hcs
      exact ⟨[], .inl ⟨rfl, rfl, rfl, rfl⟩⟩
    · simp [Value.cells] at hcs
      obtain ⟨rfl, rfl, rfl⟩ := hcs
      exact ⟨zs, .inr ⟨_, rfl, hl, hm, by simpa using hz, hcell, hwz⟩⟩
  exact ⟨_, hz.ri⟩
theorem open_B {H : Type} {enc : TypeId × Value → H} {W : World} {a : Option Addr} {len cap : Nat} {d : DataW H} {p : List MemPlace} (h : DataW.Trod enc Try.prog W 0 (fun _ => true) true 22 (.slice a len cap) d p) :
    ∃ xs, RB W a xs ∧ xs.length = len ∧ len ≤ 9223372036854775807 ∧ Bytes xs := by
  obtain ⟨zs, hz⟩ : ∃ zs, IsRow .u8 W a len cap zs := by
    obtain ⟨fuel, hf⟩ := h
    rcases open_ints Try.underlying22 Try.underlying5 (by kernel_rfl) hf with ⟨hcs, _⟩ | ⟨x, l, c, zs, hcs, _, hl, hm, hz, _, hcell, hwz⟩
    · simp [Value.cells] at hcs
      obtain ⟨rfl, rfl, rfl⟩ := hcs
      exact ⟨[], .inl ⟨rfl, rfl, rfl, rfl⟩⟩
    · simp [Value.cells] at hcs
      obtain ⟨rfl, rfl, rfl⟩ := hcs
      exact ⟨zs, .inr ⟨_, rfl, hl, hm, by simpa using hz, hcell, hwz⟩⟩
  exact ⟨_, hz.rb⟩
end Go.Proofs.Ytjljacmepidgcaa
