/-
  What came in, opened: a slice of slices of integers.
-/
import Derived.Test.YtleehkgfoicmdaaOpen
import Derived.Test.YtleehkgfoicmdaaToIntSS
import Derived.Deep.Matrix
namespace Go.Proofs.Ytleehkgfoicmdaa
open Go.ChangeShapes Go.WideShapes Go.ChangeAt Go.RowKit

/-- a row's cells at an address with an offset -/
theorem add_of (b off k : Nat) : (⟨b, off, none⟩ : Addr).add k = ⟨b, off + k, none⟩ := by
  unfold Addr.add; split <;> simp_all
theorem plain_addr {w : World} {x : Addr} {v : Value} (h : w.cell? (x.add 0) = some v) : ∃ b off, x = ⟨b, off, none⟩ := by
  obtain ⟨b, off, spot⟩ := x
  have : spot = none := by simpa [Addr.add] using World.cell?_spot h
  exact ⟨b, off, by rw [this]⟩
theorem open_II {H : Type} {enc : TypeId × Value → H} {W : World} {a : Option Addr} {len cap : Nat} {d : DataW H} {p : List MemPlace} (h : DataW.Trod enc Try.prog W 0 (fun _ => true) true 29 (.slice a len cap) d p) :
    ∃ xss, RII W a xss ∧ xss.length = len ∧ Wide_II len xss ∧ Wf_II xss := by
  obtain ⟨fuel, hf⟩ := h
  rcases Go.Deep.open_int_rows Try.underlying29 Try.underlying22 Try.underlying3 (by kernel_rfl) (by kernel_rfl) hf with ⟨hcs, _⟩ | ⟨x, l, c, A, L, C, Z, hcs, _, hl, hm, _, hx⟩
  · simp [Value.cells] at hcs
    obtain ⟨rfl, rfl, rfl⟩ := hcs
    exact ⟨[], .inl rfl, rfl, ⟨by omega, by simp⟩, by simp [Wf_II]⟩
  · simp [Value.cells] at hcs
    obtain ⟨rfl, rfl, rfl⟩ := hcs
    unfold maxLen at hm
    have each : ∀ r, r < cap → RI W (A r) ((Z r).take (L r)) ∧ ((Z r).take (L r)).length = L r ∧ L r ≤ 9223372036854775807 ∧ ∀ n ∈ (Z r).take (L r), (Lit.int .i64 n).wf = true := by
      intro r hr
      obtain ⟨h1, h2, h3, h4, h5, h6, h7⟩ := hx r hr
      refine IsRow.ri (cap := C r) (zs := Z r) ?_
      cases hA : A r with
      | none =>
        left
        have := h6 hA
        rw [this] at h4
        exact ⟨rfl, by omega, this, List.eq_nil_of_length_eq_zero h4⟩
      | some a' =>
        right
        exact ⟨a', rfl, h2, h3, h4, fun i hi => (h7 a' hA).2 i (by omega), h5⟩
    refine ⟨(List.range len).map fun r => (Z r).take (L r), ?_, by simp, ⟨by omega, fun xs hxs => ?_⟩, fun xs hxs => ?_⟩
    · by_cases h0 : len = 0
      · left; simp [h0]
      · right
        obtain ⟨b, off, rfl⟩ := plain_addr (hx 0 (by omega)).1
        refine ⟨b, off, rfl, fun k xs hk => ?_⟩
        simp only [List.getElem?_map, Option.map_eq_some_iff] at hk
        obtain ⟨r, hr, rfl⟩ := hk
        have hkl := lt_of_some hr
        simp at hkl
        obtain rfl : k = r := by simpa [hkl] using hr
        have h1 := (hx k (by omega)).1
        rw [add_of] at h1
        have e := each k (by omega)
        exact ⟨A k, C k, by rw [e.2.1]; exact h1, e.1⟩
    · simp only [List.mem_map, List.mem_range] at hxs
      obtain ⟨r, hr, rfl⟩ := hxs
      have e := each r (by omega)
      rw [e.2.1]; exact e.2.2.1
    · simp only [List.mem_map, List.mem_range] at hxs
      obtain ⟨r, hr, rfl⟩ := hxs
      exact (each r (by omega)).2.2.2
end Go.Proofs.Ytleehkgfoicmdaa
