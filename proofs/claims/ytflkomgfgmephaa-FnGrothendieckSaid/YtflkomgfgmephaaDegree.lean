/-
  Contracts of degree and DegreeOf of the program.
-/
import Derived.Test.YtflkomgfgmephaaBuH4
import Derived.Test.YtflkomgfgmephaaBuI3
namespace Go.Proofs.Ytflkomgfgmephaa
open Go.RowKit

set_option maxRecDepth 100000 in
set_option maxHeartbeats 1600000 in
theorem degree_any (a : Option Addr) (n c : Nat) (xs : List Int) (w : World) (hr : RI w a xs) (hn : xs.length = n) (hb : n ≤ 100) (hx : ∀ x ∈ xs, 0 ≤ x ∧ x ≤ 1000) :
    Calls Try.prog 41 #[.slice a n c] w fun e w' => e = .returned (.int .i64 (sumI xs)) ∧ Drew w w' := by
  have Hn := Lib.hid hn; clear hn
  have Hx := Lib.hid hx; clear hx
  go_enter Try.func41, Try.ntmps41
  go_wp2
  go_loopw [3, 8] (fun sv kv wr => Hid (∃ (k : Nat) (S : Int), kv = .int .i64 k ∧ k ≤ n ∧ sv = .int .i64 S ∧ S = sumI (xs.take k) ∧ 0 ≤ S ∧ S ≤ 1000 * (k : Int)) ∧ Drew w wr) (fun _ kv _ => n - (intOf kv).toNat)
  case atStart => exact ⟨⟨0, 0, rfl, Nat.zero_le _, rfl, by simp [sumI], by omega, by omega⟩, Drew.refl _⟩
  case round =>
    obtain ⟨HV, hd⟩ := hrel
    obtain ⟨wo, rfl⟩ : ∃ wo : World, wo = wr := ⟨_, rfl⟩
    obtain ⟨k, S, rfl, hk, rfl, hS, hS0, hS1⟩ := HV.out
    clear HV
    have HS := Lib.hid hS
    clear hS
    by_cases hlt : k < n
    · obtain ⟨b, off, rfl, hcell⟩ := (hr.drew hd).at (k := k) (by rw [Hn.out]; exact hlt)
      obtain ⟨x, hx⟩ := some_at Hn.out hlt
      have p := hcell k x hx
      obtain ⟨h0, h1⟩ := Hx.out x (List.mem_of_getElem? hx)
      have Hst := Lib.hid (show S + x = sumI (xs.take (k + 1)) by rw [take_at hx, sumI_append, ← HS.out, sumI_cons, sumI_nil]; omega)
      have q1 : (k : Int) < (n : Int) := by omega
      have q2 : IntKind.i64.wrap (S + x) = S + x := IntWalk.i64_in _ (by omega)
      clear hcell hx
      go_wp2
      go_roundw
      case rel => exact ⟨⟨k + 1, S + x, by go_num, by omega, rfl, Hst.out, by omega, by omega⟩, hd⟩
      case measure => simp [intOf]; omega
    · obtain rfl : k = n := by omega
      have Hf := Lib.hid (show S = sumI xs by rw [HS.out, List.take_of_length_le (by rw [Hn.out]; exact Nat.le_refl _)])
      go_wp2
      go_ret
      exact ⟨ret_int Hf.out, hd⟩
/-- the degree of a polynomial whose terms are all of one degree -/
theorem implDegree_ok (a : Option Addr) (n c : Nat) (F : Mons) (D : Int) (w : World) (h : PT w a n F) (hF : OKp F) (hD : ∀ t ∈ termsM F, sumI t.1 = D) (h0 : 0 ≤ D ∧ D ≤ 1000) (hn0 : n ≠ 0) :
    Calls Try.prog 10 #[.slice a n c] w fun e w' => e = .returned (.int .i64 D) ∧ Below w.heap.size w w' := by
  have hs := h.small
  have Hok := Lib.hid hF.ok
  have Hn := Lib.hid h.len
  have HD := Lib.hid hD
  clear hD
  go_enter Try.func10, Try.ntmps10
  go_wp2_with fail
  refine (is (implPolyOk_any _ _ _ (termsM F) _ h.rd Hn.out (by omega)) Hok.out).mono ?_
  rintro e w1 ⟨rfl, hB1⟩
  have hrd := h.rd
  clear h hF
  go_wp2
  go_loopw [3, 11] (fun sv kv wr => Hid (∃ (k : Nat) (S : Int), kv = .int .i64 k ∧ k ≤ n ∧ sv = .int .i64 S ∧ (S = -1 ∧ k = 0 ∨ S = D ∧ k ≠ 0)) ∧ Below w.heap.size w wr) (fun _ kv _ => n - (intOf kv).toNat)
  case atStart => exact ⟨⟨0, -1, rfl, Nat.zero_le _, rfl, .inl ⟨rfl, rfl⟩⟩, hB1⟩
  case round =>
    clear hB1
    obtain ⟨HV, hd⟩ := hrel
    obtain ⟨wo, rfl⟩ : ∃ wo : World, wo = wr := ⟨_, rfl⟩
    obtain ⟨k, S, rfl, hk, rfl, hS⟩ := HV.out
    clear HV
    have HS := Lib.hid hS
    clear hS
    by_cases hlt : k < n
    · obtain ⟨bb, off, rfl, hcell⟩ := (hrd.below hd).at (k := k) (by rw [Hn.out]; exact hlt)
      obtain ⟨s, x, hx⟩ := part_at Hn.out hlt
      obtain ⟨h7, hdg, h24, hc1m, hc2m, _⟩ := polyOk_each Hok.out hx
      obtain ⟨a1, c1, hc1, hc2, hri, _⟩ := hcell k _ hx
      simp only at hc1 hc2 hri
      rw [h7] at hc1
      have Hl := Lib.hid h7
      have Hsm := Lib.hid (show ∀ z ∈ s, 0 ≤ z ∧ z ≤ 1000 from fun z hz => ⟨(hdg z hz).1, by have := h24 z hz; omega⟩)
      have Hsum := Lib.hid (show sumI s = D from HD.out _ (List.mem_of_getElem? hx))
      clear hcell hx h7 hdg h24
      have q1 : (k : Int) < (n : Int) := by omega
      obtain ⟨W, hW⟩ : ∃ W, wo.alloc (.cells #[.slice a1 7 c1, .int .i64 x] 72) = W := ⟨_, rfl⟩
      have hBW : Below wo.heap.size wo W := by rw [← hW]; exact (Below.refl _ _).alloc (Nat.le_refl _) _
      have hdW := hd.trans (hBW.mono hd.size)
      have g0 : W.heap[wo.heap.size]? = some (.cells #[.slice a1 7 c1, .int .i64 x] 72) := by rw [← hW]; exact heap_alloc_new wo _
      have p0 : W.cell? ⟨wo.heap.size, 0, none⟩ = some (.slice a1 7 c1) := by rw [cell_of_row W _ 0 _ _ (0, 0) g0]; rfl
      have hriW := hri.below hBW
      clear g0
      go_wp2_with fail
      refine (isInt (degree_any _ _ _ s _ hriW Hl.out (by omega) Hsm.out) Hsum.out).mono ?_
      rintro e w3 ⟨rfl, hd3⟩
      have hB3 := hdW.trans (hd3.below _)
      have qm : max S D = D := by have := HS.out; omega
      go_wp2
      go_roundw
      case rel => exact ⟨⟨k + 1, D, by go_num, by omega, rfl, .inr ⟨rfl, by omega⟩⟩, hB3⟩
      case measure => simp [intOf]; omega
    · obtain rfl : k = n := by omega
      obtain rfl : S = D := by
        rcases HS.out with h | h
        · exact absurd h.2 hn0
        · exact h.1
      go_wp2
      go_ret
      exact ⟨rfl, hd⟩
end Go.Proofs.Ytflkomgfgmephaa
