/-
  Contracts of MonomialPoly of the reference and of the laws' variable and schubert.
-/
import Derived.Test.YtflkomgfgmephaaBuH4
import Derived.Test.YtflkomgfgmephaaBuI1
import Derived.Test.YtflkomgfgmephaaPolyTerm
namespace Go.Proofs.Ytflkomgfgmephaa
open Go.RowKit

/-- seven exponents, the first j of them those of e, the others 0 -/
def fullTo (e : List Int) (j : Nat) : List Int := e.take j ++ List.replicate (7 - j) 0
theorem fullTo_length {e : List Int} {n j : Nat} (h : e.length = n) (hj : j ≤ n) (h7 : n ≤ 7) : (fullTo e j).length = 7 := by
  unfold fullTo
  rw [List.length_append, List.length_take, List.length_replicate]
  omega
theorem fullTo_succ {e : List Int} {n j : Nat} {x : Int} (h : e.length = n) (hx : e[j]? = some x) (hj : j < n) (h7 : n ≤ 7) : (fullTo e j).set j x = fullTo e (j + 1) := by
  unfold fullTo
  have hl : (e.take j).length = j := by rw [List.length_take]; omega
  rw [List.set_append_right _ _ (by omega), hl, Nat.sub_self, take_at hx, List.append_assoc]
  congr 1
  obtain ⟨m, hm⟩ : ∃ m, 7 - j = m + 1 := ⟨6 - j, by omega⟩
  rw [hm, show 7 - (j + 1) = m by omega, List.replicate_succ]
  rfl
def fullE (e : List Int) : List Int := fullTo e e.length
theorem fullE_digs {e : List Int} (_h7 : e.length ≤ 7) (h : ∀ x ∈ e, 0 ≤ x ∧ x ≤ 24) : Digs (fullE e) := fun x hx => by
  unfold fullE fullTo at hx
  rcases List.mem_append.1 hx with hx | hx
  · have := h x (List.mem_of_mem_take hx)
    unfold isD
    omega
  · have := List.eq_of_mem_replicate hx
    unfold isD
    omega
theorem fullE_bd {e : List Int} (_h7 : e.length ≤ 7) (h : ∀ x ∈ e, 0 ≤ x ∧ x ≤ 24) : ∀ x ∈ fullE e, 0 ≤ x ∧ x ≤ 24 := fun x hx => by
  unfold fullE fullTo at hx
  rcases List.mem_append.1 hx with hx | hx
  · exact h x (List.mem_of_mem_take hx)
  · have := List.eq_of_mem_replicate hx
    omega
/-- a monomial -/
def monoM (e : List Int) : Mons := [(keyL (fullE e), 1)]
theorem monoM_terms {e : List Int} (h7 : e.length ≤ 7) (h : ∀ x ∈ e, 0 ≤ x ∧ x ≤ 24) : termsM (monoM e) = [(fullE e, 1)] := by
  unfold termsM monoM
  rw [canon_one (by decide) (by unfold in64; decide), List.map_cons, List.map_nil]
  have e1 : digs (keyL (fullE e)) = fullE e := digs_keyL (fullTo_length rfl (Nat.le_refl _) h7) (fullE_digs h7 h)
  show [(digs (keyL (fullE e)), (1 : Int))] = [(fullE e, 1)]
  rw [e1]
theorem monoM_okp {e : List Int} (h7 : e.length ≤ 7) (h : ∀ x ∈ e, 0 ≤ x ∧ x ≤ 24) : OKp (monoM e) := by
  have hb : Bd 24 (monoM e) := fun p hp => by
    unfold monoM at hp
    rw [List.mem_singleton] at hp
    subst hp
    refine ⟨keyL_small (fullE_digs h7 h) (by rw [show (fullE e).length = 7 from fullTo_length rfl (Nat.le_refl _) h7]; decide), fun i hi => ?_⟩
    have := dig_keyL (fullTo_length rfl (Nat.le_refl _) h7) (fullE_digs h7 h) (i := i) hi
    exact (fullE_bd h7 h _ (List.mem_of_getElem? this)).2
  refine ⟨hb, ?_⟩
  refine GoodM.ok ⟨hb, ?_, fun k => ?_⟩
  · rw [monoM, canon_one (by decide) (by unfold in64; decide)]
    simp
  · unfold monoM raw wsum hit
    split <;> simp [wsum]
theorem PT.one {w : World} {e : List Int} {a : Option Addr} {c : Nat} (h7 : e.length ≤ 7) (h : ∀ x ∈ e, 0 ≤ x ∧ x ≤ 24) (hr : RI w a (fullE e)) (hc : 7 ≤ c) :
    PT (w.alloc (.cells #[.slice a 7 c, .int .i64 1] 72)) (some ⟨w.heap.size, 0, none⟩) 1 (monoM e) := by
  have hl : (fullE e).length = 7 := fullTo_length rfl (Nat.le_refl _) h7
  have hB : Below w.heap.size w (w.alloc (.cells #[.slice a 7 c, .int .i64 1] 72)) := (Below.refl _ _).alloc (Nat.le_refl _) _
  have g0 := heap_alloc_new w (.cells #[.slice a 7 c, .int .i64 1] 72)
  refine ⟨?_, by rw [monoM_terms h7 h]; rfl, by omega⟩
  rw [monoM_terms h7 h]
  refine .inr ⟨w.heap.size, 0, rfl, fun k p hp => ?_⟩
  match k, hp with
  | 0, hp =>
    simp at hp
    subst hp
    refine ⟨a, c, ?_, ?_, hr.below hB, by rw [hl]; exact hc⟩
    · rw [cell_of_row _ _ 0 _ _ (0, 0) g0, hl]; rfl
    · rw [cell_of_row _ _ 1 _ _ (0, 0) g0]; rfl
  | k + 1, hp => simp at hp

set_option maxRecDepth 100000 in
set_option maxHeartbeats 3200000 in
theorem specMono_any (a : Option Addr) (n c : Nat) (e0 : List Int) (w : World) (hr : RI w a e0) (hn : e0.length = n) (h7 : n ≤ 7) (h : ∀ x ∈ e0, 0 ≤ x ∧ x ≤ 24) :
    Calls Try.prog 30 #[.slice a n c] w fun e w' => ∃ a' n' c', e = .returned (.slice a' n' c') ∧ PT w' a' n' (monoM e0) ∧ Below w.heap.size w w' := by
  have Hn := Lib.hid hn
  have Hx := Lib.hid h
  have q0 : ¬ (n : Int) > 7 := by omega
  obtain ⟨i0, hi, hz0, hz1, hz2⟩ := info_parts Try.info3
  clear hn h
  go_enter Try.func30, Try.ntmps30
  go_wp2_with (first | (at_make; refine wpList_make_full _ rfl _ _ 24 rfl w.heap.size 3 i0 (.int .i64 0) 1 Try.underlying24 hi hz0 hz1 .i64 .i64 _ _ 7 rfl rfl ?m1 ?m2 ?m3 ?m4 ?m5 ?_))
  case m4 => unfold maxLen; omega
  intro w2 hown2 hg2
  have hB2 : Below w.heap.size w w2 := (Below.refl _ _).grown hg2 (Nat.le_refl _) (by simp)
  have hrow2 : OwI w2 w.heap.size w2.heap.size (some ⟨w.heap.size, 0, none⟩) 7 7 (fullTo e0 0) := by
    have e := toList_madeCells_one (.int .i64 0) 7
    exact OwI.mk (by simpa [ints, Value.cells, e, fullTo] using hown2)
  have hr2 := hr.below hB2
  clear hown2 hg2
  go_wp2
  go_loopw [4] (fun iv wr => ∃ j : Nat, j ≤ n ∧ iv = .int .i64 j ∧ Hid (OwI wr w.heap.size wr.heap.size (some ⟨w.heap.size, 0, none⟩) 7 7 (fullTo e0 j)) ∧ Below w.heap.size w wr) (fun iv _ => n - (intOf iv).toNat)
  case atStart => exact ⟨0, Nat.zero_le _, rfl, hrow2, hB2⟩
  case round =>
    clear hrow2 hB2 hr2
    obtain ⟨j, hj, rfl, HV, hB⟩ := hrel
    obtain ⟨wo, rfl⟩ : ∃ wo : World, wo = wr := ⟨_, rfl⟩
    have ho := HV.out
    clear HV
    by_cases hlt : j < n
    · obtain ⟨b, off, rfl, hcell⟩ := (hr.below hB).at (k := j) (by rw [Hn.out]; exact hlt)
      obtain ⟨x, hx⟩ := some_at Hn.out hlt
      have p1 := hcell j x hx
      obtain ⟨hx0, hx24⟩ := Hx.out x (List.mem_of_getElem? hx)
      have Hst := Lib.hid (fullTo_succ Hn.out hx hlt h7)
      have q1 : (j : Int) < (n : Int) := by omega
      have Hin := Lib.hid (show (decide ((0 : Int) ≤ x) && decide (x ≤ 24)) = true by simp; omega)
      have Ho := Lib.hid ho
      have hbl := World.block_lt_of_cell? _ _ p1
      clear hcell hx
      go_wp2_with fail
      refine (is (l1In_any _ _ _ _) Hin.out).mono ?_
      rintro e w3 ⟨rfl, hd3⟩
      have hB3 := hB.trans (hd3.below _)
      have ho3 := Ho.out.below (hd3.below _)
      have hz3 : w3.heap.size = wo.heap.size := by obtain ⟨m, rfl⟩ := hd3; rfl
      have p3 : w3.cell? ⟨b, off + j, none⟩ = some (.int .i64 x) := by rw [hd3.cell]; exact p1
      obtain ⟨g, hg, hgB, ⟨z, hz, hcz⟩, hf⟩ := OI.cons ho3.1 (j := j) (by omega)
      simp only [Option.some.injEq, Addr.mk.injEq] at hg
      obtain ⟨rfl, _⟩ := hg
      have Hos := Lib.hid ho3
      have q2 : (j : Int) < 7 := by omega
      clear p1 ho hz ho3 Ho
      go_wp2
      go_roundw
      case rel =>
        have hs := Hos.out.1.store j x
        rw [Hst.out] at hs
        have hO := Only.of_grown (v := .slice (some ⟨w.heap.size, 0, none⟩) 7 7) (B := w.heap.size) (S := w3.heap.size) hs.2 Hos.out.1.lo (fun k hk => by have := Hos.out.2 k hk; omega)
        exact ⟨j + 1, by omega, by go_num, ⟨hs.1, fun k hk => by have := Hos.out.2 k hk; simp; omega⟩, hO.below hB3 (Nat.le_refl _) (by have := hB.size; omega)⟩
      case measure => simp [intOf]; omega
    · obtain rfl : j = n := by omega
      have hlen : e0.length ≤ 7 := by rw [Hn.out]; exact h7
      have ho2 : OwI wo w.heap.size wo.heap.size (some ⟨w.heap.size, 0, none⟩) 7 7 (fullE e0) := by unfold fullE; rw [Hn.out]; exact ho
      have Hf := Lib.hid (PT.one (c := 7) hlen Hx.out ho2.rd (Nat.le_refl _))
      have hBf : Below w.heap.size w (wo.alloc (.cells #[.slice (some ⟨w.heap.size, 0, none⟩) 7 7, .int .i64 1] 72)) := hB.alloc hB.size _
      clear ho ho2
      go_wp2
      go_ret
      exact ⟨_, _, _, rfl, Hf.out, hBf⟩
end Go.Proofs.Ytflkomgfgmephaa
