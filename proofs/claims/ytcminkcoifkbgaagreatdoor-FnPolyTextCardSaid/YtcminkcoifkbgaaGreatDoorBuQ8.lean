/-
  Contracts of degree and DegreeOf of the program.
  Contract of PartOfDegree: the terms of one degree.
  Plain law: a polynomial's terms are a polynomial of keys; those of low degree add up, degree by degree.
  Contract of DegreeOf of the program: a bound on the degrees of the terms.
-/
import Derived.Test.YtcminkcoifkbgaaGreatDoorBuH4
import Derived.Test.YtcminkcoifkbgaaGreatDoorBuI3
import Derived.Test.YtcminkcoifkbgaaGreatDoorBuH2
import Derived.Test.YtcminkcoifkbgaaGreatDoorStepT
import Derived.Deep.RegionHeld3
namespace Go.Proofs.YtcminkcoifkbgaaGreatDoor
open Go.RowKit

set_option maxRecDepth 100000 in
set_option maxHeartbeats 1600000 in
theorem degree_any (a : Option Addr) (n c : Nat) (xs : List Int) (w : World) (hr : RI w a xs) (hn : xs.length = n) (hb : n ≤ 100) (hx : ∀ x ∈ xs, 0 ≤ x ∧ x ≤ 1000) :
    Calls Tryz.prog 32 #[.slice a n c] w fun e w' => e = .returned (.int .i64 (sumI xs)) ∧ Drew w w' := by
  have Hn := Lib.hid hn; clear hn
  have Hx := Lib.hid hx; clear hx
  go_enter Tryz.func32, Tryz.ntmps32
  go_wp2
  go_loopw [3, 8] (fun sv kv wr => Hid (∃ (k : Nat) (S : Int), kv = .int .i64 k ∧ k ≤ n ∧ sv = .int .i64 S ∧ S = sumI (xs.take k) ∧ 0 ≤ S ∧ S ≤ 1000 * (k : Int)) ∧ Drew w wr) (fun _ kv _ => n - (intOf kv).toNat)
  case atStart => exact ⟨⟨0, 0, rfl, Nat.zero_le _, rfl, by simp [sumI], by omega, by omega⟩, Drew.refl _⟩
  case round =>
    obtain ⟨HV, hd⟩ := hrel
    obtain ⟨wo, rfl⟩ : ∃ wo : World, wo = wr := ⟨_, rfl⟩
    obtain ⟨k, S, rfl, hk, rfl, hS, hS0, hS1⟩ := HV.out
    clear HV
    have HS := Lib.hid hS
    clear hS
    by_cases hlt : k < n
    · obtain ⟨b, off, rfl, hcell⟩ := (hr.drew hd).at (k := k) (by rw [Hn.out]; exact hlt)
      obtain ⟨x, hx⟩ := some_at Hn.out hlt
      have p := hcell k x hx
      obtain ⟨h0, h1⟩ := Hx.out x (List.mem_of_getElem? hx)
      have Hst := Lib.hid (show S + x = sumI (xs.take (k + 1)) by rw [take_at hx, sumI_append, ← HS.out, sumI_cons, sumI_nil]; omega)
      have q1 : (k : Int) < (n : Int) := by omega
      have q2 : IntKind.i64.wrap (S + x) = S + x := IntWalk.i64_in _ (by omega)
      clear hcell hx
      go_wp2
      go_roundw
      case rel => exact ⟨⟨k + 1, S + x, by go_num, by omega, rfl, Hst.out, by omega, by omega⟩, hd⟩
      case measure => simp [intOf]; omega
    · obtain rfl : k = n := by omega
      have Hf := Lib.hid (show S = sumI xs by rw [HS.out, List.take_of_length_le (by rw [Hn.out]; exact Nat.le_refl _)])
      go_wp2
      go_ret
      exact ⟨ret_int Hf.out, hd⟩
/-- the degree of a polynomial whose terms are all of one degree -/
theorem implDegree_ok (a : Option Addr) (n c : Nat) (F : Mons) (D : Int) (w : World) (h : PT w a n F) (hF : OKp F) (hD : ∀ t ∈ termsM F, sumI t.1 = D) (h0 : 0 ≤ D ∧ D ≤ 1000) (hn0 : n ≠ 0) :
    Calls Tryz.prog 11 #[.slice a n c] w fun e w' => e = .returned (.int .i64 D) ∧ Below w.heap.size w w' := by
  have hs := h.small
  have Hok := Lib.hid hF.ok
  have Hn := Lib.hid h.len
  have HD := Lib.hid hD
  clear hD
  go_enter Tryz.func11, Tryz.ntmps11
  go_wp2_with fail
  refine (is (implPolyOk_any _ _ _ (termsM F) _ h.rd Hn.out (by omega)) Hok.out).mono ?_
  rintro e w1 ⟨rfl, hB1⟩
  have hrd := h.rd
  clear h hF
  go_wp2
  go_loopw [3, 11] (fun sv kv wr => Hid (∃ (k : Nat) (S : Int), kv = .int .i64 k ∧ k ≤ n ∧ sv = .int .i64 S ∧ (S = -1 ∧ k = 0 ∨ S = D ∧ k ≠ 0)) ∧ Below w.heap.size w wr) (fun _ kv _ => n - (intOf kv).toNat)
  case atStart => exact ⟨⟨0, -1, rfl, Nat.zero_le _, rfl, .inl ⟨rfl, rfl⟩⟩, hB1⟩
  case round =>
    clear hB1
    obtain ⟨HV, hd⟩ := hrel
    obtain ⟨wo, rfl⟩ : ∃ wo : World, wo = wr := ⟨_, rfl⟩
    obtain ⟨k, S, rfl, hk, rfl, hS⟩ := HV.out
    clear HV
    have HS := Lib.hid hS
    clear hS
    by_cases hlt : k < n
    · obtain ⟨bb, off, rfl, hcell⟩ := (hrd.below hd).at (k := k) (by rw [Hn.out]; exact hlt)
      obtain ⟨s, x, hx⟩ := part_at Hn.out hlt
      obtain ⟨h7, hdg, h24, hc1m, hc2m, _⟩ := polyOk_each Hok.out hx
      obtain ⟨a1, c1, hc1, hc2, hri, _⟩ := hcell k _ hx
      simp only at hc1 hc2 hri
      rw [h7] at hc1
      have Hl := Lib.hid h7
      have Hsm := Lib.hid (show ∀ z ∈ s, 0 ≤ z ∧ z ≤ 1000 from fun z hz => ⟨(hdg z hz).1, by have := h24 z hz; omega⟩)
      have Hsum := Lib.hid (show sumI s = D from HD.out _ (List.mem_of_getElem? hx))
      clear hcell hx h7 hdg h24
      have q1 : (k : Int) < (n : Int) := by omega
      obtain ⟨W, hW⟩ : ∃ W, wo.alloc (.cells #[.slice a1 7 c1, .int .i64 x] 50) = W := ⟨_, rfl⟩
      have hBW : Below wo.heap.size wo W := by rw [← hW]; exact (Below.refl _ _).alloc (Nat.le_refl _) _
      have hdW := hd.trans (hBW.mono hd.size)
      have g0 : W.heap[wo.heap.size]? = some (.cells #[.slice a1 7 c1, .int .i64 x] 50) := by rw [← hW]; exact heap_alloc_new wo _
      have p0 : W.cell? ⟨wo.heap.size, 0, none⟩ = some (.slice a1 7 c1) := by rw [cell_of_row W _ 0 _ _ (0, 0) g0]; rfl
      have hriW := hri.below hBW
      clear g0
      go_wp2_with fail
      refine (isInt (degree_any _ _ _ s _ hriW Hl.out (by omega) Hsm.out) Hsum.out).mono ?_
      rintro e w3 ⟨rfl, hd3⟩
      have hB3 := hdW.trans (hd3.below _)
      have qm : max S D = D := by have := HS.out; omega
      go_wp2
      go_roundw
      case rel => exact ⟨⟨k + 1, D, by go_num, by omega, rfl, .inr ⟨rfl, by omega⟩⟩, hB3⟩
      case measure => simp [intOf]; omega
    · obtain rfl : k = n := by omega
      obtain rfl : S = D := by
        rcases HS.out with h | h
        · exact absurd h.2 hn0
        · exact h.1
      go_wp2
      go_ret
      exact ⟨rfl, hd⟩
end Go.Proofs.YtcminkcoifkbgaaGreatDoor

namespace Go.Proofs.YtcminkcoifkbgaaGreatDoor
open Go.RowKit

def partD (d : Int) (F : Mons) : Mons := F.filter fun p => decide (degK p.1 = d)
theorem wsum_filter_hit (P : Int → Bool) (k : Int) : ∀ F : Mons, wsum (F.filter fun p => P p.1) (hit k) = if P k = true then wsum F (hit k) else 0 := by
  intro F
  induction F with
  | nil => simp [wsum]
  | cons p F ih =>
    by_cases hp : P p.1 = true
    · rw [List.filter_cons_of_pos (by simpa using hp), wsum, ih, wsum]
      by_cases hk : P k = true
      · rw [if_pos hk, if_pos hk]
      · have hne : p.1 ≠ k := fun h => hk (h ▸ hp)
        rw [if_neg hk, if_neg hk, hit, if_neg hne]
        omega
    · rw [List.filter_cons_of_neg (by simpa using hp), ih, wsum]
      by_cases hk : P k = true
      · have hne : p.1 ≠ k := fun h => hp (h ▸ hk)
        rw [if_pos hk, if_pos hk, hit, if_neg hne]
        omega
      · rw [if_neg hk, if_neg hk]
theorem coef_filter (P : Int → Bool) (F : Mons) (k : Int) : coef (F.filter fun p => P p.1) k = if P k = true then coef F k else 0 := by
  unfold coef raw
  rw [wsum_filter_hit]
  split
  · rfl
  · exact wrap_zero
theorem canon_part (P : Int → Bool) (F : Mons) : (canon F).filter (fun p => P p.1) = canon (F.filter fun p => P p.1) := by
  refine canon_unique ((canon_sorted F).filter _) (fun p hp => ?_) fun k => ?_
  · have h := canon_mem.1 (List.mem_filter.1 hp).1
    refine ⟨h.1, ?_⟩
    rw [h.2]
    exact wrap_range _
  · rw [coef_filter, coef_filter, coef_canon]
theorem terms_part (d : Int) (F : Mons) : (termsM F).filter (fun t => decide (sumI t.1 = d)) = termsM (partD d F) := by
  unfold termsM partD
  rw [← canon_part (fun k => decide (degK k = d)), List.filter_map]
  congr 1
  refine List.filter_congr fun p _ => ?_
  rw [Function.comp_apply, show sumI (term p).1 = degK p.1 from by rw [show (term p).1 = digs p.1 from rfl, show digs p.1 = [dig p.1 0, dig p.1 1, dig p.1 2, dig p.1 3, dig p.1 4, dig p.1 5, dig p.1 6] from rfl]; simp only [sumI_cons, sumI_nil]; unfold degK; omega]

set_option maxRecDepth 100000 in
set_option maxHeartbeats 3200000 in
theorem partOf_any (D : Int) (a : Option Addr) (n c : Nat) (F : Mons) (w : World) (h : PT w a n F) (hF : OKp F) :
    Calls Tryz.prog 13 #[.slice a n c, .int .i64 D] w fun e w' => ∃ a' n' c', e = .returned (.slice a' n' c') ∧ PT w' a' n' (partD D F) ∧ Below w.heap.size w w' := by
  have hs := h.small
  have Hok := Lib.hid hF.ok
  have Hn := Lib.hid h.len
  have Hfin := Lib.hid (terms_part D F)
  obtain ⟨xs, hxs⟩ : ∃ xs, termsM F = xs := ⟨_, rfl⟩
  have hrd := h.rd
  rw [hxs] at Hok Hn Hfin hrd
  go_enter Tryz.func13, Tryz.ntmps13
  have h0 : TO (w.alloc (.cells #[] 50)) w.heap.size (w.alloc (.cells #[] 50)).heap.size (some ⟨w.heap.size, 0, none⟩) 0 0 [] := TO.made w
  have hB0 : Below w.heap.size w (w.alloc (.cells #[] 50)) := (Below.refl _ _).alloc (Nat.le_refl _) _
  have hrd0 := hrd.below hB0
  go_wp2_with fail
  refine (is (implPolyOk_any _ _ _ xs _ hrd0 Hn.out (by omega)) Hok.out).mono ?_
  rintro e w1 ⟨rfl, hB1⟩
  have hT1 := h0.below hB1
  have hB2 := hB0.trans (hB1.mono hB0.size)
  have hT2 := hT1.mono (B' := w.heap.size) (S' := w1.heap.size) (Nat.le_refl _) hB1.size
  clear h hF h0 hrd0 hT1 hB1 hB0
  go_wp2
  go_loopw [5, 15] (fun sv kv wr => Hid (∃ (k m : Nat) (a' : Option Addr) (c' : Nat), kv = .int .i64 k ∧ k ≤ n ∧ m ≤ k ∧ sv = .slice a' m c' ∧ TO wr w.heap.size wr.heap.size a' m c' ((xs.take k).filter fun t => decide (sumI t.1 = D))) ∧ Below w.heap.size w wr) (fun _ kv _ => n - (intOf kv).toNat)
  case atStart => exact ⟨⟨0, 0, _, _, rfl, Nat.zero_le _, Nat.le_refl _, rfl, hT2⟩, hB2⟩
  case round =>
    clear hT2 hB2
    obtain ⟨HV, hd⟩ := hrel
    obtain ⟨wo, rfl⟩ : ∃ wo : World, wo = wr := ⟨_, rfl⟩
    obtain ⟨k, m, a1, c1, rfl, hk, hmk, rfl, ho⟩ := HV.out
    clear HV
    have hbs := hd.size
    by_cases hlt : k < n
    · obtain ⟨bb, off, rfl, hcell⟩ := (hrd.below hd).at (k := k) (by rw [Hn.out]; exact hlt)
      obtain ⟨s, x, hx⟩ := part_at Hn.out hlt
      obtain ⟨h7, hdg, h24, hc1m, hc2m, _⟩ := polyOk_each Hok.out hx
      obtain ⟨a3, c3, hc1, hc2, hri, _⟩ := hcell k _ hx
      simp only at hc1 hc2 hri
      rw [h7] at hc1
      have Hl := Lib.hid h7
      have Hsm := Lib.hid (show ∀ z ∈ s, 0 ≤ z ∧ z ≤ 1000 from fun z hz => ⟨(hdg z hz).1, by have := h24 z hz; omega⟩)
      have htk : xs.take (k + 1) = xs.take k ++ [(s, x)] := by rw [List.take_add_one, hx]; rfl
      obtain ⟨S, hS⟩ : ∃ S, sumI s = S := ⟨_, rfl⟩
      have HS := Lib.hid hS
      clear hcell hx h7 hdg h24
      have q1 : (k : Int) < (n : Int) := by omega
      obtain ⟨W, hW⟩ : ∃ W, wo.alloc (.cells #[.slice a3 7 c3, .int .i64 x] 50) = W := ⟨_, rfl⟩
      have hBW : Below wo.heap.size wo W := by rw [← hW]; exact (Below.refl _ _).alloc (Nat.le_refl _) _
      have hdW := hd.trans (hBW.mono hd.size)
      have g0 : W.heap[wo.heap.size]? = some (.cells #[.slice a3 7 c3, .int .i64 x] 50) := by rw [← hW]; exact heap_alloc_new wo _
      have p0 : W.cell? ⟨wo.heap.size, 0, none⟩ = some (.slice a3 7 c3) := by rw [cell_of_row W _ 0 _ _ (0, 0) g0]; rfl
      have p1 : W.cell? ⟨wo.heap.size, 1, none⟩ = some (.int .i64 x) := by rw [cell_of_row W _ 1 _ _ (0, 0) g0]; rfl
      have hriW := hri.below hBW
      have Ho := Lib.hid (ho.below hBW)
      have hsW := hBW.size
      clear g0 ho
      by_cases hSD : S = D
      · have g1 : (S == D) = true := by simpa using hSD
        have Hst := Lib.hid (show ((xs.take k).filter fun t => decide (sumI t.1 = D)) ++ [(s, x)] = ((xs.take (k + 1)).filter fun t => decide (sumI t.1 = D)) by
          rw [htk, List.filter_append, List.filter_cons_of_pos (by simp [hS, hSD]), List.filter_nil])
        clear htk hS
        go_wp2_with fail
        refine (isInt (degree_any _ _ _ s _ hriW Hl.out (by omega) Hsm.out) HS.out).mono ?_
        rintro e w3 ⟨rfl, hd3⟩
        have hB3 := hdW.trans (hd3.below _)
        have hs3 := (hd3.below W.heap.size).size
        have hz3 : w3.drew.heap.size = w3.heap.size := rfl
        have hri3 := hriW.below (hd3.below _)
        have Hri := Lib.hid (fun w2 (h : Below w3.heap.size w3 w2) => hri3.below h)
        have p03 : w3.cell? ⟨wo.heap.size, 0, none⟩ = some (.slice a3 7 c3) := by rw [hd3.cell]; exact p0
        have p13 : w3.cell? ⟨wo.heap.size, 1, none⟩ = some (.int .i64 x) := by rw [hd3.cell]; exact p1
        have S_of : ∀ w2, Below w3.heap.size w3 w2 → w2.cell? ⟨wo.heap.size, 0, none⟩ = some (.slice a3 7 c3) ∧ w2.cell? ⟨wo.heap.size, 1, none⟩ = some (.int .i64 x) := fun w2 hb => ⟨by rw [hb.cell (World.block_lt_of_cell? _ _ p03)]; exact p03, by rw [hb.cell (World.block_lt_of_cell? _ _ p13)]; exact p13⟩
        have d0 : Below w3.heap.size w3 w3 := Below.refl _ _
        have d1 : Below w3.heap.size w3 w3.drew := Drew.below ⟨1, rfl⟩ _
        have Ho3 := Lib.hid (((Ho.out.below (hd3.below _)).below d1).mono (B' := w.heap.size) (S' := w3.heap.size) (Nat.le_refl _) (by omega))
        have Hne := Lib.hid (show some wo.heap.size ≠ (Value.slice a1 m c1).ownBlock by
          obtain ⟨vs, h1, h2, h3⟩ := Ho.out
          intro h
          have := h2 _ h.symm
          omega)
        have Hlo := Lib.hid Ho.out.lo
        clear p0 p1 p03 p13 hriW hri3 Ho
        go_wp2
        go_region_held3 (fun w' => w'.cell? ⟨wo.heap.size, 0, none⟩ = some (.slice a3 7 c3) ∧ w'.cell? ⟨wo.heap.size, 1, none⟩ = some (.int .i64 x)) ((first | exact S_of _ d0 | exact S_of _ d1 | exact S_of _ d2 | exact S_of _ (Below.alloc d2 (Below.size d2) _) | exact S5))
          ((first
            | (refine step_pushT (by rfl) (by rfl) _ _ (by rfl) HO4.out (by rfl) Hcl.out (by omega) (by rfl) (by omega) (by omega) (by omega) (Nat.le_refl _) ?_; intro a5 c5 w5 ho5 hg5; have S5 := And.intro (hg5.cell (S_of _ d2).1 Hne.out) (hg5.cell (S_of _ d2).2 Hne.out); have hB5 := below_grown (v := .slice a1 m c1) hB4 hg5 (by omega) Hlo.out)
            | (go_at_call 34; refine (cloneI_any _ _ _ s _ (Hri.out _ d1) Hl.out (by omega)).mono ?_; rintro e w4 ⟨a4, c4, rfl, ho4, hb4⟩; have d2 := d1.trans (hb4.mono (Below.size d1)); have HO4 := Lib.hid (Ho3.out.below hb4); have Hcl := Lib.hid ho4; have hs4 := hb4.size; have hB4 := hB3.trans (d2.mono hB3.size); clear ho4)))
        rw [Hst.out] at ho5
        have HO5 := Lib.hid ho5
        clear ho5 hg5 HO4 Hcl S_of d0 d1 d2 hb4 hB4 S5
        go_wp2
        go_roundw
        case rel => exact ⟨⟨k + 1, m + 1, _, _, by go_num, by omega, by omega, rfl, HO5.out⟩, hB5⟩
        case measure => simp [intOf]; omega
      · have g1 : (S == D) = false := by simpa using hSD
        have Hst := Lib.hid (show ((xs.take k).filter fun t => decide (sumI t.1 = D)) = ((xs.take (k + 1)).filter fun t => decide (sumI t.1 = D)) by
          rw [htk, List.filter_append, List.filter_cons_of_neg (by simp [hS, hSD]), List.filter_nil, List.append_nil])
        clear htk hS
        go_wp2_with fail
        refine (isInt (degree_any _ _ _ s _ hriW Hl.out (by omega) Hsm.out) HS.out).mono ?_
        rintro e w3 ⟨rfl, hd3⟩
        have hB3 := hdW.trans (hd3.below _)
        have Ho3 := Lib.hid ((Ho.out.below (hd3.below _)).mono (B' := w.heap.size) (S' := w3.heap.size) (Nat.le_refl _) (Nat.le_trans hsW (hd3.below W.heap.size).size))
        clear Ho hriW p0 p1
        go_wp2
        go_roundw
        case rel => exact ⟨⟨k + 1, m, _, _, by go_num, by omega, by omega, rfl, by rw [← Hst.out]; exact Ho3.out⟩, hB3⟩
        case measure => simp [intOf]; omega
    · obtain rfl : k = n := by omega
      rw [List.take_of_length_le (by rw [Hn.out]; exact Nat.le_refl _), Hfin.out] at ho
      have Hpt := Lib.hid (show PT wo a1 m (partD D F) from ⟨ho.rd, ho.len, by omega⟩)
      clear ho
      go_wp2
      go_ret
      exact ⟨_, _, _, rfl, Hpt.out, hd⟩
end Go.Proofs.YtcminkcoifkbgaaGreatDoor

namespace Go.Proofs.YtcminkcoifkbgaaGreatDoor
open Go.RowKit

theorem ok_desc {xs : List (List Int × Int)} (h : polyOk xs = true) : ∀ (d i : Nat), i + d + 1 < xs.length → keyL (termOf xs (i + d + 1)).1 < keyL (termOf xs i).1 := by
  have step : ∀ i, i + 1 < xs.length → keyL (termOf xs (i + 1)).1 < keyL (termOf xs i).1 := by
    intro i hi
    unfold polyOk at h
    simp only [Bool.and_eq_true, decide_eq_true_eq, List.all_eq_true, List.mem_range] at h
    have h1 := h.2 (i + 1) hi
    unfold termAt at h1
    simp only [Bool.and_eq_true, Bool.or_eq_true, beq_iff_eq, decide_eq_true_eq, Nat.add_sub_cancel] at h1
    rcases h1.2 with h2 | h2
    · omega
    · exact h2
  intro d
  induction d with
  | zero => intro i hi; exact step i hi
  | succ d ih =>
    intro i hi
    have h1 := ih i (by omega)
    have h2 := step (i + d + 1) (by omega)
    have e : i + (d + 1) + 1 = i + d + 1 + 1 := by omega
    rw [e]
    omega
theorem canon_mons {xs : List (List Int × Int)} (h : polyOk xs = true) : canon (monsOf xs) = monsOf xs := by
  refine (canon_unique ?_ ?_ (Eqv.refl _)).symm
  · unfold monsOf
    rw [List.pairwise_map, List.pairwise_iff_getElem]
    intro i j hi hj hij
    have := ok_desc h (j - i - 1) i (by omega)
    have e : i + (j - i - 1) + 1 = j := by omega
    rw [e, termOf_at (List.getElem?_eq_getElem hi), termOf_at (List.getElem?_eq_getElem hj)] at this
    exact this
  · intro p hp
    obtain ⟨q, hq, rfl⟩ := List.mem_map.1 hp
    obtain ⟨k, hk⟩ := List.getElem?_of_mem hq
    obtain ⟨s, c⟩ := q
    have := polyOk_each h hk
    simp only
    omega
theorem terms_mons {xs : List (List Int × Int)} (h : polyOk xs = true) : termsM (monsOf xs) = xs := by
  unfold termsM
  rw [canon_mons h]
  unfold monsOf
  rw [List.map_map]
  conv => rhs; rw [← List.map_id xs]
  refine List.map_congr_left fun p hp => ?_
  obtain ⟨k, hk⟩ := List.getElem?_of_mem hp
  obtain ⟨s, c⟩ := p
  have := polyOk_each h hk
  simp only [Function.comp, term, id]
  rw [digs_keyL this.1 this.2.1]
theorem good_mons {xs : List (List Int × Int)} (h : polyOk xs = true) : GoodM 600 1000000 (monsOf xs) := by
  refine ⟨polyOk_mons h, by rw [canon_mons h]; unfold monsOf; rw [List.length_map]; exact polyOk_len h, fun k => ?_⟩
  have e : raw (canon (monsOf xs)) k = if k ∈ keysOf (monsOf xs) then coef (monsOf xs) k else 0 := raw_map (keysOf_nodup _) k
  rw [canon_mons h] at e
  rw [e]
  split
  · rename_i hk
    have hm : (k, coef (monsOf xs) k) ∈ monsOf xs := by
      rw [← canon_mons h, canon_mem, canon_mons h]
      exact ⟨mem_keysOf.1 hk, rfl⟩
    obtain ⟨q, hq, e2⟩ := List.mem_map.1 hm
    obtain ⟨j, hj⟩ := List.getElem?_of_mem hq
    obtain ⟨s, c⟩ := q
    have := polyOk_each h hj
    obtain ⟨_, e3⟩ := Prod.mk.inj e2
    omega
  · omega
theorem GoodM.sub {n C : Nat} {F : Mons} (h : GoodM n C F) (P : Int → Bool) : GoodM n C (F.filter fun p => P p.1) := by
  refine ⟨fun p hp => h.bd p (List.mem_filter.1 hp).1, ?_, fun k => ?_⟩
  · rw [← canon_part]
    exact Nat.le_trans (List.length_filter_le _ _) h.few
  · unfold raw
    rw [wsum_filter_hit]
    split
    · exact h.low k
    · omega
/-- the terms of degree below d -/
def lowD (d : Nat) (F : Mons) : Mons := F.filter fun p => decide (degK p.1 < (d : Int))
theorem low_okp {xs : List (List Int × Int)} (h : polyOk xs = true) (d : Nat) : OKp (lowD d (monsOf xs)) := ((good_mons h).sub fun k => decide (degK k < (d : Int))).okp (Nat.le_refl _) (Nat.le_refl _)
theorem part_okp {xs : List (List Int × Int)} (h : polyOk xs = true) (d : Int) : OKp (partD d (monsOf xs)) := ((good_mons h).sub fun k => decide (degK k = d)).okp (Nat.le_refl _) (Nat.le_refl _)
theorem mons_okp {xs : List (List Int × Int)} (h : polyOk xs = true) : OKp (monsOf xs) := (good_mons h).okp (Nat.le_refl _) (Nat.le_refl _)
theorem low_next (d : Nat) (F : Mons) : Eqv (plusM (lowD d F) 1 (partD (d : Int) F)) (lowD (d + 1) F) := by
  intro k
  unfold coef
  congr 1
  unfold plusM
  rw [raw_app]
  unfold raw
  rw [wsum_scale]
  unfold lowD partD
  rw [wsum_filter_hit (fun k => decide (degK k < (d : Int))), wsum_filter_hit (fun k => decide (degK k = (d : Int))), wsum_filter_hit (fun k => decide (degK k < ((d + 1 : Nat) : Int)))]
  simp only [decide_eq_true_eq]
  by_cases h1 : degK k < (d : Int)
  · rw [if_pos h1, if_neg (by omega), if_pos (by omega)]; omega
  · by_cases h2 : degK k = (d : Int)
    · rw [if_neg h1, if_pos h2, if_pos (by omega)]; omega
    · rw [if_neg h1, if_neg h2, if_neg (by omega)]; omega
theorem plus_okp {xs : List (List Int × Int)} (h : polyOk xs = true) (d : Nat) : OKp (plusM (lowD d (monsOf xs)) 1 (partD (d : Int) (monsOf xs))) := by
  refine ⟨fun p hp => ?_, by rw [termsM_eqv (low_next d _)]; exact (low_okp h (d + 1)).ok⟩
  unfold plusM scaleM at hp
  rw [List.mem_append] at hp
  rcases hp with hp | hp
  · exact (low_okp h d).bd p hp
  · obtain ⟨q, hq, rfl⟩ := List.mem_map.1 hp
    exact (part_okp h (d : Int)).bd q hq
theorem low_zero {xs : List (List Int × Int)} (h : polyOk xs = true) : termsM (lowD 0 (monsOf xs)) = [] := by
  have e : lowD 0 (monsOf xs) = [] := by
    unfold lowD
    rw [List.filter_eq_nil_iff]
    intro p hp
    have hb := (polyOk_mons h) p hp
    have h0 := dig_range p.1 0
    have h1 := dig_range p.1 1
    have h2 := dig_range p.1 2
    have h3 := dig_range p.1 3
    have h4 := dig_range p.1 4
    have h5 := dig_range p.1 5
    have h6 := dig_range p.1 6
    unfold degK
    simp only [decide_eq_true_eq]
    omega
  rw [e]
  simp [termsM, canon, keysOf, uniq]
theorem sum_digs (k : Int) : sumI (digs k) = degK k := by
  rw [show digs k = [dig k 0, dig k 1, dig k 2, dig k 3, dig k 4, dig k 5, dig k 6] from rfl]
  simp only [sumI_cons, sumI_nil]
  unfold degK
  omega
theorem low_all {xs : List (List Int × Int)} (h : polyOk xs = true) {d : Nat} (hd : ∀ t ∈ xs, sumI t.1 < (d : Int)) : termsM (lowD d (monsOf xs)) = xs := by
  have e : lowD d (monsOf xs) = monsOf xs := by
    unfold lowD
    rw [List.filter_eq_self]
    intro p hp
    obtain ⟨q, hq, rfl⟩ := List.mem_map.1 hp
    obtain ⟨k, hk⟩ := List.getElem?_of_mem hq
    have h1 := hd q hq
    obtain ⟨s, c⟩ := q
    have := polyOk_each h hk
    simp only at h1 ⊢
    rw [← sum_digs, digs_keyL this.1 this.2.1]
    simpa using h1
  rw [e, terms_mons h]
end Go.Proofs.YtcminkcoifkbgaaGreatDoor

namespace Go.Proofs.YtcminkcoifkbgaaGreatDoor
open Go.RowKit

def TopPost (xs : List (List Int × Int)) (w : World) (e : Ending) (w' : World) : Prop :=
  ∃ D : Int, e = .returned (.int .i64 D) ∧ -1 ≤ D ∧ D ≤ 1000 ∧ Hid (∀ t ∈ xs, sumI t.1 ≤ D) ∧ Below w.heap.size w w'
theorem sum_le {n : Nat} : ∀ {xs : List Int}, xs.length = n → (∀ z ∈ xs, z ≤ 24) → sumI xs ≤ 24 * (n : Int) := by
  induction n with
  | zero =>
    intro xs h _
    rw [List.length_eq_zero_iff.1 h]
    simp [sumI]
  | succ n ih =>
    intro xs h hx
    cases xs with
    | nil => simp at h
    | cons x xs =>
      rw [sumI_cons]
      have h1 := ih (xs := xs) (by simpa using h) (fun z hz => hx z (List.mem_cons_of_mem _ hz))
      have h2 := hx x List.mem_cons_self
      omega
set_option maxRecDepth 100000 in
set_option maxHeartbeats 3200000 in
theorem implDegree_top (a : Option Addr) (n c : Nat) (xs : List (List Int × Int)) (w : World) (hr : RP w a xs) (hn : xs.length = n) (hok : polyOk xs = true) :
    Calls Tryz.prog 11 #[.slice a n c] w (TopPost xs w) := by
  have hs : n ≤ 600 := by rw [← hn]; exact polyOk_len hok
  have Hok := Lib.hid hok
  have Hn := Lib.hid hn
  clear hok hn
  go_enter Tryz.func11, Tryz.ntmps11
  go_wp2_with fail
  refine (is (implPolyOk_any _ _ _ xs _ hr Hn.out (by omega)) Hok.out).mono ?_
  rintro e w1 ⟨rfl, hB1⟩
  go_wp2
  go_loopw [3, 11] (fun sv kv wr => Hid (∃ (k : Nat) (S : Int), kv = .int .i64 k ∧ k ≤ n ∧ sv = .int .i64 S ∧ -1 ≤ S ∧ S ≤ 1000 ∧ ∀ t ∈ xs.take k, sumI t.1 ≤ S) ∧ Below w.heap.size w wr) (fun _ kv _ => n - (intOf kv).toNat)
  case atStart => exact ⟨⟨0, -1, rfl, Nat.zero_le _, rfl, by omega, by omega, by simp⟩, hB1⟩
  case round =>
    clear hB1
    obtain ⟨HV, hd⟩ := hrel
    obtain ⟨wo, rfl⟩ : ∃ wo : World, wo = wr := ⟨_, rfl⟩
    obtain ⟨k, S, rfl, hk, rfl, hS0, hS1, hS⟩ := HV.out
    clear HV
    have HS := Lib.hid hS
    clear hS
    by_cases hlt : k < n
    · obtain ⟨bb, off, rfl, hcell⟩ := (hr.below hd).at (k := k) (by rw [Hn.out]; exact hlt)
      obtain ⟨s, x, hx⟩ := part_at Hn.out hlt
      obtain ⟨h7, hdg, h24, hc1m, hc2m, _⟩ := polyOk_each Hok.out hx
      obtain ⟨a1, c1, hc1, hc2, hri, _⟩ := hcell k _ hx
      simp only at hc1 hc2 hri
      rw [h7] at hc1
      have Hl := Lib.hid h7
      have Hsm := Lib.hid (show ∀ z ∈ s, 0 ≤ z ∧ z ≤ 1000 from fun z hz => ⟨(hdg z hz).1, by have := h24 z hz; omega⟩)
      have h168 := sum_le h7 h24
      have htk : xs.take (k + 1) = xs.take k ++ [(s, x)] := by rw [List.take_add_one, hx]; rfl
      obtain ⟨D, hD⟩ : ∃ D, sumI s = D := ⟨_, rfl⟩
      obtain ⟨M, hM⟩ : ∃ M, max S D = M := ⟨_, rfl⟩
      have HM := Lib.hid (show -1 ≤ M ∧ M ≤ 1000 ∧ ∀ t ∈ xs.take (k + 1), sumI t.1 ≤ M by
        refine ⟨by omega, by omega, fun t ht => ?_⟩
        rw [htk, List.mem_append, List.mem_singleton] at ht
        rcases ht with ht | rfl
        · have := HS.out t ht; omega
        · simp only; omega)
      have Hsum := Lib.hid hD
      clear hcell hx h7 hdg h24 htk hD h168
      have q1 : (k : Int) < (n : Int) := by omega
      obtain ⟨W, hW⟩ : ∃ W, wo.alloc (.cells #[.slice a1 7 c1, .int .i64 x] 50) = W := ⟨_, rfl⟩
      have hBW : Below wo.heap.size wo W := by rw [← hW]; exact (Below.refl _ _).alloc (Nat.le_refl _) _
      have hdW := hd.trans (hBW.mono hd.size)
      have g0 : W.heap[wo.heap.size]? = some (.cells #[.slice a1 7 c1, .int .i64 x] 50) := by rw [← hW]; exact heap_alloc_new wo _
      have p0 : W.cell? ⟨wo.heap.size, 0, none⟩ = some (.slice a1 7 c1) := by rw [cell_of_row W _ 0 _ _ (0, 0) g0]; rfl
      have hriW := hri.below hBW
      clear g0
      go_wp2_with fail
      refine (isInt (degree_any _ _ _ s _ hriW Hl.out (by omega) Hsm.out) Hsum.out).mono ?_
      rintro e w3 ⟨rfl, hd3⟩
      have hB3 := hdW.trans (hd3.below _)
      go_wp2
      go_roundw
      case rel => exact ⟨⟨k + 1, M, by go_num, by omega, rfl, HM.out⟩, hB3⟩
      case measure => simp [intOf]; omega
    · obtain rfl : k = n := by omega
      have HF := Lib.hid (show ∀ t ∈ xs, sumI t.1 ≤ S by have h := HS.out; rw [List.take_of_length_le (by rw [Hn.out]; exact Nat.le_refl _)] at h; exact h)
      go_wp2
      go_ret
      exact ⟨S, rfl, hS0, hS1, HF, hd⟩
end Go.Proofs.YtcminkcoifkbgaaGreatDoor
