/-
  Contract of PartOfDegree: the terms of one degree.
-/
import Derived.Test.YtflkomgfgmephaaDegree
import Derived.Test.YtflkomgfgmephaaBuI8
import Derived.Deep.RegionHeld3
namespace Go.Proofs.Ytflkomgfgmephaa
open Go.RowKit

def partD (d : Int) (F : Mons) : Mons := F.filter fun p => decide (degK p.1 = d)
theorem wsum_filter_hit (P : Int → Bool) (k : Int) : ∀ F : Mons, wsum (F.filter fun p => P p.1) (hit k) = if P k = true then wsum F (hit k) else 0 := by
  intro F
  induction F with
  | nil => simp [wsum]
  | cons p F ih =>
    by_cases hp : P p.1 = true
    · rw [List.filter_cons_of_pos (by simpa using hp), wsum, ih, wsum]
      by_cases hk : P k = true
      · rw [if_pos hk, if_pos hk]
      · have hne : p.1 ≠ k := fun h => hk (h ▸ hp)
        rw [if_neg hk, if_neg hk, hit, if_neg hne]
        omega
    · rw [List.filter_cons_of_neg (by simpa using hp), ih, wsum]
      by_cases hk : P k = true
      · have hne : p.1 ≠ k := fun h => hp (h ▸ hk)
        rw [if_pos hk, if_pos hk, hit, if_neg hne]
        omega
      · rw [if_neg hk, if_neg hk]
theorem coef_filter (P : Int → Bool) (F : Mons) (k : Int) : coef (F.filter fun p => P p.1) k = if P k = true then coef F k else 0 := by
  unfold coef raw
  rw [wsum_filter_hit]
  split
  · rfl
  · exact wrap_zero
theorem canon_part (P : Int → Bool) (F : Mons) : (canon F).filter (fun p => P p.1) = canon (F.filter fun p => P p.1) := by
  refine canon_unique ((canon_sorted F).filter _) (fun p hp => ?_) fun k => ?_
  · have h := canon_mem.1 (List.mem_filter.1 hp).1
    refine ⟨h.1, ?_⟩
    rw [h.2]
    exact wrap_range _
  · rw [coef_filter, coef_filter, coef_canon]
theorem terms_part (d : Int) (F : Mons) : (termsM F).filter (fun t => decide (sumI t.1 = d)) = termsM (partD d F) := by
  unfold termsM partD
  rw [← canon_part (fun k => decide (degK k = d)), List.filter_map]
  congr 1
  refine List.filter_congr fun p _ => ?_
  rw [Function.comp_apply, show sumI (term p).1 = degK p.1 from by rw [show (term p).1 = digs p.1 from rfl, show digs p.1 = [dig p.1 0, dig p.1 1, dig p.1 2, dig p.1 3, dig p.1 4, dig p.1 5, dig p.1 6] from rfl]; simp only [sumI_cons, sumI_nil]; unfold degK; omega]

set_option maxRecDepth 100000 in
set_option maxHeartbeats 3200000 in
theorem partOf_any (D : Int) (a : Option Addr) (n c : Nat) (F : Mons) (w : World) (h : PT w a n F) (hF : OKp F) :
    Calls Try.prog 26 #[.slice a n c, .int .i64 D] w fun e w' => ∃ a' n' c', e = .returned (.slice a' n' c') ∧ PT w' a' n' (partD D F) ∧ Below w.heap.size w w' := by
  have hs := h.small
  have Hok := Lib.hid hF.ok
  have Hn := Lib.hid h.len
  have Hfin := Lib.hid (terms_part D F)
  obtain ⟨xs, hxs⟩ : ∃ xs, termsM F = xs := ⟨_, rfl⟩
  have hrd := h.rd
  rw [hxs] at Hok Hn Hfin hrd
  go_enter Try.func26, Try.ntmps26
  have h0 : TO (w.alloc (.cells #[] 72)) w.heap.size (w.alloc (.cells #[] 72)).heap.size (some ⟨w.heap.size, 0, none⟩) 0 0 [] := TO.made w
  have hB0 : Below w.heap.size w (w.alloc (.cells #[] 72)) := (Below.refl _ _).alloc (Nat.le_refl _) _
  have hrd0 := hrd.below hB0
  go_wp2_with fail
  refine (is (implPolyOk_any _ _ _ xs _ hrd0 Hn.out (by omega)) Hok.out).mono ?_
  rintro e w1 ⟨rfl, hB1⟩
  have hT1 := h0.below hB1
  have hB2 := hB0.trans (hB1.mono hB0.size)
  have hT2 := hT1.mono (B' := w.heap.size) (S' := w1.heap.size) (Nat.le_refl _) hB1.size
  clear h hF h0 hrd0 hT1 hB1 hB0
  go_wp2
  go_loopw [5, 15] (fun sv kv wr => Hid (∃ (k m : Nat) (a' : Option Addr) (c' : Nat), kv = .int .i64 k ∧ k ≤ n ∧ m ≤ k ∧ sv = .slice a' m c' ∧ TO wr w.heap.size wr.heap.size a' m c' ((xs.take k).filter fun t => decide (sumI t.1 = D))) ∧ Below w.heap.size w wr) (fun _ kv _ => n - (intOf kv).toNat)
  case atStart => exact ⟨⟨0, 0, _, _, rfl, Nat.zero_le _, Nat.le_refl _, rfl, hT2⟩, hB2⟩
  case round =>
    clear hT2 hB2
    obtain ⟨HV, hd⟩ := hrel
    obtain ⟨wo, rfl⟩ : ∃ wo : World, wo = wr := ⟨_, rfl⟩
    obtain ⟨k, m, a1, c1, rfl, hk, hmk, rfl, ho⟩ := HV.out
    clear HV
    have hbs := hd.size
    by_cases hlt : k < n
    · obtain ⟨bb, off, rfl, hcell⟩ := (hrd.below hd).at (k := k) (by rw [Hn.out]; exact hlt)
      obtain ⟨s, x, hx⟩ := part_at Hn.out hlt
      obtain ⟨h7, hdg, h24, hc1m, hc2m, _⟩ := polyOk_each Hok.out hx
      obtain ⟨a3, c3, hc1, hc2, hri, _⟩ := hcell k _ hx
      simp only at hc1 hc2 hri
      rw [h7] at hc1
      have Hl := Lib.hid h7
      have Hsm := Lib.hid (show ∀ z ∈ s, 0 ≤ z ∧ z ≤ 1000 from fun z hz => ⟨(hdg z hz).1, by have := h24 z hz; omega⟩)
      have htk : xs.take (k + 1) = xs.take k ++ [(s, x)] := by rw [List.take_add_one, hx]; rfl
      obtain ⟨S, hS⟩ : ∃ S, sumI s = S := ⟨_, rfl⟩
      have HS := Lib.hid hS
      clear hcell hx h7 hdg h24
      have q1 : (k : Int) < (n : Int) := by omega
      obtain ⟨W, hW⟩ : ∃ W, wo.alloc (.cells #[.slice a3 7 c3, .int .i64 x] 72) = W := ⟨_, rfl⟩
      have hBW : Below wo.heap.size wo W := by rw [← hW]; exact (Below.refl _ _).alloc (Nat.le_refl _) _
      have hdW := hd.trans (hBW.mono hd.size)
      have g0 : W.heap[wo.heap.size]? = some (.cells #[.slice a3 7 c3, .int .i64 x] 72) := by rw [← hW]; exact heap_alloc_new wo _
      have p0 : W.cell? ⟨wo.heap.size, 0, none⟩ = some (.slice a3 7 c3) := by rw [cell_of_row W _ 0 _ _ (0, 0) g0]; rfl
      have p1 : W.cell? ⟨wo.heap.size, 1, none⟩ = some (.int .i64 x) := by rw [cell_of_row W _ 1 _ _ (0, 0) g0]; rfl
      have hriW := hri.below hBW
      have Ho := Lib.hid (ho.below hBW)
      have hsW := hBW.size
      clear g0 ho
      by_cases hSD : S = D
      · have g1 : (S == D) = true := by simpa using hSD
        have Hst := Lib.hid (show ((xs.take k).filter fun t => decide (sumI t.1 = D)) ++ [(s, x)] = ((xs.take (k + 1)).filter fun t => decide (sumI t.1 = D)) by
          rw [htk, List.filter_append, List.filter_cons_of_pos (by simp [hS, hSD]), List.filter_nil])
        clear htk hS
        go_wp2_with fail
        refine (isInt (degree_any _ _ _ s _ hriW Hl.out (by omega) Hsm.out) HS.out).mono ?_
        rintro e w3 ⟨rfl, hd3⟩
        have hB3 := hdW.trans (hd3.below _)
        have hs3 := (hd3.below W.heap.size).size
        have hz3 : w3.drew.heap.size = w3.heap.size := rfl
        have hri3 := hriW.below (hd3.below _)
        have Hri := Lib.hid (fun w2 (h : Below w3.heap.size w3 w2) => hri3.below h)
        have p03 : w3.cell? ⟨wo.heap.size, 0, none⟩ = some (.slice a3 7 c3) := by rw [hd3.cell]; exact p0
        have p13 : w3.cell? ⟨wo.heap.size, 1, none⟩ = some (.int .i64 x) := by rw [hd3.cell]; exact p1
        have S_of : ∀ w2, Below w3.heap.size w3 w2 → w2.cell? ⟨wo.heap.size, 0, none⟩ = some (.slice a3 7 c3) ∧ w2.cell? ⟨wo.heap.size, 1, none⟩ = some (.int .i64 x) := fun w2 hb => ⟨by rw [hb.cell (World.block_lt_of_cell? _ _ p03)]; exact p03, by rw [hb.cell (World.block_lt_of_cell? _ _ p13)]; exact p13⟩
        have d0 : Below w3.heap.size w3 w3 := Below.refl _ _
        have d1 : Below w3.heap.size w3 w3.drew := Drew.below ⟨1, rfl⟩ _
        have Ho3 := Lib.hid (((Ho.out.below (hd3.below _)).below d1).mono (B' := w.heap.size) (S' := w3.heap.size) (Nat.le_refl _) (by omega))
        have Hne := Lib.hid (show some wo.heap.size ≠ (Value.slice a1 m c1).ownBlock by
          obtain ⟨vs, h1, h2, h3⟩ := Ho.out
          intro h
          have := h2 _ h.symm
          omega)
        have Hlo := Lib.hid Ho.out.lo
        clear p0 p1 p03 p13 hriW hri3 Ho
        go_wp2
        go_region_held3 (fun w' => w'.cell? ⟨wo.heap.size, 0, none⟩ = some (.slice a3 7 c3) ∧ w'.cell? ⟨wo.heap.size, 1, none⟩ = some (.int .i64 x)) ((first | exact S_of _ d0 | exact S_of _ d1 | exact S_of _ d2 | exact S_of _ (Below.alloc d2 (Below.size d2) _) | exact S5))
          ((first
            | (refine step_pushT (by rfl) (by rfl) _ _ (by rfl) HO4.out (by rfl) Hcl.out (by omega) (by rfl) (by omega) (by omega) (by omega) (Nat.le_refl _) ?_; intro a5 c5 w5 ho5 hg5; have S5 := And.intro (hg5.cell (S_of _ d2).1 Hne.out) (hg5.cell (S_of _ d2).2 Hne.out); have hB5 := below_grown (v := .slice a1 m c1) hB4 hg5 (by omega) Hlo.out)
            | (go_at_call 43; refine (cloneI_any _ _ _ s _ (Hri.out _ d1) Hl.out (by omega)).mono ?_; rintro e w4 ⟨a4, c4, rfl, ho4, hb4⟩; have d2 := d1.trans (hb4.mono (Below.size d1)); have HO4 := Lib.hid (Ho3.out.below hb4); have Hcl := Lib.hid ho4; have hs4 := hb4.size; have hB4 := hB3.trans (d2.mono hB3.size); clear ho4)))
        rw [Hst.out] at ho5
        have HO5 := Lib.hid ho5
        clear ho5 hg5 HO4 Hcl S_of d0 d1 d2 hb4 hB4 S5
        go_wp2
        go_roundw
        case rel => exact ⟨⟨k + 1, m + 1, _, _, by go_num, by omega, by omega, rfl, HO5.out⟩, hB5⟩
        case measure => simp [intOf]; omega
      · have g1 : (S == D) = false := by simpa using hSD
        have Hst := Lib.hid (show ((xs.take k).filter fun t => decide (sumI t.1 = D)) = ((xs.take (k + 1)).filter fun t => decide (sumI t.1 = D)) by
          rw [htk, List.filter_append, List.filter_cons_of_neg (by simp [hS, hSD]), List.filter_nil, List.append_nil])
        clear htk hS
        go_wp2_with fail
        refine (isInt (degree_any _ _ _ s _ hriW Hl.out (by omega) Hsm.out) HS.out).mono ?_
        rintro e w3 ⟨rfl, hd3⟩
        have hB3 := hdW.trans (hd3.below _)
        have Ho3 := Lib.hid ((Ho.out.below (hd3.below _)).mono (B' := w.heap.size) (S' := w3.heap.size) (Nat.le_refl _) (Nat.le_trans hsW (hd3.below W.heap.size).size))
        clear Ho hriW p0 p1
        go_wp2
        go_roundw
        case rel => exact ⟨⟨k + 1, m, _, _, by go_num, by omega, by omega, rfl, by rw [← Hst.out]; exact Ho3.out⟩, hB3⟩
        case measure => simp [intOf]; omega
    · obtain rfl : k = n := by omega
      rw [List.take_of_length_le (by rw [Hn.out]; exact Nat.le_refl _), Hfin.out] at ho
      have Hpt := Lib.hid (show PT wo a1 m (partD D F) from ⟨ho.rd, ho.len, by omega⟩)
      clear ho
      go_wp2
      go_ret
      exact ⟨_, _, _, rfl, Hpt.out, hd⟩
end Go.Proofs.Ytflkomgfgmephaa
