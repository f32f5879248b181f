/-
  Contract of l3Before: dreams compared cell by cell.
-/
import Derived.Test.YtageojkepoejiaaBuG2
import Derived.Deep.RegionHeld3
namespace Go.Proofs.Ytageojkepoejiaa
open Go.RowKit

/-- the lists agree as far as so -/
def SameTo (xs ys : List (Int × Int)) (k : Nat) : Prop := ∀ j, j < k → xs[j]? = ys[j]?
theorem lessD_skip : ∀ {xs ys : List (Int × Int)} {k : Nat}, SameTo xs ys k → k ≤ xs.length → k ≤ ys.length → lessD xs ys = lessD (xs.drop k) (ys.drop k)
  | xs, ys, 0, _, _, _ => by rw [List.drop_zero, List.drop_zero]
  | [], _, k + 1, _, h, _ => by simp at h
  | _ :: _, [], k + 1, _, _, h => by simp at h
  | x :: xs, y :: ys, k + 1, h, h1, h2 => by
    have e : x = y := by have := h 0 (by omega); simpa using this
    have h' : SameTo xs ys k := fun j hj => by have := h (j + 1) (by omega); simpa using this
    rw [lessD, if_pos e, List.drop_succ_cons, List.drop_succ_cons]
    exact lessD_skip h' (by simpa using h1) (by simpa using h2)
theorem lessD_at {xs ys : List (Int × Int)} {k : Nat} {x y : Int × Int} (h : SameTo xs ys k) (hx : xs[k]? = some x) (hy : ys[k]? = some y) (hne : x ≠ y) : lessD xs ys = cellLess x y := by
  obtain ⟨h1, e1⟩ := List.getElem?_eq_some_iff.1 hx
  obtain ⟨h2, e2⟩ := List.getElem?_eq_some_iff.1 hy
  rw [lessD_skip h (by omega) (by omega), List.drop_eq_getElem_cons h1, List.drop_eq_getElem_cons h2, lessD, e1, e2, if_neg hne]
theorem lessD_end {xs ys : List (Int × Int)} {n m : Nat} (hn : xs.length = n) (hm : ys.length = m) (h : SameTo xs ys (min n m)) : lessD xs ys = decide (n < m) := by
  rw [lessD_skip h (by omega) (by omega)]
  rcases Nat.lt_or_ge n m with hl | hl
  · rw [Nat.min_eq_left (by omega), List.drop_of_length_le (by omega), List.drop_eq_getElem_cons (by omega), lessD]
    simp [hl]
  · rw [Nat.min_eq_right hl, List.drop_of_length_le (l := ys) (by omega)]
    rcases Nat.lt_or_ge m n with h2 | h2
    · rw [List.drop_eq_getElem_cons (by omega), lessD]
      simp
      omega
    · rw [List.drop_of_length_le (by omega), lessD]
      simp
      omega
theorem SameTo.succ {xs ys : List (Int × Int)} {k : Nat} {x : Int × Int} (h : SameTo xs ys k) (hx : xs[k]? = some x) (hy : ys[k]? = some x) : SameTo xs ys (k + 1) := fun j hj => by
  rcases Nat.lt_or_ge j k with h1 | h1
  · exact h j h1
  · obtain rfl : j = k := by omega
    rw [hx, hy]

set_option maxRecDepth 100000 in
set_option maxHeartbeats 1600000 in
theorem l3Before_any (a b : Option Addr) (n c m d : Nat) (xs ys : List (Int × Int)) (w : World) (hr : RC w a xs) (hs : RC w b ys) (hn : xs.length = n) (hm : ys.length = m) (hb : n ≤ 1048576) (hb2 : m ≤ 1048576) :
    Calls Try.prog 91 #[.slice a n c, .slice b m d] w fun e w' => e = .returned (.bool (lessD xs ys)) ∧ Below w.heap.size w w' := by
  have Hn := Lib.hid hn; clear hn
  have Hm := Lib.hid hm; clear hm
  go_enter Try.func91, Try.ntmps91
  go_wp2
  go_loopw [5] (fun iv wr => Hid (∃ k : Nat, k ≤ n ∧ k ≤ m ∧ iv = .int .i64 k ∧ SameTo xs ys k) ∧ Drew w wr) (fun iv _ => n - (intOf iv).toNat)
  case atStart => exact ⟨⟨0, Nat.zero_le _, Nat.zero_le _, rfl, fun j hj => by omega⟩, Drew.refl _⟩
  case round =>
    obtain ⟨HV, hd⟩ := hrel
    obtain ⟨wo, rfl⟩ : ∃ wo : World, wo = wr := ⟨_, rfl⟩
    obtain ⟨k, hkn, hkm, rfl, hsame⟩ := HV.out
    clear HV
    have Hsame := Lib.hid hsame
    clear hsame
    by_cases hlt : k < n
    · have q1 : (k : Int) < (n : Int) := by omega
      by_cases hlm : k < m
      · have q2 : (k : Int) < (m : Int) := by omega
        obtain ⟨b1, off, rfl, hcell⟩ := (hr.below (hd.below _)).at (k := k) (by rw [Hn.out]; exact hlt)
        obtain ⟨b2, off2, rfl, hcell2⟩ := (hs.below (hd.below _)).at (k := k) (by rw [Hm.out]; exact hlm)
        obtain ⟨u, v, hx⟩ := pair_at Hn.out hlt
        obtain ⟨p, q, hy⟩ := pair_at Hm.out hlm
        obtain ⟨hc1, hc2⟩ := hcell _ _ hx
        obtain ⟨hc3, hc4⟩ := hcell2 _ _ hy
        simp only at hc1 hc2 hc3 hc4
        have Hx := Lib.hid hx
        have Hy := Lib.hid hy
        clear hcell hcell2 hx hy
        by_cases he : (u, v) = (p, q)
        · have e1 : (u == p) = true := by simp only [Prod.mk.injEq] at he; simp [he.1]
          have e2 : (v == q) = true := by simp only [Prod.mk.injEq] at he; simp [he.2]
          have Hnx := Lib.hid (Hsame.out.succ Hx.out (by rw [Hy.out, he]))
          clear he
          go_wp2
          go_quiet (fail)
          go_wp2
          go_roundw
          case rel => exact ⟨⟨k + 1, by omega, by omega, by go_num, Hnx.out⟩, hd.trans (Drew.drewN wo nq)⟩
          case measure => simp [intOf]; omega
        · have Hr := Lib.hid (lessD_at Hsame.out Hx.out Hy.out he)
          by_cases h1 : u = p
          · have h2 : v ≠ q := fun e => he (by rw [h1, e])
            have e1 : (u == p) = true := by simp [h1]
            have e2 : (v == q) = false := by simp [h2]
            clear he h1 h2
            go_wp2
            go_quiet (fail)
            have S_of : ∀ w2, Below (wo.drewN nq).heap.size (wo.drewN nq) w2 → w2.cell? ⟨b1, off + k * 2, none⟩ = some (.int .i64 u) ∧ w2.cell? ⟨b1, off + k * 2 + 1, none⟩ = some (.int .i64 v) ∧ w2.cell? ⟨b2, off2 + k * 2, none⟩ = some (.int .i64 p) ∧ w2.cell? ⟨b2, off2 + k * 2 + 1, none⟩ = some (.int .i64 q) := fun w2 hb => by
              have hb0 := (Drew.below (Drew.drewN wo nq) wo.heap.size).trans hb
              refine ⟨?_, ?_, ?_, ?_⟩
              · rw [hb0.cell (World.block_lt_of_cell? _ _ hc1)]; exact hc1
              · rw [hb0.cell (World.block_lt_of_cell? _ _ hc2)]; exact hc2
              · rw [hb0.cell (World.block_lt_of_cell? _ _ hc3)]; exact hc3
              · rw [hb0.cell (World.block_lt_of_cell? _ _ hc4)]; exact hc4
            have hBq := (hd.trans (Drew.drewN wo nq)).below w.heap.size
            have d1 : Below (wo.drewN nq).heap.size (wo.drewN nq) (wo.drewN nq).drew := Drew.below ⟨1, rfl⟩ _
            go_wp2
            go_region_held3 (fun w' => w'.cell? ⟨b1, off + k * 2, none⟩ = some (.int .i64 u) ∧ w'.cell? ⟨b1, off + k * 2 + 1, none⟩ = some (.int .i64 v) ∧ w'.cell? ⟨b2, off2 + k * 2, none⟩ = some (.int .i64 p) ∧ w'.cell? ⟨b2, off2 + k * 2 + 1, none⟩ = some (.int .i64 q)) ((first | exact S_of _ d1 | exact S_of _ d2))
              ((first | (go_at_call 90; refine (l3Less_any u v p q _).mono ?_; rintro e w3 ⟨rfl, hb3⟩; have d2 := Below.trans d1 (hb3.mono (Below.size d1)))))
            have hB3 := hBq.trans (d2.mono hBq.size)
            clear S_of d1 d2 hb3
            go_wp2
            go_ret
            exact ⟨ret_bool Hr.out.symm, hB3⟩
          · have e1 : (u == p) = false := by simp [h1]
            clear he h1
            go_wp2
            go_quiet (fail)
            have S_of : ∀ w2, Below (wo.drewN nq).heap.size (wo.drewN nq) w2 → w2.cell? ⟨b1, off + k * 2, none⟩ = some (.int .i64 u) ∧ w2.cell? ⟨b1, off + k * 2 + 1, none⟩ = some (.int .i64 v) ∧ w2.cell? ⟨b2, off2 + k * 2, none⟩ = some (.int .i64 p) ∧ w2.cell? ⟨b2, off2 + k * 2 + 1, none⟩ = some (.int .i64 q) := fun w2 hb => by
              have hb0 := (Drew.below (Drew.drewN wo nq) wo.heap.size).trans hb
              refine ⟨?_, ?_, ?_, ?_⟩
              · rw [hb0.cell (World.block_lt_of_cell? _ _ hc1)]; exact hc1
              · rw [hb0.cell (World.block_lt_of_cell? _ _ hc2)]; exact hc2
              · rw [hb0.cell (World.block_lt_of_cell? _ _ hc3)]; exact hc3
              · rw [hb0.cell (World.block_lt_of_cell? _ _ hc4)]; exact hc4
            have hBq := (hd.trans (Drew.drewN wo nq)).below w.heap.size
            have d1 : Below (wo.drewN nq).heap.size (wo.drewN nq) (wo.drewN nq).drew := Drew.below ⟨1, rfl⟩ _
            go_wp2
            go_region_held3 (fun w' => w'.cell? ⟨b1, off + k * 2, none⟩ = some (.int .i64 u) ∧ w'.cell? ⟨b1, off + k * 2 + 1, none⟩ = some (.int .i64 v) ∧ w'.cell? ⟨b2, off2 + k * 2, none⟩ = some (.int .i64 p) ∧ w'.cell? ⟨b2, off2 + k * 2 + 1, none⟩ = some (.int .i64 q)) ((first | exact S_of _ d1 | exact S_of _ d2))
              ((first | (go_at_call 90; refine (l3Less_any u v p q _).mono ?_; rintro e w3 ⟨rfl, hb3⟩; have d2 := Below.trans d1 (hb3.mono (Below.size d1)))))
            have hB3 := hBq.trans (d2.mono hBq.size)
            clear S_of d1 d2 hb3
            go_wp2
            go_ret
            exact ⟨ret_bool Hr.out.symm, hB3⟩
      · have q2 : ¬ (k : Int) < (m : Int) := by omega
        obtain rfl : k = m := by omega
        have Hr := Lib.hid (show lessD xs ys = decide (n < k) from lessD_end Hn.out Hm.out (by rw [Nat.min_eq_right (by omega)]; exact Hsame.out))
        go_wp2
        go_ret
        exact ⟨ret_bool Hr.out.symm, hd.below _⟩
    · have q1 : ¬ (k : Int) < (n : Int) := by omega
      obtain rfl : k = n := by omega
      have Hr := Lib.hid (show lessD xs ys = decide (k < m) from lessD_end Hn.out Hm.out (by rw [Nat.min_eq_left (by omega)]; exact Hsame.out))
      go_wp2
      go_ret
      exact ⟨ret_bool Hr.out.symm, hd.below _⟩
end Go.Proofs.Ytageojkepoejiaa
