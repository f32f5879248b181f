/-
  Contracts of open and of operated, with DemazureOf, IsobaricOf and AtomOf of the program.
-/
import Derived.Test.YtcminkcoifkbgaaGreatDoorClosed
import Derived.Test.YtcminkcoifkbgaaGreatDoorBuC
import Derived.StillTailTactics
namespace Go.Proofs.YtcminkcoifkbgaaGreatDoor
open Go.RowKit Go.MapKept

def monsOf (xs : List (List Int × Int)) : Mons := xs.map fun p => (keyL p.1, p.2)
theorem dig_keyL {s : List Int} (hl : s.length = 7) (hd : Digs s) {i : Nat} (hi : i < 7) : s[i]? = some (dig (keyL s) i) := by
  obtain ⟨a, b, c, d, e, f, g, rfl⟩ := seven_list hl
  have h := pack_digs (hd a (by simp)) (hd b (by simp)) (hd c (by simp)) (hd d (by simp)) (hd e (by simp)) (hd f (by simp)) (hd g (by simp))
  have e1 : keyL [a, b, c, d, e, f, g] = pack a b c d e f g := by unfold pack; simp only [keyL]; omega
  rw [e1]
  obtain ⟨_, h0, h1, h2, h3, h4, h5, h6⟩ := h
  rcases seven (show i ≤ 6 by omega) with rfl | rfl | rfl | rfl | rfl | rfl | rfl <;> simp_all
theorem digs_keyL {s : List Int} (hl : s.length = 7) (hd : Digs s) : digs (keyL s) = s := by
  apply List.ext_getElem?
  intro i
  rcases Nat.lt_or_ge i 7 with h | h
  · rw [digs_at h, dig_keyL hl hd h]
  · rw [List.getElem?_eq_none (by rw [digs_length]; exact h), List.getElem?_eq_none (by omega)]
theorem polyOk_each {xs : List (List Int × Int)} (h : polyOk xs = true) {k : Nat} {s : List Int} {c : Int} (hx : xs[k]? = some (s, c)) : s.length = 7 ∧ Digs s ∧ (∀ x ∈ s, x ≤ 24) ∧ -1000000 ≤ c ∧ c ≤ 1000000 ∧ c ≠ 0 := by
  unfold polyOk at h
  simp only [Bool.and_eq_true, decide_eq_true_eq, List.all_eq_true, List.mem_range] at h
  have hk := (List.getElem?_eq_some_iff.1 hx).1
  have h2 := h.2 k hk
  obtain ⟨e1, e2, e3⟩ := termAt_ok hx h2
  refine ⟨e1, e2, ?_, ?_⟩
  · intro x hxs
    simp only [termAt, termOf_at hx, Bool.and_eq_true, List.all_eq_true] at h2
    have := h2.1.2 x hxs
    simp [small] at this
    omega
  · simp [coefOk] at e3
    omega
theorem polyOk_len {xs : List (List Int × Int)} (h : polyOk xs = true) : xs.length ≤ 600 := by
  unfold polyOk at h
  simp only [Bool.and_eq_true, decide_eq_true_eq] at h
  exact h.1
theorem polyOk_mons {xs : List (List Int × Int)} (h : polyOk xs = true) : Bd 24 (monsOf xs) := by
  intro p hp
  obtain ⟨q, hq, rfl⟩ := List.mem_map.1 hp
  obtain ⟨k, hk⟩ := List.getElem?_of_mem hq
  obtain ⟨e1, e2, e3, _⟩ := polyOk_each h hk
  refine ⟨keyL_small e2 (by omega), fun i hi => e3 _ (List.mem_of_getElem? (dig_keyL e1 e2 hi))⟩
theorem polyOk_in64 {xs : List (List Int × Int)} (h : polyOk xs = true) : ∀ p ∈ monsOf xs, in64 p.2 := by
  intro p hp
  obtain ⟨q, hq, rfl⟩ := List.mem_map.1 hp
  obtain ⟨k, hk⟩ := List.getElem?_of_mem hq
  obtain ⟨_, _, _, e4, e5, _⟩ := polyOk_each h hk
  unfold in64
  simp only
  omega

theorem run_arrayAt7 (a : Option Addr) (c : Nat) (w : World) : (Instr.arrayAt 96 (.slice a 7 c)).run Tryz.prog w = .ok (.pointer a) w := by
  simp [Instr.arrayAt, run_underlying arrK.hu]
set_option maxRecDepth 100000 in
set_option maxHeartbeats 3200000 in
theorem open_any (a : Option Addr) (n c : Nat) (xs : List (List Int × Int)) (w : World) (hr : RP w a xs) (hn : xs.length = n) (hok : polyOk xs = true) :
    Calls Tryz.prog 52 #[.slice a n c] w fun e w' => ∃ r, e = .returned (.map (some r)) ∧ w.heap.size ≤ r ∧ PF w' r (monsOf xs) ∧ Below w.heap.size w w' := by
  have hnb : n ≤ 600 := by rw [← hn]; exact polyOk_len hok
  have Hn := Lib.hid hn; clear hn
  have Hok := Lib.hid hok; clear hok
  have hmm := @run_makeMap Tryz.prog
  obtain ⟨W, hW⟩ : ∃ W, w.alloc (.map #[] 0) = W := ⟨_, rfl⟩
  have hBW : Below w.heap.size w W := by rw [← hW]; exact (Below.refl _ _).alloc (Nat.le_refl _) _
  have hM : PF W w.heap.size [] := by rw [← hW]; exact PF.made w
  go_enter Tryz.func52, Tryz.ntmps52
  go_wp2
  go_loopw [9] (fun i wr => ∃ k : Nat, k ≤ n ∧ i = .int .i64 k ∧ PF wr w.heap.size (monsOf (xs.take k)) ∧ Below w.heap.size w wr) (fun i _ => n - (intOf i).toNat)
  case atStart => exact ⟨0, Nat.zero_le _, rfl, hM, hBW⟩
  case round =>
    clear hM hBW
    obtain ⟨k, hk, rfl, hM, hB⟩ := hrel
    obtain ⟨wo, rfl⟩ : ∃ wo : World, wo = wr := ⟨_, rfl⟩
    have hbs := hB.size
    have hMlt := hM.lt
    by_cases hlt : k < n
    · obtain ⟨b, off, rfl, hcell⟩ := (hr.below hB).at (k := k) (by rw [Hn.out]; exact hlt)
      obtain ⟨s, x, hx⟩ := part_at Hn.out hlt
      obtain ⟨a1, c1, hc1, hc2, hri, hcap⟩ := hcell k _ hx
      simp only at hc1 hc2 hri hcap
      obtain ⟨s7, sd, _, x1, x2, _⟩ := polyOk_each Hok.out hx
      have hkk := keyL_small sd (by omega)
      have hx64 : in64 x := by unfold in64; omega
      rw [s7] at hc1 hcap
      obtain ⟨W, hW⟩ : ∃ W, wo.alloc (.cells #[.slice a1 7 c1, .int .i64 x] 50) = W := ⟨_, rfl⟩
      have hBW : Below wo.heap.size wo W := by rw [← hW]; exact (Below.refl _ _).alloc (Nat.le_refl _) _
      have g0 : W.heap[wo.heap.size]? = some (.cells #[.slice a1 7 c1, .int .i64 x] 50) := by rw [← hW]; exact heap_alloc_new wo _
      have p0 : W.cell? ⟨wo.heap.size, 0, none⟩ = some (.slice a1 7 c1) := by rw [cell_of_row W _ 0 _ _ (0, 0) g0]; rfl
      have p1 : W.cell? ⟨wo.heap.size, 1, none⟩ = some (.int .i64 x) := by rw [cell_of_row W _ 1 _ _ (0, 0) g0]; rfl
      obtain ⟨b1, off1, rfl, hce⟩ := (hri.below hBW).at (k := 0) (by rw [s7]; omega)
      have a0 := hce 0 _ (dig_keyL s7 sd (by omega))
      have a1 := hce 1 _ (dig_keyL s7 sd (by omega))
      have a2 := hce 2 _ (dig_keyL s7 sd (by omega))
      have a3 := hce 3 _ (dig_keyL s7 sd (by omega))
      have a4 := hce 4 _ (dig_keyL s7 sd (by omega))
      have a5 := hce 5 _ (dig_keyL s7 sd (by omega))
      have a6 := hce 6 _ (dig_keyL s7 sd (by omega))
      rw [Nat.add_zero] at a0
      have hM1 : PF W.drew w.heap.size (monsOf (xs.take k)) := (hM.below hBW).below (Drew.below ⟨1, rfl⟩ _)
      have hB1 := hB.trans ((hBW.trans (Drew.below ⟨1, rfl⟩ _)).mono hbs)
      have Hnx := Lib.hid (show Eqv ((keyL s, x) :: monsOf (xs.take k)) (monsOf (xs.take (k + 1))) by
        unfold monsOf
        rw [take_at hx, List.map_append]
        exact Eqv.of_perm (List.perm_append_singleton _ _).symm)
      have Hkk := Lib.hid hkk
      have q1 : (k : Int) < (n : Int) := by omega
      have hat := run_arrayAt7 (some ⟨b1, off1, none⟩) c1 W.drew
      clear hcell hce hx hM hB hBW g0 hri s7 sd hkk
      go_wp2
      go_still_tail 7, (by kernel_rfl)
      go_wp2_with fail
      refine (add_any w.heap.size (keyL s) x _ _ hM1 Hkk.out hx64).mono ?_
      rintro e w3 ⟨rfl, hM3, hg3⟩
      have hB3 := below_of_grown hB1 hg3 hB1.size (Nat.le_refl _)
      have hM4 := hM3.eqv Hnx.out
      clear hM3 hM1 hB1 hg3
      go_wp2
      go_roundw
      case rel => exact ⟨k + 1, by omega, by go_num, hM4, hB3⟩
      case measure => simp [intOf]; omega
    · obtain rfl : k = n := by omega
      rw [List.take_of_length_le (by rw [Hn.out]; exact Nat.le_refl _)] at hM
      go_wp2
      go_ret
      exact ⟨_, rfl, Nat.le_refl _, hM, hB⟩
end Go.Proofs.YtcminkcoifkbgaaGreatDoor
