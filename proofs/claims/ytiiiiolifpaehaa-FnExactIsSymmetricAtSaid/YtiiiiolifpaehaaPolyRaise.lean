/-
  Contracts of raised and divided.
-/
import Derived.Test.YtiiiiolifpaehaaPolyRun
namespace Go.Proofs.Ytiiiiolifpaehaa
open Go.RowKit Go.MapKept Go.ChangeMaps

/-- one exponent stored anew -/
theorem cells7_set {w : World} {g : Nat} {k : Int} (h : w.heap[g]? = some (.cells (cells7 k) 150)) (hk : inK k) {i : Nat} (hi : i ≤ 6) {x : Int} (hx : isD x) :
    (w.setCell ⟨g, i, none⟩ (.int .i64 x)).heap[g]? = some (.cells (cells7 (dset k i x)) 150) := by
  obtain ⟨h1, h2, h3⟩ := dset_digs hk hi hx
  rw [heap_setCell_same w g i _ _ _ h]
  have : (cells7 k).setIfInBounds i (.int .i64 x) = cells7 (dset k i x) := by
    have hc : i = 0 ∨ i = 1 ∨ i = 2 ∨ i = 3 ∨ i = 4 ∨ i = 5 ∨ i = 6 := by omega
    unfold cells7
    rcases hc with rfl | rfl | rfl | rfl | rfl | rfl | rfl <;>
    · simp only [h2]
      simp [h3]
  rw [this]
theorem cells7_cell {w : World} {g : Nat} {k : Int} (h : w.heap[g]? = some (.cells (cells7 k) 150)) {i : Nat} (hi : i ≤ 6) :
    w.cell? ⟨g, i, none⟩ = some (.int .i64 (dig k i)) ∧ w.frozen? ⟨g, i, none⟩ = false := by
  constructor
  · rw [cell_of_row w _ _ _ _ (0, 0) h]
    have hc : i = 0 ∨ i = 1 ∨ i = 2 ∨ i = 3 ∨ i = 4 ∨ i = 5 ∨ i = 6 := by omega
    rcases hc with rfl | rfl | rfl | rfl | rfl | rfl | rfl <;> rfl
  · rw [frozen_of_row w _ _ _ _ h]
theorem below_setCell {B : Nat} {w : World} {g : Nat} (i : Nat) (v : Value) (hg : B ≤ g) : Below B w (w.setCell ⟨g, i, none⟩ v) :=
  ⟨rfl, rfl, rfl, by simp, fun k hk => heap_setCell_other w ⟨g, i, none⟩ k v (by show k ≠ g; omega)⟩
/-- 'm[k] = c' where there is none -/
theorem PF.store {w : World} {b : Nat} {F : Mons} (h : PF w b F) {k c : Int} (hk : inK k) (hc : in64 c) (h0 : c ≠ 0) (hm : coef F k = 0) :
    ∃ w', (Instr.mapUpdate 134 (.map (some b)) (kV k) (.int .i64 c)).run Try.prog w = .ok () w' ∧ PF w' b ((k, c) :: F) ∧ w.grownBy w' (some b) := by
  obtain ⟨l, hl, hp⟩ := h
  obtain ⟨w', l', h1, h2, h3, h4, _⟩ := hl.store hk hc
  refine ⟨w', h1, ⟨l', h2, ?_⟩, h4⟩
  have e := canon_cons k c F
  have e2 : wrap64 (coef F k + c) = c := by rw [hm, Int.zero_add]; exact wrap_self hc
  rw [e2, if_neg h0] at e
  exact h3.trans (((hp.filter _).cons _).trans e.symm)
theorem raised_miss {i : Nat} {l don left : Mons} {k c : Int} (hn : (l.map fun p => p.1).Nodup) (hp : l.Perm (don ++ (k, c) :: left)) : coef (raisedM i don) (k + unit i) = 0 := by
  refine coef_miss fun p hp' e => ?_
  obtain ⟨q, hq, rfl⟩ := List.mem_map.1 hp'
  simp only at e
  have hk : q.1 = k := by omega
  have h2 := (hp.map fun p => p.1).nodup_iff.1 hn
  rw [List.map_append, List.nodup_append] at h2
  exact h2.2.2 q.1 (List.mem_map.2 ⟨q, hq, rfl⟩) k (by simp) hk

set_option maxRecDepth 100000 in
set_option maxHeartbeats 3200000 in
theorem raised_any (b : Nat) (i : Nat) (I : Int) (F : Mons) (w : World) (hF : PF w b F) (hI : I = (i : Int)) (hi : i ≤ 6) (htop : ∀ p ∈ canon F, dig p.1 i ≤ 126) :
    Calls Try.prog 213 #[.map (some b), .int .i64 I] w fun e w' => ∃ r, e = .returned (.map (some r)) ∧ w.heap.size ≤ r ∧ PF w' r (raisedM i F) ∧ Below w.heap.size w w' := by
  subst hI
  obtain ⟨lf, hlf, hpf⟩ := hF
  have hkf : ∀ p ∈ lf, inK p.1 ∧ in64 p.2 := by obtain ⟨_, _, _, _, _, h⟩ := hlf; exact h
  have hnd := hlf.nodup
  have htf : ∀ p ∈ lf, dig p.1 i ≤ 126 ∧ p.2 ≠ 0 := fun p hp => ⟨htop p (hpf.mem_iff.1 hp), (canon_mem.1 (hpf.mem_iff.1 hp)).1⟩
  have hmm := @run_makeMap Try.prog
  obtain ⟨W, hW⟩ : ∃ W, w.alloc (.map #[] 0) = W := ⟨_, rfl⟩
  have hBW : Below w.heap.size w W := by rw [← hW]; exact (Below.refl _ _).alloc (Nat.le_refl _) _
  have hM : PF W w.heap.size [] := by rw [← hW]; exact PF.made w
  have HzW := Lib.hid (show W.heap.size = w.heap.size + 1 by rw [← hW]; simp)
  have hlfW := hlf.below hBW
  have hblt := hlf.lt
  have q1 : (i : Int) < 7 := by omega
  go_enter Try.func213, Try.ntmps213
  go_wp2_with (first | (at_range; refine wpList_range_P _ (by rfl) _ (by rfl) b lf (by rfl) hlfW ?_; intro w0 hr0 hB0 _) | go_in)
  go_frame
  go_loopw [11] (fun _ wr => ∃ don left, PRg wr b W.heap.size lf left ∧ Hid (lf.Perm (don ++ left)) ∧ PF wr w.heap.size (raisedM i don) ∧ Below w.heap.size w wr) (fun _ wr => wr.rangeLeft b W.heap.size)
  case atStart => exact ⟨[], lf, hr0, List.Perm.refl _, hM.below hB0, hBW.trans (hB0.mono hBW.size)⟩
  case round =>
    obtain ⟨don, left, hr, HP, hM1, hB⟩ := hrel
    obtain ⟨wo, rfl⟩ : ∃ wo : World, wo = wr := ⟨_, rfl⟩
    go_wp2_with (first | (at_next; refine wpList_next_P _ (by rfl) _ (by rfl) b W.heap.size lf left (by rfl) hr ?_ ?_) | go_in)
    · intro hleft
      subst hleft
      rw [List.append_nil] at HP
      have hfin : PF wo w.heap.size (raisedM i F) := hM1.eqv (raisedM_eqv (Eqv.perm_canon hpf HP.out))
      clear hM1 hr
      go_wp2
      go_ret
      exact ⟨_, rfl, Nat.le_refl _, hfin, hB⟩
    · intro k0 c0 left' w1 hp hr1 hg1 hz1 hen
      have hmem := HP.out.mem_iff.2 (List.mem_append_right _ (hp.mem_iff.2 List.mem_cons_self))
      obtain ⟨hk0, hc0⟩ := hkf (k0, c0) hmem
      obtain ⟨ht0, hz0⟩ := htf (k0, c0) hmem
      simp only at ht0 hz0
      have hd0 := dig_range k0 i
      have hlt := PF.lt hM1
      have hmiss := raised_miss (i := i) hnd (HP.out.trans (hp.append_left don))
      unfold kV at hen ⊢
      obtain ⟨W1, hW1⟩ : ∃ W1, w1.alloc (.cells (cells7 k0) 150) = W1 := ⟨_, rfl⟩
      have g0 : W1.heap[w1.heap.size]? = some (.cells (cells7 k0) 150) := by rw [← hW1]; exact heap_alloc_new w1 _
      obtain ⟨p0, f0⟩ := cells7_cell g0 hi
      have hBW1 : Below w1.heap.size w1 W1 := by rw [← hW1]; exact (Below.refl _ _).alloc (Nat.le_refl _) _
      obtain ⟨W2, hW2⟩ : ∃ W2, W1.setCell ⟨w1.heap.size, i, none⟩ (.int .i64 (dig k0 i + 1)) = W2 := ⟨_, rfl⟩
      have g1 : W2.heap[w1.heap.size]? = some (.cells (cells7 (k0 + unit i)) 150) := by
        rw [← hW2, cells7_set g0 hk0 hi (by unfold isD; omega)]
        have : dset k0 i (dig k0 i + 1) = k0 + unit i := by
          unfold dset
          have : dig k0 i + 1 - dig k0 i = 1 := by omega
          rw [this, Int.one_mul]
        rw [this]
      have hk1 := (key_raise hk0 hi ht0).1
      have hBW2 : Below w1.heap.size w1 W2 := by
        rw [← hW2]
        exact hBW1.trans (below_setCell i _ (Nat.le_refl _))
      obtain ⟨a0, a1, a2, a3, a4, a5, a6⟩ := cells7_at g1
      have hB1 := below_of_grown hB hg1 hB.size (by rw [HzW.out]; omega)
      have hM2 : PF W2 w.heap.size (raisedM i don) := (hM1.kept hg1 (by rw [HzW.out]; simp)).below hBW2
      have hB2 := hB1.trans (hBW2.mono hB1.size)
      have hr2 := hr1.below hBW2
      obtain ⟨w3, hup, hM3, hg3⟩ := hM2.store hk1 hc0 hz0 hmiss
      have hr3 := hr2.kept hg3 (by simp; omega) (by rw [HzW.out]; simp)
      have hB3 := below_of_grown hB2 hg3 hB2.size (Nat.le_refl _)
      have HP3 := Lib.hid (show lf.Perm ((k0, c0) :: don ++ left') from HP.out.trans ((hp.append_left don).trans List.perm_middle))
      have hmeas := hr.left_eq
      have hlen := hp.length_eq
      have q3 : IntKind.i64.wrap (dig k0 i + 1) = dig k0 i + 1 := IntWalk.i64_in _ (by omega)
      unfold kV at hup
      have HM3 := Lib.hid (show PF w3 w.heap.size (raisedM i ((k0, c0) :: don)) from hM3)
      clear hM3
      generalize k0 + unit i = k1 at *
      generalize hdd : dig k0 i = dd at *
      unfold cells7 at hW1
      have Hz1 := Lib.hid hz1
      clear hz1 hM1 hB hg1 hB1 hr1 hBW1 hM2 hB2 hr2 hBW2 g0 g1 hp hmiss hg3
      go_wp2
      go_roundw
      case rel => exact ⟨(k0, c0) :: don, left', hr3, HP3, HM3.out, hB3⟩
      case measure =>
        rw [hr3.left_eq, hmeas, hlen]
        simp
end Go.Proofs.Ytiiiiolifpaehaa
