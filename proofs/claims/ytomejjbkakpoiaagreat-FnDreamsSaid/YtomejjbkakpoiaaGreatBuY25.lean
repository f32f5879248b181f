/-
  Contracts of plus, raised, divided, demazure, isobaric.
  Contracts of raised and divided.
-/
import Derived.Test.YtomejjbkakpoiaaGreatBuY23
namespace Go.Proofs.YtomejjbkakpoiaaGreat
open Go.RowKit Go.MapKept Go.ChangeMaps

theorem Eqv.wrap (k c : Int) (F : Mons) : Eqv ((k, wrap64 c) :: F) ((k, c) :: F) := fun j => by
  rw [coef_cons, coef_cons]
  split
  · unfold wrap64; omega
  · rfl
theorem Eqv.perm_canon {l F G : Mons} (h : l.Perm (canon F)) (h' : l.Perm G) : Eqv G F := (Eqv.of_perm h'.symm).trans ((Eqv.of_perm h).trans (canon_self F))
theorem Eqv.cons {F G : Mons} (h : Eqv F G) (p : Int × Int) : Eqv (p :: F) (p :: G) := (Eqv.refl [p]).append h
set_option maxRecDepth 100000 in
set_option maxHeartbeats 3200000 in
theorem plus_any (b d : Nat) (c : Int) (F G : Mons) (w : World) (hF : PF w b F) (hG : PF w d G) :
    Calls Tryz.prog 47 #[.map (some b), .int .i64 c, .map (some d)] w fun e w' => ∃ r, e = .returned (.map (some r)) ∧ w.heap.size ≤ r ∧ PF w' r (plusM F c G) ∧ Below w.heap.size w w' := by
  obtain ⟨lf, hlf, hpf⟩ := hF
  obtain ⟨lg, hlg, hpg⟩ := hG
  have hkf : ∀ p ∈ lf, inK p.1 ∧ in64 p.2 := by obtain ⟨_, _, _, _, _, h⟩ := hlf; exact h
  have hkg : ∀ p ∈ lg, inK p.1 ∧ in64 p.2 := by obtain ⟨_, _, _, _, _, h⟩ := hlg; exact h
  have hmm := @run_makeMap Tryz.prog
  obtain ⟨W, hW⟩ : ∃ W, w.alloc (.map #[] 0) = W := ⟨_, rfl⟩
  have hBW : Below w.heap.size w W := by rw [← hW]; exact (Below.refl _ _).alloc (Nat.le_refl _) _
  have hM : PF W w.heap.size [] := by rw [← hW]; exact PF.made w
  have HzW := Lib.hid (show W.heap.size = w.heap.size + 1 by rw [← hW]; simp)
  have hlfW := hlf.below hBW
  have hblt := hlf.lt
  have hdlt := hlg.lt
  go_enter Tryz.func47, Tryz.ntmps47
  go_wp2_with (first | (at_range; refine wpList_range_P _ (by rfl) _ (by rfl) b lf (by rfl) hlfW ?_; intro w0 hr0 hB0 _) | go_in)
  go_frame
  go_loopw [15] (fun _ wr => ∃ don left, PRg wr b W.heap.size lf left ∧ Hid (lf.Perm (don ++ left)) ∧ PF wr w.heap.size don ∧ Below w.heap.size w wr) (fun _ wr => wr.rangeLeft b W.heap.size)
  case atStart => exact ⟨[], lf, hr0, List.Perm.refl _, hM.below hB0, hBW.trans (hB0.mono hBW.size)⟩
  case round =>
    obtain ⟨don, left, hr, HP, hM1, hB⟩ := hrel
    obtain ⟨wo, rfl⟩ : ∃ wo : World, wo = wr := ⟨_, rfl⟩
    go_wp2_with (first | (at_next; refine wpList_next_P _ (by rfl) _ (by rfl) b W.heap.size lf left (by rfl) hr ?_ ?_) | go_in)
    · intro hleft
      subst hleft
      rw [List.append_nil] at HP
      have hB1 := hB
      have hlgW := hlg.below (hB.mono (Nat.le_refl _))
      have Hlt := Lib.hid hM1.lt
      clear hr hM hlfW hr0 hB0
      go_wp2_with (first | (at_range; refine wpList_range_P _ (by rfl) _ (by rfl) d lg (by rfl) hlgW ?_; intro w0 hr0 hB0 _) | go_in)
      go_frame
      go_loopw [26] (fun _ wr => ∃ don2 left, PRg wr d wo.heap.size lg left ∧ Hid (lg.Perm (don2 ++ left)) ∧ PF wr w.heap.size (scaleM c don2 ++ don) ∧ Below w.heap.size w wr) (fun _ wr => wr.rangeLeft d wo.heap.size)
      case atStart => exact ⟨[], lg, hr0, List.Perm.refl _, hM1.below hB0, hB.trans (hB0.mono hB.size)⟩
      case round =>
        clear hlgW hM1
        obtain ⟨don2, left, hr, HP2, hM1, hB⟩ := hrel
        obtain ⟨wp, rfl⟩ : ∃ wp : World, wp = wr := ⟨_, rfl⟩
        go_wp2_with (first | (at_next; refine wpList_next_P _ (by rfl) _ (by rfl) d wo.heap.size lg left (by rfl) hr ?_ ?_) | go_in)
        · intro hleft
          subst hleft
          rw [List.append_nil] at HP2
          have hfin : PF wp w.heap.size (plusM F c G) := hM1.eqv ((Eqv.of_perm List.perm_append_comm).trans ((Eqv.perm_canon hpf HP.out).append (scaleM_eqv (Eqv.perm_canon hpg HP2.out))))
          clear hM1 hr
          go_wp2
          go_ret
          exact ⟨_, rfl, Nat.le_refl _, hfin, hB⟩
        · intro k0 c0 left' w1 hp hr1 hg1 hz1 hen
          obtain ⟨hk0, hc0⟩ := hkg (k0, c0) (HP2.out.mem_iff.2 (List.mem_append_right _ (hp.mem_iff.2 List.mem_cons_self)))
          unfold kV at hen ⊢
          obtain ⟨W1, hW1⟩ : ∃ W1, w1.alloc (.cells (cells7 k0) 85) = W1 := ⟨_, rfl⟩
          have g0 : W1.heap[w1.heap.size]? = some (.cells (cells7 k0) 85) := by rw [← hW1]; exact heap_alloc_new w1 _
          obtain ⟨a0, a1, a2, a3, a4, a5, a6⟩ := cells7_at g0
          unfold cells7 at hW1
          clear g0
          have Hz1 := Lib.hid hz1
          clear hz1
          have hwo := hB1.size
          have hBW1 : Below w1.heap.size w1 W1 := by rw [← hW1]; exact (Below.refl _ _).alloc (Nat.le_refl _) _
          have hB1 := below_of_grown hB hg1 hB.size hwo
          have hwM : w.heap.size < wo.heap.size := Hlt.out
          have hM2 : PF W1 w.heap.size (scaleM c don2 ++ don) := (hM1.kept hg1 (by simp; omega)).below hBW1
          have hB2 := hB1.trans (hBW1.mono hB1.size)
          have hr2 := hr1.below hBW1
          have hmeas := hr.left_eq
          have hlen := hp.length_eq
          have hq : IntKind.i64.wrap (c * c0) = wrap64 (c * c0) := IntWalk.i64_left _
          obtain ⟨cc, hcc⟩ : ∃ cc, wrap64 (c * c0) = cc := ⟨_, rfl⟩
          have hcc0 : in64 cc := by rw [← hcc]; exact in64_wrap _
          rw [hcc] at hq
          have Hcc := Lib.hid hcc
          clear hM1 hB hg1 hB1 hr1 hBW1 hcc
          go_wp2_with fail
          refine (add_any w.heap.size k0 cc (scaleM c don2 ++ don) _ hM2 hk0 hcc0).mono ?_
          rintro e w3 ⟨rfl, hM3, hg3⟩
          have hr3 := hr2.kept hg3 (by simp; omega) (by simp; omega)
          have hB3 := below_of_grown hB2 hg3 hB2.size (Nat.le_refl _)
          have HP3 := Lib.hid (show lg.Perm ((k0, c0) :: don2 ++ left') from HP2.out.trans ((hp.append_left don2).trans List.perm_middle))
          have hM4 : PF w3 w.heap.size (scaleM c ((k0, c0) :: don2) ++ don) := hM3.eqv (by rw [← Hcc.out]; exact Eqv.wrap _ _ _)
          clear hr2 hB2 hM2 hg3 hp hM3
          go_wp2
          go_roundw
          case rel => exact ⟨(k0, c0) :: don2, left', hr3, HP3, hM4, hB3⟩
          case measure =>
            rw [hr3.left_eq, hmeas, hlen]
            simp
    · intro k0 c0 left' w1 hp hr1 hg1 hz1 hen
      obtain ⟨hk0, hc0⟩ := hkf (k0, c0) (HP.out.mem_iff.2 (List.mem_append_right _ (hp.mem_iff.2 List.mem_cons_self)))
      unfold kV at hen ⊢
      obtain ⟨W1, hW1⟩ : ∃ W1, w1.alloc (.cells (cells7 k0) 85) = W1 := ⟨_, rfl⟩
      have g0 : W1.heap[w1.heap.size]? = some (.cells (cells7 k0) 85) := by rw [← hW1]; exact heap_alloc_new w1 _
      obtain ⟨a0, a1, a2, a3, a4, a5, a6⟩ := cells7_at g0
      unfold cells7 at hW1
      clear g0
      have Hz1 := Lib.hid hz1
      clear hz1
      have hBW1 : Below w1.heap.size w1 W1 := by rw [← hW1]; exact (Below.refl _ _).alloc (Nat.le_refl _) _
      have hB1 := below_of_grown hB hg1 hB.size (by rw [HzW.out]; omega)
      have hM2 : PF W1 w.heap.size don := (hM1.kept hg1 (by rw [HzW.out]; simp)).below hBW1
      have hB2 := hB1.trans (hBW1.mono hB1.size)
      have hr2 := hr1.below hBW1
      have hmeas := hr.left_eq
      have hlen := hp.length_eq
      clear hM1 hB hg1 hB1 hr1 hBW1
      go_wp2_with fail
      refine (add_any w.heap.size k0 c0 don _ hM2 hk0 hc0).mono ?_
      rintro e w3 ⟨rfl, hM3, hg3⟩
      have hr3 := hr2.kept hg3 (by simp; omega) (by rw [HzW.out]; simp)
      have hB3 := below_of_grown hB2 hg3 hB2.size (Nat.le_refl _)
      have HP3 := Lib.hid (show lf.Perm ((k0, c0) :: don ++ left') from HP.out.trans ((hp.append_left don).trans List.perm_middle))
      clear hr2 hB2 hM2 hg3 hp
      go_wp2
      go_roundw
      case rel => exact ⟨(k0, c0) :: don, left', hr3, HP3, hM3, hB3⟩
      case measure =>
        rw [hr3.left_eq, hmeas, hlen]
        simp
end Go.Proofs.YtomejjbkakpoiaaGreat

namespace Go.Proofs.YtomejjbkakpoiaaGreat
open Go.RowKit Go.MapKept Go.ChangeMaps

/-- one exponent stored anew -/
theorem cells7_set {w : World} {g : Nat} {k : Int} (h : w.heap[g]? = some (.cells (cells7 k) 85)) (hk : inK k) {i : Nat} (hi : i ≤ 6) {x : Int} (hx : isD x) :
    (w.setCell ⟨g, i, none⟩ (.int .i64 x)).heap[g]? = some (.cells (cells7 (dset k i x)) 85) := by
  obtain ⟨h1, h2, h3⟩ := dset_digs hk hi hx
  rw [heap_setCell_same w g i _ _ _ h]
  have : (cells7 k).setIfInBounds i (.int .i64 x) = cells7 (dset k i x) := by
    have hc : i = 0 ∨ i = 1 ∨ i = 2 ∨ i = 3 ∨ i = 4 ∨ i = 5 ∨ i = 6 := by omega
    unfold cells7
    rcases hc with rfl | rfl | rfl | rfl | rfl | rfl | rfl <;>
    · simp only [h2]
      simp [h3]
  rw [this]
theorem cells7_cell {w : World} {g : Nat} {k : Int} (h : w.heap[g]? = some (.cells (cells7 k) 85)) {i : Nat} (hi : i ≤ 6) :
    w.cell? ⟨g, i, none⟩ = some (.int .i64 (dig k i)) ∧ w.frozen? ⟨g, i, none⟩ = false := by
  constructor
  · rw [cell_of_row w _ _ _ _ (0, 0) h]
    have hc : i = 0 ∨ i = 1 ∨ i = 2 ∨ i = 3 ∨ i = 4 ∨ i = 5 ∨ i = 6 := by omega
    rcases hc with rfl | rfl | rfl | rfl | rfl | rfl | rfl <;> rfl
  · rw [frozen_of_row w _ _ _ _ h]
theorem below_setCell {B : Nat} {w : World} {g : Nat} (i : Nat) (v : Value) (hg : B ≤ g) : Below B w (w.setCell ⟨g, i, none⟩ v) :=
  ⟨rfl, rfl, rfl, by simp, fun k hk => heap_setCell_other w ⟨g, i, none⟩ k v (by show k ≠ g; omega)⟩
/-- 'm[k] = c' where there is none -/
theorem PF.store {w : World} {b : Nat} {F : Mons} (h : PF w b F) {k c : Int} (hk : inK k) (hc : in64 c) (h0 : c ≠ 0) (hm : coef F k = 0) :
    ∃ w', (Instr.mapUpdate 78 (.map (some b)) (kV k) (.int .i64 c)).run Tryz.prog w = .ok () w' ∧ PF w' b ((k, c) :: F) ∧ w.grownBy w' (some b) := by
  obtain ⟨l, hl, hp⟩ := h
  obtain ⟨w', l', h1, h2, h3, h4, _⟩ := hl.store hk hc
  refine ⟨w', h1, ⟨l', h2, ?_⟩, h4⟩
  have e := canon_cons k c F
  have e2 : wrap64 (coef F k + c) = c := by rw [hm, Int.zero_add]; exact wrap_self hc
  rw [e2, if_neg h0] at e
  exact h3.trans (((hp.filter _).cons _).trans e.symm)
theorem raised_miss {i : Nat} {l don left : Mons} {k c : Int} (hn : (l.map fun p => p.1).Nodup) (hp : l.Perm (don ++ (k, c) :: left)) : coef (raisedM i don) (k + unit i) = 0 := by
  refine coef_miss fun p hp' e => ?_
  obtain ⟨q, hq, rfl⟩ := List.mem_map.1 hp'
  simp only at e
  have hk : q.1 = k := by omega
  have h2 := (hp.map fun p => p.1).nodup_iff.1 hn
  rw [List.map_append, List.nodup_append] at h2
  exact h2.2.2 q.1 (List.mem_map.2 ⟨q, hq, rfl⟩) k (by simp) hk

end Go.Proofs.YtomejjbkakpoiaaGreat
