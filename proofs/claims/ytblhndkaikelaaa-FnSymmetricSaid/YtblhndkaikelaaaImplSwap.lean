/-
  Contract of SwapVariables of the program.
-/
import Derived.Test.YtblhndkaikelaaaOperated
namespace Go.Proofs.Ytblhndkaikelaaa
open Go.RowKit Go.MapKept Go.ChangeMaps

theorem swapK_in {k : Int} (h : inK k) {i : Nat} (hi : i ≤ 5) : inK (swapK i k) := (put2_digs h hi (dig_isD k (i + 1)) (dig_isD k i)).1
theorem cells7_swap {w : World} {g : Nat} {k : Int} (h : w.heap[g]? = some (.cells (cells7 k) 62)) (hk : inK k) {i : Nat} (hi : i ≤ 5) :
    ((w.setCell ⟨g, i, none⟩ (.int .i64 (dig k (i + 1)))).setCell ⟨g, i + 1, none⟩ (.int .i64 (dig k i))).heap[g]? = some (.cells (cells7 (swapK i k)) 62) ∧
    (w.setCell ⟨g, i, none⟩ (.int .i64 (dig k (i + 1)))).cell? ⟨g, i + 1, none⟩ = some (.int .i64 (dig k (i + 1))) ∧
    (w.setCell ⟨g, i, none⟩ (.int .i64 (dig k (i + 1)))).frozen? ⟨g, i + 1, none⟩ = false := by
  have s1 := cells7_set h hk (i := i) (by omega) (x := dig k (i + 1)) (dig_isD k (i + 1))
  obtain ⟨e1, _, e3⟩ := dset_digs hk (i := i) (by omega) (dig_isD k (i + 1))
  have s2 := cells7_set s1 e1 (i := i + 1) (by omega) (x := dig k i) (dig_isD k i)
  rw [← put2_dset hk hi (dig_isD k (i + 1))] at s2
  obtain ⟨p, f⟩ := cells7_cell s1 (i := i + 1) (by omega)
  rw [e3 (i + 1) (by omega) (by omega)] at p
  exact ⟨s2, p, f⟩

set_option maxRecDepth 100000 in
set_option maxHeartbeats 6400000 in
theorem implSwap_any (a : Option Addr) (n c : Nat) (xs : List (List Int × Int)) (x : Int) (w : World) (hr : RP w a xs) (hn : xs.length = n) (hb : n ≤ 1048576) (hok : polyOk xs = true) (hv : isVar x = true) :
    Calls Try.prog 20 #[.slice a n c, .int .i64 x] w fun e w' => ∃ a' n' c', e = .returned (.slice a' n' c') ∧ TO w' w.heap.size w'.heap.size a' n' c' (opT swapM xs x) ∧ Below w.heap.size w w' := by
  have Hn := Lib.hid hn; clear hn
  have Hok := Lib.hid hok
  have H0 := Lib.hid (opT_yes (op := swapM) hok hv)
  have Hv := Lib.hid hv
  have hx : 0 ≤ x ∧ x ≤ 5 := by simpa [isVar] using hv
  obtain ⟨i, rfl⟩ : ∃ i : Nat, x = (i : Int) := ⟨x.toNat, by omega⟩
  have hi : i ≤ 5 := by omega
  have H0 := Lib.hid (show opT swapM xs (i : Int) = closedT (swapM i (monsOf xs)) from H0.out.1)
  clear hok hv hx
  have hmm := @run_makeMap Try.prog
  go_enter Try.func20, Try.ntmps20
  go_wp2_with fail
  refine (is (implPolyOk_any _ _ _ xs _ hr Hn.out hb) Hok.out).mono ?_
  rintro e w1 ⟨rfl, hb1⟩
  go_wp2_with fail
  refine (is (isVariable_any (i : Int) _) Hv.out).mono ?_
  rintro e w2 ⟨rfl, hd2⟩
  have hB2 := hb1.trans (hd2.below _)
  obtain ⟨W, hW⟩ : ∃ W, w2.alloc (.map #[] 0) = W := ⟨_, rfl⟩
  have hBW2 : Below w2.heap.size w2 W := by rw [← hW]; exact (Below.refl _ _).alloc (Nat.le_refl _) _
  have hBW : Below w.heap.size w W := hB2.trans (hBW2.mono hB2.size)
  have hMW : PF W w2.heap.size [] := by rw [← hW]; exact PF.made w2
  have HzW := Lib.hid (show W.heap.size = w2.heap.size + 1 by rw [← hW]; simp)
  have hs2 := hB2.size
  have hrW := hr.below hBW
  clear hb1 hd2 hB2 hBW2 hr
  go_wp2_with fail
  refine (open_any _ _ _ xs _ hrW Hn.out Hok.out).mono ?_
  rintro e w3 ⟨b, rfl, hb3, hF, hbb3⟩
  have hB3 := hBW.trans (hbb3.mono hBW.size)
  have hM3 := hMW.below hbb3
  have hsz3 : W.heap.size ≤ w3.heap.size := hbb3.size
  obtain ⟨lf, hlf, hpf⟩ := hF
  have hkf : ∀ p ∈ lf, inK p.1 ∧ in64 p.2 := by obtain ⟨_, _, _, _, _, h⟩ := hlf; exact h
  have hblt := hlf.lt
  clear hMW hrW hbb3 hBW hW
  obtain ⟨o, ho⟩ : ∃ o, w2.heap.size = o := ⟨_, rfl⟩
  rw [ho] at hM3 HzW hs2
  have hob : o < b := by have := HzW.out; omega
  have hos : o < w3.heap.size := by have := HzW.out; omega
  have Ho := Lib.hid ho
  clear ho HzW hb3 hsz3
  go_wp2_with (first | (at_range; refine wpList_range_P _ (by rfl) _ (by rfl) b lf (by rfl) hlf ?_; intro w0 hr0 hB0 _) | go_in)
  go_frame
  rw [Ho.out]
  go_loopw [22] (fun _ wr => ∃ don left, PRg wr b w3.heap.size lf left ∧ Hid (lf.Perm (don ++ left)) ∧ PF wr o (swapM i don) ∧ Below w.heap.size w wr) (fun _ wr => wr.rangeLeft b w3.heap.size)
  case atStart => exact ⟨[], lf, hr0, List.Perm.refl _, hM3.below hB0, hB3.trans (hB0.mono hB3.size)⟩
  case round =>
    clear hM3 hB3 hr0 hB0
    obtain ⟨don, left, hr, HP, hM1, hB⟩ := hrel
    obtain ⟨wo, rfl⟩ : ∃ wo : World, wo = wr := ⟨_, rfl⟩
    go_wp2_with (first | (at_next; refine wpList_next_P _ (by rfl) _ (by rfl) b w3.heap.size lf left (by rfl) hr ?_ ?_) | go_in)
    · intro hleft
      subst hleft
      rw [List.append_nil] at HP
      have hfin : PF wo o (swapM i (monsOf xs)) := hM1.eqv (swapM_eqv (Eqv.perm_canon hpf HP.out))
      clear hM1 hr
      go_wp2_with fail
      refine (closed_any o _ _ hfin).mono ?_
      rintro e w9 ⟨a9, n9, c9, r9, rfl, ho9, hh9, hb9⟩
      have hB9 := hB.trans (hb9.mono hB.size)
      have Ho9 := Lib.hid (ho9.mono (B' := w.heap.size) (S' := w9.heap.size) hB.size (Nat.le_refl _))
      clear ho9
      go_wp2
      go_ret
      exact ⟨_, _, _, rfl, by rw [H0.out]; exact Ho9.out, hB9⟩
    · intro k0 c0 left' w1 hp hr1 hg1 hz1 hen
      have hmem := HP.out.mem_iff.2 (List.mem_append_right _ (hp.mem_iff.2 List.mem_cons_self))
      obtain ⟨hk0, hc0⟩ := hkf (k0, c0) hmem
      have hlt := PF.lt hM1
      unfold kV at hen ⊢
      obtain ⟨W1, hW1⟩ : ∃ W1, w1.alloc (.cells (cells7 k0) 62) = W1 := ⟨_, rfl⟩
      have g0 : W1.heap[w1.heap.size]? = some (.cells (cells7 k0) 62) := by rw [← hW1]; exact heap_alloc_new w1 _
      obtain ⟨p0, f0⟩ := cells7_cell g0 (i := i) (by omega)
      obtain ⟨p1, f1⟩ := cells7_cell g0 (i := i + 1) (by omega)
      obtain ⟨g2, p2, f2⟩ := cells7_swap g0 hk0 hi
      have hBW1 : Below w1.heap.size w1 W1 := by rw [← hW1]; exact (Below.refl _ _).alloc (Nat.le_refl _) _
      have hBW2 : Below w1.heap.size w1 ((W1.setCell ⟨w1.heap.size, i, none⟩ (.int .i64 (dig k0 (i + 1)))).setCell ⟨w1.heap.size, i + 1, none⟩ (.int .i64 (dig k0 i))).drew :=
        (hBW1.trans ((below_setCell i _ (Nat.le_refl _)).trans (below_setCell (i + 1) _ (Nat.le_refl _)))).trans (Drew.below ⟨1, rfl⟩ _)
      obtain ⟨a0, a1, a2, a3, a4, a5, a6⟩ := cells7_at g2
      have hB1 := below_of_grown hB hg1 hB.size (Nat.le_of_lt (Nat.lt_of_le_of_lt hs2 hos))
      have hM2 := Lib.hid ((hM1.kept hg1 (by simp; omega)).below hBW2)
      have hB2 := Lib.hid (hB1.trans (hBW2.mono hB1.size))
      have hr2 := Lib.hid (hr1.below hBW2)
      have HP3 := Lib.hid (show lf.Perm ((don ++ [(k0, c0)]) ++ left') from HP.out.trans ((hp.append_left don).trans (by rw [List.append_assoc]; exact List.Perm.refl _)))
      have hmeas := hr.left_eq
      have hlen := hp.length_eq
      have Hk1 := Lib.hid (swapK_in hk0 hi)
      have Hst := Lib.hid (show Eqv ((swapK i k0, c0) :: swapM i don) (swapM i (don ++ [(k0, c0)])) by
        unfold swapM
        rw [List.map_append]
        exact Eqv.of_perm (List.perm_append_singleton _ _).symm)
      have q3 : IntKind.i64.wrap ((i : Int) + 1) = (i : Int) + 1 := IntWalk.i64_in _ (by omega)
      have q4 : (i : Int) < 7 := by omega
      have q5 : (i : Int) + 1 < 7 := by omega
      have q6 : ((i : Int) + 1).toNat = i + 1 := by omega
      have Hc0 := Lib.hid hc0
      generalize swapK i k0 = k1 at *
      generalize dig k0 i = da at *
      generalize dig k0 (i + 1) = db at *
      unfold cells7 at hW1
      have Hz1 := Lib.hid hz1
      clear hz1 hM1 hB hg1 hB1 hr1 hBW1 hBW2 g0 g2 hp hk0 hc0 hmem
      go_wp2
      go_region
      go_wp2_with fail
      refine (add_any o k1 c0 _ _ hM2.out Hk1.out Hc0.out).mono ?_
      rintro e w5 ⟨rfl, hM3, hg3⟩
      have hr3 := hr2.out.kept hg3 (by simp; omega) (by simp; omega)
      have hB3 := below_of_grown hB2.out hg3 hB2.out.size hs2
      have hM4 := hM3.eqv Hst.out
      clear hM3 hM2 hr2 hB2 hg3
      go_wp2
      go_roundw
      case rel => exact ⟨don ++ [(k0, c0)], left', hr3, HP3, hM4, hB3⟩
      case measure =>
        rw [hr3.left_eq, hmeas, hlen]
        simp
end Go.Proofs.Ytblhndkaikelaaa
