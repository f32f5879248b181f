/-
  Contract of divided.
  Contracts of demazure, isobaric and of what AtomOf adds, of impl.
-/
import Derived.Test.YtomejjbkakpoiaaGreatBuY25
namespace Go.Proofs.YtomejjbkakpoiaaGreat
open Go.RowKit Go.MapKept Go.ChangeMaps

theorem put_key {k0 kj : Int} (h0 : inK k0) (hj : inK kj) {i : Nat} (hi : i ≤ 5) (hs : ∀ j, j < 7 → j ≠ i → j ≠ i + 1 → dig kj j = dig k0 j) {x y : Int} (hx : isD x) (hy : isD y) :
    dset (dset kj (i + 1) y) i x = put2 k0 i x y := by
  obtain ⟨h1, h2, h3⟩ := dset_digs hj (i := i + 1) (by omega) hy
  obtain ⟨h4, h5, h6⟩ := dset_digs h1 (i := i) (by omega) hx
  obtain ⟨h7, h8, h9, h10⟩ := put2_digs h0 hi hx hy
  refine key_ext h4 h7 fun j hj7 => ?_
  by_cases e : j = i
  · subst e; rw [h5, h8]
  · by_cases e' : j = i + 1
    · subst e'; rw [h6 _ hj7 e, h2, h9]
    · rw [h6 j hj7 e, h3 j hj7 e', hs j hj7 e e', h10 j hj7 e e']
theorem ddKeys_at {i : Nat} {k lo hi : Int} (hlo : min (dig k i) (dig k (i + 1)) = lo) (hhi : max (dig k i) (dig k (i + 1)) = hi) {j : Nat} (hj : lo + j < hi) :
    (ddKeys i k)[j]? = some (put2 k i (hi - 1 - j) (lo + j)) := by
  unfold ddKeys
  rw [List.getElem?_map, List.getElem?_range (by omega)]
  simp only [Option.map_some, hlo]
  congr 2
  omega
theorem ddKeys_length {i : Nat} {k lo hi : Int} (hlo : min (dig k i) (dig k (i + 1)) = lo) (hhi : max (dig k i) (dig k (i + 1)) = hi) : ((ddKeys i k).length : Int) = hi - lo := by
  unfold ddKeys
  rw [List.length_map, List.length_range]
  omega
def ddTo (i : Nat) (k c : Int) (j : Nat) : Mons := ((ddKeys i k).take j).map fun q => (q, sg i k * c)
theorem ddTo_succ {i : Nat} {k c q : Int} {j : Nat} (h : (ddKeys i k)[j]? = some q) (D : Mons) : Eqv ((q, sg i k * c) :: (ddTo i k c j ++ D)) (ddTo i k c (j + 1) ++ D) := by
  refine Eqv.of_perm ?_
  unfold ddTo
  rw [List.take_add_one, h, List.map_append, List.append_assoc]
  exact List.perm_middle.symm

set_option maxRecDepth 100000 in
set_option maxHeartbeats 6400000 in
theorem divided_any (b : Nat) (i : Nat) (I : Int) (F : Mons) (w : World) (hF : PF w b F) (hI : I = (i : Int)) (hi : i ≤ 5) :
    Calls Tryz.prog 90 #[.map (some b), .int .i64 I] w fun e w' => ∃ r, e = .returned (.map (some r)) ∧ w.heap.size ≤ r ∧ PF w' r (dividedM i F) ∧ Below w.heap.size w w' := by
  subst hI
  obtain ⟨lf, hlf, hpf⟩ := hF
  have hkf : ∀ p ∈ lf, inK p.1 ∧ in64 p.2 := by obtain ⟨_, _, _, _, _, h⟩ := hlf; exact h
  have hmm := @run_makeMap Tryz.prog
  obtain ⟨W, hW⟩ : ∃ W, w.alloc (.map #[] 0) = W := ⟨_, rfl⟩
  have hBW : Below w.heap.size w W := by rw [← hW]; exact (Below.refl _ _).alloc (Nat.le_refl _) _
  have hM : PF W w.heap.size [] := by rw [← hW]; exact PF.made w
  have HzW := Lib.hid (show W.heap.size = w.heap.size + 1 by rw [← hW]; simp)
  have hlfW := hlf.below hBW
  have hblt := hlf.lt
  have q1 : (i : Int) < 7 := by omega
  have q2 : (0 : Int) ≤ (i : Int) + 1 := by omega
  have q3 : (i : Int) + 1 < 7 := by omega
  have q4 : IntKind.i64.wrap ((i : Int) + 1) = (i : Int) + 1 := IntWalk.i64_in _ (by omega)
  have q5 : ((i : Int) + 1).toNat = i + 1 := by omega
  go_enter Tryz.func90, Tryz.ntmps90
  go_wp2_with (first | (at_range; refine wpList_range_P _ (by rfl) _ (by rfl) b lf (by rfl) hlfW ?_; intro w0 hr0 hB0 _) | go_in)
  go_frame
  go_loopw [14] (fun _ wr => ∃ don left, PRg wr b W.heap.size lf left ∧ Hid (lf.Perm (don ++ left)) ∧ PF wr w.heap.size (dividedM i don) ∧ Below w.heap.size w wr) (fun _ wr => wr.rangeLeft b W.heap.size)
  case atStart => exact ⟨[], lf, hr0, List.Perm.refl _, hM.below hB0, hBW.trans (hB0.mono hBW.size)⟩
  case round =>
    obtain ⟨don, left, hr, HP, hM1, hB⟩ := hrel
    obtain ⟨wo, rfl⟩ : ∃ wo : World, wo = wr := ⟨_, rfl⟩
    go_wp2_with (first | (at_next; refine wpList_next_P _ (by rfl) _ (by rfl) b W.heap.size lf left (by rfl) hr ?_ ?_) | go_in)
    · intro hleft
      subst hleft
      rw [List.append_nil] at HP
      have hfin : PF wo w.heap.size (dividedM i F) := hM1.eqv (dividedM_eqv (Eqv.perm_canon hpf HP.out))
      clear hM1 hr q4 q5
      go_wp2
      go_ret
      exact ⟨_, rfl, Nat.le_refl _, hfin, hB⟩
    · intro k0 c0 left' w1 hp hr1 hg1 hz1 hen
      have hmem := HP.out.mem_iff.2 (List.mem_append_right _ (hp.mem_iff.2 List.mem_cons_self))
      obtain ⟨hk0, hc0⟩ := hkf (k0, c0) hmem
      simp only at hk0 hc0
      have hlt := PF.lt hM1
      unfold kV at hen ⊢
      obtain ⟨W1, hW1⟩ : ∃ W1, w1.alloc (.cells (cells7 k0) 85) = W1 := ⟨_, rfl⟩
      have g0 : W1.heap[w1.heap.size]? = some (.cells (cells7 k0) 85) := by rw [← hW1]; exact heap_alloc_new w1 _
      obtain ⟨p0, f0⟩ := cells7_cell g0 (i := i) (by omega)
      obtain ⟨p1, f1⟩ := cells7_cell g0 (i := i + 1) (by omega)
      have hBW1 : Below w1.heap.size w1 W1.drew := by rw [← hW1]; exact ((Below.refl _ _).alloc (Nat.le_refl _) _).trans (Drew.below ⟨1, rfl⟩ _)
      have hB1 := below_of_grown hB hg1 hB.size (by rw [HzW.out]; omega)
      have hM2 : PF W1.drew w.heap.size (dividedM i don) := (hM1.kept hg1 (by rw [HzW.out]; simp)).below hBW1
      have hB2 := hB1.trans (hBW1.mono hB1.size)
      have hr2 := hr1.below hBW1
      have HP3 := Lib.hid (show lf.Perm ((k0, c0) :: don ++ left') from HP.out.trans ((hp.append_left don).trans List.perm_middle))
      have hmeas := hr.left_eq
      have hlen := hp.length_eq
      have d0 := dig_range k0 i
      have d1 := dig_range k0 (i + 1)
      have hgs : w.heap.size ≤ w1.heap.size := hB1.size
      have hlt1 : w.heap.size < w1.heap.size := by have := hg1.size; omega
      have hgr : W.heap.size < w1.heap.size := hr1.lt
      have hgb : b < w1.heap.size := hr1.pm.lt
      have g0' : W1.drew.heap[w1.heap.size]? = some (.cells (cells7 k0) 85) := g0
      unfold cells7 at hW1
      have Hz1 := Lib.hid hz1
      have hmeas1 : w1.rangeLeft b W.heap.size = left'.length := hr1.left_eq
      clear hz1 hM1 hB hg1 hB1 hr1 hBW1 hp hmeas1
      by_cases hab : dig k0 i < dig k0 (i + 1)
      · have hlo : min (dig k0 i) (dig k0 (i + 1)) = dig k0 i := by omega
        have hhi : max (dig k0 i) (dig k0 (i + 1)) = dig k0 (i + 1) := by omega
        have Hsg := Lib.hid (show sg i k0 = -1 by unfold sg; rw [if_pos hab])
        have hgt : decide (dig k0 i < dig k0 (i + 1)) = true := by simp; omega
        have hq : IntKind.i64.wrap (-c0) = wrap64 (-c0) := IntWalk.i64_left _
        obtain ⟨cc, hccd⟩ : ∃ cc, wrap64 (-c0) = cc := ⟨_, rfl⟩
        have hcc : in64 cc := by rw [← hccd]; exact in64_wrap _
        rw [hccd] at hq
        have Hcc := Lib.hid hccd
        clear hccd
        have Hlen := Lib.hid (ddKeys_length hlo hhi)
        have Hat := Lib.hid (fun (j : Nat) (hj : dig k0 i + j < dig k0 (i + 1)) => ddKeys_at (i := i) hlo hhi hj)
        clear hlo hhi
        obtain ⟨a, ha⟩ : ∃ a, dig k0 i = a := ⟨_, rfl⟩
        obtain ⟨bb, hbb⟩ : ∃ bb, dig k0 (i + 1) = bb := ⟨_, rfl⟩
        rw [ha, hbb] at hgt Hlen Hat hab
        rw [ha] at d0 p0
        rw [hbb] at d1 p1
        clear ha hbb
        go_wp2
        go_region
        go_wp2
        go_loopw [10] (fun t wr => ∃ (j : Nat) (kj : Int), t = .int .i64 (a + j) ∧ a + j ≤ bb ∧ PRg wr b W.heap.size lf left' ∧ PF wr w.heap.size (ddTo i k0 c0 j ++ dividedM i don) ∧ wr.heap[w1.heap.size]? = some (.cells (cells7 kj) 85) ∧ Hid (inK kj ∧ ∀ j, j < 7 → j ≠ i → j ≠ i + 1 → dig kj j = dig k0 j) ∧ Below w.heap.size w wr) (fun t _ => (bb - intOf t).toNat)
        case atStart => exact ⟨0, k0, by simp, by omega, hr2, hM2, g0', ⟨hk0, fun _ _ _ _ => rfl⟩, hB2⟩
        case round =>
          clear hr2 hM2 g0' hB2 g0 p0 p1 f0 f1 hW1 hen
          obtain ⟨j, kj, rfl, hjle, hr3, hM3, g3, HK, hB3⟩ := hrel
          obtain ⟨wi, rfl⟩ : ∃ wi : World, wi = wr := ⟨_, rfl⟩
          by_cases hjlt : a + (j : Int) < bb
          · have hkey := Hat.out j hjlt
            obtain ⟨e1, e2, _⟩ := put2_digs hk0 hi (x := bb - 1 - j) (y := a + j) (by unfold isD; omega) (by unfold isD; omega)
            have s1 := cells7_set g3 HK.out.1 (i := i + 1) (by omega) (x := a + j) (by unfold isD; omega)
            have s2 := cells7_set s1 (dset_digs HK.out.1 (i := i + 1) (by omega) (by unfold isD; omega)).1 (i := i) (by omega) (x := bb - 1 - j) (by unfold isD; omega)
            rw [put_key hk0 HK.out.1 hi HK.out.2 (by unfold isD; omega) (by unfold isD; omega)] at s2
            obtain ⟨_, f1⟩ := cells7_cell g3 (i := i + 1) (by omega)
            obtain ⟨_, f0⟩ := cells7_cell s1 (i := i) (by omega)
            obtain ⟨p1, _⟩ := cells7_cell g3 (i := i + 1) (by omega)
            obtain ⟨p0, _⟩ := cells7_cell s1 (i := i) (by omega)
            obtain ⟨V1, hV1⟩ : ∃ V1, wi.setCell ⟨w1.heap.size, i + 1, none⟩ (.int .i64 (a + j)) = V1 := ⟨_, rfl⟩
            rw [hV1] at s1 s2 f0 p0
            obtain ⟨V2, hV2⟩ : ∃ V2, V1.setCell ⟨w1.heap.size, i, none⟩ (.int .i64 (bb - 1 - j)) = V2 := ⟨_, rfl⟩
            rw [hV2] at s2
            have hBV : Below w1.heap.size wi V2 := by
              rw [← hV2, ← hV1]
              exact (below_setCell (i + 1) _ (Nat.le_refl _)).trans (below_setCell i _ (Nat.le_refl _))
            obtain ⟨a0, a1, a2, a3, a4, a5, a6⟩ := cells7_at s2
            have hsz : wi.heap.size ≤ V2.heap.size := hBV.size
            have hr4 : PRg V2 b W.heap.size lf left' := hr3.same (hBV.block b hgb) (hBV.block _ hgr)
            have hM4 : PF V2 w.heap.size (ddTo i k0 c0 j ++ dividedM i don) := by
              obtain ⟨l, hl, hpl⟩ := hM3
              exact ⟨l, hl.same (hBV.block _ hlt1), hpl⟩
            have hB4 : Below w.heap.size w V2 := hB3.trans (hBV.mono hgs)
            have HE := Lib.hid (ddTo_succ (c := c0) hkey (dividedM i don))
            rw [Hsg.out] at HE
            obtain ⟨kk, hkk⟩ : ∃ kk, put2 k0 i (bb - 1 - j) (a + j) = kk := ⟨_, rfl⟩
            rw [hkk] at s2 a0 a1 a2 a3 a4 a5 a6 HE e1
            have HS := Lib.hid s2
            have HKK := Lib.hid (show inK kk ∧ ∀ j, j < 7 → j ≠ i → j ≠ i + 1 → dig kk j = dig k0 j by
              rw [← hkk]
              obtain ⟨x1, _, _, x4⟩ := put2_digs hk0 hi (x := bb - 1 - j) (y := a + j) (by unfold isD; omega) (by unfold isD; omega)
              exact ⟨x1, x4⟩)
            have r1 : IntKind.i64.wrap (a + bb) = a + bb := IntWalk.i64_in _ (by omega)
            have r2 : IntKind.i64.wrap (a + bb - 1) = a + bb - 1 := IntWalk.i64_in _ (by omega)
            have r3 : IntKind.i64.wrap (a + bb - 1 - (a + j)) = bb - 1 - j := by rw [IntWalk.i64_in _ (by omega)]; omega
            have r4 : IntKind.i64.wrap (a + j + 1) = a + j + 1 := IntWalk.i64_in _ (by omega)
            clear hkk s2 s1 g3 hr3 hM3 hB3 hBV hkey HK
            go_wp2_with fail
            refine (add_any w.heap.size kk cc _ _ hM4 e1 hcc).mono ?_
            rintro e w4 ⟨rfl, hM5, hg5⟩
            have hr5 := hr4.kept hg5 (by simp; omega) (by rw [HzW.out]; simp)
            have hB5 := below_of_grown hB4 hg5 hB4.size (Nat.le_refl _)
            have hg6 : w4.heap[w1.heap.size]? = some (.cells (cells7 kk) 85) := by rw [hg5.block _ ((Array.getElem?_eq_some_iff.1 HS.out).1) (by simp; omega)]; exact HS.out
            have hM6 : PF w4 w.heap.size (ddTo i k0 c0 (j + 1) ++ dividedM i don) := hM5.eqv (by rw [← Hcc.out]; exact ((Eqv.wrap kk (-c0) _).trans (by have := HE.out; rwa [show (-1 : Int) * c0 = -c0 by omega] at this)))
            clear hr4 hB4 hM4 hM5 hg5
            go_wp2
            go_roundw
            case rel => exact ⟨j + 1, kk, by clear r1 r2 r3 r4 q4 q5; go_num, by omega, hr5, hM6, hg6, HKK.out, hB5⟩
            case measure => clear r1 r2 r3 r4 q4 q5; simp [intOf]; omega
          · have hj : (ddKeys i k0).length ≤ j := by have := Hlen.out; omega
            have hM4 : PF wi w.heap.size (dividedM i ((k0, c0) :: don)) := by
              have : ddTo i k0 c0 j = dd i (k0, c0) := by unfold ddTo dd; rw [List.take_of_length_le hj]
              rw [this] at hM3
              exact hM3
            clear hM3 g3
            go_wp2
            go_roundw
            case rel => exact ⟨(k0, c0) :: don, left', hr3, HP3, hM4, hB3⟩
            case measure =>
              rw [hr3.left_eq, hmeas, hlen]
              simp
      · have hlo : min (dig k0 i) (dig k0 (i + 1)) = dig k0 (i + 1) := by omega
        have hhi : max (dig k0 i) (dig k0 (i + 1)) = dig k0 i := by omega
        have Hsg := Lib.hid (show sg i k0 = 1 by unfold sg; rw [if_neg hab])
        have hgt : decide (dig k0 i < dig k0 (i + 1)) = false := by simp; omega
        have hcc : in64 c0 := hc0
        have Hlen := Lib.hid (ddKeys_length hlo hhi)
        have Hat := Lib.hid (fun (j : Nat) (hj : dig k0 (i + 1) + j < dig k0 i) => ddKeys_at (i := i) hlo hhi hj)
        clear hlo hhi
        obtain ⟨a, ha⟩ : ∃ a, dig k0 i = a := ⟨_, rfl⟩
        obtain ⟨bb, hbb⟩ : ∃ bb, dig k0 (i + 1) = bb := ⟨_, rfl⟩
        rw [ha, hbb] at hgt Hlen Hat hab
        rw [ha] at d0 p0
        rw [hbb] at d1 p1
        clear ha hbb
        go_wp2
        go_region
        go_wp2
        go_loopw [10] (fun t wr => ∃ (j : Nat) (kj : Int), t = .int .i64 (bb + j) ∧ bb + j ≤ a ∧ PRg wr b W.heap.size lf left' ∧ PF wr w.heap.size (ddTo i k0 c0 j ++ dividedM i don) ∧ wr.heap[w1.heap.size]? = some (.cells (cells7 kj) 85) ∧ Hid (inK kj ∧ ∀ j, j < 7 → j ≠ i → j ≠ i + 1 → dig kj j = dig k0 j) ∧ Below w.heap.size w wr) (fun t _ => (a - intOf t).toNat)
        case atStart => exact ⟨0, k0, by simp, by omega, hr2, hM2, g0', ⟨hk0, fun _ _ _ _ => rfl⟩, hB2⟩
        case round =>
          clear hr2 hM2 g0' hB2 g0 p0 p1 f0 f1 hW1 hen
          obtain ⟨j, kj, rfl, hjle, hr3, hM3, g3, HK, hB3⟩ := hrel
          obtain ⟨wi, rfl⟩ : ∃ wi : World, wi = wr := ⟨_, rfl⟩
          by_cases hjlt : bb + (j : Int) < a
          · have hkey := Hat.out j hjlt
            obtain ⟨e1, e2, _⟩ := put2_digs hk0 hi (x := a - 1 - j) (y := bb + j) (by unfold isD; omega) (by unfold isD; omega)
            have s1 := cells7_set g3 HK.out.1 (i := i + 1) (by omega) (x := bb + j) (by unfold isD; omega)
            have s2 := cells7_set s1 (dset_digs HK.out.1 (i := i + 1) (by omega) (by unfold isD; omega)).1 (i := i) (by omega) (x := a - 1 - j) (by unfold isD; omega)
            rw [put_key hk0 HK.out.1 hi HK.out.2 (by unfold isD; omega) (by unfold isD; omega)] at s2
            obtain ⟨_, f1⟩ := cells7_cell g3 (i := i + 1) (by omega)
            obtain ⟨_, f0⟩ := cells7_cell s1 (i := i) (by omega)
            obtain ⟨p1, _⟩ := cells7_cell g3 (i := i + 1) (by omega)
            obtain ⟨p0, _⟩ := cells7_cell s1 (i := i) (by omega)
            obtain ⟨V1, hV1⟩ : ∃ V1, wi.setCell ⟨w1.heap.size, i + 1, none⟩ (.int .i64 (bb + j)) = V1 := ⟨_, rfl⟩
            rw [hV1] at s1 s2 f0 p0
            obtain ⟨V2, hV2⟩ : ∃ V2, V1.setCell ⟨w1.heap.size, i, none⟩ (.int .i64 (a - 1 - j)) = V2 := ⟨_, rfl⟩
            rw [hV2] at s2
            have hBV : Below w1.heap.size wi V2 := by
              rw [← hV2, ← hV1]
              exact (below_setCell (i + 1) _ (Nat.le_refl _)).trans (below_setCell i _ (Nat.le_refl _))
            obtain ⟨a0, a1, a2, a3, a4, a5, a6⟩ := cells7_at s2
            have hsz : wi.heap.size ≤ V2.heap.size := hBV.size
            have hr4 : PRg V2 b W.heap.size lf left' := hr3.same (hBV.block b hgb) (hBV.block _ hgr)
            have hM4 : PF V2 w.heap.size (ddTo i k0 c0 j ++ dividedM i don) := by
              obtain ⟨l, hl, hpl⟩ := hM3
              exact ⟨l, hl.same (hBV.block _ hlt1), hpl⟩
            have hB4 : Below w.heap.size w V2 := hB3.trans (hBV.mono hgs)
            have HE := Lib.hid (ddTo_succ (c := c0) hkey (dividedM i don))
            rw [Hsg.out] at HE
            obtain ⟨kk, hkk⟩ : ∃ kk, put2 k0 i (a - 1 - j) (bb + j) = kk := ⟨_, rfl⟩
            rw [hkk] at s2 a0 a1 a2 a3 a4 a5 a6 HE e1
            have HS := Lib.hid s2
            have HKK := Lib.hid (show inK kk ∧ ∀ j, j < 7 → j ≠ i → j ≠ i + 1 → dig kk j = dig k0 j by
              rw [← hkk]
              obtain ⟨x1, _, _, x4⟩ := put2_digs hk0 hi (x := a - 1 - j) (y := bb + j) (by unfold isD; omega) (by unfold isD; omega)
              exact ⟨x1, x4⟩)
            have r1 : IntKind.i64.wrap (bb + a) = bb + a := IntWalk.i64_in _ (by omega)
            have r2 : IntKind.i64.wrap (bb + a - 1) = bb + a - 1 := IntWalk.i64_in _ (by omega)
            have r3 : IntKind.i64.wrap (bb + a - 1 - (bb + j)) = a - 1 - j := by rw [IntWalk.i64_in _ (by omega)]; omega
            have r4 : IntKind.i64.wrap (bb + j + 1) = bb + j + 1 := IntWalk.i64_in _ (by omega)
            clear hkk s2 s1 g3 hr3 hM3 hB3 hBV hkey HK
            go_wp2_with fail
            refine (add_any w.heap.size kk c0 _ _ hM4 e1 hcc).mono ?_
            rintro e w4 ⟨rfl, hM5, hg5⟩
            have hr5 := hr4.kept hg5 (by simp; omega) (by rw [HzW.out]; simp)
            have hB5 := below_of_grown hB4 hg5 hB4.size (Nat.le_refl _)
            have hg6 : w4.heap[w1.heap.size]? = some (.cells (cells7 kk) 85) := by rw [hg5.block _ ((Array.getElem?_eq_some_iff.1 HS.out).1) (by simp; omega)]; exact HS.out
            have hM6 : PF w4 w.heap.size (ddTo i k0 c0 (j + 1) ++ dividedM i don) := hM5.eqv (by have := HE.out; rwa [Int.one_mul] at this)
            clear hr4 hB4 hM4 hM5 hg5
            go_wp2
            go_roundw
            case rel => exact ⟨j + 1, kk, by clear r1 r2 r3 r4 q4 q5; go_num, by omega, hr5, hM6, hg6, HKK.out, hB5⟩
            case measure => clear r1 r2 r3 r4 q4 q5; simp [intOf]; omega
          · have hj : (ddKeys i k0).length ≤ j := by have := Hlen.out; omega
            have hM4 : PF wi w.heap.size (dividedM i ((k0, c0) :: don)) := by
              have : ddTo i k0 c0 j = dd i (k0, c0) := by unfold ddTo dd; rw [List.take_of_length_le hj]
              rw [this] at hM3
              exact hM3
            clear hM3 g3
            go_wp2
            go_roundw
            case rel => exact ⟨(k0, c0) :: don, left', hr3, HP3, hM4, hB3⟩
            case measure =>
              rw [hr3.left_eq, hmeas, hlen]
              simp
end Go.Proofs.YtomejjbkakpoiaaGreat

namespace Go.Proofs.YtomejjbkakpoiaaGreat
open Go.RowKit

end Go.Proofs.YtomejjbkakpoiaaGreat
