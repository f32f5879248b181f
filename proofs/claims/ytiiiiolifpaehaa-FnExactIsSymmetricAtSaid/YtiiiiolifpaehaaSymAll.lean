/-
  Contracts of l2Swapped, l2Swap, SwapVariables of the reference.
  Contract of SwapVariables of the program.
  IsSymmetricAt, both.
  Law FnExactIsSymmetricAt: for every input the program's IsSymmetricAt and the reference's return the same. No condition. Written by a program of ours (lawgen.py).
-/
import Derived.Test.YtiiiiolifpaehaaSpecOf
import Derived.Test.YtiiiiolifpaehaaOperated
import Derived.Test.YtiiiiolifpaehaaSame
namespace Go.Proofs.Ytiiiiolifpaehaa
open Go.RowKit

theorem mul_bnd {x u : Int} (hx : -127 ≤ x ∧ x ≤ 127) (hu : 0 ≤ u ∧ u ≤ 4398046511104) : -558551906910208 ≤ x * u ∧ x * u ≤ 558551906910208 := by
  have h1 : x * u ≤ 127 * u := Int.mul_le_mul_of_nonneg_right hx.2 hu.1
  have h2 : -127 * u ≤ x * u := Int.mul_le_mul_of_nonneg_right hx.1 hu.1
  omega
theorem unit_top {i : Nat} (hi : i ≤ 6) : 0 ≤ unit i ∧ unit i ≤ 4398046511104 := by
  rcases seven hi with rfl | rfl | rfl | rfl | rfl | rfl | rfl <;> decide
set_option maxRecDepth 100000 in
set_option maxHeartbeats 1600000 in
theorem l2Swapped_any (k : Int) (i : Nat) (I : Int) (w : World) (hk : inK k) (hI : I = (i : Int)) (hi : i ≤ 5) :
    Calls Try.prog 250 #[.int .i64 k, .int .i64 I] w fun e w' => e = .returned (.int .i64 (swapK i k)) ∧ w' = w := by
  subst hI
  have ha := dig_isD k i
  have hb := dig_isD k (i + 1)
  have hu := unit_top (show i ≤ 6 by omega)
  have hv := unit_top (show i + 1 ≤ 6 by omega)
  have HF : Hid (swapK i k = k + (dig k (i + 1) - dig k i) * unit i + (dig k i - dig k (i + 1)) * unit (i + 1)) := by
    unfold Hid swapK put2
    rw [Int.sub_mul, Int.sub_mul]
    omega
  have HA := Lib.hid (l2At_any k i)
  have HB := Lib.hid (l2At_any k (i + 1))
  have HU := Lib.hid (l2Unit_any i)
  have HV := Lib.hid (l2Unit_any (i + 1))
  have Hk := Lib.hid hk
  unfold inK at hk
  unfold isD at ha hb
  generalize dig k i = a at *
  generalize dig k (i + 1) = b at *
  generalize unit i = u at *
  generalize unit (i + 1) = v at *
  obtain ⟨p1, p2⟩ := mul_bnd (x := b - a) (by omega) hu
  obtain ⟨p3, p4⟩ := mul_bnd (x := a - b) (by omega) hv
  have q1 : IntKind.i64.wrap ((i : Int) + 1) = ((i + 1 : Nat) : Int) := by rw [IntWalk.i64_in _ (by omega)]; omega
  have q2 : IntKind.i64.wrap (b - a) = b - a := IntWalk.i64_in _ (by omega)
  have q3 : IntKind.i64.wrap (a - b) = a - b := IntWalk.i64_in _ (by omega)
  have q4 : IntKind.i64.wrap ((b - a) * u) = (b - a) * u := IntWalk.i64_in _ (by omega)
  have q5 : IntKind.i64.wrap ((a - b) * v) = (a - b) * v := IntWalk.i64_in _ (by omega)
  have q6 : IntKind.i64.wrap (k + (b - a) * u) = k + (b - a) * u := IntWalk.i64_in _ (by omega)
  have q7 : IntKind.i64.wrap (k + (b - a) * u + (a - b) * v) = k + (b - a) * u + (a - b) * v := IntWalk.i64_in _ (by omega)
  go_enter Try.func250, Try.ntmps250
  go_wp2_with fail
  refine (HA.out _ _ Hk.out rfl (by omega)).mono ?_
  rintro e w1 ⟨rfl, hw⟩
  obtain rfl : w = w1 := hw.symm
  go_wp2_with fail
  refine (HB.out _ _ Hk.out (by omega) (by omega)).mono ?_
  rintro e w1 ⟨rfl, hw⟩
  obtain rfl : w = w1 := hw.symm
  go_wp2_with fail
  refine (HU.out _ _ rfl (by omega)).mono ?_
  rintro e w1 ⟨rfl, hw⟩
  obtain rfl : w = w1 := hw.symm
  go_wp2_with fail
  refine (HV.out _ _ (by omega) (by omega)).mono ?_
  rintro e w1 ⟨rfl, hw⟩
  obtain rfl : w = w1 := hw.symm
  go_wp2
  go_ret
  exact ⟨ret_int HF.out.symm, rfl⟩

theorem swapM_take {i : Nat} {xs : Mons} {k : Nat} {p : Int × Int} (hx : xs[k]? = some p) : swapM i (xs.take k) ++ [(swapK i p.1, p.2)] = swapM i (xs.take (k + 1)) := by
  unfold swapM
  rw [take_at hx, List.map_append]
  rfl
set_option maxRecDepth 100000 in
set_option maxHeartbeats 6400000 in
theorem l2Swap_any (a : Option Addr) (n c i : Nat) (I : Int) (xs : Mons) (w : World) (hr : RM w a xs) (hn : xs.length = n) (hb : n ≤ 1048575) (hI : I = (i : Int)) (hi : i ≤ 5) (hk : ∀ p ∈ xs, inK p.1 ∧ in64 p.2) :
    Calls Try.prog 203 #[.slice a n c, .int .i64 I] w fun e w' => ∃ a' n' c', e = .returned (.slice a' n' c') ∧ MO w' w.heap.size w'.heap.size a' n' c' (canon (swapM i xs)) ∧ Below w.heap.size w w' := by
  have HI := Lib.hid hI; clear hI
  have Hn := Lib.hid hn; clear hn
  have Hk := Lib.hid hk; clear hk
  have hB0 : Below w.heap.size w (w.alloc (.cells #[] 131)) := (Below.refl _ _).alloc (Nat.le_refl _) _
  have hm0 : MO (w.alloc (.cells #[] 131)) w.heap.size (w.alloc (.cells #[] 131)).heap.size (some ⟨w.heap.size, 0, none⟩) 0 0 [] := MO.made w
  go_enter Try.func203, Try.ntmps203
  go_wp2
  go_loopw [5, 6] (fun ov kv wr => Hid (∃ (k : Nat) (a' : Option Addr) (c' : Nat), kv = .int .i64 k ∧ k ≤ n ∧ ov = .slice a' k c' ∧ MO wr w.heap.size wr.heap.size a' k c' (swapM i (xs.take k))) ∧ Below w.heap.size w wr) (fun _ kv _ => n - (intOf kv).toNat)
  case atStart => exact ⟨⟨0, _, _, rfl, by omega, rfl, hm0⟩, hB0⟩
  case round =>
    clear hm0 hB0
    obtain ⟨HV, hB⟩ := hrel
    obtain ⟨wo, rfl⟩ : ∃ wo : World, wo = wr := ⟨_, rfl⟩
    obtain ⟨k, a1, c1, rfl, hk, rfl, ho⟩ := HV.out
    clear HV
    have hbs := hB.size
    by_cases hlt : k < n
    · have HO1 := Lib.hid (ho.below (Drew.below (Drew.drewN wo 1) _))
      obtain ⟨b, off, rfl, hcell⟩ := hr.at (k := k) (by rw [Hn.out]; exact hlt)
      obtain ⟨K, y, hx⟩ := pairM_at Hn.out hlt
      obtain ⟨p1, p2⟩ := hcell k _ hx
      simp only at p1 p2
      have HKk := Lib.hid (Hk.out _ (List.mem_of_getElem? hx)).1
      have Hst := Lib.hid (swapM_take (i := i) hx)
      have HC := Lib.hid (fun w2 => l2Swapped_any K i I w2 HKk.out HI.out hi)
      have hbz : b < w.heap.size := World.block_lt_of_cell? _ _ p1
      have S_of : ∀ w2, Below w.heap.size w w2 → w2.cell? ⟨b, off + k * 2, none⟩ = some (.int .i64 K) ∧ w2.cell? ⟨b, off + k * 2 + 1, none⟩ = some (.int .i64 y) := by
        intro w2 hb2
        exact ⟨by rw [hb2.cell (p := ⟨b, off + k * 2, none⟩) hbz]; exact p1, by rw [hb2.cell (p := ⟨b, off + k * 2 + 1, none⟩) hbz]; exact p2⟩
      have q1 : (k : Int) < (n : Int) := by omega
      have d1 : Below w.heap.size w wo.drew := hB.trans (Drew.below ⟨1, rfl⟩ _)
      clear p1 p2 ho hcell hx
      go_wp2
      go_region_held3 (fun w' => w'.cell? ⟨b, off + k * 2, none⟩ = some (.int .i64 K) ∧ w'.cell? ⟨b, off + k * 2 + 1, none⟩ = some (.int .i64 y)) ((first | exact S_of _ hB | exact S_of _ d1 | exact S_of _ (Below.alloc d1 (Below.size d1) _) | exact S_of _ ‹_›))
        ((first | (go_at_call 250; refine (HC.out _).mono ?_; rintro e w1 ⟨rfl, rfl⟩) | (refine step_pushM (by rfl) (by rfl) _ _ (by rfl) HO1.out (by rfl) (by rfl) (by omega) (Below.size d1) ?_; intro a3 c3 w3 ho3 hg3; have hB3 := below_grown d1 hg3 (Below.size d1) HO1.out.lo)))
      rw [Hst.out] at ho3
      have HO3 := Lib.hid ho3
      clear ho3 HO1 hg3 S_of d1
      go_wp2
      go_roundw
      case rel => exact ⟨⟨k + 1, _, _, by go_num, by omega, rfl, HO3.out⟩, hB3⟩
      case measure => simp [intOf]; omega
    · obtain rfl : k = n := by omega
      rw [List.take_of_length_le (by rw [Hn.out]; exact Nat.le_refl _)] at ho
      have Ho := Lib.hid ho
      have t1 : ¬ (k : Int) < (k : Int) := by omega
      have H64 := Lib.hid (show ∀ p ∈ swapM i xs, in64 p.2 from fun p hp => by
        obtain ⟨q, hq, rfl⟩ := List.mem_map.1 hp
        exact (Hk.out q hq).2)
      clear ho
      go_wp2_with fail
      refine (gather_any _ _ _ _ _ _ _ Ho.out (by omega) H64.out).mono ?_
      rintro e w4 ⟨a4, n4, c4, rfl, ho4, hB4⟩
      have Hfin := Lib.hid (ho4.mono (B' := w.heap.size) (S' := w4.heap.size) hbs (Nat.le_refl _))
      have hB5 := hB.trans (hB4.mono hbs)
      clear ho4
      go_wp2
      go_ret
      exact ⟨_, _, _, rfl, Hfin.out, hB5⟩

set_option maxRecDepth 100000 in
set_option maxHeartbeats 3200000 in
theorem specSwap_any (a : Option Addr) (n c : Nat) (xs : List (List Int × Int)) (x : Int) (w : World) (hr : RP w a xs) (hn : xs.length = n) (hb : n ≤ 1048576) (hok : polyOk xs = true) (hv : isVar x = true) :
    Calls Try.prog 135 #[.slice a n c, .int .i64 x] w fun e w' => ∃ a' n' c', e = .returned (.slice a' n' c') ∧ TO w' w.heap.size w'.heap.size a' n' c' (opT swapM xs x) ∧ Below w.heap.size w w' := by
  have Hn := Lib.hid hn; clear hn
  have Hok := Lib.hid hok
  have H0 := Lib.hid (opT_yes (op := swapM) hok hv)
  have Hv := Lib.hid hv
  have hx : 0 ≤ x ∧ x ≤ 5 := by simpa [isVar] using hv
  have hxi : x = (x.toNat : Int) := by omega
  have hx5 : x.toNat ≤ 5 := by omega
  have hn600 : n ≤ 600 := by rw [← Hn.out]; exact polyOk_len hok
  have HBd := Lib.hid ((polyOk_mons hok).mono (show (24 : Int) ≤ 126 by omega))
  have H64 := Lib.hid (polyOk_in64 hok)
  clear hok hv
  generalize x.toNat = i at *
  have Hxi := Lib.hid hxi
  clear hxi
  go_enter Try.func135, Try.ntmps135
  go_wp2_with fail
  refine (is (specPolyOk_any _ _ _ xs _ hr Hn.out hb) Hok.out).mono ?_
  rintro e w1 ⟨rfl, hb1⟩
  go_wp2_with fail
  refine (is (l2Variable_any x _) Hv.out).mono ?_
  rintro e w2 ⟨rfl, hd2⟩
  have hB2 := hb1.trans (hd2.below _)
  have hr2 := hr.below hB2
  go_wp2_with fail
  refine (l2Open_any _ _ _ xs _ hr2 Hn.out Hok.out).mono ?_
  rintro e w3 ⟨a3, c3, rfl, ho3, hb3⟩
  have hB3 := hB2.trans (hb3.mono hB2.size)
  have Ho3 := Lib.hid ho3
  clear ho3
  go_wp2_with fail
  refine (l2Swap_any _ _ _ i x (monsOf xs) _ Ho3.out.rd Ho3.out.len (by omega) Hxi.out hx5 (fun p hp => ⟨(HBd.out p hp).1, H64.out p hp⟩)).mono ?_
  rintro e w4 ⟨a4, n4, c4, rfl, ho4, hb4⟩
  have hB4 := hB3.trans (hb4.mono hB3.size)
  have Ho4 := Lib.hid ho4
  clear ho4
  go_wp2_with fail
  refine (l2Shut_any _ _ _ (swapM i (monsOf xs)) _ Ho4.out.rd Ho4.out.len (fun p hp => ((HBd.out.swap hx5).canon p hp).1)).mono ?_
  rintro e w9 ⟨a9, n9, c9, r9, rfl, ho9, hh9, hb9⟩
  have hB9 := hB4.trans (hb9.mono hB4.size)
  have Ho9 := Lib.hid (ho9.mono (B' := w.heap.size) (S' := w9.heap.size) hB4.size (Nat.le_refl _))
  clear ho9
  go_wp2
  go_ret
  exact ⟨_, _, _, rfl, by rw [H0.out.1]; exact Ho9.out, hB9⟩
end Go.Proofs.Ytiiiiolifpaehaa

namespace Go.Proofs.Ytiiiiolifpaehaa
open Go.RowKit Go.MapKept Go.ChangeMaps

theorem swapK_in {k : Int} (h : inK k) {i : Nat} (hi : i ≤ 5) : inK (swapK i k) := (put2_digs h hi (dig_isD k (i + 1)) (dig_isD k i)).1
theorem cells7_swap {w : World} {g : Nat} {k : Int} (h : w.heap[g]? = some (.cells (cells7 k) 150)) (hk : inK k) {i : Nat} (hi : i ≤ 5) :
    ((w.setCell ⟨g, i, none⟩ (.int .i64 (dig k (i + 1)))).setCell ⟨g, i + 1, none⟩ (.int .i64 (dig k i))).heap[g]? = some (.cells (cells7 (swapK i k)) 150) ∧
    (w.setCell ⟨g, i, none⟩ (.int .i64 (dig k (i + 1)))).cell? ⟨g, i + 1, none⟩ = some (.int .i64 (dig k (i + 1))) ∧
    (w.setCell ⟨g, i, none⟩ (.int .i64 (dig k (i + 1)))).frozen? ⟨g, i + 1, none⟩ = false := by
  have s1 := cells7_set h hk (i := i) (by omega) (x := dig k (i + 1)) (dig_isD k (i + 1))
  obtain ⟨e1, _, e3⟩ := dset_digs hk (i := i) (by omega) (dig_isD k (i + 1))
  have s2 := cells7_set s1 e1 (i := i + 1) (by omega) (x := dig k i) (dig_isD k i)
  rw [← put2_dset hk hi (dig_isD k (i + 1))] at s2
  obtain ⟨p, f⟩ := cells7_cell s1 (i := i + 1) (by omega)
  rw [e3 (i + 1) (by omega) (by omega)] at p
  exact ⟨s2, p, f⟩

set_option maxRecDepth 100000 in
set_option maxHeartbeats 6400000 in
theorem implSwap_any (a : Option Addr) (n c : Nat) (xs : List (List Int × Int)) (x : Int) (w : World) (hr : RP w a xs) (hn : xs.length = n) (hb : n ≤ 1048576) (hok : polyOk xs = true) (hv : isVar x = true) :
    Calls Try.prog 140 #[.slice a n c, .int .i64 x] w fun e w' => ∃ a' n' c', e = .returned (.slice a' n' c') ∧ TO w' w.heap.size w'.heap.size a' n' c' (opT swapM xs x) ∧ Below w.heap.size w w' := by
  have Hn := Lib.hid hn; clear hn
  have Hok := Lib.hid hok
  have H0 := Lib.hid (opT_yes (op := swapM) hok hv)
  have Hv := Lib.hid hv
  have hx : 0 ≤ x ∧ x ≤ 5 := by simpa [isVar] using hv
  obtain ⟨i, rfl⟩ : ∃ i : Nat, x = (i : Int) := ⟨x.toNat, by omega⟩
  have hi : i ≤ 5 := by omega
  have H0 := Lib.hid (show opT swapM xs (i : Int) = closedT (swapM i (monsOf xs)) from H0.out.1)
  clear hok hv hx
  have hmm := @run_makeMap Try.prog
  go_enter Try.func140, Try.ntmps140
  go_wp2_with fail
  refine (is (implPolyOk_any _ _ _ xs _ hr Hn.out hb) Hok.out).mono ?_
  rintro e w1 ⟨rfl, hb1⟩
  go_wp2_with fail
  refine (is (isVariable_any (i : Int) _) Hv.out).mono ?_
  rintro e w2 ⟨rfl, hd2⟩
  have hB2 := hb1.trans (hd2.below _)
  obtain ⟨W, hW⟩ : ∃ W, w2.alloc (.map #[] 0) = W := ⟨_, rfl⟩
  have hBW2 : Below w2.heap.size w2 W := by rw [← hW]; exact (Below.refl _ _).alloc (Nat.le_refl _) _
  have hBW : Below w.heap.size w W := hB2.trans (hBW2.mono hB2.size)
  have hMW : PF W w2.heap.size [] := by rw [← hW]; exact PF.made w2
  have HzW := Lib.hid (show W.heap.size = w2.heap.size + 1 by rw [← hW]; simp)
  have hs2 := hB2.size
  have hrW := hr.below hBW
  clear hb1 hd2 hB2 hBW2 hr
  go_wp2_with fail
  refine (open_any _ _ _ xs _ hrW Hn.out Hok.out).mono ?_
  rintro e w3 ⟨b, rfl, hb3, hF, hbb3⟩
  have hB3 := hBW.trans (hbb3.mono hBW.size)
  have hM3 := hMW.below hbb3
  have hsz3 : W.heap.size ≤ w3.heap.size := hbb3.size
  obtain ⟨lf, hlf, hpf⟩ := hF
  have hkf : ∀ p ∈ lf, inK p.1 ∧ in64 p.2 := by obtain ⟨_, _, _, _, _, h⟩ := hlf; exact h
  have hblt := hlf.lt
  clear hMW hrW hbb3 hBW hW
  obtain ⟨o, ho⟩ : ∃ o, w2.heap.size = o := ⟨_, rfl⟩
  rw [ho] at hM3 HzW hs2
  have hob : o < b := by have := HzW.out; omega
  have hos : o < w3.heap.size := by have := HzW.out; omega
  have Ho := Lib.hid ho
  clear ho HzW hb3 hsz3
  go_wp2_with (first | (at_range; refine wpList_range_P _ (by rfl) _ (by rfl) b lf (by rfl) hlf ?_; intro w0 hr0 hB0 _) | go_in)
  go_frame
  rw [Ho.out]
  go_loopw [22] (fun _ wr => ∃ don left, PRg wr b w3.heap.size lf left ∧ Hid (lf.Perm (don ++ left)) ∧ PF wr o (swapM i don) ∧ Below w.heap.size w wr) (fun _ wr => wr.rangeLeft b w3.heap.size)
  case atStart => exact ⟨[], lf, hr0, List.Perm.refl _, hM3.below hB0, hB3.trans (hB0.mono hB3.size)⟩
  case round =>
    clear hM3 hB3 hr0 hB0
    obtain ⟨don, left, hr, HP, hM1, hB⟩ := hrel
    obtain ⟨wo, rfl⟩ : ∃ wo : World, wo = wr := ⟨_, rfl⟩
    go_wp2_with (first | (at_next; refine wpList_next_P _ (by rfl) _ (by rfl) b w3.heap.size lf left (by rfl) hr ?_ ?_) | go_in)
    · intro hleft
      subst hleft
      rw [List.append_nil] at HP
      have hfin : PF wo o (swapM i (monsOf xs)) := hM1.eqv (swapM_eqv (Eqv.perm_canon hpf HP.out))
      clear hM1 hr
      go_wp2_with fail
      refine (closed_any o _ _ hfin).mono ?_
      rintro e w9 ⟨a9, n9, c9, r9, rfl, ho9, hh9, hb9⟩
      have hB9 := hB.trans (hb9.mono hB.size)
      have Ho9 := Lib.hid (ho9.mono (B' := w.heap.size) (S' := w9.heap.size) hB.size (Nat.le_refl _))
      clear ho9
      go_wp2
      go_ret
      exact ⟨_, _, _, rfl, by rw [H0.out]; exact Ho9.out, hB9⟩
    · intro k0 c0 left' w1 hp hr1 hg1 hz1 hen
      have hmem := HP.out.mem_iff.2 (List.mem_append_right _ (hp.mem_iff.2 List.mem_cons_self))
      obtain ⟨hk0, hc0⟩ := hkf (k0, c0) hmem
      have hlt := PF.lt hM1
      unfold kV at hen ⊢
      obtain ⟨W1, hW1⟩ : ∃ W1, w1.alloc (.cells (cells7 k0) 150) = W1 := ⟨_, rfl⟩
      have g0 : W1.heap[w1.heap.size]? = some (.cells (cells7 k0) 150) := by rw [← hW1]; exact heap_alloc_new w1 _
      obtain ⟨p0, f0⟩ := cells7_cell g0 (i := i) (by omega)
      obtain ⟨p1, f1⟩ := cells7_cell g0 (i := i + 1) (by omega)
      obtain ⟨g2, p2, f2⟩ := cells7_swap g0 hk0 hi
      have hBW1 : Below w1.heap.size w1 W1 := by rw [← hW1]; exact (Below.refl _ _).alloc (Nat.le_refl _) _
      have hBW2 : Below w1.heap.size w1 ((W1.setCell ⟨w1.heap.size, i, none⟩ (.int .i64 (dig k0 (i + 1)))).setCell ⟨w1.heap.size, i + 1, none⟩ (.int .i64 (dig k0 i))).drew :=
        (hBW1.trans ((below_setCell i _ (Nat.le_refl _)).trans (below_setCell (i + 1) _ (Nat.le_refl _)))).trans (Drew.below ⟨1, rfl⟩ _)
      obtain ⟨a0, a1, a2, a3, a4, a5, a6⟩ := cells7_at g2
      have hB1 := below_of_grown hB hg1 hB.size (Nat.le_of_lt (Nat.lt_of_le_of_lt hs2 hos))
      have hM2 := Lib.hid ((hM1.kept hg1 (by simp; omega)).below hBW2)
      have hB2 := Lib.hid (hB1.trans (hBW2.mono hB1.size))
      have hr2 := Lib.hid (hr1.below hBW2)
      have HP3 := Lib.hid (show lf.Perm ((don ++ [(k0, c0)]) ++ left') from HP.out.trans ((hp.append_left don).trans (by rw [List.append_assoc]; exact List.Perm.refl _)))
      have hmeas := hr.left_eq
      have hlen := hp.length_eq
      have Hk1 := Lib.hid (swapK_in hk0 hi)
      have Hst := Lib.hid (show Eqv ((swapK i k0, c0) :: swapM i don) (swapM i (don ++ [(k0, c0)])) by
        unfold swapM
        rw [List.map_append]
        exact Eqv.of_perm (List.perm_append_singleton _ _).symm)
      have q3 : IntKind.i64.wrap ((i : Int) + 1) = (i : Int) + 1 := IntWalk.i64_in _ (by omega)
      have q4 : (i : Int) < 7 := by omega
      have q5 : (i : Int) + 1 < 7 := by omega
      have q6 : ((i : Int) + 1).toNat = i + 1 := by omega
      have Hc0 := Lib.hid hc0
      generalize swapK i k0 = k1 at *
      generalize dig k0 i = da at *
      generalize dig k0 (i + 1) = db at *
      unfold cells7 at hW1
      have Hz1 := Lib.hid hz1
      clear hz1 hM1 hB hg1 hB1 hr1 hBW1 hBW2 g0 g2 hp hk0 hc0 hmem
      go_wp2
      go_region
      go_wp2_with fail
      refine (add_any o k1 c0 _ _ hM2.out Hk1.out Hc0.out).mono ?_
      rintro e w5 ⟨rfl, hM3, hg3⟩
      have hr3 := hr2.out.kept hg3 (by simp; omega) (by simp; omega)
      have hB3 := below_of_grown hB2.out hg3 hB2.out.size hs2
      have hM4 := hM3.eqv Hst.out
      clear hM3 hM2 hr2 hB2 hg3
      go_wp2
      go_roundw
      case rel => exact ⟨don ++ [(k0, c0)], left', hr3, HP3, hM4, hB3⟩
      case measure =>
        rw [hr3.left_eq, hmeas, hlen]
        simp
end Go.Proofs.Ytiiiiolifpaehaa

namespace Go.Proofs.Ytiiiiolifpaehaa
open Go.RowKit

def symOk (xs : List (List Int × Int)) (x : Int) : Bool := polyOk xs && isVar x && decide (xs = opT swapM xs x)

set_option maxRecDepth 100000 in
set_option maxHeartbeats 1600000 in
theorem specSym_any (a : Option Addr) (n c : Nat) (xs : List (List Int × Int)) (x : Int) (w : World) (hr : RP w a xs) (hn : xs.length = n) (hb : n ≤ 1048576) (_hsh : Short_P xs) (_hl : -9223372036854775808 ≤ x) (_hu : x ≤ 9223372036854775807) :
    Calls Try.prog 52 #[.slice a n c, .int .i64 x] w fun e w' => ∃ r, e = .returned (.bool r) ∧ Hid (r = symOk xs x) ∧ Below w.heap.size w w' := by
  have Hn := Lib.hid hn; clear hn
  cases hok : polyOk xs
  · have H0 := Lib.hid (show symOk xs x = false by unfold symOk; rw [hok]; rfl)
    have Hok := Lib.hid hok
    clear hok
    go_enter Try.func52, Try.ntmps52
    go_wp2_with fail
    refine (is (specPolyOk_any _ _ _ xs _ hr Hn.out hb) Hok.out).mono ?_
    rintro e w1 ⟨rfl, hb1⟩
    go_wp2
    go_ret
    exact ⟨_, rfl, H0.out.symm, hb1⟩
  have Hok := Lib.hid hok
  cases hv : isVar x
  · have H0 := Lib.hid (show symOk xs x = false by unfold symOk; rw [hok, hv]; rfl)
    have Hv := Lib.hid hv
    clear hok hv
    go_enter Try.func52, Try.ntmps52
    go_wp2_with fail
    refine (is (specPolyOk_any _ _ _ xs _ hr Hn.out hb) Hok.out).mono ?_
    rintro e w1 ⟨rfl, hb1⟩
    go_wp2_with fail
    refine (is (l2Variable_any x _) Hv.out).mono ?_
    rintro e w2 ⟨rfl, hd2⟩
    have hB2 := hb1.trans (hd2.below _)
    go_wp2
    go_ret
    exact ⟨_, rfl, H0.out.symm, hB2⟩
  have H0 := Lib.hid (show symOk xs x = decide (xs = opT swapM xs x) by unfold symOk; rw [hok, hv]; rfl)
  have Hv := Lib.hid hv
  have Hsh := Lib.hid (show ∀ p ∈ xs, p.1.length ≤ 1048576 from _hsh)
  have HL := Lib.hid (opT_len swapM xs x)
  clear hok hv
  go_enter Try.func52, Try.ntmps52
  go_wp2_with fail
  refine (is (specPolyOk_any _ _ _ xs _ hr Hn.out hb) Hok.out).mono ?_
  rintro e w1 ⟨rfl, hb1⟩
  go_wp2_with fail
  refine (is (l2Variable_any x _) Hv.out).mono ?_
  rintro e w2 ⟨rfl, hd2⟩
  have hB2 := hb1.trans (hd2.below _)
  have hr2 := hr.below hB2
  go_wp2_with fail
  refine (specSwap_any _ _ _ xs x _ hr2 Hn.out hb Hok.out Hv.out).mono ?_
  rintro e w3 ⟨a3, n3, c3, rfl, ho3, hb3⟩
  have hB3 := hB2.trans (hb3.mono hB2.size)
  have hr3 := hr.below hB3
  have Ho3 := Lib.hid ho3
  clear ho3
  go_wp2_with fail
  refine (l2Same_any _ _ _ _ _ _ xs (opT swapM xs x) _ hr3 Ho3.out.rd Hn.out Ho3.out.len hb Hsh.out).mono ?_
  rintro e w4 ⟨rfl, hb4⟩
  have hB4 := hB3.trans (hb4.below _)
  go_wp2
  go_ret
  exact ⟨_, rfl, H0.out.symm, hB4⟩

set_option maxRecDepth 100000 in
set_option maxHeartbeats 1600000 in
theorem implSym_any (a : Option Addr) (n c : Nat) (xs : List (List Int × Int)) (x : Int) (w : World) (hr : RP w a xs) (hn : xs.length = n) (hb : n ≤ 1048576) (_hsh : Short_P xs) (_hl : -9223372036854775808 ≤ x) (_hu : x ≤ 9223372036854775807) :
    Calls Try.prog 54 #[.slice a n c, .int .i64 x] w fun e w' => ∃ r, e = .returned (.bool r) ∧ Hid (r = symOk xs x) ∧ Below w.heap.size w w' := by
  have Hn := Lib.hid hn; clear hn
  cases hok : polyOk xs
  · have H0 := Lib.hid (show symOk xs x = false by unfold symOk; rw [hok]; rfl)
    have Hok := Lib.hid hok
    clear hok
    go_enter Try.func54, Try.ntmps54
    go_wp2_with fail
    refine (is (implPolyOk_any _ _ _ xs _ hr Hn.out hb) Hok.out).mono ?_
    rintro e w1 ⟨rfl, hb1⟩
    go_wp2
    go_ret
    exact ⟨_, rfl, H0.out.symm, hb1⟩
  have Hok := Lib.hid hok
  cases hv : isVar x
  · have H0 := Lib.hid (show symOk xs x = false by unfold symOk; rw [hok, hv]; rfl)
    have Hv := Lib.hid hv
    clear hok hv
    go_enter Try.func54, Try.ntmps54
    go_wp2_with fail
    refine (is (implPolyOk_any _ _ _ xs _ hr Hn.out hb) Hok.out).mono ?_
    rintro e w1 ⟨rfl, hb1⟩
    go_wp2_with fail
    refine (is (isVariable_any x _) Hv.out).mono ?_
    rintro e w2 ⟨rfl, hd2⟩
    have hB2 := hb1.trans (hd2.below _)
    go_wp2
    go_ret
    exact ⟨_, rfl, H0.out.symm, hB2⟩
  have H0 := Lib.hid (show symOk xs x = decide (xs = opT swapM xs x) by unfold symOk; rw [hok, hv]; rfl)
  have Hv := Lib.hid hv
  have Hsh := Lib.hid (show ∀ p ∈ xs, p.1.length ≤ 1048576 from _hsh)
  have HL := Lib.hid (opT_len swapM xs x)
  clear hok hv
  go_enter Try.func54, Try.ntmps54
  go_wp2_with fail
  refine (is (implPolyOk_any _ _ _ xs _ hr Hn.out hb) Hok.out).mono ?_
  rintro e w1 ⟨rfl, hb1⟩
  go_wp2_with fail
  refine (is (isVariable_any x _) Hv.out).mono ?_
  rintro e w2 ⟨rfl, hd2⟩
  have hB2 := hb1.trans (hd2.below _)
  have hr2 := hr.below hB2
  go_wp2_with fail
  refine (implSwap_any _ _ _ xs x _ hr2 Hn.out hb Hok.out Hv.out).mono ?_
  rintro e w3 ⟨a3, n3, c3, rfl, ho3, hb3⟩
  have hB3 := hB2.trans (hb3.mono hB2.size)
  have hr3 := hr.below hB3
  have Ho3 := Lib.hid ho3
  clear ho3
  go_wp2_with fail
  refine (samePoly_any _ _ _ _ _ _ xs (opT swapM xs x) _ hr3 Ho3.out.rd Hn.out Ho3.out.len hb Hsh.out).mono ?_
  rintro e w4 ⟨rfl, hb4⟩
  have hB4 := hB3.trans (hb4.mono hB3.size)
  go_wp2
  go_ret
  exact ⟨_, rfl, H0.out.symm, hB4⟩
end Go.Proofs.Ytiiiiolifpaehaa

namespace Go.Proofs.Ytiiiiolifpaehaa
open Go.RowKit

set_option maxHeartbeats 3200000 in
theorem lawIsSymmetricAt_walk (w : World) (a0 : Option Addr) (n0 c0 : Nat) (x0 : List (List Int × Int)) (hr0 : RT w a0 x0) (hn0 : x0.length = n0) (hb0 : Wide_T n0 x0) (_hz0 : Wf_T x0) (x1 : Int) (hx1 : (Lit.int .i64 x1).wf = true) :
    Calls Try.prog 9 #[.slice a0 n0 c0, .int .i64 x1] w fun e w' => e = .returned (.bool true) ∧ Below w.heap.size w w' := by
  have Hn0 := Lib.hid hn0; clear hn0
  obtain ⟨hl1, hu1⟩ : -9223372036854775808 ≤ x1 ∧ x1 ≤ 9223372036854775807 := wf_bounds hx1
  clear hx1
  obtain ⟨m0, hm0⟩ : ∃ m, ms_T x0 = m := ⟨_, rfl⟩
  have HM0 := Lib.hid hm0
  by_cases hbig : (1048576 : Int) < (m0 : Int)
  · have hq := Lib.hid (leftOf_lt hbig)
    clear hm0
    go_enter Try.func9, Try.ntmps9
    go_wp2_with fail
    refine (isInt (szl_T _ _ _ x0 1048576 _ hr0 Hn0.out (by omega) (by omega) hb0) (by rw [HM0.out, hq.out])).mono ?_
    rintro e w1 ⟨rfl, hb1⟩
    go_wp2
    go_ret
    exact ⟨rfl, hb1⟩
  have hnb0 : n0 ≤ 1048576 := by have := ms_T_len x0; have := Hn0.out; omega
  obtain ⟨Zx0, hZx0⟩ : ∃ Z, sz_T x0 = Z := ⟨_, rfl⟩
  have hZxb0 : Zx0 ≤ 2097152 := by have := ms_T_sz x0; omega
  have HS0 := Lib.hid (ms_T_short x0 (by omega))
  have HZx0 := Lib.hid hZx0; clear hZx0 hm0
  obtain ⟨q0, hq0⟩ : ∃ q : Nat, leftOf 1048576 (m0 : Int) = (q : Int) := ⟨1048576 - m0, by rw [leftOf_ge hbig]; omega⟩
  have HQ0 := Lib.hid hq0; clear hq0
  go_enter Try.func9, Try.ntmps9
  have hB0 : Below w.heap.size w w := Below.refl _ _
  go_wp2_with fail
  refine (isInt (szl_T _ _ _ x0 1048576 _ hr0 Hn0.out (by omega) (by omega) hb0) (by rw [HM0.out, HQ0.out])).mono ?_
  rintro e w1 ⟨rfl, hb1⟩
  have hB1 := hB0.trans (hb1.mono hB0.size)
  have hsz1 : w.heap.size ≤ w1.heap.size := hb1.size
  go_wp2_with fail
  refine (conv_T _ _ _ x0 _ (hr0.below hB1) Hn0.out (by omega) HS0.out).mono ?_
  rintro e w2 ⟨as0, cs0, rfl, os0, hb2⟩
  have hB2 := hB1.trans (hb2.mono hB1.size)
  have hsz2 : w1.heap.size ≤ w2.heap.size := hb2.size
  go_wp2_with fail
  refine (specSym_any _ _ _ x0 _ _ os0.rd Hn0.out (by omega) HS0.out hl1 hu1).mono ?_
  rintro e w3 ⟨rw0, rfl, Hw0, hb3⟩
  have hB3 := hB2.trans (hb3.mono hB2.size)
  have hsz3 : w2.heap.size ≤ w3.heap.size := hb3.size
  have os0_3 := os0.below hb3; clear os0
  clear os0_3
  go_wp2_with fail
  refine (conv_T _ _ _ x0 _ (hr0.below hB3) Hn0.out (by omega) HS0.out).mono ?_
  rintro e w4 ⟨ax0, cx0, rfl, ox0, hb4⟩
  have hB4 := hB3.trans (hb4.mono hB3.size)
  have hsz4 : w3.heap.size ≤ w4.heap.size := hb4.size
  go_wp2_with fail
  refine (implSym_any _ _ _ x0 _ _ ox0.rd Hn0.out (by omega) HS0.out hl1 hu1).mono ?_
  rintro e w5 ⟨rg0, rfl, Hg0, hb5⟩
  have hB5 := hB4.trans (hb5.mono hB4.size)
  have hsz5 : w4.heap.size ≤ w5.heap.size := hb5.size
  have ox0_5 := ox0.below hb5; clear ox0
  obtain rfl : rw0 = rg0 := by rw [Hw0.out, Hg0.out]
  clear Hg0
  go_wp2_with fail
  refine (conv_T _ _ _ x0 _ (hr0.below hB5) Hn0.out (by omega) HS0.out).mono ?_
  rintro e w6 ⟨ay0, cy0, rfl, oy0, hb6⟩
  have hB6 := hB5.trans (hb6.mono hB5.size)
  have hsz6 : w5.heap.size ≤ w6.heap.size := hb6.size
  have ox0_6 := ox0_5.below hb6; clear ox0_5
  go_wp2_with fail
  refine (is (eq_T _ _ _ _ _ _ _ _ _ ox0_6.rd oy0.rd Hn0.out Hn0.out (by omega) HS0.out) (by simp : _ = true)).mono ?_
  rintro e w7 ⟨rfl, hb7⟩
  have hB7 := hB6.trans (hb7.mono hB6.size)
  have hsz7 : w6.heap.size ≤ w7.heap.size := hb7.size
  have ox0_7 := ox0_6.below hb7; clear ox0_6
  have oy0_7 := oy0.below hb7; clear oy0
  clear oy0_7
  go_wp2
  go_ret
  exact ⟨rfl, hB7⟩
end Go.Proofs.Ytiiiiolifpaehaa
