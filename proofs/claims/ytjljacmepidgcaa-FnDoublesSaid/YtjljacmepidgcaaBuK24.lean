/-
  DoubleSchubert of the reference, and both.
  append of zeros to a slice of ints of the call's own: append(s, make([]int, k)...).
  What a call leaves that returns a polynomial and whether it is one within the limits.
-/
import Derived.Test.YtjljacmepidgcaaBuK20
import Derived.Test.YtjljacmepidgcaaGather
import Derived.Test.YtjljacmepidgcaaBuK13
import Derived.Test.YtjljacmepidgcaaBuK5
namespace Go.Proofs.Ytjljacmepidgcaa
open Go.RowKit

theorem wsum_raised (i : Nat) (F : Mons) (v : Int → Int) : wsum (raisedM i F) v = wsum F fun k => v (k + unit i) := by
  unfold raisedM
  induction F with
  | nil => rfl
  | cons p F ih => rw [List.map_cons, wsum, wsum, ih]
theorem wsum_scaleD (c : Int) (F : Mons) (v : Int → Int) : wsum (scaleM c F) v = c * wsum F v := by
  unfold scaleM
  induction F with
  | nil => simp [wsum]
  | cons p F ih => rw [List.map_cons, wsum, wsum, ih, Int.mul_add, Int.mul_assoc]
theorem times_two (i : Nat) (c : Int) (F : Mons) : Eqv (timesM F [(unit i, 1), (0, c)]) (plusM (raisedM i F) c F) := Eqv.of_wsum fun v => by
  rw [wsum_times]
  unfold plusM
  rw [wsum_append, wsum_raised, wsum_scaleD]
  have : wsum F (fun k => wsum [(unit i, 1), (0, c)] fun j => v (k + j)) = wsum F (fun k => v (k + unit i)) + c * wsum F v := by
    induction F with
    | nil => simp [wsum]
    | cons p F ih =>
      rw [wsum, ih, wsum, wsum]
      simp only [wsum, Int.one_mul, Int.add_zero]
      rw [Int.mul_add, Int.mul_add, ← Int.mul_assoc, Int.mul_comm p.2 c, Int.mul_assoc]
      omega
  rw [this, Int.sub_self]
  exact Int.dvd_zero _
theorem MO.two (w : World) (p q r s : Int) : MO (w.alloc (.cells #[.int .i64 p, .int .i64 q, .int .i64 r, .int .i64 s] 67)) w.heap.size (w.alloc (.cells #[.int .i64 p, .int .i64 q, .int .i64 r, .int .i64 s] 67)).heap.size (some ⟨w.heap.size, 0, none⟩) 2 2 [(p, q), (r, s)] :=
  MO.mk ⟨rfl, .inr ⟨w.heap.size, 2, #[.int .i64 p, .int .i64 q, .int .i64 r, .int .i64 s], rfl, Nat.le_refl _, heap_alloc_new w _, Nat.le_refl _, by unfold maxLen; omega, rfl, rfl⟩⟩
theorem two_in {i : Nat} (hi : i ≤ 6) (c : Int) : ∀ p ∈ canon [(unit i, 1), (0, c)], inK p.1 := fun p hp => by
  obtain ⟨q, hq, e⟩ := mem_canon hp
  rw [← e]
  simp only [List.mem_cons, List.not_mem_nil, or_false] at hq
  rcases hq with rfl | rfl
  · exact unit_in hi
  · unfold inK; omega
theorem db_count {n i j : Nat} {F : Mons} (hn : n ≤ 5) (hj : i + j + 1 ≤ n) (h : Bv (db n i j) F) : (canon F).length ≤ 120 :=
  (h.mono (c := sb 5) fun t _ => by
    unfold db sb
    split
    · omega
    · split <;> omega).count

set_option maxRecDepth 100000 in
set_option maxHeartbeats 6400000 in
theorem l3Double_any (a : Option Addr) (n c : Nat) (xs : List Int) (a' : Option Addr) (n' c' : Nat) (ys : List Int) (w : World) (hr : RI w a xs) (hn : xs.length = n) (hb : n ≤ 5) (hr' : RI w a' ys) (hn' : ys.length = n) (hnn : n' = n) (h9 : In9 ys) :
    Calls Try.prog 27 #[.slice a n c, .slice a' n' c'] w fun e w' => ∃ a4 n4 c4, e = .returned (.slice a4 n4 c4) ∧ MO w' w.heap.size w'.heap.size a4 n4 c4 (canon (dblM xs ys)) ∧ Below w.heap.size w w' := by
  subst hnn
  have Hn := Lib.hid hn
  have Hn' := Lib.hid hn'
  have H9 := Lib.hid h9
  have HupL := Lib.hid (show (ups xs).length ≤ 1000000 by have h1 := upf_le (nin xs) xs; have h2 := nin_small (v := xs) (by omega); unfold ups; omega)
  have HNx := Lib.hid (show nin xs ≤ 1000000 by have h2 := nin_small (v := xs) (by omega); omega)
  have Hu := Lib.hid (show ∀ k ∈ ups xs, k + 1 < n' from fun k hk => by have := ups_lt xs k hk; rw [hn] at this; exact this)
  have hMo := MO.one w 0 1
  have hBa : Below w.heap.size w (w.alloc (.cells #[.int .i64 0, .int .i64 1] 67)) := (Below.refl _ _).alloc (Nat.le_refl _) _
  have HM0 := Lib.hid (show MO (w.alloc (.cells #[.int .i64 0, .int .i64 1] 67)) w.heap.size (w.alloc (.cells #[.int .i64 0, .int .i64 1] 67)).heap.size (some ⟨w.heap.size, 0, none⟩) 1 1 (canon (dblTo n' ys 0)) by
    rw [dblTo, canon_one (by decide) (by unfold in64; omega)]
    exact hMo)
  clear hMo hn hn' h9
  go_enter Try.func27, Try.ntmps27
  go_wp2
  go_loopw [5, 6] (fun fv iv wr => Hid (∃ (i : Nat) (a1 : Option Addr) (n1 c1 : Nat), iv = .int .i64 i ∧ i ≤ n' ∧ fv = .slice a1 n1 c1 ∧ MO wr w.heap.size wr.heap.size a1 n1 c1 (canon (dblTo n' ys i))) ∧ Below w.heap.size w wr) (fun _ iv _ => n' - (intOf iv).toNat)
  case atStart => exact ⟨⟨0, _, _, _, rfl, Nat.zero_le _, rfl, HM0.out⟩, hBa⟩
  case round =>
    clear HM0 hBa
    obtain ⟨HV, hB⟩ := hrel
    obtain ⟨wo, rfl⟩ : ∃ wo : World, wo = wr := ⟨_, rfl⟩
    obtain ⟨i, a1, n1, c1, rfl, hi, rfl, hM⟩ := HV.out
    clear HV
    by_cases hlt : i < n'
    · have HM := Lib.hid hM
      clear hM
      obtain ⟨m, hm⟩ : ∃ m, n' - 1 - i = m := ⟨_, rfl⟩
      have q1 : (i : Int) < (n' : Int) := by omega
      have HD := Lib.hid (show dblTo n' ys (i + 1) = dblIn ys i (dblTo n' ys i) m by rw [dblTo, hm])
      have HBv := Lib.hid (show Bv (db n' i 0) (dblTo n' ys i) from Bv.dblTo (by omega) i hi)
      have hmi : i + m + 1 = n' := by omega
      clear hm
      go_wp2
      go_loopw [5, 7] (fun fv jv wr => Hid (∃ (j : Nat) (a1 : Option Addr) (n1 c1 : Nat), jv = .int .i64 j ∧ j ≤ m ∧ fv = .slice a1 n1 c1 ∧ MO wr w.heap.size wr.heap.size a1 n1 c1 (canon (dblIn ys i (dblTo n' ys i) j))) ∧ Below w.heap.size w wr) (fun _ jv _ => m - (intOf jv).toNat)
      case atStart => exact ⟨⟨0, _, _, _, rfl, Nat.zero_le _, rfl, HM.out⟩, hB⟩
      case round =>
        clear HM hB
        obtain ⟨HV, hB⟩ := hrel
        obtain ⟨wi, rfl⟩ : ∃ wi : World, wi = wr := ⟨_, rfl⟩
        obtain ⟨j, a2, n2, c2, rfl, hj, rfl, hM⟩ := HV.out
        clear HV
        by_cases hlt2 : j < m
        · obtain ⟨y, hy⟩ := some_at Hn'.out (show j < n' by omega)
          obtain ⟨b1, off, rfl, hcell⟩ := (hr'.below hB).at (k := j) (by rw [Hn'.out]; omega)
          have p1 := hcell j y hy
          have hy9 := H9.out y (List.mem_of_getElem? hy)
          have q2 : (i : Int) + (j : Int) + 1 < (n' : Int) := by omega
          have q5 : (j : Int) < (n' : Int) := by omega
          have q6 : (0 : Int) ≤ (j : Int) := by omega
          have q7 : IntKind.i64.wrap (-y) = -y := IntWalk.i64_in _ (by omega)
          have q8 : IntKind.i64.wrap (0 - y) = -y := by rw [IntWalk.i64_in _ (by omega)]; omega
          have hbz : b1 < wi.heap.size := World.block_lt_of_cell? _ _ p1
          have S_of : ∀ w2, Below wi.heap.size wi w2 → w2.cell? ⟨b1, off + j, none⟩ = some (.int .i64 y) := by
            intro w2 hb2
            rw [hb2.cell (p := ⟨b1, off + j, none⟩) hbz]; exact p1
          have HSt := Lib.hid (show canon (timesM (canon (dblIn ys i (dblTo n' ys i) j)) (canon [(unit i, 1), (0, -y)])) = canon (dblIn ys i (dblTo n' ys i) (j + 1)) by
            refine canon_eqv ((timesM_eqv (canon_self _) (canon_self _)).trans ((times_two i (-y) _).trans ?_))
            rw [dblIn, getD_of hy]
            exact Eqv.refl _)
          have HBj := Lib.hid (HBv.out.dblIn (ys := ys) (by omega) j (by omega))
          have hcnt := db_count hb (by omega) HBj.out
          rw [hM.len] at hcnt
          have Hk4 := Lib.hid (show ∀ p ∈ canon (dblIn ys i (dblTo n' ys i) j), inK p.1 from fun p hp => (HBj.out.canon p hp).1)
          have Hk5 := Lib.hid (two_in (i := i) (by omega) (-y))
          have H64 := Lib.hid (show ∀ p ∈ [(unit i, (1 : Int)), (0, -y)], in64 p.2 from fun p hp => by
            simp only [List.mem_cons, List.not_mem_nil, or_false] at hp
            rcases hp with rfl | rfl
            · unfold in64; omega
            · unfold in64; simp only; omega)
          have hlen2 := hM.len
          have Hlen2 := Lib.hid hlen2
          have HM := Lib.hid (fun w2 (h : Below wi.heap.size wi w2) => (hM.below h).rd)
          have d0 : Below wi.heap.size wi wi := Below.refl _ _
          have de : Below wi.heap.size wi wi.drew := Drew.below ⟨1, rfl⟩ _
          have da : Below wi.heap.size wi (wi.alloc (.cells #[.int .i64 (unit i), .int .i64 1, .int .i64 0, .int .i64 (-y)] 67)) := d0.alloc (Nat.le_refl _) _
          have d1 : Below wi.heap.size wi (wi.alloc (.cells #[.int .i64 (unit i), .int .i64 1, .int .i64 0, .int .i64 (-y)] 67)).drew := da.trans (Drew.below ⟨1, rfl⟩ _)
          have hT : MO (wi.alloc (.cells #[.int .i64 (unit i), .int .i64 1, .int .i64 0, .int .i64 (-y)] 67)).drew wi.heap.size (wi.alloc (.cells #[.int .i64 (unit i), .int .i64 1, .int .i64 0, .int .i64 (-y)] 67)).heap.size (some ⟨wi.heap.size, 0, none⟩) 2 2 [(unit i, 1), (0, -y)] := (MO.two wi _ _ _ _).below (Drew.below ⟨1, rfl⟩ _)
          have HT := Lib.hid hT
          have hlc : (canon [(unit i, (1 : Int)), (0, -y)]).length ≤ 2 := canon_le _
          have Hlc := Lib.hid hlc
          clear hcell hy hM hlen2 hlc hT
          go_wp2
          go_region_held3 (fun w' => w'.cell? ⟨b1, off + j, none⟩ = some (.int .i64 y)) ((first | exact S_of _ d0 | exact S_of _ de | exact S_of _ da | exact S_of _ d1 | exact S_of _ ‹_›))
            ((first | (go_at_call 48; refine (l2Unit_any i _ _ rfl (by omega)).mono ?_; rintro e w1 ⟨rfl, rfl⟩) | (go_at_call 47; go_loud (refine (gather_any _ _ _ 2 2 _ _ HT.out (by omega) H64.out).mono ?_); rintro e w5 ⟨a5, n5, c5, rfl, ho5, hb5⟩; have d2 := Below.trans d1 (hb5.mono (Below.size d1))) | (go_at_call 46; go_loud (refine (l2Times_any _ _ _ _ _ _ _ _ _ (HM.out _ d2) ho5.rd Hlen2.out ho5.len (by have h1 := Hlc.out; have h2 := ho5.len; rw [h2] at h1; exact Nat.le_trans (Nat.mul_le_mul hcnt h1) (by omega)) (by omega) (by have h1 := Hlc.out; have h2 := ho5.len; omega) Hk4.out Hk5.out).mono ?_); rintro e w6 ⟨a6, n6, c6, rfl, ho6, hb6⟩; have d3 := d2.trans (hb6.mono d2.size))))
          have hB2 := hB.trans (d3.mono hB.size)
          rw [HSt.out] at ho6
          have HM2 := Lib.hid (ho6.mono (B' := w.heap.size) (S' := w6.heap.size) (Nat.le_trans hB.size d2.size) (Nat.le_refl _))
          clear ho6 ho5 S_of d0 de da d1 d2 d3 hb5 hb6 HM HT
          go_wp2
          go_roundw
          case rel => exact ⟨⟨j + 1, _, _, _, by go_num, by omega, rfl, HM2.out⟩, hB2⟩
          case measure => clear q7 q8; simp [intOf]; omega
        · obtain rfl : j = m := by omega
          have HF := Lib.hid (show MO wi w.heap.size wi.heap.size a2 n2 c2 (canon (dblTo n' ys (i + 1))) by rw [HD.out]; exact hM)
          have q2 : ¬ (i : Int) + (j : Int) + 1 < (n' : Int) := by omega
          clear hM
          go_wp2
          go_roundw
          case rel => exact ⟨⟨i + 1, _, _, _, by go_num, by omega, rfl, HF.out⟩, hB⟩
          case measure => simp [intOf]; omega
    · obtain rfl : i = n' := by omega
      have hr2 := hr.below hB
      have HM := Lib.hid hM
      have HS := Lib.hid (Bv.dblTop (n := i) (ys := ys) (by omega))
      clear hM
      go_wp2_with fail
      refine (l3Up_any _ _ _ xs _ hr2 Hn.out (by omega) HNx.out).mono ?_
      rintro e w3 ⟨a3, L, c3, rfl, ho3, hb3⟩
      have hB3 := hB.trans (hb3.mono hB.size)
      have Hr3 := Lib.hid ho3.rd
      have Hl3 := Lib.hid (show (ups xs).length = L by have := ho3.len; simpa [natI] using this)
      have HF0 := Lib.hid (show MO w3 w.heap.size w3.heap.size a1 n1 c1 (canon (((ups xs).drop L).foldr dividedM (dblTo i ys i))) by
        rw [List.drop_of_length_le (by rw [Hl3.out]; exact Nat.le_refl _), List.foldr_nil]
        exact (HM.out.below hb3).mono (Nat.le_refl _) hb3.size)
      have hL : L ≤ 1000000 := by have := HupL.out; have h2 := Hl3.out; omega
      clear ho3 HM hr2
      have q0 : IntKind.i64.wrap ((L : Int) - 1) = (L : Int) - 1 := IntWalk.i64_in _ (by omega)
      go_wp2
      go_loopw [5, 9] (fun fv iv wr => Hid (∃ (j : Nat) (a' : Option Addr) (n' c' : Nat), j ≤ L ∧ iv = .int .i64 ((j : Int) - 1) ∧ fv = .slice a' n' c' ∧ MO wr w.heap.size wr.heap.size a' n' c' (canon (((ups xs).drop j).foldr dividedM (dblTo i ys i)))) ∧ Below w3.heap.size w3 wr) (fun _ iv _ => (intOf iv + 1).toNat)
      case atStart => exact ⟨⟨L, _, _, _, Nat.le_refl _, rfl, rfl, HF0.out⟩, Below.refl _ _⟩
      case round =>
        clear HF0 q0 hB
        obtain ⟨HV, hB⟩ := hrel
        obtain ⟨wq, rfl⟩ : ∃ wq : World, wq = wr := ⟨_, rfl⟩
        obtain ⟨j, a4, n4, c4, hj, rfl, rfl, hM⟩ := HV.out
        clear HV
        have hBw := hB3.trans (hB.mono hB3.size)
        rcases j with _ | j
        · rw [List.drop_zero] at hM
          have HM := Lib.hid (show MO wq w.heap.size wq.heap.size a4 n4 c4 (canon (dblM xs ys)) by unfold dblM; rw [Hn.out]; exact hM)
          clear hM
          go_wp2
          go_ret
          exact ⟨_, _, _, rfl, HM.out, hBw⟩
        · obtain ⟨k, hk⟩ : ∃ k, (ups xs)[j]? = some k := ⟨(ups xs)[j]'(by rw [Hl3.out]; omega), List.getElem?_eq_getElem _⟩
          have hk5 := Hu.out k (List.mem_of_getElem? hk)
          obtain ⟨b, off, rfl, hcell⟩ := (Hr3.out.below hB).at (k := j) (by rw [natI, List.length_map, Hl3.out]; omega)
          have p1 := hcell j (k : Int) (by rw [natI, List.getElem?_map, hk]; rfl)
          have hF7 : Bv (sb i) (((ups xs).drop (j + 1)).foldr dividedM (dblTo i ys i)) := sb_low (by omega) HS.out _ (fun q hq => Hu.out q (List.mem_of_mem_drop hq))
          have Hst := Lib.hid (show canon (dividedM k (canon (((ups xs).drop (j + 1)).foldr dividedM (dblTo i ys i)))) = canon (((ups xs).drop j).foldr dividedM (dblTo i ys i)) by
            rw [drop_at hk, List.foldr_cons]
            exact canon_eqv (dividedM_eqv (canon_self _)))
          have hcnt := (hF7.mono (c := sb 5) fun t _ => by unfold sb; omega).count
          have hcnt' : (canon (((ups xs).drop (j + 1)).foldr dividedM (dblTo i ys i))).length ≤ 120 := hcnt
          have Hlen := Lib.hid hM.len
          rw [Hlen.out] at hcnt'
          have Hk4 := Lib.hid (show ∀ p ∈ canon (((ups xs).drop (j + 1)).foldr dividedM (dblTo i ys i)), inK p.1 ∧ in64 p.2 from fun p hp => ⟨(hF7.canon p hp).1, canon_64 _ p hp⟩)
          have HM := Lib.hid hM
          clear hM hk hcell hF7 hcnt
          have e1 : ((j + 1 : Nat) : Int) - 1 = (j : Int) := by omega
          rw [e1]
          have q1 : (j : Int) < (L : Int) := by omega
          have q2 : (0 : Int) ≤ (j : Int) := by omega
          have q5 : IntKind.i64.wrap ((j : Int) - 1) = (j : Int) - 1 := IntWalk.i64_in _ (by omega)
          clear e1
          go_wp2_with fail
          refine (l2Divided_any k _ _ _ _ _ _ HM.out.rd Hlen.out (by omega) rfl (by omega) Hk4.out (Nat.le_trans (dividedW_le _ _) (by rw [Hlen.out]; omega))).mono ?_
          rintro e w5 ⟨a5, n5, c5, rfl, ho5, hb5⟩
          rw [Hst.out] at ho5
          have HM5 := Lib.hid (ho5.mono (B' := w.heap.size) (S' := w5.heap.size) hBw.size (Nat.le_refl _))
          have hB5 := hB.trans (hb5.mono hB.size)
          clear ho5 hb5 HM
          go_wp2
          go_roundw
          case rel => exact ⟨⟨j, _, _, _, by omega, rfl, rfl, HM5.out⟩, hB5⟩
          case measure => clear q5; simp [intOf]
end Go.Proofs.Ytjljacmepidgcaa

namespace Go.Proofs.Ytjljacmepidgcaa
open Go.RowKit

theorem undIntZ : Try.prog.underlying 3 = some (.int .i64) := by kernel_rfl
def zs (k : Nat) : List Value := List.replicate k (Value.int .i64 0)
theorem zerosZ (k : Nat) : Builtin.zeroCells (Value.cells (.int .i64 0)) k = (zs k).toArray := by
  apply Array.ext'
  apply List.ext_getElem?
  intro j
  simp only [Builtin.zeroCells, zs, Value.cells]
  simp [List.getElem?_replicate]
  by_cases h : j < k <;> simp [h, Nat.mod_one]
theorem zs_ints (k : Nat) : ints (List.replicate k 0) = zs k := by simp [ints, zs]
theorem zs_one (k : Nat) : ∀ u ∈ zs k, u.oneCell' = true := fun u hu => by rw [List.eq_of_mem_replicate hu]; rfl
section
variable {w : World} {ty : TypeId} {k : Nat} (hk : 0 < k) (hk2 : k ≤ 1000)
include hk hk2
theorem run_appZ_room {g n c : Nat} {cur : Array Value} (hg : w.heap[g]? = some (.cells cur 3 (0, 0))) (hroom : n + k ≤ c) (hcs : cur.size = c) :
    (Builtin.append_ #[24, 3] ty #[.slice (some ⟨g, 0, none⟩) n c, .int .i64 (k : Int)]).run Try.prog w = .ok (.slice (some ⟨g, 0, none⟩) (n + k) c) (w.setRow g (cur.toList.take n ++ zs k ++ cur.toList.drop (n + k)).toArray) := by
  obtain ⟨i0, hi, hz, hz1, hz2⟩ := info_parts Try.info3
  have hwrap : IntKind.i64.wrap (k : Int) = (k : Int) := IntWalk.i64_in _ (by omega)
  have hneg : ¬ (k : Int) < 0 := by omega
  have h48 : ¬ (281474976710656 : Int) < (k : Int) * 8 := by omega
  have hk0 : ¬ k = 0 := by omega
  have hst := run_storeCells_at Try.prog g n 3 (zs k) 0 cur w hg (by simp [zs]; omega) (zs_one k)
  have hl : (zs k).length = k := by simp [zs]
  simp only [Nat.add_zero, hl] at hst
  simp [Builtin.append_, run_underlying undIntZ, run_underlying Try.underlying24, sizeOf, typeInfo, zeroValue, hi, hz, hz1, hz2, hroom, Addr.add_lit, hst, hwrap, hneg, h48, hk0, zerosZ, asInt, asIntOf]
theorem run_appZ_grow {g n c : Nat} {xs : List Value} (hxl : xs.length = n) (holds : ∀ j v, xs[j]? = some v → w.cell? ((⟨g, 0, none⟩ : Addr).add j) = some v) (hroom : ¬ n + k ≤ c) (hn : n ≤ 1000) (_hc : c ≤ 1000) :
    (Builtin.append_ #[24, 3] ty #[.slice (some ⟨g, 0, none⟩) n c, .int .i64 (k : Int)]).run Try.prog w = .ok (.slice (some ⟨w.heap.size, 0, none⟩) (n + k) (grownCap w (n + k) c 3))
      (w.drew.alloc (.cells (xs.toArray ++ (zs k).toArray ++ Builtin.zeroCells (Value.cells (.int .i64 0)) (grownCap w (n + k) c 3 - (n + k))) 3)) := by
  obtain ⟨i0, hi, hz, hz1, hz2⟩ := info_parts Try.info3
  have hwrap : IntKind.i64.wrap (k : Int) = (k : Int) := IntWalk.i64_in _ (by omega)
  have hneg : ¬ (k : Int) < 0 := by omega
  have h48 : ¬ (281474976710656 : Int) < (k : Int) * 8 := by omega
  have hk0 : ¬ k = 0 := by omega
  have hfo := run_firstCells_some (P := Try.prog) w.drew 1 n ⟨g, 0, none⟩ n c xs (by omega) (by simpa using holds)
  have h63' : ¬ (9223372036854775807 < ((n : Int) + (k : Int))) := by omega
  have h48' : ¬ (281474976710656 < Builtin.nextslicecap (n + k) c * 8) := by have := growslice_fits (need := n + k) (old := c) (bytes := 8) (by omega) (by omega); omega
  simp [Builtin.append_, run_underlying undIntZ, run_underlying Try.underlying24, sizeOf, typeInfo, zeroValue, hi, hz, hz1, hz2, hroom, hwrap, hneg, h48, hk0, zerosZ, asInt, asIntOf, h63', h48', Question.forced, hfo, newRow, grownCap]
end
theorem run_appZ {w : World} {ty : TypeId} {B S : Nat} {a : Option Addr} {n c : Nat} {xs : List Int} (hown : OwI w B S a n c xs) (k : Nat) (hn0 : 0 < n) (hk : 0 < k) (hn : n + k ≤ 1000) (hbase : B ≤ w.heap.size) :
    ∃ a' c' w', (Builtin.append_ #[24, 3] ty #[.slice a n c, .int .i64 (k : Int)]).run Try.prog w = .ok (.slice a' (n + k) c') w' ∧ OwI w' B w'.heap.size a' (n + k) c' (xs ++ List.replicate k 0) ∧ w.grownBy w' (Value.slice a n c).ownBlock := by
  have hown1 := hown.1.own
  have hxl : (ints xs).length = n := by rw [hown1.1, Nat.mul_one]
  have hlz : (zs k).length = k := by simp [zs]
  have hlen : (ints xs ++ zs k).length = (n + k) * 1 := by simp [hxl, hlz]
  have e0 : ints (xs ++ List.replicate k 0) = ints xs ++ zs k := by rw [← zs_ints]; simp [ints]
  rcases hown1.2 with ⟨h0, _⟩ | ⟨g, cap, cur, hv, hbg, hg, hnc, hcm, hcs, htake⟩
  · simp only [Value.slice.injEq] at h0
    omega
  · simp only [Value.slice.injEq] at hv
    obtain ⟨rfl, _, rfl⟩ := hv
    rw [Nat.mul_one] at hcs htake
    by_cases hroom : n + k ≤ c
    · refine ⟨_, _, _, run_appZ_room hk (by omega) hg hroom hcs, OwI.mk ?_, ⟨rfl, rfl, rfl, by simp, fun j _ hj => setRow_other w g j _ (fun e => hj (by simp [Value.ownBlock, e]))⟩⟩
      rw [e0]
      refine ⟨hlen, .inr ⟨g, c, _, rfl, hbg, setRow_heap w g cur _ 3 _ hg, hroom, hcm, ?_, ?_⟩⟩
      · simp only [List.size_toArray, List.length_append, List.length_take, List.length_drop, Array.length_toList, hlz]
        omega
      · rw [htake, ← hlen]
        exact List.take_left
    · have holds : ∀ j u, (ints xs)[j]? = some u → w.cell? ((⟨g, 0, none⟩ : Addr).add j) = some u := hown1.cells (g := g) rfl
      have hge := grownCap_ge w (n + k) c 3
      have hcm2 : grownCap w (n + k) c 3 ≤ maxLen := grownCap_le_maxLen w (n + k) c 3 (by unfold maxLen; omega)
      refine ⟨_, _, _, run_appZ_grow hk (by omega) hxl holds hroom (by omega) (by omega), OwI.mk ?_, ⟨rfl, rfl, rfl, by simp, fun j hj _ => heap_alloc_old w.drew _ (by simpa using hj)⟩⟩
      rw [e0]
      refine ⟨hlen, .inr ⟨w.heap.size, _, _, rfl, hbase, heap_alloc_new w.drew _, hge, hcm2, ?_, ?_⟩⟩
      · simp only [Array.size_append, List.size_toArray, size_zeroCells, hxl, hlz]
        simp [Value.cells]
        omega
      · simp only [Array.toList_append, List.append_assoc]
        rw [← List.append_assoc, ← hlen]
        exact List.take_left
theorem wpList_appZ {w : World} {ops : Array Oper} {rest : List Oper} {o : Oper} {ac : Act} {Q : Exit → Act → World → Prop} (hgd : o.guard = none) (s x : Operand)
    (ho : o.op = .call { callee := .builtin .append, args := #[s, x], argTypes := #[24, 3] })
    {B S : Nat} {a : Option Addr} {n c : Nat} {xs : List Int} (hown : OwI w B S a n c xs) (hs : ac.eval s = .slice a n c) {k : Nat} (hx : ac.eval x = .int .i64 (k : Int)) (hn0 : 0 < n) (hk : 0 < k) (hn : n + k ≤ 1000) (hbase : B ≤ w.heap.size)
    (h : ∀ a' c' w', OwI w' B w'.heap.size a' (n + k) c' (xs ++ List.replicate k 0) → w.grownBy w' (Value.slice a n c).ownBlock → wpList Try.prog ops Q rest (ac.put o.dst (.slice a' (n + k) c')) w') :
    wpList Try.prog ops Q (o :: rest) ac w :=
  wpList_plain hgd fun _ hK => by
    obtain ⟨a', c', w', hr, h2, h3⟩ := run_appZ (ty := o.type) hown k hn0 hk hn hbase
    unfold Oper.wp execOp
    simp only [ho, resolve, invoke, builtin, Sem.run_bind, Sem.run_pure, Result.andThen_ok, List.map_toArray, List.map_cons, List.map_nil, hs, hx, hr]
    exact hK _ _ (h a' c' w' h2 h3)
end Go.Proofs.Ytjljacmepidgcaa

namespace Go.Proofs.Ytjljacmepidgcaa
open Go.RowKit

def PostT (w : World) (T : List (List Int × Int)) (ok : Bool) (e : Ending) (w' : World) : Prop :=
  ∃ a' n' c' r, e = .returned (.tuple #[.slice a' n' c', .bool r]) ∧ TO w' w.heap.size w'.heap.size a' n' c' T ∧ Hid (r = ok) ∧ Below w.heap.size w w'
end Go.Proofs.Ytjljacmepidgcaa
