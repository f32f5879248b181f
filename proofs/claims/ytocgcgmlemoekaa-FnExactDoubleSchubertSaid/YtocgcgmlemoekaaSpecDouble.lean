/-
  DoubleSchubert of the reference, and both.
-/
import Derived.Test.YtocgcgmlemoekaaDouble
import Derived.Test.YtocgcgmlemoekaaGather
import Derived.Test.YtocgcgmlemoekaaBuE
namespace Go.Proofs.Ytocgcgmlemoekaa
open Go.RowKit

theorem wsum_raised (i : Nat) (F : Mons) (v : Int → Int) : wsum (raisedM i F) v = wsum F fun k => v (k + unit i) := by
  unfold raisedM
  induction F with
  | nil => rfl
  | cons p F ih => rw [List.map_cons, wsum, wsum, ih]
theorem wsum_scale (c : Int) (F : Mons) (v : Int → Int) : wsum (scaleM c F) v = c * wsum F v := by
  unfold scaleM
  induction F with
  | nil => simp [wsum]
  | cons p F ih => rw [List.map_cons, wsum, wsum, ih, Int.mul_add, Int.mul_assoc]
theorem times_two (i : Nat) (c : Int) (F : Mons) : Eqv (timesM F [(unit i, 1), (0, c)]) (plusM (raisedM i F) c F) := Eqv.of_wsum fun v => by
  rw [wsum_times]
  unfold plusM
  rw [wsum_append, wsum_raised, wsum_scale]
  have : wsum F (fun k => wsum [(unit i, 1), (0, c)] fun j => v (k + j)) = wsum F (fun k => v (k + unit i)) + c * wsum F v := by
    induction F with
    | nil => simp [wsum]
    | cons p F ih =>
      rw [wsum, ih, wsum, wsum]
      simp only [wsum, Int.one_mul, Int.add_zero]
      rw [Int.mul_add, Int.mul_add, ← Int.mul_assoc, Int.mul_comm p.2 c, Int.mul_assoc]
      omega
  rw [this, Int.sub_self]
  exact Int.dvd_zero _
theorem MO.two (w : World) (p q r s : Int) : MO (w.alloc (.cells #[.int .i64 p, .int .i64 q, .int .i64 r, .int .i64 s] 88)) w.heap.size (w.alloc (.cells #[.int .i64 p, .int .i64 q, .int .i64 r, .int .i64 s] 88)).heap.size (some ⟨w.heap.size, 0, none⟩) 2 2 [(p, q), (r, s)] :=
  MO.mk ⟨rfl, .inr ⟨w.heap.size, 2, #[.int .i64 p, .int .i64 q, .int .i64 r, .int .i64 s], rfl, Nat.le_refl _, heap_alloc_new w _, Nat.le_refl _, by unfold maxLen; omega, rfl, rfl⟩⟩
theorem two_in {i : Nat} (hi : i ≤ 6) (c : Int) : ∀ p ∈ canon [(unit i, 1), (0, c)], inK p.1 := fun p hp => by
  obtain ⟨q, hq, e⟩ := mem_canon hp
  rw [← e]
  simp only [List.mem_cons, List.not_mem_nil, or_false] at hq
  rcases hq with rfl | rfl
  · exact unit_in hi
  · unfold inK; omega
theorem db_count {n i j : Nat} {F : Mons} (hn : n ≤ 5) (hj : i + j + 1 ≤ n) (h : Bv (db n i j) F) : (canon F).length ≤ 120 :=
  (h.mono (c := sb 5) fun t _ => by
    unfold db sb
    split
    · omega
    · split <;> omega).count

set_option maxRecDepth 100000 in
set_option maxHeartbeats 6400000 in
theorem l3Double_any (a : Option Addr) (n c : Nat) (xs : List Int) (a' : Option Addr) (n' c' : Nat) (ys : List Int) (w : World) (hr : RI w a xs) (hn : xs.length = n) (hb : n ≤ 5) (hr' : RI w a' ys) (hn' : ys.length = n) (hnn : n' = n) (h9 : In9 ys) :
    Calls Try.prog 86 #[.slice a n c, .slice a' n' c'] w fun e w' => ∃ a4 n4 c4, e = .returned (.slice a4 n4 c4) ∧ MO w' w.heap.size w'.heap.size a4 n4 c4 (canon (dblM xs ys)) ∧ Below w.heap.size w w' := by
  subst hnn
  have Hn := Lib.hid hn
  have Hn' := Lib.hid hn'
  have H9 := Lib.hid h9
  have HupL := Lib.hid (show (ups xs).length ≤ 1000000 by have h1 := upf_le (nin xs) xs; have h2 := nin_small (v := xs) (by omega); unfold ups; omega)
  have HNx := Lib.hid (show nin xs ≤ 1000000 by have h2 := nin_small (v := xs) (by omega); omega)
  have Hu := Lib.hid (show ∀ k ∈ ups xs, k + 1 < n' from fun k hk => by have := ups_lt xs k hk; rw [hn] at this; exact this)
  have hMo := MO.one w 0 1
  have hBa : Below w.heap.size w (w.alloc (.cells #[.int .i64 0, .int .i64 1] 88)) := (Below.refl _ _).alloc (Nat.le_refl _) _
  have HM0 := Lib.hid (show MO (w.alloc (.cells #[.int .i64 0, .int .i64 1] 88)) w.heap.size (w.alloc (.cells #[.int .i64 0, .int .i64 1] 88)).heap.size (some ⟨w.heap.size, 0, none⟩) 1 1 (canon (dblTo n' ys 0)) by
    rw [dblTo, canon_one (by decide) (by unfold in64; omega)]
    exact hMo)
  clear hMo hn hn' h9
  go_enter Try.func86, Try.ntmps86
  go_wp2
  go_loopw [5, 6] (fun fv iv wr => Hid (∃ (i : Nat) (a1 : Option Addr) (n1 c1 : Nat), iv = .int .i64 i ∧ i ≤ n' ∧ fv = .slice a1 n1 c1 ∧ MO wr w.heap.size wr.heap.size a1 n1 c1 (canon (dblTo n' ys i))) ∧ Below w.heap.size w wr) (fun _ iv _ => n' - (intOf iv).toNat)
  case atStart => exact ⟨⟨0, _, _, _, rfl, Nat.zero_le _, rfl, HM0.out⟩, hBa⟩
  case round =>
    clear HM0 hBa
    obtain ⟨HV, hB⟩ := hrel
    obtain ⟨wo, rfl⟩ : ∃ wo : World, wo = wr := ⟨_, rfl⟩
    obtain ⟨i, a1, n1, c1, rfl, hi, rfl, hM⟩ := HV.out
    clear HV
    by_cases hlt : i < n'
    · have HM := Lib.hid hM
      clear hM
      obtain ⟨m, hm⟩ : ∃ m, n' - 1 - i = m := ⟨_, rfl⟩
      have q1 : (i : Int) < (n' : Int) := by omega
      have HD := Lib.hid (show dblTo n' ys (i + 1) = dblIn ys i (dblTo n' ys i) m by rw [dblTo, hm])
      have HBv := Lib.hid (show Bv (db n' i 0) (dblTo n' ys i) from Bv.dblTo (by omega) i hi)
      have hmi : i + m + 1 = n' := by omega
      clear hm
      go_wp2
      go_loopw [5, 7] (fun fv jv wr => Hid (∃ (j : Nat) (a1 : Option Addr) (n1 c1 : Nat), jv = .int .i64 j ∧ j ≤ m ∧ fv = .slice a1 n1 c1 ∧ MO wr w.heap.size wr.heap.size a1 n1 c1 (canon (dblIn ys i (dblTo n' ys i) j))) ∧ Below w.heap.size w wr) (fun _ jv _ => m - (intOf jv).toNat)
      case atStart => exact ⟨⟨0, _, _, _, rfl, Nat.zero_le _, rfl, HM.out⟩, hB⟩
      case round =>
        clear HM hB
        obtain ⟨HV, hB⟩ := hrel
        obtain ⟨wi, rfl⟩ : ∃ wi : World, wi = wr := ⟨_, rfl⟩
        obtain ⟨j, a2, n2, c2, rfl, hj, rfl, hM⟩ := HV.out
        clear HV
        by_cases hlt2 : j < m
        · obtain ⟨y, hy⟩ := some_at Hn'.out (show j < n' by omega)
          obtain ⟨b1, off, rfl, hcell⟩ := (hr'.below hB).at (k := j) (by rw [Hn'.out]; omega)
          have p1 := hcell j y hy
          have hy9 := H9.out y (List.mem_of_getElem? hy)
          have q2 : (i : Int) + (j : Int) + 1 < (n' : Int) := by omega
          have q5 : (j : Int) < (n' : Int) := by omega
          have q6 : (0 : Int) ≤ (j : Int) := by omega
          have q7 : IntKind.i64.wrap (-y) = -y := IntWalk.i64_in _ (by omega)
          have q8 : IntKind.i64.wrap (0 - y) = -y := by rw [IntWalk.i64_in _ (by omega)]; omega
          have hbz : b1 < wi.heap.size := World.block_lt_of_cell? _ _ p1
          have S_of : ∀ w2, Below wi.heap.size wi w2 → w2.cell? ⟨b1, off + j, none⟩ = some (.int .i64 y) := by
            intro w2 hb2
            rw [hb2.cell (p := ⟨b1, off + j, none⟩) hbz]; exact p1
          have HSt := Lib.hid (show canon (timesM (canon (dblIn ys i (dblTo n' ys i) j)) (canon [(unit i, 1), (0, -y)])) = canon (dblIn ys i (dblTo n' ys i) (j + 1)) by
            refine canon_eqv ((timesM_eqv (canon_self _) (canon_self _)).trans ((times_two i (-y) _).trans ?_))
            rw [dblIn, getD_of hy]
            exact Eqv.refl _)
          have HBj := Lib.hid (HBv.out.dblIn (ys := ys) (by omega) j (by omega))
          have hcnt := db_count hb (by omega) HBj.out
          rw [hM.len] at hcnt
          have Hk4 := Lib.hid (show ∀ p ∈ canon (dblIn ys i (dblTo n' ys i) j), inK p.1 from fun p hp => (HBj.out.canon p hp).1)
          have Hk5 := Lib.hid (two_in (i := i) (by omega) (-y))
          have H64 := Lib.hid (show ∀ p ∈ [(unit i, (1 : Int)), (0, -y)], in64 p.2 from fun p hp => by
            simp only [List.mem_cons, List.not_mem_nil, or_false] at hp
            rcases hp with rfl | rfl
            · unfold in64; omega
            · unfold in64; simp only; omega)
          have hlen2 := hM.len
          have Hlen2 := Lib.hid hlen2
          have HM := Lib.hid (fun w2 (h : Below wi.heap.size wi w2) => (hM.below h).rd)
          have d0 : Below wi.heap.size wi wi := Below.refl _ _
          have de : Below wi.heap.size wi wi.drew := Drew.below ⟨1, rfl⟩ _
          have da : Below wi.heap.size wi (wi.alloc (.cells #[.int .i64 (unit i), .int .i64 1, .int .i64 0, .int .i64 (-y)] 88)) := d0.alloc (Nat.le_refl _) _
          have d1 : Below wi.heap.size wi (wi.alloc (.cells #[.int .i64 (unit i), .int .i64 1, .int .i64 0, .int .i64 (-y)] 88)).drew := da.trans (Drew.below ⟨1, rfl⟩ _)
          have hT : MO (wi.alloc (.cells #[.int .i64 (unit i), .int .i64 1, .int .i64 0, .int .i64 (-y)] 88)).drew wi.heap.size (wi.alloc (.cells #[.int .i64 (unit i), .int .i64 1, .int .i64 0, .int .i64 (-y)] 88)).heap.size (some ⟨wi.heap.size, 0, none⟩) 2 2 [(unit i, 1), (0, -y)] := (MO.two wi _ _ _ _).below (Drew.below ⟨1, rfl⟩ _)
          have HT := Lib.hid hT
          have hlc : (canon [(unit i, (1 : Int)), (0, -y)]).length ≤ 2 := canon_le _
          have Hlc := Lib.hid hlc
          clear hcell hy hM hlen2 hlc hT
          go_wp2
          go_region_held3 (fun w' => w'.cell? ⟨b1, off + j, none⟩ = some (.int .i64 y)) ((first | exact S_of _ d0 | exact S_of _ de | exact S_of _ da | exact S_of _ d1 | exact S_of _ ‹_›))
            ((first | (go_at_call 162; refine (l2Unit_any i _ _ rfl (by omega)).mono ?_; rintro e w1 ⟨rfl, rfl⟩) | (go_at_call 166; go_loud (refine (gather_any _ _ _ 2 2 _ _ HT.out (by omega) H64.out).mono ?_); rintro e w5 ⟨a5, n5, c5, rfl, ho5, hb5⟩; have d2 := Below.trans d1 (hb5.mono (Below.size d1))) | (go_at_call 161; go_loud (refine (l2Times_any _ _ _ _ _ _ _ _ _ (HM.out _ d2) ho5.rd Hlen2.out ho5.len (by have h1 := Hlc.out; have h2 := ho5.len; rw [h2] at h1; exact Nat.le_trans (Nat.mul_le_mul hcnt h1) (by omega)) (by omega) (by have h1 := Hlc.out; have h2 := ho5.len; omega) Hk4.out Hk5.out).mono ?_); rintro e w6 ⟨a6, n6, c6, rfl, ho6, hb6⟩; have d3 := d2.trans (hb6.mono d2.size))))
          have hB2 := hB.trans (d3.mono hB.size)
          rw [HSt.out] at ho6
          have HM2 := Lib.hid (ho6.mono (B' := w.heap.size) (S' := w6.heap.size) (Nat.le_trans hB.size d2.size) (Nat.le_refl _))
          clear ho6 ho5 S_of d0 de da d1 d2 d3 hb5 hb6 HM HT
          go_wp2
          go_roundw
          case rel => exact ⟨⟨j + 1, _, _, _, by go_num, by omega, rfl, HM2.out⟩, hB2⟩
          case measure => clear q7 q8; simp [intOf]; omega
        · obtain rfl : j = m := by omega
          have HF := Lib.hid (show MO wi w.heap.size wi.heap.size a2 n2 c2 (canon (dblTo n' ys (i + 1))) by rw [HD.out]; exact hM)
          have q2 : ¬ (i : Int) + (j : Int) + 1 < (n' : Int) := by omega
          clear hM
          go_wp2
          go_roundw
          case rel => exact ⟨⟨i + 1, _, _, _, by go_num, by omega, rfl, HF.out⟩, hB⟩
          case measure => simp [intOf]; omega
    · obtain rfl : i = n' := by omega
      have hr2 := hr.below hB
      have HM := Lib.hid hM
      have HS := Lib.hid (Bv.dblTop (n := i) (ys := ys) (by omega))
      clear hM
      go_wp2_with fail
      refine (l3Up_any _ _ _ xs _ hr2 Hn.out (by omega) HNx.out).mono ?_
      rintro e w3 ⟨a3, L, c3, rfl, ho3, hb3⟩
      have hB3 := hB.trans (hb3.mono hB.size)
      have Hr3 := Lib.hid ho3.rd
      have Hl3 := Lib.hid (show (ups xs).length = L by have := ho3.len; simpa [natI] using this)
      have HF0 := Lib.hid (show MO w3 w.heap.size w3.heap.size a1 n1 c1 (canon (((ups xs).drop L).foldr dividedM (dblTo i ys i))) by
        rw [List.drop_of_length_le (by rw [Hl3.out]; exact Nat.le_refl _), List.foldr_nil]
        exact (HM.out.below hb3).mono (Nat.le_refl _) hb3.size)
      have hL : L ≤ 1000000 := by have := HupL.out; have h2 := Hl3.out; omega
      clear ho3 HM hr2
      have q0 : IntKind.i64.wrap ((L : Int) - 1) = (L : Int) - 1 := IntWalk.i64_in _ (by omega)
      go_wp2
      go_loopw [5, 9] (fun fv iv wr => Hid (∃ (j : Nat) (a' : Option Addr) (n' c' : Nat), j ≤ L ∧ iv = .int .i64 ((j : Int) - 1) ∧ fv = .slice a' n' c' ∧ MO wr w.heap.size wr.heap.size a' n' c' (canon (((ups xs).drop j).foldr dividedM (dblTo i ys i)))) ∧ Below w3.heap.size w3 wr) (fun _ iv _ => (intOf iv + 1).toNat)
      case atStart => exact ⟨⟨L, _, _, _, Nat.le_refl _, rfl, rfl, HF0.out⟩, Below.refl _ _⟩
      case round =>
        clear HF0 q0 hB
        obtain ⟨HV, hB⟩ := hrel
        obtain ⟨wq, rfl⟩ : ∃ wq : World, wq = wr := ⟨_, rfl⟩
        obtain ⟨j, a4, n4, c4, hj, rfl, rfl, hM⟩ := HV.out
        clear HV
        have hBw := hB3.trans (hB.mono hB3.size)
        rcases j with _ | j
        · rw [List.drop_zero] at hM
          have HM := Lib.hid (show MO wq w.heap.size wq.heap.size a4 n4 c4 (canon (dblM xs ys)) by unfold dblM; rw [Hn.out]; exact hM)
          clear hM
          go_wp2
          go_ret
          exact ⟨_, _, _, rfl, HM.out, hBw⟩
        · obtain ⟨k, hk⟩ : ∃ k, (ups xs)[j]? = some k := ⟨(ups xs)[j]'(by rw [Hl3.out]; omega), List.getElem?_eq_getElem _⟩
          have hk5 := Hu.out k (List.mem_of_getElem? hk)
          obtain ⟨b, off, rfl, hcell⟩ := (Hr3.out.below hB).at (k := j) (by rw [natI, List.length_map, Hl3.out]; omega)
          have p1 := hcell j (k : Int) (by rw [natI, List.getElem?_map, hk]; rfl)
          have hF7 : Bv (sb i) (((ups xs).drop (j + 1)).foldr dividedM (dblTo i ys i)) := sb_low (by omega) HS.out _ (fun q hq => Hu.out q (List.mem_of_mem_drop hq))
          have Hst := Lib.hid (show canon (dividedM k (canon (((ups xs).drop (j + 1)).foldr dividedM (dblTo i ys i)))) = canon (((ups xs).drop j).foldr dividedM (dblTo i ys i)) by
            rw [drop_at hk, List.foldr_cons]
            exact canon_eqv (dividedM_eqv (canon_self _)))
          have hcnt := (hF7.mono (c := sb 5) fun t _ => by unfold sb; omega).count
          have hcnt' : (canon (((ups xs).drop (j + 1)).foldr dividedM (dblTo i ys i))).length ≤ 120 := hcnt
          have Hlen := Lib.hid hM.len
          rw [Hlen.out] at hcnt'
          have Hk4 := Lib.hid (show ∀ p ∈ canon (((ups xs).drop (j + 1)).foldr dividedM (dblTo i ys i)), inK p.1 ∧ in64 p.2 from fun p hp => ⟨(hF7.canon p hp).1, canon_64 _ p hp⟩)
          have HM := Lib.hid hM
          clear hM hk hcell hF7 hcnt
          have e1 : ((j + 1 : Nat) : Int) - 1 = (j : Int) := by omega
          rw [e1]
          have q1 : (j : Int) < (L : Int) := by omega
          have q2 : (0 : Int) ≤ (j : Int) := by omega
          have q5 : IntKind.i64.wrap ((j : Int) - 1) = (j : Int) - 1 := IntWalk.i64_in _ (by omega)
          clear e1
          go_wp2_with fail
          refine (l2Divided_any k _ _ _ _ _ _ HM.out.rd Hlen.out (by omega) rfl (by omega) Hk4.out (Nat.le_trans (dividedW_le _ _) (by rw [Hlen.out]; omega))).mono ?_
          rintro e w5 ⟨a5, n5, c5, rfl, ho5, hb5⟩
          rw [Hst.out] at ho5
          have HM5 := Lib.hid (ho5.mono (B' := w.heap.size) (S' := w5.heap.size) hBw.size (Nat.le_refl _))
          have hB5 := hB.trans (hb5.mono hB.size)
          clear ho5 hb5 HM
          go_wp2
          go_roundw
          case rel => exact ⟨⟨j, _, _, _, by omega, rfl, rfl, HM5.out⟩, hB5⟩
          case measure => clear q5; simp [intOf]
end Go.Proofs.Ytocgcgmlemoekaa
