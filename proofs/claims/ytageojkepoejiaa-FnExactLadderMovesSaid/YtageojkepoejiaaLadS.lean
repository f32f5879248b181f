/-
  Contract of LadderMoves, the reference's.
-/
import Derived.Test.YtageojkepoejiaaLadLaw
import Derived.Test.YtageojkepoejiaaL3Put
import Derived.Test.YtageojkepoejiaaDream2
namespace Go.Proofs.Ytageojkepoejiaa
open Go.RowKit Go.Shelf Go.Sort

set_option maxRecDepth 100000 in
set_option maxHeartbeats 6400000 in
theorem specLad_any (N : Int) (a : Option Addr) (n c : Nat) (xs : List (Int × Int)) (w : World) (hl : -9223372036854775808 ≤ N) (hu : N ≤ 9223372036854775807) (hr : RC w a xs) (hn : xs.length = n) (hb : n ≤ 1048576) (_hs : Short_C xs) (hcap : n ≤ c) :
    Calls Try.prog 18 #[.int .i64 N, .slice a n c] w fun e w' => ∃ a' n' c', e = .returned (.slice a' n' c') ∧ CCS w' w.heap.size w'.heap.size a' n' c' (ladders N xs) ∧ Below w.heap.size w w' := by
  have Hn := Lib.hid hn; clear hn
  cases hd : isDream N xs
  · have Hd := Lib.hid hd
    have Hl := Lib.hid (show ladders N xs = [] by rw [ladders, if_neg (by rw [hd]; simp)])
    clear hd
    go_enter Try.func18, Try.ntmps18
    go_wp2_with fail
    refine (is (specDream_any N _ _ _ xs _ hl hu hr Hn.out hb) Hd.out).mono ?_
    rintro e w1 ⟨rfl, hb1⟩
    go_wp2
    go_ret
    exact ⟨_, _, _, rfl, by rw [Hl.out]; exact CCO.nil.toS, hb1⟩
  have Hd := Lib.hid hd
  have Hl := Lib.hid (show ladders N xs = ascD (ladTo xs n) by rw [ladders, if_pos hd, Hn.out])
  have hsh := dream_short (dream_all hd).1.2 (dream_all hd).2
  rw [Hn.out] at hsh
  clear hd
  go_enter Try.func18, Try.ntmps18
  go_wp2_with fail
  refine (is (specDream_any N _ _ _ xs _ hl hu hr Hn.out hb) Hd.out).mono ?_
  rintro e w1 ⟨rfl, hb1⟩
  have h1 : CCS (w1.alloc (.cells #[] 36)) w.heap.size (w1.alloc (.cells #[] 36)).heap.size (some ⟨w1.heap.size, 0, none⟩) 0 0 (ascD (ladTo xs 0)) := ((CCO.made w1).mono2 hb1.size (Nat.le_refl _)).toS
  have hB1 : Below w.heap.size w (w1.alloc (.cells #[] 36)) := hb1.alloc hb1.size _
  clear hb1
  go_wp2
  go_loopw [5, 6] (fun ov iv wr => Hid (∃ (i m : Nat) (a' : Option Addr) (c' : Nat), i ≤ n ∧ iv = .int .i64 i ∧ ov = .slice a' m c' ∧ CCS wr w.heap.size wr.heap.size a' m c' (ascD (ladTo xs i))) ∧ Below w.heap.size w wr) (fun _ iv _ => n - (intOf iv).toNat)
  case atStart => exact ⟨⟨0, 0, _, _, Nat.zero_le _, rfl, rfl, h1⟩, hB1⟩
  case round =>
    clear h1 hB1
    obtain ⟨HV, hB⟩ := hrel
    obtain ⟨wo, rfl⟩ : ∃ wo : World, wo = wr := ⟨_, rfl⟩
    obtain ⟨i, m, ao, co, hi, rfl, rfl, hO⟩ := HV.out
    clear HV
    have hbs := hB.size
    have hBwo := hB
    by_cases hlt : i < n
    · obtain ⟨b, off, rfl, hcell⟩ := (hr.below hBwo).at (k := i) (by rw [Hn.out]; exact hlt)
      obtain ⟨p, q, hx⟩ := pair_at Hn.out hlt
      obtain ⟨hc1, hc2⟩ := hcell _ _ hx
      simp only at hc1 hc2
      have q1 : (i : Int) < (n : Int) := by omega
      have hcx := cellOf_at hx
      have hst := dream_in Hd.out (j := i) (by rw [Hn.out]; exact hlt)
      have hn6 := (dream_all Hd.out).1
      rw [hcx] at hst
      unfold inStair at hst
      simp only [Bool.and_eq_true, decide_eq_true_eq] at hst
      obtain ⟨⟨hp0, hp1⟩, hq0, hq1⟩ := hst
      have Hcx := Lib.hid hcx
      have Hsu := Lib.hid (show ladTo xs (i + 1) = ladTo xs i ++ movC xs i from rfl)
      obtain ⟨W, hW⟩ : ∃ W, wo.alloc (.cells #[.int .i64 p, .int .i64 q] 60) = W := ⟨_, rfl⟩
      have hBW : Below wo.heap.size wo W := by rw [← hW]; exact (Below.refl _ _).alloc (Nat.le_refl _) _
      have g0 : W.heap[wo.heap.size]? = some (.cells #[.int .i64 p, .int .i64 q] 60) := by rw [← hW]; exact heap_alloc_new wo _
      have y0 : W.cell? ⟨wo.heap.size, 0, none⟩ = some (.int .i64 p) := by rw [cell_of_row W _ 0 _ _ (0, 0) g0]; rfl
      have y1 : W.cell? ⟨wo.heap.size, 1, none⟩ = some (.int .i64 q) := by rw [cell_of_row W _ 1 _ _ (0, 0) g0]; rfl
      have hrW := (hr.below hBwo).below hBW
      have HKp := Lib.hid (fun w' (h : Below W.heap.size W w') => And.intro (show w'.cell? ⟨wo.heap.size, 0, none⟩ = some (.int .i64 p) by rw [h.cell (World.block_lt_of_cell? _ _ y0)]; exact y0) (And.intro (show w'.cell? ⟨wo.heap.size, 1, none⟩ = some (.int .i64 q) by rw [h.cell (World.block_lt_of_cell? _ _ y1)]; exact y1) (hrW.below h)))
      have HO := Lib.hid (fun w' (h : Below W.heap.size W w') => (hO.below hBW).below h)
      have hBoW := hB.trans (hBW.mono hbs)
      have hml : m ≤ 15 := by have h9 := ladTo_len xs i; have h8 := ascD_length (ladTo xs i); rw [hO.len] at h8; omega
      have hzW : wo.heap.size ≤ W.heap.size := hBW.size
      have hbW1 : w.heap.size ≤ W.heap.size := by omega
      clear hcell hx hcx g0 hO
      cases h0 : hasC xs p (q + 1)
      · have H0 := Lib.hid h0
        obtain ⟨T, hT⟩ : ∃ T, upTo xs q p.toNat = T := ⟨_, rfl⟩
        have HT := Lib.hid hT
        clear h0
        go_wp2_with fail
        refine (is (l1HasCell_any _ _ _ xs p (q + 1) _ hrW Hn.out hb) H0.out).mono ?_
        rintro e w2 ⟨rfl, hb2⟩
        obtain ⟨z0, z1, z3⟩ := HKp.out _ hb2
        go_wp2
        go_loopw [8] (fun tv wr => Hid (∃ (t : Nat) (z : Int), tv = .int .i64 z ∧ z = (t : Int) - 1 ∧ t ≤ p.toNat ∧ upTo xs q t = T) ∧ Below W.heap.size W wr) (fun tv _ => (intOf tv + 1).toNat)
        case atStart => exact ⟨⟨p.toNat, _, rfl, by omega, Nat.le_refl _, hT⟩, hb2⟩
        case round =>
          clear z0 z1 z3 hT hb2
          obtain ⟨HV, hBt⟩ := hrel
          obtain ⟨wt, rfl⟩ : ∃ wt : World, wt = wr := ⟨_, rfl⟩
          obtain ⟨t, z, rfl, hzt, htp, htT⟩ := HV.out
          clear HV
          obtain ⟨z0, z1, z3⟩ := HKp.out _ hBt
          have hBot := hBoW.trans (hBt.mono hbW1)
          cases t with
          | zero =>
            have k1 : ¬ (0 : Int) ≤ z := by omega
            have k2 : z < 0 := by omega
            have hmv : movC xs i = [] := by
              unfold movC ladAt
              rw [Hcx.out]
              simp only
              rw [HT.out, show T = 0 from htT.symm]
              split <;> simp_all
            have HO2 := Lib.hid (show CCS wt w.heap.size wt.heap.size ao m co (ascD (ladTo xs (i + 1))) by rw [Hsu.out, hmv, List.append_nil]; exact (HO.out _ hBt).mono (Nat.le_trans hzW hBt.size))
            clear hmv hzt htT
            go_wp2
            go_roundw
            case rel => exact ⟨⟨i + 1, _, _, _, by omega, by go_num, rfl, HO2.out⟩, hBot⟩
            case measure => simp [intOf]; omega
          | succ s =>
            obtain rfl : z = (s : Int) := by omega
            have k1 : (0 : Int) ≤ (s : Int) := by omega
            have k2 : ¬ (s : Int) < 0 := by omega
            have hup : upTo xs q (s + 1) = if (hasC xs s q && hasC xs s (q + 1)) = true then upTo xs q s else s + 1 := rfl
            have hla : T = s + 1 → ladAt xs (p, q) = if (hasC xs s q || hasC xs s (q + 1)) = true then 0 else s + 1 := fun e => by
              unfold ladAt
              simp only
              rw [if_neg (by rw [H0.out]; simp), HT.out, e]
              simp
            cases h1 : hasC xs s q
            · have H1 := Lib.hid h1
              have HTs := Lib.hid (show T = s + 1 by rw [← htT, hup, h1]; rfl)
              cases h2 : hasC xs s (q + 1)
              · have H2 := Lib.hid h2
                have Hmv := Lib.hid (show movC xs i = [sortD (xs.set i ((s : Int), q + 1))] by
                  unfold movC
                  rw [Hcx.out, hla HTs.out, h1, h2]
                  rfl)
                clear h1 h2 hup hla htT hzt
                go_wp2_with fail
                refine (is (l1HasCell_any _ _ _ xs s q _ z3 Hn.out hb) H1.out).mono ?_
                rintro e w3 ⟨rfl, hb3⟩
                have hBt3 := hBt.trans (hb3.mono hBt.size)
                obtain ⟨u0, u1, u3⟩ := HKp.out _ hBt3
                clear z0 z1 z3
                go_wp2_with fail
                refine (is (l1HasCell_any _ _ _ xs s q _ u3 Hn.out hb) H1.out).mono ?_
                rintro e w4 ⟨rfl, hb4⟩
                have hBt4 := hBt3.trans (hb4.mono hBt3.size)
                obtain ⟨v0, v1, v3⟩ := HKp.out _ hBt4
                clear u0 u1 u3
                go_wp2_with fail
                refine (is (l1HasCell_any _ _ _ xs s (q + 1) _ v3 Hn.out hb) H2.out).mono ?_
                rintro e w5 ⟨rfl, hb5⟩
                have hBt5 := hBt4.trans (hb5.mono hBt4.size)
                obtain ⟨r0, r1, r3⟩ := HKp.out _ hBt5
                clear v0 v1 v3
                have hrx := r3
                obtain ⟨j, hj⟩ : ∃ j, j = i + 1 := ⟨_, rfl⟩
                have Hj := Lib.hid hj
                have HTK := Lib.hid (fun W' (h : Below w5.heap.size w5 W') => (hrx.below h).take i)
                have HDR := Lib.hid (fun W' (h : Below w5.heap.size w5 W') => (hrx.below h).drop j)
                have l1 : (xs.take i).length = i := by rw [List.length_take, Hn.out]; omega
                have l3 : (xs.drop j).length = n - j := by rw [List.length_drop, Hn.out]
                have hB5 : Below w5.heap.size w5 w5.drew := Drew.below ⟨1, rfl⟩ _
                have hemp : CO (w5.drew.alloc (.cells #[] 60)) w5.heap.size (w5.drew.alloc (.cells #[] 60)).heap.size (some ⟨w5.heap.size, 0, none⟩) 0 0 [] := CO.made w5.drew
                have c0 : IntKind.i64.wrap ((i : Int) + 1) = (j : Int) := by rw [IntWalk.i64_in _ (by omega)]; omega
                have c1 : (i : Int) ≤ (c : Int) := by omega
                have c2 : (i : Int) ≤ (n : Int) := by omega
                have c3 : ¬ c = i := by omega
                have c4 : (j : Int) ≤ (n : Int) := by omega
                have c5 : (j : Int) ≤ (c : Int) := by omega
                have hjn : j ≤ n := by omega
                have hij : i + (n - j) = n - 1 := by omega
                by_cases hin : j < n
                · have c6 : ¬ c = j := by omega
                  clear hj
                  go_wp2
                  go_region_held3 (fun W' => Below w5.heap.size w5 W') ((first | assumption | exact Below.alloc ‹_› (Below.size ‹_›) _))
                    ((first
                      | (refine step_appC (by rfl) _ _ (by rfl) ho6 (by rfl) (by rfl) (HDR.out _ ‹_›) l3 hij (by omega) (Below.size ‹_›) ?_; intro a7 c7 w7 ho7 hg7; have hb7 : Below w5.heap.size w5 w7 := below_grown ‹_› hg7 (Below.size ‹_›) ho6.lo)
                      | (refine step_appC (by rfl) _ _ (by rfl) hemp (by rfl) (by rfl) (HTK.out _ ‹_›) l1 (Nat.zero_add i) (by omega) (Below.size ‹_›) ?_; intro a6 c6 w6 ho6 hg6; have hb6 : Below w5.heap.size w5 w6 := below_grown ‹_› hg6 (Below.size ‹_›) hemp.lo)))
                  have HO7 := Lib.hid (show CO w7 w5.heap.size w7.heap.size a7 (n - 1) c7 (xs.take i ++ xs.drop (i + 1)) by rw [← Hj.out]; exact ho7)
                  have hBt7 := hBt5.trans (hb7.mono hBt5.size)
                  obtain ⟨p0, p1, p3⟩ := HKp.out _ hBt7
                  have HO6 := Lib.hid (HO.out _ hBt7)
                  have hz57 := hb7.size
                  clear ho7 hg7 ho6 hg6 hb6 hemp HTK HDR l1 l3 hrx c0
                  go_wp2_with (first | (at_builtin; go_loud (refine wpList_pushC (by rfl) (by rfl) _ _ (by rfl) HO7.out (by rfl) (by rfl) (by omega) (by omega) ?_)))
                  intro a8 c8 w8 ho8 hg8
                  have hb8 := below_grown hb7 hg8 hz57 HO7.out.lo
                  have hBt8 := hBt5.trans (hb8.mono hBt5.size)
                  have ho8l := ho8.len
                  rw [show n - 1 + 1 = n by omega] at ho8
                  rw [show n - 1 + 1 = n by omega] at ho8l
                  rw [show n - 1 + 1 = n by omega]
                  have Hr8 := Lib.hid ho8.rd
                  have Hl8 := Lib.hid ho8l
                  have Hs8 := Lib.hid (show cellsTo (xs.take i ++ (xs.drop (i + 1) ++ [((s : Int), q + 1)])) n = sortD (xs.set i ((s : Int), q + 1)) by
                    have e8 := cellsTo_eq (xs.take i ++ (xs.drop (i + 1) ++ [((s : Int), q + 1)]))
                    rw [ho8l] at e8
                    rw [e8, ← List.append_assoc]
                    exact sortD_congr (rest_perm (by rw [Hn.out]; exact hlt) _))
                  clear ho8 ho8l hg8 HO6 p0 p1 p3
                  go_wp2_with fail
                  refine (l3Cells_any _ n _ (xs.take i ++ (xs.drop (i + 1) ++ [((s : Int), q + 1)])) _ Hr8.out Hl8.out (by omega)).mono ?_
                  rintro e w9 ⟨a9, n9, c9, rfl, ho9, hb9⟩
                  rw [Hs8.out] at ho9
                  obtain rfl : n = n9 := by rw [← ho9.len, sortD_length, List.length_set, Hn.out]
                  have hm9 : m ≤ 1048576 := by omega
                  have hBt9 := hBt8.trans (hb9.mono hBt8.size)
                  have hz8 := hBt8.size
                  have hz9 := hBt9.size
                  have HO9 := Lib.hid ((HO.out _ hBt9).mono (show wo.heap.size ≤ w9.heap.size by omega))
                  have hBo9 := hBoW.trans (hBt9.mono hbW1)
                  have Hx9 := Lib.hid (ho9.mono (B' := w.heap.size) (S' := w9.heap.size) (by have := hb8.size; have := hBt5.size; omega) (Nat.le_refl _))
                  have Hshort := Lib.hid (show ∀ d ∈ ascD (ladTo xs i), d.length ≤ 1048576 from fun d hd => by
                    have := ((ladTo_good Hd.out (k := i) (by rw [Hn.out]; omega)).1 d (mem_ascD.1 hd)).2
                    rw [Hn.out] at this
                    omega)
                  have HP := Lib.hid (l3Put_any w.heap.size w9.heap.size ao m co (ascD (ladTo xs i)) a9 n c9 (sortD (xs.set i ((s : Int), q + 1))) w9 HO9.out Hx9.out (Nat.le_refl _) hBo9.size hm9 hb Hshort.out)
                  clear ho9 HO9 Hx9 Hshort
                  go_wp2_with fail
                  refine HP.out.mono ?_
                  rintro e w10 ⟨a10, n10, c10, rfl, ho10, hb10⟩
                  have hBo10 := hBo9.trans (hb10.mono hBo9.size)
                  have HO10 := Lib.hid (show CCS w10 w.heap.size w10.heap.size a10 n10 c10 (ascD (ladTo xs (i + 1))) by rw [Hsu.out, Hmv.out, ascD_snoc]; exact ho10)
                  clear ho10
                  go_wp2
                  go_roundw
                  case rel => exact ⟨⟨i + 1, _, _, _, by omega, by go_num, rfl, HO10.out⟩, hBo10⟩
                  case measure => simp [intOf]; omega
                · have Hdr := Lib.hid (show xs.drop (i + 1) = [] from List.drop_of_length_le (by rw [Hn.out]; omega))
                  have hi0 : i + 0 = n - 1 := by omega
                  obtain rfl : n = j := by omega
                  clear hj
                  by_cases hci : c = n
                  · obtain rfl : n = c := hci.symm
                    go_wp2
                    go_region_held3 (fun W' => Below w5.heap.size w5 W') ((first | assumption | exact Below.alloc ‹_› (Below.size ‹_›) _))
                      ((first
                        | (refine step_appC (by rfl) _ _ (by rfl) ho6 (by rfl) (by rfl) (show RC _ (some _) [] from .inl rfl) rfl hi0 (by omega) (Below.size ‹_›) ?_; intro a7 c7 w7 ho7 hg7; have hb7 : Below w5.heap.size w5 w7 := below_grown ‹_› hg7 (Below.size ‹_›) ho6.lo)
                        | (refine step_appC (by rfl) _ _ (by rfl) hemp (by rfl) (by rfl) (HTK.out _ ‹_›) l1 (Nat.zero_add i) (by omega) (Below.size ‹_›) ?_; intro a6 c6 w6 ho6 hg6; have hb6 : Below w5.heap.size w5 w6 := below_grown ‹_› hg6 (Below.size ‹_›) hemp.lo)))
                    have HO7 := Lib.hid (show CO w7 w5.heap.size w7.heap.size a7 (n - 1) c7 (xs.take i ++ xs.drop (i + 1)) by rw [Hdr.out]; exact ho7)
                    have hBt7 := hBt5.trans (hb7.mono hBt5.size)
                    obtain ⟨p0, p1, p3⟩ := HKp.out _ hBt7
                    have HO6 := Lib.hid (HO.out _ hBt7)
                    have hz57 := hb7.size
                    clear ho7 hg7 ho6 hg6 hb6 hemp HTK HDR l1 l3 hrx c0
                    go_wp2_with (first | (at_builtin; go_loud (refine wpList_pushC (by rfl) (by rfl) _ _ (by rfl) HO7.out (by rfl) (by rfl) (by omega) (by omega) ?_)))
                    intro a8 c8 w8 ho8 hg8
                    have hb8 := below_grown hb7 hg8 hz57 HO7.out.lo
                    have hBt8 := hBt5.trans (hb8.mono hBt5.size)
                    have ho8l := ho8.len
                    rw [show n - 1 + 1 = n by omega] at ho8
                    rw [show n - 1 + 1 = n by omega] at ho8l
                    rw [show n - 1 + 1 = n by omega]
                    have Hr8 := Lib.hid ho8.rd
                    have Hl8 := Lib.hid ho8l
                    have Hs8 := Lib.hid (show cellsTo (xs.take i ++ (xs.drop (i + 1) ++ [((s : Int), q + 1)])) n = sortD (xs.set i ((s : Int), q + 1)) by
                      have e8 := cellsTo_eq (xs.take i ++ (xs.drop (i + 1) ++ [((s : Int), q + 1)]))
                      rw [ho8l] at e8
                      rw [e8, ← List.append_assoc]
                      exact sortD_congr (rest_perm (by rw [Hn.out]; exact hlt) _))
                    clear ho8 ho8l hg8 HO6 p0 p1 p3
                    go_wp2_with fail
                    refine (l3Cells_any _ n _ (xs.take i ++ (xs.drop (i + 1) ++ [((s : Int), q + 1)])) _ Hr8.out Hl8.out (by omega)).mono ?_
                    rintro e w9 ⟨a9, n9, c9, rfl, ho9, hb9⟩
                    rw [Hs8.out] at ho9
                    obtain rfl : n = n9 := by rw [← ho9.len, sortD_length, List.length_set, Hn.out]
                    have hm9 : m ≤ 1048576 := by omega
                    have hBt9 := hBt8.trans (hb9.mono hBt8.size)
                    have hz8 := hBt8.size
                    have hz9 := hBt9.size
                    have HO9 := Lib.hid ((HO.out _ hBt9).mono (show wo.heap.size ≤ w9.heap.size by omega))
                    have hBo9 := hBoW.trans (hBt9.mono hbW1)
                    have Hx9 := Lib.hid (ho9.mono (B' := w.heap.size) (S' := w9.heap.size) (by have := hb8.size; have := hBt5.size; omega) (Nat.le_refl _))
                    have Hshort := Lib.hid (show ∀ d ∈ ascD (ladTo xs i), d.length ≤ 1048576 from fun d hd => by
                      have := ((ladTo_good Hd.out (k := i) (by rw [Hn.out]; omega)).1 d (mem_ascD.1 hd)).2
                      rw [Hn.out] at this
                      omega)
                    have HP := Lib.hid (l3Put_any w.heap.size w9.heap.size ao m co (ascD (ladTo xs i)) a9 n c9 (sortD (xs.set i ((s : Int), q + 1))) w9 HO9.out Hx9.out (Nat.le_refl _) hBo9.size hm9 hb Hshort.out)
                    clear ho9 HO9 Hx9 Hshort
                    go_wp2_with fail
                    refine HP.out.mono ?_
                    rintro e w10 ⟨a10, n10, c10, rfl, ho10, hb10⟩
                    have hBo10 := hBo9.trans (hb10.mono hBo9.size)
                    have HO10 := Lib.hid (show CCS w10 w.heap.size w10.heap.size a10 n10 c10 (ascD (ladTo xs (i + 1))) by rw [Hsu.out, Hmv.out, ascD_snoc]; exact ho10)
                    clear ho10
                    go_wp2
                    go_roundw
                    case rel => exact ⟨⟨i + 1, _, _, _, by omega, by go_num, rfl, HO10.out⟩, hBo10⟩
                    case measure => simp [intOf]; omega
                  · have c6 : ¬ c = n := hci
                    go_wp2
                    go_region_held3 (fun W' => Below w5.heap.size w5 W') ((first | assumption | exact Below.alloc ‹_› (Below.size ‹_›) _))
                      ((first
                        | (refine step_appC (by rfl) _ _ (by rfl) ho6 (by rfl) (by rfl) (show RC _ (some _) [] from .inl rfl) rfl hi0 (by omega) (Below.size ‹_›) ?_; intro a7 c7 w7 ho7 hg7; have hb7 : Below w5.heap.size w5 w7 := below_grown ‹_› hg7 (Below.size ‹_›) ho6.lo)
                        | (refine step_appC (by rfl) _ _ (by rfl) hemp (by rfl) (by rfl) (HTK.out _ ‹_›) l1 (Nat.zero_add i) (by omega) (Below.size ‹_›) ?_; intro a6 c6 w6 ho6 hg6; have hb6 : Below w5.heap.size w5 w6 := below_grown ‹_› hg6 (Below.size ‹_›) hemp.lo)))
                    have HO7 := Lib.hid (show CO w7 w5.heap.size w7.heap.size a7 (n - 1) c7 (xs.take i ++ xs.drop (i + 1)) by rw [Hdr.out]; exact ho7)
                    have hBt7 := hBt5.trans (hb7.mono hBt5.size)
                    obtain ⟨p0, p1, p3⟩ := HKp.out _ hBt7
                    have HO6 := Lib.hid (HO.out _ hBt7)
                    have hz57 := hb7.size
                    clear ho7 hg7 ho6 hg6 hb6 hemp HTK HDR l1 l3 hrx c0
                    go_wp2_with (first | (at_builtin; go_loud (refine wpList_pushC (by rfl) (by rfl) _ _ (by rfl) HO7.out (by rfl) (by rfl) (by omega) (by omega) ?_)))
                    intro a8 c8 w8 ho8 hg8
                    have hb8 := below_grown hb7 hg8 hz57 HO7.out.lo
                    have hBt8 := hBt5.trans (hb8.mono hBt5.size)
                    have ho8l := ho8.len
                    rw [show n - 1 + 1 = n by omega] at ho8
                    rw [show n - 1 + 1 = n by omega] at ho8l
                    rw [show n - 1 + 1 = n by omega]
                    have Hr8 := Lib.hid ho8.rd
                    have Hl8 := Lib.hid ho8l
                    have Hs8 := Lib.hid (show cellsTo (xs.take i ++ (xs.drop (i + 1) ++ [((s : Int), q + 1)])) n = sortD (xs.set i ((s : Int), q + 1)) by
                      have e8 := cellsTo_eq (xs.take i ++ (xs.drop (i + 1) ++ [((s : Int), q + 1)]))
                      rw [ho8l] at e8
                      rw [e8, ← List.append_assoc]
                      exact sortD_congr (rest_perm (by rw [Hn.out]; exact hlt) _))
                    clear ho8 ho8l hg8 HO6 p0 p1 p3
                    go_wp2_with fail
                    refine (l3Cells_any _ n _ (xs.take i ++ (xs.drop (i + 1) ++ [((s : Int), q + 1)])) _ Hr8.out Hl8.out (by omega)).mono ?_
                    rintro e w9 ⟨a9, n9, c9, rfl, ho9, hb9⟩
                    rw [Hs8.out] at ho9
                    obtain rfl : n = n9 := by rw [← ho9.len, sortD_length, List.length_set, Hn.out]
                    have hm9 : m ≤ 1048576 := by omega
                    have hBt9 := hBt8.trans (hb9.mono hBt8.size)
                    have hz8 := hBt8.size
                    have hz9 := hBt9.size
                    have HO9 := Lib.hid ((HO.out _ hBt9).mono (show wo.heap.size ≤ w9.heap.size by omega))
                    have hBo9 := hBoW.trans (hBt9.mono hbW1)
                    have Hx9 := Lib.hid (ho9.mono (B' := w.heap.size) (S' := w9.heap.size) (by have := hb8.size; have := hBt5.size; omega) (Nat.le_refl _))
                    have Hshort := Lib.hid (show ∀ d ∈ ascD (ladTo xs i), d.length ≤ 1048576 from fun d hd => by
                      have := ((ladTo_good Hd.out (k := i) (by rw [Hn.out]; omega)).1 d (mem_ascD.1 hd)).2
                      rw [Hn.out] at this
                      omega)
                    have HP := Lib.hid (l3Put_any w.heap.size w9.heap.size ao m co (ascD (ladTo xs i)) a9 n c9 (sortD (xs.set i ((s : Int), q + 1))) w9 HO9.out Hx9.out (Nat.le_refl _) hBo9.size hm9 hb Hshort.out)
                    clear ho9 HO9 Hx9 Hshort
                    go_wp2_with fail
                    refine HP.out.mono ?_
                    rintro e w10 ⟨a10, n10, c10, rfl, ho10, hb10⟩
                    have hBo10 := hBo9.trans (hb10.mono hBo9.size)
                    have HO10 := Lib.hid (show CCS w10 w.heap.size w10.heap.size a10 n10 c10 (ascD (ladTo xs (i + 1))) by rw [Hsu.out, Hmv.out, ascD_snoc]; exact ho10)
                    clear ho10
                    go_wp2
                    go_roundw
                    case rel => exact ⟨⟨i + 1, _, _, _, by omega, by go_num, rfl, HO10.out⟩, hBo10⟩
                    case measure => simp [intOf]; omega
              · have H2 := Lib.hid h2
                have hmv : movC xs i = [] := by
                  unfold movC
                  rw [Hcx.out, hla HTs.out, h1, h2]
                  rfl
                clear h1 h2 hup hla htT hzt
                go_wp2_with fail
                refine (is (l1HasCell_any _ _ _ xs s q _ z3 Hn.out hb) H1.out).mono ?_
                rintro e w3 ⟨rfl, hb3⟩
                have hBt3 := hBt.trans (hb3.mono hBt.size)
                obtain ⟨u0, u1, u3⟩ := HKp.out _ hBt3
                clear z0 z1 z3
                go_wp2_with fail
                refine (is (l1HasCell_any _ _ _ xs s q _ u3 Hn.out hb) H1.out).mono ?_
                rintro e w4 ⟨rfl, hb4⟩
                have hBt4 := hBt3.trans (hb4.mono hBt3.size)
                obtain ⟨v0, v1, v3⟩ := HKp.out _ hBt4
                clear u0 u1 u3
                go_wp2_with fail
                refine (is (l1HasCell_any _ _ _ xs s (q + 1) _ v3 Hn.out hb) H2.out).mono ?_
                rintro e w5 ⟨rfl, hb5⟩
                have hBt5 := hBt4.trans (hb5.mono hBt4.size)
                have hBo5 := hBoW.trans (hBt5.mono hbW1)
                have HO2 := Lib.hid (show CCS w5 w.heap.size w5.heap.size ao m co (ascD (ladTo xs (i + 1))) by rw [Hsu.out, hmv, List.append_nil]; exact (HO.out _ hBt5).mono (Nat.le_trans hzW hBt5.size))
                clear hmv
                go_wp2
                go_roundw
                case rel => exact ⟨⟨i + 1, _, _, _, by omega, by go_num, rfl, HO2.out⟩, hBo5⟩
                case measure => simp [intOf]; omega
            · have H1 := Lib.hid h1
              cases h2 : hasC xs s (q + 1)
              · have H2 := Lib.hid h2
                have hmv : movC xs i = [] := by
                  unfold movC
                  rw [Hcx.out, hla (by rw [← htT, hup, h1, h2]; rfl), h1, h2]
                  rfl
                clear h1 h2 hup hla htT hzt
                go_wp2_with fail
                refine (is (l1HasCell_any _ _ _ xs s q _ z3 Hn.out hb) H1.out).mono ?_
                rintro e w3 ⟨rfl, hb3⟩
                have hBt3 := hBt.trans (hb3.mono hBt.size)
                obtain ⟨u0, u1, u3⟩ := HKp.out _ hBt3
                clear z0 z1 z3
                go_wp2_with fail
                refine (is (l1HasCell_any _ _ _ xs s (q + 1) _ u3 Hn.out hb) H2.out).mono ?_
                rintro e w4 ⟨rfl, hb4⟩
                have hBt4 := hBt3.trans (hb4.mono hBt3.size)
                obtain ⟨v0, v1, v3⟩ := HKp.out _ hBt4
                clear u0 u1 u3
                go_wp2_with fail
                refine (is (l1HasCell_any _ _ _ xs s q _ v3 Hn.out hb) H1.out).mono ?_
                rintro e w5 ⟨rfl, hb5⟩
                have hBt5 := hBt4.trans (hb5.mono hBt4.size)
                have hBo5 := hBoW.trans (hBt5.mono hbW1)
                have HO2 := Lib.hid (show CCS w5 w.heap.size w5.heap.size ao m co (ascD (ladTo xs (i + 1))) by rw [Hsu.out, hmv, List.append_nil]; exact (HO.out _ hBt5).mono (Nat.le_trans hzW hBt5.size))
                clear hmv
                go_wp2
                go_roundw
                case rel => exact ⟨⟨i + 1, _, _, _, by omega, by go_num, rfl, HO2.out⟩, hBo5⟩
                case measure => simp [intOf]; omega
              · have H2 := Lib.hid h2
                have Hts := Lib.hid (show upTo xs q s = T by rw [← htT, hup, h1, h2]; rfl)
                clear h1 h2 hup hla htT hzt
                go_wp2_with fail
                refine (is (l1HasCell_any _ _ _ xs s q _ z3 Hn.out hb) H1.out).mono ?_
                rintro e w3 ⟨rfl, hb3⟩
                have hBt3 := hBt.trans (hb3.mono hBt.size)
                obtain ⟨u0, u1, u3⟩ := HKp.out _ hBt3
                clear z0 z1 z3
                go_wp2_with fail
                refine (is (l1HasCell_any _ _ _ xs s (q + 1) _ u3 Hn.out hb) H2.out).mono ?_
                rintro e w4 ⟨rfl, hb4⟩
                have hBt4 := hBt3.trans (hb4.mono hBt3.size)
                go_wp2
                go_roundw
                case rel => exact ⟨⟨s, _, rfl, by omega, by omega, Hts.out⟩, hBt4⟩
                case measure => simp [intOf]
      · have H0 := Lib.hid h0
        have hmv : movC xs i = [] := by
          unfold movC ladAt
          rw [Hcx.out]
          simp only
          rw [if_pos h0]
        clear h0
        go_wp2_with fail
        refine (is (l1HasCell_any _ _ _ xs p (q + 1) _ hrW Hn.out hb) H0.out).mono ?_
        rintro e w2 ⟨rfl, hb2⟩
        have hBo2 := hBoW.trans (hb2.mono hbW1)
        have HO2 := Lib.hid (show CCS w2 w.heap.size w2.heap.size ao m co (ascD (ladTo xs (i + 1))) by rw [Hsu.out, hmv, List.append_nil]; exact (HO.out _ hb2).mono (Nat.le_trans hzW hb2.size))
        clear hmv
        go_wp2
        go_roundw
        case rel => exact ⟨⟨i + 1, _, _, _, by omega, by go_num, rfl, HO2.out⟩, hBo2⟩
        case measure => simp [intOf]; omega
    · obtain rfl : i = n := by omega
      have Hf := Lib.hid (show CCS wo w.heap.size wo.heap.size ao m co (ladders N xs) by rw [Hl.out]; exact hO)
      clear hO
      go_wp2
      go_ret
      exact ⟨_, _, _, rfl, Hf.out, hB⟩
end Go.Proofs.Ytageojkepoejiaa
