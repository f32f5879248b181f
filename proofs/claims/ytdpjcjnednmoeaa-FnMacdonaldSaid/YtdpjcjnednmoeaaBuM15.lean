/-
  Contracts of inOrder (no two dreams alike) and of LadderMoves, the program's.
  Ladder moves: bounds of what comes out.
  The program's rounds to all reduced dreams: plain.
  The program's rounds in a form that the kernel reckons: plain.
  Contract of the laws' sum.
  Contracts of the program's sum, and of the factorial.
  The products of the reduced words of a permutation of at most 5, each letter one more, add up to the number of its dreams times the factorial of its length. Plain.
-/
import Derived.Test.YtdpjcjnednmoeaaBuM13
import Derived.Test.YtdpjcjnednmoeaaBuM14
import Derived.Test.YtdpjcjnednmoeaaBuM8
import Derived.Test.YtdpjcjnednmoeaaBuM10
import Derived.Test.YtdpjcjnednmoeaaBuM12
import Derived.Test.YtdpjcjnednmoeaaBuM3
import Derived.Test.YtdpjcjnednmoeaaBuM5
namespace Go.Proofs.Ytdpjcjnednmoeaa
open Go.RowKit Go.Shelf Go.Sort

theorem ascD_next {l : List (List (Int × Int))} (h : AscD l) (k : Nat) (x y : List (Int × Int)) (hx : l[k]? = some x) (hy : l[k + 1]? = some y) : y ≠ x := by
  obtain ⟨h1, e1⟩ := List.getElem?_eq_some_iff.1 hx
  obtain ⟨h2, e2⟩ := List.getElem?_eq_some_iff.1 hy
  have := List.pairwise_iff_getElem.1 h k (k + 1) h1 h2 (by omega)
  rw [e1, e2] at this
  rintro rfl
  rw [lessD_irrefl] at this
  cases this
set_option maxRecDepth 100000 in
set_option maxHeartbeats 1600000 in
theorem inOrder_any (B S : Nat) (a : Option Addr) (n c : Nat) (xs : List (List (Int × Int))) (w : World) (ho : CCO w B S a n c xs) (hg : GoodCC xs) (hlow : ∀ p ∈ xs, LowL p) (hb : n ≤ 1048576) :
    Calls Try.prog 26 #[.slice a n c] w fun e w' => e = .returned (.slice a n c) ∧ CCO w' B S a n c (ascD xs) ∧ Only B S w w' := by
  have hlen := ho.len
  have Hg := Lib.hid hg
  have Hlow := Lib.hid hlow
  clear hg hlow
  go_enter Try.func26, Try.ntmps26
  go_wp2_with fail
  refine (sortCC_any B S _ _ _ xs _ ho Hg.out Hlow.out hb).mono ?_
  rintro e w1 ⟨rfl, xs', hp, hs, ho1, hon⟩
  have heq : xs' = ascD xs := ascD_perm hp hs
  subst heq
  have Hl1 := Lib.hid ho1.len
  have Hsh := Lib.hid (show ShortCC (ascD xs) from fun x hx => Hg.out.each x (mem_ascD.1 hx))
  have Ho1 := Lib.hid ho1
  clear ho1 hp hs ho
  go_wp2_with fail
  refine (compactC_none _ _ _ (ascD xs) _ Ho1.out.rd Hl1.out hb Hsh.out (fun k x y hx hy => ascD_next (ascD_asc xs) k x y hx hy)).mono ?_
  rintro e w2 ⟨rfl, hd2⟩
  have hfin := Ho1.out.below (hd2.below _)
  have Hfin := Lib.hid hfin
  have hb2 := hd2.below w1.heap.size
  have hon2 := hon.trans ⟨hb2.os, hb2.tape, hb2.output, hb2.size, fun k hk _ => hb2.block k hk⟩
  clear hfin
  go_wp2
  go_ret
  exact ⟨rfl, Hfin.out, hon2⟩

def byCmp (x y : LowP) : Int := cellCmp x.1 y.1
theorem byCmp_lt (x y : LowP) : ltOf byCmp x y = cellLess x.1 y.1 := cellCmp_less _ _
theorem byCmp_swo : SWO (ltOf byCmp) where
  irrefl x := by rw [byCmp_lt, cellLess_no]; omega
  trans x y z h1 h2 := by rw [byCmp_lt, cellLess_iff] at *; omega
  ntrans x y z h1 h2 := by rw [byCmp_lt, cellLess_no] at *; omega
theorem byCmp_one (x y : LowP) (h1 : ltOf byCmp x y = false) (h2 : ltOf byCmp y x = false) : x = y := by
  rw [byCmp_lt, cellLess_no] at *
  exact Subtype.ext (Prod.ext (by omega) (by omega))
theorem byCmp_le (x y : LowP) : cellLe x.1 y.1 = !(ltOf byCmp) y x := by rw [byCmp_lt]; rfl
theorem byCmp_laid (x y : LowP) (w : World) :
    Calls Try.prog 51 #[.agg (encP x).toArray, .agg (encP y).toArray] w fun e w' => e = .returned (.int .i64 (byCmp x y)) ∧ Laid w w' := by
  obtain ⟨⟨a, b⟩, ⟨a1, a2⟩, b1, b2⟩ := x
  obtain ⟨⟨c, d⟩, ⟨c1, c2⟩, d1, d2⟩ := y
  exact byCells_laid a b c d w ⟨a1, a2⟩ ⟨b1, b2⟩ ⟨c1, c2⟩ ⟨d1, d2⟩

set_option maxRecDepth 100000 in
set_option maxHeartbeats 6400000 in
theorem implLad_any (N : Int) (a : Option Addr) (n c : Nat) (xs : List (Int × Int)) (w : World) (hl : -9223372036854775808 ≤ N) (hu : N ≤ 9223372036854775807) (hr : RC w a xs) (hn : xs.length = n) (hb : n ≤ 1048576) (_hs : Short_C xs) :
    Calls Try.prog 24 #[.int .i64 N, .slice a n c] w fun e w' => ∃ a' n' c', e = .returned (.slice a' n' c') ∧ CCO w' w.heap.size w'.heap.size a' n' c' (ladders N xs) ∧ Below w.heap.size w w' := by
  have Hn := Lib.hid hn; clear hn
  have hB0 : Below w.heap.size w (w.alloc (.cells #[.slice a n c] 44)) := (Below.refl _ _).alloc (Nat.le_refl _) _
  have hz0 : (w.alloc (.cells #[.slice a n c] 44)).heap.size = w.heap.size + 1 := by simp
  have hB1 : Below (w.alloc (.cells #[.slice a n c] 44)).heap.size (w.alloc (.cells #[.slice a n c] 44)) ((w.alloc (.cells #[.slice a n c] 44)).alloc (.cells #[] 44)) := (Below.refl _ _).alloc (Nat.le_refl _) _
  have hz1 : ((w.alloc (.cells #[.slice a n c] 44)).alloc (.cells #[] 44)).heap.size = w.heap.size + 1 + 1 := by simp
  have hB01 := hB0.trans (hB1.mono hB0.size)
  have hr1 := hr.below hB01
  have hG : (w.alloc (.cells #[.slice a n c] 44)).cell? ⟨w.heap.size, 0, none⟩ = some (.slice a n c) := by rw [World.cell?_alloc_at _ _ _ _ (by simp)]; rfl
  have hG1 : ((w.alloc (.cells #[.slice a n c] 44)).alloc (.cells #[] 44)).cell? ⟨w.heap.size, 0, none⟩ = some (.slice a n c) := by rw [hB1.cell (World.block_lt_of_cell? _ _ hG)]; exact hG
  cases hd : isDream N xs
  · have Hd := Lib.hid hd
    have Hl := Lib.hid (show ladders N xs = [] by rw [ladders, if_neg (by rw [hd]; simp)])
    clear hd
    go_enter Try.func24, Try.ntmps24
    go_wp2_with fail
    refine (is (implDream_any N _ _ _ xs _ hl hu hr1 Hn.out hb) Hd.out).mono ?_
    rintro e w1 ⟨rfl, hb1⟩
    have h1 : CCO w1 w.heap.size w1.heap.size (some ⟨w.heap.size + 1, 0, none⟩) 0 0 [] := by
      have h0 : CCO ((w.alloc (.cells #[.slice a n c] 44)).alloc (.cells #[] 44)) (w.alloc (.cells #[.slice a n c] 44)).heap.size ((w.alloc (.cells #[.slice a n c] 44)).alloc (.cells #[] 44)).heap.size (some ⟨(w.alloc (.cells #[.slice a n c] 44)).heap.size, 0, none⟩) 0 0 [] := CCO.made _
      rw [hz0] at h0
      exact (h0.below hb1).mono2 (by omega) hb1.size
    have hBf := hB01.trans (hb1.mono hB01.size)
    go_wp2
    go_ret
    exact ⟨_, _, _, rfl, by rw [Hl.out]; exact h1, hBf⟩
  have Hd := Lib.hid hd
  have Hl := Lib.hid (show ladders N xs = ascD (ladTo xs n) by rw [ladders, if_pos hd, Hn.out])
  have hsh := dream_short (dream_all hd).1.2 (dream_all hd).2
  rw [Hn.out] at hsh
  clear hd
  go_enter Try.func24, Try.ntmps24
  go_wp2_with fail
  refine (is (implDream_any N _ _ _ xs _ hl hu hr1 Hn.out hb) Hd.out).mono ?_
  rintro e w1 ⟨rfl, hb1⟩
  have h1 : CCO w1 (w.heap.size + 1) w1.heap.size (some ⟨w.heap.size + 1, 0, none⟩) 0 0 [] := by
    have h0 : CCO ((w.alloc (.cells #[.slice a n c] 44)).alloc (.cells #[] 44)) (w.alloc (.cells #[.slice a n c] 44)).heap.size ((w.alloc (.cells #[.slice a n c] 44)).alloc (.cells #[] 44)).heap.size (some ⟨(w.alloc (.cells #[.slice a n c] 44)).heap.size, 0, none⟩) 0 0 [] := CCO.made _
    rw [hz0] at h0
    exact (h0.below hb1).mono2 (Nat.le_refl _) hb1.size
  have hBw := hB01.trans (hb1.mono hB01.size)
  have hzw := hb1.size
  rw [hz1] at hzw
  have hG2 : w1.cell? ⟨w.heap.size, 0, none⟩ = some (.slice a n c) := by rw [hb1.cell (World.block_lt_of_cell? _ _ hG1)]; exact hG1
  clear hG hG1 hr1 hB0 hB1 hB01 hb1 hz0 hz1
  go_wp2
  go_loopw [5, 20] (fun ov iv wr => Hid (∃ (i m : Nat) (a' : Option Addr) (c' : Nat), i ≤ n ∧ iv = .int .i64 i ∧ ov = .slice a' m c' ∧ CCO wr (w.heap.size + 1) wr.heap.size a' m c' (ladTo xs i)) ∧ Below (w.heap.size + 1) w1 wr) (fun _ iv _ => n - (intOf iv).toNat)
  case atStart => exact ⟨⟨0, 0, _, _, Nat.zero_le _, rfl, rfl, h1⟩, Below.refl _ _⟩
  case round =>
    clear h1
    obtain ⟨HV, hB⟩ := hrel
    obtain ⟨wo, rfl⟩ : ∃ wo : World, wo = wr := ⟨_, rfl⟩
    obtain ⟨i, m, ao, co, hi, rfl, rfl, hO⟩ := HV.out
    clear HV
    have hbs := hB.size
    have hBwo := hBw.trans (hB.mono (by omega))
    have hbs1 : w.heap.size + 1 ≤ wo.heap.size := by omega
    by_cases hlt : i < n
    · obtain ⟨b, off, rfl, hcell⟩ := (hr.below hBwo).at (k := i) (by rw [Hn.out]; exact hlt)
      obtain ⟨p, q, hx⟩ := pair_at Hn.out hlt
      obtain ⟨hc1, hc2⟩ := hcell _ _ hx
      simp only at hc1 hc2
      have q1 : (i : Int) < (n : Int) := by omega
      have hcx := cellOf_at hx
      have hst := dream_in Hd.out (j := i) (by rw [Hn.out]; exact hlt)
      have hn6 := (dream_all Hd.out).1
      rw [hcx] at hst
      unfold inStair at hst
      simp only [Bool.and_eq_true, decide_eq_true_eq] at hst
      obtain ⟨⟨hp0, hp1⟩, hq0, hq1⟩ := hst
      have Hcx := Lib.hid hcx
      have Hsu := Lib.hid (show ladTo xs (i + 1) = ladTo xs i ++ movC xs i from rfl)
      obtain ⟨W, hW⟩ : ∃ W, wo.alloc (.cells #[.int .i64 p, .int .i64 q] 52) = W := ⟨_, rfl⟩
      have hBW : Below wo.heap.size wo W := by rw [← hW]; exact (Below.refl _ _).alloc (Nat.le_refl _) _
      have g0 : W.heap[wo.heap.size]? = some (.cells #[.int .i64 p, .int .i64 q] 52) := by rw [← hW]; exact heap_alloc_new wo _
      have y0 : W.cell? ⟨wo.heap.size, 0, none⟩ = some (.int .i64 p) := by rw [cell_of_row W _ 0 _ _ (0, 0) g0]; rfl
      have y1 : W.cell? ⟨wo.heap.size, 1, none⟩ = some (.int .i64 q) := by rw [cell_of_row W _ 1 _ _ (0, 0) g0]; rfl
      have hGo : wo.cell? ⟨w.heap.size, 0, none⟩ = some (.slice (some ⟨b, off, none⟩) n c) := by rw [hB.cell (by simp)]; exact hG2
      have hGW : W.cell? ⟨w.heap.size, 0, none⟩ = some (.slice (some ⟨b, off, none⟩) n c) := by rw [hBW.cell (World.block_lt_of_cell? _ _ hGo)]; exact hGo
      have hrW := (hr.below hBwo).below hBW
      have HKp := Lib.hid (fun w' (h : Below W.heap.size W w') => And.intro (show w'.cell? ⟨wo.heap.size, 0, none⟩ = some (.int .i64 p) by rw [h.cell (World.block_lt_of_cell? _ _ y0)]; exact y0) (And.intro (show w'.cell? ⟨wo.heap.size, 1, none⟩ = some (.int .i64 q) by rw [h.cell (World.block_lt_of_cell? _ _ y1)]; exact y1) (And.intro (show w'.cell? ⟨w.heap.size, 0, none⟩ = some (.slice (some ⟨b, off, none⟩) n c) by rw [h.cell (World.block_lt_of_cell? _ _ hGW)]; exact hGW) (hrW.below h))))
      have HO := Lib.hid (fun w' (h : Below W.heap.size W w') => (hO.below hBW).below h)
      have hBoW := hB.trans (hBW.mono hbs1)
      have hml : m ≤ 15 := by have := ladTo_len xs i; rw [hO.len] at this; omega
      have hzW : wo.heap.size ≤ W.heap.size := hBW.size
      have hbW1 : w.heap.size + 1 ≤ W.heap.size := by omega
      clear hcell hx hcx g0 hO
      cases h0 : hasC xs p (q + 1)
      · have H0 := Lib.hid h0
        obtain ⟨T, hT⟩ : ∃ T, upTo xs q p.toNat = T := ⟨_, rfl⟩
        have HT := Lib.hid hT
        clear h0
        go_wp2_with fail
        refine (is (ladIs_any w.heap.size _ _ _ xs p (q + 1) _ hGW hrW Hn.out hb) H0.out).mono ?_
        rintro e w2 ⟨rfl, hb2⟩
        obtain ⟨z0, z1, z2, z3⟩ := HKp.out _ hb2
        go_wp2
        go_loopw [9] (fun tv wr => Hid (∃ (t : Nat) (z : Int), tv = .int .i64 z ∧ z = (t : Int) - 1 ∧ t ≤ p.toNat ∧ upTo xs q t = T) ∧ Below W.heap.size W wr) (fun tv _ => (intOf tv + 1).toNat)
        case atStart => exact ⟨⟨p.toNat, _, rfl, by omega, Nat.le_refl _, hT⟩, hb2⟩
        case round =>
          clear z0 z1 z2 z3 hT hb2
          obtain ⟨HV, hBt⟩ := hrel
          obtain ⟨wt, rfl⟩ : ∃ wt : World, wt = wr := ⟨_, rfl⟩
          obtain ⟨t, z, rfl, hzt, htp, htT⟩ := HV.out
          clear HV
          obtain ⟨z0, z1, z2, z3⟩ := HKp.out _ hBt
          have hBot := hBoW.trans (hBt.mono hbW1)
          cases t with
          | zero =>
            have k1 : ¬ (0 : Int) ≤ z := by omega
            have k2 : z < 0 := by omega
            have hmv : movC xs i = [] := by
              unfold movC ladAt
              rw [Hcx.out]
              simp only
              rw [HT.out, show T = 0 from htT.symm]
              split <;> simp_all
            have HO2 := Lib.hid (show CCO wt (w.heap.size + 1) wt.heap.size ao m co (ladTo xs (i + 1)) by rw [Hsu.out, hmv, List.append_nil]; exact (HO.out _ hBt).mono (Nat.le_trans hzW hBt.size))
            clear hmv hzt htT
            go_wp2
            go_roundw
            case rel => exact ⟨⟨i + 1, _, _, _, by omega, by go_num, rfl, HO2.out⟩, hBot⟩
            case measure => simp [intOf]; omega
          | succ s =>
            obtain rfl : z = (s : Int) := by omega
            have k1 : (0 : Int) ≤ (s : Int) := by omega
            have k2 : ¬ (s : Int) < 0 := by omega
            have hup : upTo xs q (s + 1) = if (hasC xs s q && hasC xs s (q + 1)) = true then upTo xs q s else s + 1 := rfl
            have hla : T = s + 1 → ladAt xs (p, q) = if (hasC xs s q || hasC xs s (q + 1)) = true then 0 else s + 1 := fun e => by
              unfold ladAt
              simp only
              rw [if_neg (by rw [H0.out]; simp), HT.out, e]
              simp
            cases h1 : hasC xs s q
            · have H1 := Lib.hid h1
              have HTs := Lib.hid (show T = s + 1 by rw [← htT, hup, h1]; rfl)
              cases h2 : hasC xs s (q + 1)
              · have H2 := Lib.hid h2
                have Hmv := Lib.hid (show movC xs i = [sortD (xs.set i ((s : Int), q + 1))] by
                  unfold movC
                  rw [Hcx.out, hla HTs.out, h1, h2]
                  rfl)
                clear h1 h2 hup hla htT hzt
                go_wp2_with fail
                refine (is (ladIs_any w.heap.size _ _ _ xs s q _ z2 z3 Hn.out hb) H1.out).mono ?_
                rintro e w3 ⟨rfl, hb3⟩
                have hBt3 := hBt.trans (hb3.mono hBt.size)
                obtain ⟨u0, u1, u2, u3⟩ := HKp.out _ hBt3
                clear z0 z1 z2 z3
                go_wp2_with fail
                refine (is (ladIs_any w.heap.size _ _ _ xs s q _ u2 u3 Hn.out hb) H1.out).mono ?_
                rintro e w4 ⟨rfl, hb4⟩
                have hBt4 := hBt3.trans (hb4.mono hBt3.size)
                obtain ⟨v0, v1, v2, v3⟩ := HKp.out _ hBt4
                clear u0 u1 u2 u3
                go_wp2_with fail
                refine (is (ladIs_any w.heap.size _ _ _ xs s (q + 1) _ v2 v3 Hn.out hb) H2.out).mono ?_
                rintro e w5 ⟨rfl, hb5⟩
                have hBt5 := hBt4.trans (hb5.mono hBt4.size)
                obtain ⟨r0, r1, r2, r3⟩ := HKp.out _ hBt5
                clear v0 v1 v2 v3
                go_wp2_with fail
                refine (cloneC_any _ _ _ xs _ r3 Hn.out hb).mono ?_
                rintro e w6 ⟨ad, cd, rfl, hod, hb6⟩
                have hBt6 := hBt5.trans (hb6.mono hBt5.size)
                obtain ⟨s0, s1, s2, s3⟩ := HKp.out _ hBt6
                have hx2 : xs[i]? = some (p, q) := by rw [← Hcx.out]; exact cell_some (by rw [Hn.out]; exact hlt)
                obtain ⟨g, rfl, hgB, hd1, hd2, hf1, hf2⟩ := hod.cons hx2
                have t1 := (hod.store hx2 (s : Int)).1
                have hx3 : (xs.set i ((s : Int), q))[i]? = some ((s : Int), q) := by rw [List.getElem?_set_self (by rw [Hn.out]; exact hlt)]
                obtain ⟨g', eg, _, hd3, hd4, hf3, hf4⟩ := t1.1.cons hx3
                obtain rfl : g = g' := by simpa using eg
                have t2 := (t1.1.store hx3 (q + 1)).2
                rw [List.set_set] at t2
                simp only at t2 hd1 hd2 hd3 hd4
                have hgl : g < w6.heap.size := hod.2 g rfl
                have Hsd := Lib.hid t2.1
                have hz5 := hBt5.size
                have hBm1 : Below W.heap.size W _ := below_grown (v := .slice (some ⟨g, 0, none⟩) n cd) hBt6 t1.2 hBt6.size (fun k hk => by simp [Value.ownBlock] at hk; omega)
                have hBm2 : Below W.heap.size W _ := below_grown (v := .slice (some ⟨g, 0, none⟩) n cd) hBm1 t2.2 hBm1.size (fun k hk => by simp [Value.ownBlock] at hk; omega)
                have HBm2 := Lib.hid hBm2
                have Hlow := Lib.hid (show ∀ e ∈ xs.set i ((s : Int), q + 1), Low e.1 ∧ Low e.2 from fun e he => by
                  rcases List.mem_or_eq_of_mem_set he with h | h
                  · obtain ⟨j, hj⟩ := List.getElem?_of_mem h
                    exact dream_low Hd.out j e hj
                  · subst h
                    unfold Low
                    simp only
                    omega)
                clear t1 t2 hx2 hx3 hod hd3 hBm1 hBm2
                go_wp2_with fail
                refine (sortC_any byCmp byCmp_swo byCmp_one cellLe byCmp_le 51 (fun args w => by kernel_rfl) byCmp_laid _ _ _ _ _ (xs.set i ((s : Int), q + 1)) _ Hsd.out Hlow.out hb).mono ?_
                rintro e w7 ⟨rfl, hos, hon⟩
                have hBt7 := hon.below HBm2.out hz5 HBm2.out.size
                have hz7 := hBt7.size
                have hz6 : w6.heap.size ≤ w7.heap.size := Nat.le_trans (by simp) hon.size
                have HO7 := Lib.hid (HO.out _ hBt7)
                have Hos := Lib.hid (hos.mono (B' := wo.heap.size) (S' := w7.heap.size) (by omega) hz6)
                have hBo7 := hBoW.trans (hBt7.mono hbW1)
                clear hos hon s0 s1 s2 s3 r0 r1 r2 r3 hd1 hd2 hd4 hf1 hf2 hf3 hf4
                go_wp2_with (first | (at_builtin; go_loud (refine wpList_pushCC (by rfl) (by rfl) _ _ (by rfl) HO7.out (by rfl) Hos.out hbs1 (by rfl) (by omega) (by omega) (by omega) (Nat.le_refl _) ?_)))
                intro a8 c8 w8 ho8 hg8
                have hBo8 := hg8.below hBo7 (by omega) (fun k hk => (HO7.out.lo k hk))
                have HO8 := Lib.hid (show CCO w8 (w.heap.size + 1) w8.heap.size a8 (m + 1) c8 (ladTo xs (i + 1)) by rw [Hsu.out, Hmv.out]; exact ho8)
                clear ho8 hg8
                go_wp2
                go_roundw
                case rel => exact ⟨⟨i + 1, _, _, _, by omega, by go_num, rfl, HO8.out⟩, hBo8⟩
                case measure => simp [intOf]; omega
              · have H2 := Lib.hid h2
                have hmv : movC xs i = [] := by
                  unfold movC
                  rw [Hcx.out, hla HTs.out, h1, h2]
                  rfl
                clear h1 h2 hup hla htT hzt
                go_wp2_with fail
                refine (is (ladIs_any w.heap.size _ _ _ xs s q _ z2 z3 Hn.out hb) H1.out).mono ?_
                rintro e w3 ⟨rfl, hb3⟩
                have hBt3 := hBt.trans (hb3.mono hBt.size)
                obtain ⟨u0, u1, u2, u3⟩ := HKp.out _ hBt3
                clear z0 z1 z2 z3
                go_wp2_with fail
                refine (is (ladIs_any w.heap.size _ _ _ xs s q _ u2 u3 Hn.out hb) H1.out).mono ?_
                rintro e w4 ⟨rfl, hb4⟩
                have hBt4 := hBt3.trans (hb4.mono hBt3.size)
                obtain ⟨v0, v1, v2, v3⟩ := HKp.out _ hBt4
                clear u0 u1 u2 u3
                go_wp2_with fail
                refine (is (ladIs_any w.heap.size _ _ _ xs s (q + 1) _ v2 v3 Hn.out hb) H2.out).mono ?_
                rintro e w5 ⟨rfl, hb5⟩
                have hBt5 := hBt4.trans (hb5.mono hBt4.size)
                have hBo5 := hBoW.trans (hBt5.mono hbW1)
                have HO2 := Lib.hid (show CCO w5 (w.heap.size + 1) w5.heap.size ao m co (ladTo xs (i + 1)) by rw [Hsu.out, hmv, List.append_nil]; exact (HO.out _ hBt5).mono (Nat.le_trans hzW hBt5.size))
                clear hmv
                go_wp2
                go_roundw
                case rel => exact ⟨⟨i + 1, _, _, _, by omega, by go_num, rfl, HO2.out⟩, hBo5⟩
                case measure => simp [intOf]; omega
            · have H1 := Lib.hid h1
              cases h2 : hasC xs s (q + 1)
              · have H2 := Lib.hid h2
                have hmv : movC xs i = [] := by
                  unfold movC
                  rw [Hcx.out, hla (by rw [← htT, hup, h1, h2]; rfl), h1, h2]
                  rfl
                clear h1 h2 hup hla htT hzt
                go_wp2_with fail
                refine (is (ladIs_any w.heap.size _ _ _ xs s q _ z2 z3 Hn.out hb) H1.out).mono ?_
                rintro e w3 ⟨rfl, hb3⟩
                have hBt3 := hBt.trans (hb3.mono hBt.size)
                obtain ⟨u0, u1, u2, u3⟩ := HKp.out _ hBt3
                clear z0 z1 z2 z3
                go_wp2_with fail
                refine (is (ladIs_any w.heap.size _ _ _ xs s (q + 1) _ u2 u3 Hn.out hb) H2.out).mono ?_
                rintro e w4 ⟨rfl, hb4⟩
                have hBt4 := hBt3.trans (hb4.mono hBt3.size)
                obtain ⟨v0, v1, v2, v3⟩ := HKp.out _ hBt4
                clear u0 u1 u2 u3
                go_wp2_with fail
                refine (is (ladIs_any w.heap.size _ _ _ xs s q _ v2 v3 Hn.out hb) H1.out).mono ?_
                rintro e w5 ⟨rfl, hb5⟩
                have hBt5 := hBt4.trans (hb5.mono hBt4.size)
                have hBo5 := hBoW.trans (hBt5.mono hbW1)
                have HO2 := Lib.hid (show CCO w5 (w.heap.size + 1) w5.heap.size ao m co (ladTo xs (i + 1)) by rw [Hsu.out, hmv, List.append_nil]; exact (HO.out _ hBt5).mono (Nat.le_trans hzW hBt5.size))
                clear hmv
                go_wp2
                go_roundw
                case rel => exact ⟨⟨i + 1, _, _, _, by omega, by go_num, rfl, HO2.out⟩, hBo5⟩
                case measure => simp [intOf]; omega
              · have H2 := Lib.hid h2
                have Hts := Lib.hid (show upTo xs q s = T by rw [← htT, hup, h1, h2]; rfl)
                clear h1 h2 hup hla htT hzt
                go_wp2_with fail
                refine (is (ladIs_any w.heap.size _ _ _ xs s q _ z2 z3 Hn.out hb) H1.out).mono ?_
                rintro e w3 ⟨rfl, hb3⟩
                have hBt3 := hBt.trans (hb3.mono hBt.size)
                obtain ⟨u0, u1, u2, u3⟩ := HKp.out _ hBt3
                clear z0 z1 z2 z3
                go_wp2_with fail
                refine (is (ladIs_any w.heap.size _ _ _ xs s (q + 1) _ u2 u3 Hn.out hb) H2.out).mono ?_
                rintro e w4 ⟨rfl, hb4⟩
                have hBt4 := hBt3.trans (hb4.mono hBt3.size)
                go_wp2
                go_roundw
                case rel => exact ⟨⟨s, _, rfl, by omega, by omega, Hts.out⟩, hBt4⟩
                case measure => simp [intOf]
      · have H0 := Lib.hid h0
        have hmv : movC xs i = [] := by
          unfold movC ladAt
          rw [Hcx.out]
          simp only
          rw [if_pos h0]
        clear h0
        go_wp2_with fail
        refine (is (ladIs_any w.heap.size _ _ _ xs p (q + 1) _ hGW hrW Hn.out hb) H0.out).mono ?_
        rintro e w2 ⟨rfl, hb2⟩
        have hBo2 := hBoW.trans (hb2.mono hbW1)
        have HO2 := Lib.hid (show CCO w2 (w.heap.size + 1) w2.heap.size ao m co (ladTo xs (i + 1)) by rw [Hsu.out, hmv, List.append_nil]; exact (HO.out _ hb2).mono (Nat.le_trans hzW hb2.size))
        clear hmv
        go_wp2
        go_roundw
        case rel => exact ⟨⟨i + 1, _, _, _, by omega, by go_num, rfl, HO2.out⟩, hBo2⟩
        case measure => simp [intOf]; omega
    · obtain rfl : i = n := by omega
      have hg := ladTo_GoodCC Hd.out (by rw [Hn.out]; omega)
      have hlw := (ladTo_good Hd.out (Nat.le_refl xs.length)).1
      rw [Hn.out] at hg hlw
      have hml : m ≤ 15 := by have := ladTo_len xs i; rw [hO.len] at this; omega
      have Hg := Lib.hid hg
      have Hlw := Lib.hid (fun d hd => (hlw d hd).1)
      clear hg hlw
      go_wp2_with fail
      refine (inOrder_any _ _ _ _ _ (ladTo xs i) _ hO Hg.out Hlw.out (by omega)).mono ?_
      rintro e w2 ⟨rfl, ho2, hon2⟩
      have hBf := hon2.below hBwo (by omega) hBwo.size
      have Hf := Lib.hid (show CCO w2 w.heap.size w2.heap.size ao m co (ladders N xs) by rw [Hl.out]; exact ho2.mono2 (by omega) hon2.size)
      clear ho2 hO hon2
      go_wp2
      go_ret
      exact ⟨_, _, _, rfl, Hf.out, hBf⟩
end Go.Proofs.Ytdpjcjnednmoeaa

namespace Go.Proofs.Ytdpjcjnednmoeaa
open Go.RowKit

theorem ladders_each {n : Int} {xs d : List (Int × Int)} (h : d ∈ ladders n xs) : isDream n xs = true ∧ d.length = xs.length ∧ xs.length ≤ 15 := by
  unfold ladders at h
  split at h
  · rename_i hd
    exact ⟨hd, ((ladTo_good hd (Nat.le_refl _)).1 d (mem_ascD.1 h)).2, dream_short (dream_all hd).1.2 (dream_all hd).2⟩
  · cases h
theorem ladders_few (n : Int) (xs : List (Int × Int)) : (ladders n xs).length ≤ 15 := by
  unfold ladders
  split
  · rename_i hd
    have h1 := ascD_length (ladTo xs xs.length)
    have h2 := ladTo_len xs xs.length
    have h3 := dream_short (dream_all hd).1.2 (dream_all hd).2
    omega
  · exact Nat.zero_le _
theorem ladders_len (n : Int) (xs : List (Int × Int)) : (ladders n xs).length ≤ 1048576 := Nat.le_trans (ladders_few n xs) (by omega)
theorem sz_CC_bd {K : Nat} : ∀ {l : List (List (Int × Int))}, (∀ d ∈ l, d.length ≤ K) → sz_CC l ≤ l.length * (2 * K)
  | [], _ => Nat.zero_le _
  | d :: l, h => by
    have h1 := h d List.mem_cons_self
    have h2 := sz_CC_bd (l := l) (K := K) fun e he => h e (List.mem_cons_of_mem _ he)
    rw [sz_CC, List.length_cons, Nat.succ_mul]
    unfold sz_C
    omega
theorem ladders_sz (n : Int) (xs : List (Int × Int)) : sz_CC (ladders n xs) ≤ 1099511627776 := by
  have h1 := sz_CC_bd (K := 15) (l := ladders n xs) fun d hd => by have := ladders_each hd; omega
  have h2 := ladders_few n xs
  have h3 : (ladders n xs).length * (2 * 15) ≤ 15 * (2 * 15) := Nat.mul_le_mul_right _ h2
  omega
theorem ladders_short (n : Int) (xs : List (Int × Int)) : ShortCC (ladders n xs) := fun d hd => by
  have := ladders_each hd
  omega
end Go.Proofs.Ytdpjcjnednmoeaa

namespace Go.Proofs.Ytdpjcjnednmoeaa
open Go.RowKit

def pipeNext (n : Int) (all last : List (List (Int × Int))) : List (List (Int × Int)) := dropD all (ascD (last.flatMap (ladders n)))
/-- the rounds: what is there at the end; nothing where there are too many -/
def pipeTo (n : Int) : Nat → List (List (Int × Int)) → List (List (Int × Int)) → Option (List (List (Int × Int)))
  | 0, _, _ => none
  | f + 1, all, last =>
    if last = [] then some all
    else if 400 < (all ++ pipeNext n all last).length then none
    else pipeTo n f (all ++ pipeNext n all last) (pipeNext n all last)
theorem pipeTo_stop {n : Int} {f : Nat} {all : List (List (Int × Int))} : pipeTo n (f + 1) all [] = some all := by rw [pipeTo, if_pos rfl]
theorem pipeTo_many {n : Int} {f : Nat} {all last : List (List (Int × Int))} (h : last ≠ []) (h4 : 400 < (all ++ pipeNext n all last).length) : pipeTo n (f + 1) all last = none := by rw [pipeTo, if_neg h, if_pos h4]
theorem pipeTo_next {n : Int} {f : Nat} {all last : List (List (Int × Int))} (h : last ≠ []) (h4 : ¬ 400 < (all ++ pipeNext n all last).length) : pipeTo n (f + 1) all last = pipeTo n f (all ++ pipeNext n all last) (pipeNext n all last) := by rw [pipeTo, if_neg h, if_neg h4]
theorem mem_dropD {all xss : List (List (Int × Int))} {d : List (Int × Int)} (h : d ∈ dropD all xss) : d ∈ xss ∧ hasD all d = false := by
  unfold dropD at h
  obtain ⟨i, hi, rfl⟩ := List.mem_map.1 h
  have hl := kI_lt hi
  unfold kI at hi
  have hk := (List.mem_filter.1 hi).2
  unfold notIn at hk
  refine ⟨?_, by simpa using hk⟩
  rw [List.getD_eq_getElem?_getD, List.getElem?_eq_getElem hl]
  exact List.getElem_mem _
theorem pipeNext_mem {n : Int} {all last : List (List (Int × Int))} {d : List (Int × Int)} (h : d ∈ pipeNext n all last) : ∃ e ∈ last, d ∈ ladders n e := by
  have h1 := (mem_dropD h).1
  rw [mem_ascD, List.mem_flatMap] at h1
  exact h1
/-- the dreams of the rounds are as long as the first one, and their numbers are small -/
theorem pipeNext_good {n : Int} {L : Nat} {all last : List (List (Int × Int))} (h : ∀ d ∈ last, d.length = L) : ∀ d ∈ pipeNext n all last, d.length = L ∧ L ≤ 15 ∧ LowL d := by
  intro d hd
  obtain ⟨e, he, hm⟩ := pipeNext_mem hd
  obtain ⟨h1, h2, h3⟩ := ladders_each hm
  refine ⟨by rw [h2, h e he], by have := h e he; omega, ?_⟩
  unfold ladders at hm
  rw [if_pos h1, mem_ascD] at hm
  exact ((ladTo_good h1 (Nat.le_refl _)).1 d hm).1
def pipeOk (xs : List Int) : Bool := isPerm xs && decide (xs.length ≤ 6) && (pipeTo (xs.length : Int) 402 [bottom xs] [bottom xs]).isSome
def pipeT (xs : List Int) : List (List (Int × Int)) := if isPerm xs = true ∧ xs.length ≤ 6 then ascD ((pipeTo (xs.length : Int) 402 [bottom xs] [bottom xs]).getD []) else []
end Go.Proofs.Ytdpjcjnednmoeaa

namespace Go.Proofs.Ytdpjcjnednmoeaa
open Go.RowKit

def movG (xs : List (Int × Int)) (k : Nat) : List (List (Int × Int)) :=
  match ladAt xs (cellOf xs k) with
  | 0 => []
  | s + 1 => [cellsTo (xs.set k (((s : Nat) : Int), (cellOf xs k).2 + 1)) (xs.set k (((s : Nat) : Int), (cellOf xs k).2 + 1)).length]
theorem movG_eq (xs : List (Int × Int)) (k : Nat) : movG xs k = movC xs k := by
  unfold movG movC
  split
  · rename_i h; rw [h]
  · rename_i s h; rw [h]; simp only; rw [cellsTo_eq]
def ladToG (xs : List (Int × Int)) : Nat → List (List (Int × Int))
  | 0 => []
  | k + 1 => ladToG xs k ++ movG xs k
theorem ladToG_eq (xs : List (Int × Int)) : ∀ k, ladToG xs k = ladTo xs k
  | 0 => rfl
  | k + 1 => by rw [ladToG, ladTo, ladToG_eq xs k, movG_eq]
def laddersG (n : Int) (xs : List (Int × Int)) : List (List (Int × Int)) := if isDream n xs = true then ascD (ladToG xs xs.length) else []
theorem laddersG_eq (n : Int) (xs : List (Int × Int)) : laddersG n xs = ladders n xs := by
  unfold laddersG ladders
  rw [ladToG_eq]
def pipeNextG (n : Int) (all last : List (List (Int × Int))) : List (List (Int × Int)) := dropD all (ascD (last.flatMap (laddersG n)))
theorem pipeNextG_eq (n : Int) (all last : List (List (Int × Int))) : pipeNextG n all last = pipeNext n all last := by
  unfold pipeNextG pipeNext
  rw [show laddersG n = ladders n from funext (laddersG_eq n)]
def pipeToG (n : Int) : Nat → List (List (Int × Int)) → List (List (Int × Int)) → Option (List (List (Int × Int)))
  | 0, _, _ => none
  | f + 1, all, last =>
    if last = [] then some all
    else if 400 < (all ++ pipeNextG n all last).length then none
    else pipeToG n f (all ++ pipeNextG n all last) (pipeNextG n all last)
theorem pipeToG_eq (n : Int) : ∀ f all last, pipeToG n f all last = pipeTo n f all last
  | 0, _, _ => rfl
  | f + 1, all, last => by rw [pipeToG, pipeTo, pipeNextG_eq, pipeToG_eq n f]
def pipeCount (xs : List Int) : Nat := ((pipeToG (xs.length : Int) 402 [bottom xs] [bottom xs]).getD []).length
end Go.Proofs.Ytdpjcjnednmoeaa

namespace Go.Proofs.Ytdpjcjnednmoeaa
open Go.RowKit

end Go.Proofs.Ytdpjcjnednmoeaa

namespace Go.Proofs.Ytdpjcjnednmoeaa
open Go.RowKit

def fact : Nat → Nat
  | 0 => 1
  | n + 1 => (n + 1) * fact n
theorem fact_pos (n : Nat) : 1 ≤ fact n := by
  induction n with
  | zero => exact Nat.le_refl _
  | succ n ih => rw [fact]; exact Nat.le_trans ih (Nat.le_mul_of_pos_left _ (by omega))
theorem fact_mono {m n : Nat} (h : m ≤ n) : fact m ≤ fact n := by
  induction n with
  | zero => obtain rfl : m = 0 := (by omega); exact Nat.le_refl _
  | succ n ih =>
    rcases Nat.lt_or_ge m (n + 1) with h1 | h1
    · have := ih (by omega)
      rw [fact]; exact Nat.le_trans this (Nat.le_mul_of_pos_left _ (by omega))
    · obtain rfl : m = n + 1 := (by omega); exact Nat.le_refl _
theorem fact_20 : fact 20 = 2432902008176640000 := by rfl
theorem fact_bd {n : Nat} (h : n ≤ 20) : fact n ≤ 2432902008176640000 := by rw [← fact_20]; exact fact_mono h

set_option maxHeartbeats 400000 in
theorem l1Factorial_any (n : Nat) (w : World) (hb : n ≤ 20) :
    Calls Try.prog 44 #[.int .i64 n] w fun e w' => e = .returned (.int .i64 (fact n)) ∧ w = w' := by
  go_enter Try.func44, Try.ntmps44
  go_wp2
  go_loop [3, 4] (fun s i => ∃ k : Nat, k ≤ n + 1 ∧ 1 ≤ k ∧ i = .int .i64 (k + 1) ∧ s = .int .i64 (fact k) ∧ (n ≤ k → fact k = fact n)) (fun _ i => n + 2 - (intOf i).toNat)
  case atStart => exact ⟨1, by omega, by omega, rfl, rfl, fun h => by
    match n, h with
    | 0, _ => rfl
    | 1, _ => rfl⟩
  case round =>
    obtain ⟨k, hk, hk1, rfl, rfl, hfin⟩ := hrel
    have HF := Lib.hid hfin; clear hfin
    by_cases hlt : k < n
    · have h1 := fact_bd (show k + 1 ≤ 20 by omega)
      have h2 := fact_bd (show k ≤ 20 by omega)
      have h3 := Lib.hid (show fact (k + 1) = (k + 1) * fact k from rfl)
      obtain ⟨F, hF⟩ : ∃ F, fact k = F := ⟨_, rfl⟩
      have hm : (0 : Int) ≤ (F : Int) * ((k : Int) + 1) ∧ (F : Int) * ((k : Int) + 1) ≤ 2432902008176640000 := by
        have e : (F : Int) * ((k : Int) + 1) = ((fact (k + 1) : Nat) : Int) := by rw [h3.out, hF, Nat.mul_comm]; simp
        rw [e]; omega
      rw [hF] at h2 ⊢
      have HFk := Lib.hid hF; clear hF h1
      go_wp2
      go_round
      case rel => exact ⟨k + 1, by omega, by omega, by go_num, by
            rw [h3.out, HFk.out, Nat.mul_comm]
            simp, fun h => by
            obtain rfl : k + 1 = n := by omega
            rfl⟩
      case measure => simp [intOf]; omega
    · have hlt' : ¬ ((k : Int) + 1 ≤ n) := by omega
      go_wp2
      go_ret
      exact ⟨ret_int (by rw [HF.out (by omega)]), rfl⟩
end Go.Proofs.Ytdpjcjnednmoeaa

namespace Go.Proofs.Ytdpjcjnednmoeaa
open Go.RowKit

def macDr (n : Nat) (u : List Int) : List (List (Int × Int)) := ascD ((pipeToG (n : Int) 402 [bottom u] [bottom u]).getD [])
def macOk (n : Nat) (u : List Int) : Bool := (pipeToG (n : Int) 402 [bottom u] [bottom u]).isSome && decide ((macDr n u).length * fact (sumI (code u)).toNat = tM u) && decide ((macDr n u).length ≤ 1000)
set_option maxRecDepth 100000 in
theorem macOk_all : ([1, 2, 3, 4].all fun n => (perms n).all (macOk n)) = true := by kernel_rfl
def macPart (j : Nat) : Bool := (((perms 5).drop (12 * j)).take 12).all (macOk 5)
set_option maxRecDepth 100000 in
theorem macPart0 : macPart 0 = true := by kernel_rfl
set_option maxRecDepth 100000 in
theorem macPart1 : macPart 1 = true := by kernel_rfl
set_option maxRecDepth 100000 in
theorem macPart2 : macPart 2 = true := by kernel_rfl
set_option maxRecDepth 100000 in
theorem macPart3 : macPart 3 = true := by kernel_rfl
set_option maxRecDepth 100000 in
theorem macPart4 : macPart 4 = true := by kernel_rfl
set_option maxRecDepth 100000 in
theorem macPart5 : macPart 5 = true := by kernel_rfl
set_option maxRecDepth 100000 in
theorem macPart6 : macPart 6 = true := by kernel_rfl
set_option maxRecDepth 100000 in
theorem macPart7 : macPart 7 = true := by kernel_rfl
set_option maxRecDepth 100000 in
theorem macPart8 : macPart 8 = true := by kernel_rfl
set_option maxRecDepth 100000 in
theorem macPart9 : macPart 9 = true := by kernel_rfl
theorem macOk_five : (perms 5).all (macOk 5) = true := all_parts _ 12 10 _ (by rw [perms5_len]; decide) fun j hj => by
  have hc : j = 0 ∨ j = 1 ∨ j = 2 ∨ j = 3 ∨ j = 4 ∨ j = 5 ∨ j = 6 ∨ j = 7 ∨ j = 8 ∨ j = 9 := by omega
  rcases hc with rfl | rfl | rfl | rfl | rfl | rfl | rfl | rfl | rfl | rfl
  · exact macPart0
  · exact macPart1
  · exact macPart2
  · exact macPart3
  · exact macPart4
  · exact macPart5
  · exact macPart6
  · exact macPart7
  · exact macPart8
  · exact macPart9
structure MacFacts (u : List Int) : Prop where
  ok : pipeOk u = true
  few : (pipeT u).length ≤ 1000
  eq : ((pipeT u).length : Int) * (fact (sumI (code u)).toNat : Int) = (tM u : Int)
theorem macFacts {n : Nat} {u : List Int} (h1 : 1 ≤ n) (h5 : n ≤ 5) (hu : u ∈ perms n) : MacFacts u := by
  have h : macOk n u = true := by
    rcases Nat.lt_or_ge n 5 with h | h
    · have h2 := List.all_eq_true.1 macOk_all n (by
        have hc : n = 1 ∨ n = 2 ∨ n = 3 ∨ n = 4 := by omega
        rcases hc with rfl | rfl | rfl | rfl <;> decide)
      exact List.all_eq_true.1 h2 u hu
    · obtain rfl : n = 5 := by omega
      exact List.all_eq_true.1 macOk_five u hu
  obtain ⟨hul, hup⟩ := perms_ok hu h1 h5
  unfold macOk at h
  simp only [Bool.and_eq_true, decide_eq_true_eq] at h
  have e : pipeT u = macDr n u := by
    unfold pipeT macDr
    rw [if_pos ⟨hup, by omega⟩, hul, pipeToG_eq]
  refine ⟨?_, by rw [e]; exact h.2, ?_⟩
  · unfold pipeOk
    rw [hup, hul, ← pipeToG_eq, h.1.1]
    simp
    omega
  · rw [e, ← h.1.2, Int.natCast_mul]
/-! sums and products modulo 2^64 -/
theorem w64_add (a b : Int) : wrap64 (wrap64 a + wrap64 b) = wrap64 (a + b) := by unfold wrap64; omega
theorem w64_mul (a b : Int) : wrap64 (wrap64 a * b) = wrap64 (a * b) := by
  obtain ⟨k, hk⟩ : ∃ k, wrap64 a = a + 18446744073709551616 * k := ⟨-((a + 9223372036854775808) / 18446744073709551616), by unfold wrap64; omega⟩
  rw [hk, Int.add_mul, Int.mul_assoc]
  generalize k * b = t
  unfold wrap64
  omega
theorem wprod_take {l : List Int} {j : Nat} {x : Int} (h : l[j]? = some x) : wprod (l.take (j + 1)) = wprod (l.take j) * (x + 1) := by
  rw [List.take_add_one, h, Option.toList_some, wprod_snoc]
theorem wsum_take {L : List (List Int)} {j : Nat} {l : List Int} (h : L[j]? = some l) : wsum (L.take (j + 1)) = wsum (L.take j) + wprod l := by
  rw [List.take_add_one, h, Option.toList_some, wsum_append]
  simp [wsum]
theorem redF_let {n : Nat} (h1 : 1 ≤ n) (h5 : n ≤ 5) : ∀ (f : Nat) (u : List Int), u ∈ perms n → ∀ l ∈ redF f u, ∀ x ∈ l, 0 ≤ x ∧ x < 100
  | 0, u, _, l, h => by cases h
  | f + 1, u, hu, l, h => by
    have hb := redBase h1 h5 hu
    rw [redF_succ] at h
    split at h
    · rw [List.mem_singleton] at h
      subst h
      intro x hx
      cases hx
    · obtain ⟨p, hp, h2⟩ := List.mem_flatMap.1 h
      obtain ⟨l', h3, rfl⟩ := List.mem_map.1 h2
      intro x hx
      rcases List.mem_cons.1 hx with rfl | hx
      · exact ⟨(hb.next p hp).1, (hb.next p hp).2.1⟩
      · exact redF_let h1 h5 f p.2 (hb.next p hp).2.2.1 l' h3 x hx
end Go.Proofs.Ytdpjcjnednmoeaa
