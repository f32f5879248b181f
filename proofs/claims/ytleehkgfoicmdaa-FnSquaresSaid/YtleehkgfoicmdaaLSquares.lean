/-
  Law FnSquares: for every input the squares of the numbers of standard tableaux of one size add up to the factorial of it. No condition.
-/
import Derived.Test.YtleehkgfoicmdaaStdCount
import Derived.Test.YtleehkgfoicmdaaShapesIn
import Derived.Test.YtleehkgfoicmdaaBytes
namespace Go.Proofs.Ytleehkgfoicmdaa
open Go.RowKit

def sqs (n : Int) : List Int := (shapes 6 6).map fun s => if sumI s = n then stdCount s * stdCount s else 0
theorem sqs_facts : ∀ n : Nat, n < 7 → sumI (sqs n) = fact n ∧ (sqs n).all (fun x => decide (0 ≤ x) && decide (x ≤ 1000)) = true ∧
    (shapes 6 6).all (fun s => decide (sumI s ≠ n) || (decide (1 ≤ stdCount s) && decide (stdCount s ≤ 1000) && decide (stdCount s = stdCount (conjugate s)))) = true := by
  have h : (List.range 7).all (fun n => decide (sumI (sqs n) = fact n) && (sqs n).all (fun x => decide (0 ≤ x) && decide (x ≤ 1000)) &&
    (shapes 6 6).all (fun s => decide (sumI s ≠ n) || (decide (1 ≤ stdCount s) && decide (stdCount s ≤ 1000) && decide (stdCount s = stdCount (conjugate s))))) = true := by decide +kernel
  intro n hn
  rw [List.all_eq_true] at h
  have h1 := h n (by simpa using hn)
  simp only [Bool.and_eq_true] at h1
  exact ⟨by simpa using h1.1.1, h1.1.2, h1.2⟩
theorem shapes_small : (shapes 6 6).all (fun s => s.all fun x => decide (0 ≤ x) && decide (x ≤ 6)) = true := by decide +kernel

theorem sqs_at {n : Int} {k : Nat} {s : List Int} (h : (shapes 6 6)[k]? = some s) : (sqs n)[k]? = some (if sumI s = n then stdCount s * stdCount s else 0) := by
  rw [sqs, List.getElem?_map, h]; rfl
theorem sqs_small {n : Nat} (hn : n < 7) : Small (sqs n) := by
  intro x hx
  have := (sqs_facts n hn).2.1
  rw [List.all_eq_true] at this
  have := this x hx
  simp at this
  omega
theorem sqs_nonneg {n : Nat} (hn : n < 7) (k : Nat) : 0 ≤ sumI ((sqs n).take k) := by
  have h : ∀ (ys : List Int), (∀ y ∈ ys, 0 ≤ y) → 0 ≤ sumI ys := by
    intro ys
    induction ys with
    | nil => intro _; exact Int.le_refl _
    | cons y ys ih => intro hy; rw [sumI_cons]; have := hy y (by simp); have := ih (fun z hz => hy z (by simp [hz])); omega
  refine h _ (fun y hy => ?_)
  have := (sqs_facts n hn).2.1
  rw [List.all_eq_true] at this
  have := this y (List.mem_of_mem_take hy)
  simp at this
  omega
theorem shape_small6 {s : List Int} (h : s ∈ shapes 6 6) : Small s := by
  intro x hx
  have h1 := shapes_small
  rw [List.all_eq_true] at h1
  have h2 := h1 s h
  rw [List.all_eq_true] at h2
  have := h2 x hx
  simp at this
  omega
theorem std_facts {n : Nat} (hn : n < 7) {s : List Int} (h : s ∈ shapes 6 6) (hs : sumI s = n) : 1 ≤ stdCount s ∧ stdCount s ≤ 1000 ∧ stdCount s = stdCount (conjugate s) := by
  have h1 := (sqs_facts n hn).2.2
  rw [List.all_eq_true] at h1
  have h2 := h1 s h
  simp only [Bool.or_eq_true, Bool.and_eq_true, decide_eq_true_eq] at h2
  rcases h2 with h2 | h2
  · exact absurd hs h2
  · exact ⟨h2.1.1, h2.1.2, h2.2⟩

set_option maxRecDepth 100000 in
set_option maxHeartbeats 3200000 in
theorem lawSquares_walk (w : World) (a : Option Addr) (n c : Nat) (xs : List Int) (hr : RB w a xs) (hn : xs.length = n) (hb : n ≤ 9223372036854775807) (hbs : Bytes xs) :
    Calls Try.prog 5 #[.slice a n c] w fun e w' => e = .returned (.bool true) ∧ Below w.heap.size w w' := by
  have Hn := Lib.hid hn; clear hn
  have Hbs := Lib.hid hbs; clear hbs
  by_cases hbig : 1048576 < n
  · have h1 := Lib.hid (show decide (1048576 < n) = true by simpa using hbig)
    go_enter Try.func5, Try.ntmps5
    go_wp2_with fail
    refine (is (big_any _ _ _ _ hb) h1.out).mono ?_
    rintro e w1 ⟨rfl, rfl⟩
    go_wp2
    go_ret
    exact ⟨rfl, Below.refl _ _⟩
  · have h1 := Lib.hid (show decide (1048576 < n) = false by simpa using hbig)
    go_enter Try.func5, Try.ntmps5
    go_wp2_with fail
    refine (is (big_any _ _ _ _ hb) h1.out).mono ?_
    rintro e w1 ⟨rfl, rfl⟩
    go_wp2_with fail
    refine (at0_zero _ _ _ xs _ hr Hn.out Hbs.out (by omega)).mono ?_
    rintro e w1 ⟨v, rfl, hv, rfl⟩
    go_wp2_with fail
    refine (implShapesIn_any 6 6 w (by omega) (by omega) (by omega) (by omega)).mono ?_
    rintro e w1 ⟨al, nl, cl, rfl, ho, hb1⟩
    rw [shapesIn_yes (by omega)] at ho
    have ho' : IIO w1 w.heap.size w1.heap.size al nl cl (shapes 6 6) := ho
    have hnl := ho'.len
    have hnlb : nl ≤ 924 := by rw [← hnl]; exact (shapes_few 6 (by omega) 6 (by omega)).1
    have HNL := Lib.hid hnl; clear hnl ho
    obtain ⟨q, hq⟩ : ∃ q : Nat, (v : Int) % 7 = q := ⟨v % 7, by omega⟩
    have hq7 : q < 7 := by omega
    have hs1 := hb1.size
    have ho := ho'.rd
    clear ho'
    go_wp2_with fail
    clear hq
    go_loopw [5, 7] (fun t i wr => ∃ k : Nat, k ≤ nl ∧ i = .int .i64 k ∧ t = .int .i64 (sumI ((sqs q).take k)) ∧ Below w1.heap.size w1 wr) (fun _ i _ => nl - (intOf i).toNat)
    case atStart => exact ⟨0, Nat.zero_le _, rfl, rfl, Below.refl _ _⟩
    case round =>
      obtain ⟨k, hk, rfl, rfl, hbel⟩ := hrel
      obtain ⟨wo, rfl⟩ : ∃ wo : World, wo = wr := ⟨_, rfl⟩
      by_cases hlt : k < nl
      · obtain ⟨s, hsk⟩ := some_of (show k < (shapes 6 6).length by rw [HNL.out]; exact hlt)
        have hmem := List.mem_of_getElem? hsk
        obtain ⟨b, off, rfl, hcell⟩ := (ho.below hbel).at (k := k) (by rw [HNL.out]; exact hlt)
        obtain ⟨sa, cs, hc, hrs⟩ := hcell k s hsk
        have hsl : s.length ≤ 6 := by
          have := (shapes_few 6 (by omega) 6 (by omega)).2.2
          rw [List.all_eq_true] at this
          simpa using this s hmem
        have hsm := Lib.hid (shape_small6 hmem)
        have hst := Lib.hid (sumI_take (sqs_at (n := q) hsk))
        have hfx := Lib.hid (fun h : sumI s = q => std_facts hq7 hmem h)
        have hn0 := sqs_nonneg hq7 k
        have hbd := sumI_bd ((sqs_small hq7).take k)
        have hlk : ((sqs q).take k).length ≤ 924 := by rw [List.length_take]; omega
        have hbd2 : sumI ((sqs q).take k) ≤ 968884224 := by have := hbd.2; omega
        clear hbd hlk hcell
        obtain ⟨m, hm⟩ : ∃ m, s.length = m := ⟨_, rfl⟩
        rw [hm] at hc hsl
        have HM := Lib.hid hm; clear hm hsk hmem
        obtain ⟨T, hT⟩ : ∃ T, sumI ((sqs q).take k) = T := ⟨_, rfl⟩
        rw [hT] at hn0 hbd2 ⊢
        have HT := Lib.hid hT; clear hT
        by_cases hsq : sumI s = q
        · have hf := hfx.out hsq
          obtain ⟨X, hX⟩ : ∃ X, stdCount s = X := ⟨_, rfl⟩
          rw [hX] at hf
          have hf3 := Lib.hid hf.2.2
          have hX1 := hf.1
          have hX2 := hf.2.1
          have HX := Lib.hid hX; clear hX hf
          have HSQ := Lib.hid hsq; clear hsq
          have hXX : 0 ≤ X * X ∧ X * X ≤ 1000000 := ⟨Int.mul_nonneg (by omega) (by omega), by
            have := Int.mul_le_mul hX2 hX2 (by omega) (by omega)
            simpa using this⟩
          have hqq : ((q : Int) == (q : Int)) = true := by simp
          go_wp2_with fail
          refine (isInt (sumLaws_any _ _ _ s _ hrs HM.out (by omega) hsm.out) HSQ.out).mono ?_
          rintro e w2 ⟨rfl, rfl⟩
          go_wp2_with fail
          refine (implStd_any _ _ _ s _ hrs HM.out (by omega)).mono ?_
          rintro e w2 ⟨x, rfl, hx, hb2⟩
          obtain rfl : x = X := by rw [hx.out, HX.out]
          have hbel2 := hbel.trans (hb2.mono hbel.size)
          have hc2 : w2.cell? ⟨b, off + k, none⟩ = some (.slice sa m cs) := by rw [hb2.cell (World.block_lt_of_cell? wo _ hc)]; exact hc
          have hrs2 := hrs.below hb2
          clear hx hc hb2 hqq
          go_wp2_with fail
          refine (implConj_any _ _ _ s _ hrs2 HM.out (by omega)).mono ?_
          rintro e w3 ⟨a3, n3, c3, rfl, ho3, hb3⟩
          have hn3 := ho3.1
          have hn3b : n3 ≤ 16 := by rw [← hn3]; exact conjugate_length s
          have HN3 := Lib.hid hn3; clear hn3
          go_wp2_with fail
          refine (implStd_any _ _ _ (conjugate s) _ ho3.ri HN3.out (by omega)).mono ?_
          rintro e w4 ⟨y, rfl, hy, hb4⟩
          obtain rfl : y = x := by rw [hy.out, ← hf3.out]
          have hbel4 := (hbel2.trans (hb3.mono hbel2.size)).trans (hb4.mono (Nat.le_trans hbel2.size hb3.size))
          clear hy hf3 hb3 hb4 hbel2 ho3 hrs2
          go_wp2
          go_roundw
          case rel => exact ⟨k + 1, by omega, by go_num, by rw [hst.out, HT.out, if_pos HSQ.out, HX.out], hbel4⟩
          case measure => simp [intOf]; omega
        · have hne : (sumI s == (q : Int)) = false := by simpa using hsq
          have HSQ := Lib.hid hsq; clear hsq
          obtain ⟨Y, hY⟩ : ∃ Y, sumI s = Y := ⟨_, rfl⟩
          rw [hY] at hne
          have HY := Lib.hid hY; clear hY
          go_wp2_with fail
          refine (isInt (sumLaws_any _ _ _ s _ hrs HM.out (by omega) hsm.out) HY.out).mono ?_
          rintro e w2 ⟨rfl, rfl⟩
          go_wp2
          go_roundw
          case rel => exact ⟨k + 1, by omega, by go_num, by rw [hst.out, HT.out, if_neg HSQ.out]; simp, hbel⟩
          case measure => simp [intOf]; omega
      · obtain rfl : k = nl := by omega
        have hall : sumI ((sqs q).take k) = fact q := by
          rw [List.take_of_length_le (by unfold sqs; rw [List.length_map, HNL.out]; omega)]
          exact (sqs_facts q hq7).1
        rw [hall]
        clear hall
        have HFq := Lib.hid (fact_bd (show q ≤ 20 by omega))
        obtain ⟨G, hG⟩ : ∃ G, fact q = G := ⟨_, rfl⟩
        rw [hG]
        have HG := Lib.hid hG; clear hG
        have hbelw := hb1.trans (hbel.mono hs1)
        go_wp2_with fail
        go_loop [6, 9] (fun v i => ∃ k : Nat, k ≤ q + 1 ∧ 1 ≤ k ∧ i = .int .i64 (k + 1) ∧ v = .int .i64 (fact k) ∧ Hid (q ≤ k → fact k = fact q)) (fun _ i => q + 2 - (intOf i).toNat)
        case atStart => exact ⟨1, by omega, by omega, rfl, rfl, fun h => by
          match q, h with
          | 0, _ => rfl
          | 1, _ => rfl⟩
        case round =>
          clear hk hlt
          obtain ⟨k, hk, hk1, rfl, rfl, HF⟩ := hrel
          by_cases hlt : k < q
          · have h1 := fact_bd (show k + 1 ≤ 20 by omega)
            have h2 := fact_bd (show k ≤ 20 by omega)
            have h3 := Lib.hid (fact_step k)
            obtain ⟨F, hF⟩ : ∃ F, fact k = F := ⟨_, rfl⟩
            have hm : (0 : Int) ≤ (F : Int) * ((k : Int) + 1) ∧ (F : Int) * ((k : Int) + 1) ≤ 2432902008176640000 := by
              have e : (F : Int) * ((k : Int) + 1) = ((fact (k + 1) : Nat) : Int) := by rw [h3.out, hF, Nat.mul_comm]; simp
              rw [e]; omega
            rw [hF] at h2 ⊢
            have HFk := Lib.hid hF; clear hF h1
            go_wp2_with fail
            go_round
            case rel => exact ⟨k + 1, by omega, by omega, by go_num, by
                  rw [h3.out, HFk.out, Nat.mul_comm]
                  simp, fun h => by
                  obtain rfl : k + 1 = q := by omega
                  rfl⟩
            case measure => simp [intOf]; omega
          · have hfs : fact k = G := by rw [← HG.out]; exact HF.out (by omega)
            rw [hfs]
            clear hfs HF
            have hlt' : ¬ ((k : Int) + 1 ≤ q) := by omega
            go_wp2
            go_ret
            exact ⟨by simp, hbelw⟩
end Go.Proofs.Ytleehkgfoicmdaa
