/-
  Law FnMacdonald: for every input the products of the letters of the reduced words of a permutation, each one more, add up to the number of its dreams times the factorial of its length; for long ones the numbers of reduced words agree. No condition.
-/
import Derived.Test.YtdpjcjnednmoeaaBuM15
import Derived.Test.YtdpjcjnednmoeaaBuM18
import Derived.Test.YtdpjcjnednmoeaaBuM19
import Derived.Test.YtdpjcjnednmoeaaBuM20
import Derived.Test.YtdpjcjnednmoeaaBuM21
namespace Go.Proofs.Ytdpjcjnednmoeaa
open Go.RowKit

set_option maxHeartbeats 800000 in
theorem specLen_any (n : Nat) (h1 : 1 ≤ n) (h5 : n ≤ 5) (a : Option Addr) (c : Nat) (u : List Int) (w : World) (hr : RI w a u) (hcap : n ≤ c) (hu : u ∈ perms n) :
    Calls Try.prog 6 #[.slice a n c] w fun e w' => e = .returned (.int .i64 (sumI (code u))) ∧ Below w.heap.size w w' := by
  obtain ⟨hul, hup⟩ := perms_ok hu h1 h5
  go_enter Try.func6, Try.ntmps6
  go_wp2_with fail
  refine (is (specIsPerm_any _ _ _ u _ hr hul (by omega) hcap) hup).mono ?_
  rintro e w1 ⟨rfl, hd1⟩
  have hB1 := hd1.below w.heap.size
  have HR := Lib.hid (hr.below hB1)
  go_wp2_with fail
  refine (l1Length_any _ _ _ u _ HR.out hul (by omega)).mono ?_
  rintro e w2 ⟨rfl, hB2⟩
  go_wp2
  go_ret
  exact ⟨rfl, hB1.trans (hB2.mono hB1.size)⟩
set_option maxRecDepth 100000 in
set_option maxHeartbeats 6400000 in
theorem lawMacdonald_walk (w : World) (a : Option Addr) (n c : Nat) (xs : List Int) (hr : RB w a xs) (hn : xs.length = n) (hb : n ≤ 9223372036854775807) (hbs : Bytes xs) :
    Calls Try.prog 3 #[.slice a n c] w fun e w' => e = .returned (.bool true) ∧ Below w.heap.size w w' := by
  have Hn := Lib.hid hn; clear hn
  have Hbs := Lib.hid hbs; clear hbs
  by_cases hbig : 1048576 < n
  · have h1 := Lib.hid (show decide (1048576 < n) = true by simpa using hbig)
    go_enter Try.func3, Try.ntmps3
    go_wp2_with fail
    refine (is (big_any _ _ _ _ hb) h1.out).mono ?_
    rintro e w1 ⟨rfl, rfl⟩
    go_wp2
    go_ret
    exact ⟨rfl, Below.refl _ _⟩
  have h1 := Lib.hid (show decide (1048576 < n) = false by simpa using hbig)
  go_enter Try.func3, Try.ntmps3
  go_wp2_with fail
  refine (is (big_any _ _ _ _ hb) h1.out).mono ?_
  rintro e w1 ⟨rfl, rfl⟩
  go_wp2_with fail
  refine (drawWordOf_any _ _ _ xs _ hr Hn.out (by omega) Hbs.out).mono ?_
  rintro e w1 ⟨m, u, au, cu, _, _, _, _, _, _, rfl, ⟨hm1, hm5⟩, hu, hou, hB1⟩
  have hru := hou.rd
  have huc : m ≤ cu := hou.1.lt
  have HF := Lib.hid (redFacts hm1 hm5 hu)
  have HM := Lib.hid (macFacts hm1 hm5 hu)
  obtain ⟨hul, hup⟩ := perms_ok hu hm1 hm5
  have Hul := Lib.hid hul
  have Hup := Lib.hid hup
  have Hu := Lib.hid hu
  have hl0 := HF.out.low
  have hl10 := HF.out.len
  obtain ⟨L, hL⟩ : ∃ L : Nat, sumI (code u) = (L : Int) := ⟨(sumI (code u)).toNat, by omega⟩
  have HL := Lib.hid hL
  rw [hL] at hl0 hl10
  clear hou hr h1 hbig hu hul hup hL
  go_wp2_with fail
  refine (isInt (specLen_any m hm1 hm5 _ _ u _ hru huc Hu.out) HL.out).mono ?_
  rintro e w2 ⟨rfl, hB2⟩
  have hru2 := hru.below hB2
  have hB12 := hB1.trans (hB2.mono hB1.size)
  by_cases hl : 8 < (L : Int)
  · go_wp2_with fail
    refine (countRed_any m hm1 hm5 _ _ u _ hru2 huc Hu.out).mono ?_
    rintro e w3 ⟨rfl, hB3⟩
    have hB13 := hB12.trans (hB3.mono hB12.size)
    have hru3 := hru2.below hB3
    go_wp2_with fail
    refine (specCount_any m hm1 hm5 _ _ u _ hru3 huc Hu.out (by rw [HL.out]; exact hl)).mono ?_
    rintro e w4 ⟨rfl, hB4⟩
    go_wp2
    go_ret
    exact ⟨by simp, hB13.trans (hB4.mono hB13.size)⟩
  · have q8 : decide (8 < (L : Int)) = false := decide_eq_false hl
    clear hl
    go_wp2_with fail
    refine (redWords_any m hm1 hm5 _ _ u _ hru2 huc Hu.out).mono ?_
    rintro e w3 ⟨aw, mw, cw, rfl, how, hB3⟩
    have hB13 := hB12.trans (hB3.mono hB12.size)
    have hru3 := hru2.below hB3
    have How := Lib.hid how
    have hmw : mw ≤ 800 := by rw [← how.len]; exact HF.out.few
    clear how
    go_wp2_with fail
    refine (implPipe_any _ _ _ u _ hru3 Hul.out (by omega) huc).mono ?_
    rintro e w4 ⟨a4, n4, c4, r4, rfl, ho4, hr4, hB4⟩
    obtain rfl : r4 = true := by rw [hr4.out]; exact HM.out.ok
    have hB14 := hB13.trans (hB4.mono hB13.size)
    have hru4 := Lib.hid (hru3.below hB4)
    have How4 := Lib.hid (How.out.below hB4)
    have Hn4 := Lib.hid ho4.len
    have hn4 : n4 ≤ 1000 := by rw [← Hn4.out]; exact HM.out.few
    have hw4 := hB14.size
    have HB14 := Lib.hid hB14
    obtain ⟨W, hW⟩ : ∃ W, rws u = W := ⟨_, rfl⟩
    have hlet : ∀ l ∈ W, ∀ x ∈ l, 0 ≤ x ∧ x < 100 := fun l hl => redF_let hm1 hm5 11 u Hu.out l (by have h : redF 11 u = W := hW; rw [h]; exact hl)
    have hsh : ∀ l ∈ W, l.length ≤ 11 := by rw [← hW]; exact HF.out.short
    have HLet := Lib.hid hlet
    have HSh := Lib.hid hsh
    have HMac := Lib.hid (show wsum W = (tM u : Int) by rw [← hW]; exact HF.out.mac)
    rw [hW] at How4
    have Hwl := Lib.hid How4.out.len
    have HEq := Lib.hid (show (n4 : Int) * (fact L : Int) = (tM u : Int) by have h := HM.out.eq; rw [Hn4.out, HL.out, Int.toNat_natCast] at h; exact h)
    clear ho4 hr4 How hru3 hru2 hru hlet hsh hW HF HM hB1 hB2 hB12 hB3 hB13 hB4 hB14
    go_wp2
    go_loopw [10, 11] (fun v i wr => Hid (∃ k, k ≤ mw ∧ i = .int .i64 (k : Nat) ∧ v = .int .i64 (wrap64 (wsum (W.take k)))) ∧ Below w4.heap.size w4 wr) (fun _ i _ => mw - (intOf i).toNat)
    case atStart => exact ⟨⟨0, Nat.zero_le _, rfl, by simp [wsum, wrap64]⟩, Below.refl _ _⟩
    case round =>
      obtain ⟨HV, hB⟩ := hrel
      obtain ⟨wo, rfl⟩ : ∃ wo : World, wo = wr := ⟨_, rfl⟩
      obtain ⟨k, hk, rfl, rfl⟩ := HV.out
      clear HV
      have hzo := hB.size
      by_cases hlt : k < mw
      · have q1 : (k : Int) < (mw : Int) := by omega
        obtain ⟨l, hl⟩ := some_of (show k < W.length by rw [Hwl.out]; exact hlt)
        have hmem := List.mem_of_getElem? hl
        have HLl := Lib.hid (HLet.out l hmem)
        have hl11 := HSh.out l hmem
        have hst := wsum_take hl
        obtain ⟨g, rfl, hg4, hcl⟩ := How4.out.at (k := k) (by rw [Hwl.out]; exact hlt)
        obtain ⟨al, cl, hcel, hol⟩ := hcl k l hl
        have Hrl := Lib.hid hol.rd
        have Hcel := Lib.hid hcel
        have hcw := show wo.cell? ⟨g, k, none⟩ = some (Value.slice al l.length cl) by rw [hB.cell (p := ⟨g, k, none⟩) hg4]; exact hcel
        obtain ⟨S, hS⟩ : ∃ S, wsum (W.take k) = S := ⟨_, rfl⟩
        rw [hS] at hst
        have Hst := Lib.hid hst
        obtain ⟨ll, hll⟩ : ∃ ll, l.length = ll := ⟨_, rfl⟩
        rw [hll] at hcw Hcel hl11
        have Hll := Lib.hid hll
        rw [hS]
        clear hcl hcel hol hl hmem hst hS hll
        go_wp2
        go_loopw [12, 13] (fun v2 i2 wr2 => Hid (∃ j, j ≤ ll ∧ i2 = .int .i64 (j : Nat) ∧ v2 = .int .i64 (wrap64 (wprod (l.take j)))) ∧ Below w4.heap.size w4 wr2) (fun _ i2 _ => ll - (intOf i2).toNat)
        case atStart => exact ⟨⟨0, Nat.zero_le _, rfl, by simp [wprod, wrap64]⟩, hB⟩
        case round =>
          clear hcw hB hzo
          obtain ⟨HV, hB⟩ := hrel
          obtain ⟨wi, rfl⟩ : ∃ wi : World, wi = wr := ⟨_, rfl⟩
          obtain ⟨j, hj, rfl, rfl⟩ := HV.out
          clear HV
          have hzi := hB.size
          have hcw := show wi.cell? ⟨g, k, none⟩ = some (Value.slice al ll cl) by rw [hB.cell (p := ⟨g, k, none⟩) hg4]; exact Hcel.out
          by_cases hltj : j < ll
          · have q2 : (j : Int) < (ll : Int) := by omega
            obtain ⟨b, off, rfl, hcell⟩ := (Hrl.out.below hB).at (k := j) (by rw [Hll.out]; exact hltj)
            obtain ⟨y, hy⟩ := some_at (k := j) Hll.out hltj
            have hcy := hcell j y hy
            have hyr := HLl.out y (List.mem_of_getElem? hy)
            have hst2 := wprod_take hy
            obtain ⟨P, hP⟩ : ∃ P, wprod (l.take j) = P := ⟨_, rfl⟩
            rw [hP] at hst2
            have q3 : IntKind.i64.wrap (y + 1) = y + 1 := IntWalk.i64_in _ (by omega)
            have q4 : IntKind.i64.wrap (wrap64 P * (y + 1)) = wrap64 (wprod (l.take (j + 1))) := by rw [IntWalk.i64_left, w64_mul, hst2]
            rw [hP]
            clear hcell hy hst2 hP
            go_wp2
            go_roundw
            case rel => exact ⟨⟨j + 1, by omega, by go_num, rfl⟩, hB⟩
            case measure => simp [intOf]; omega
          · obtain rfl : j = ll := by omega
            have q5 : IntKind.i64.wrap (wrap64 S + wrap64 (wprod (l.take j))) = wrap64 (wsum (W.take (k + 1))) := by
              rw [List.take_of_length_le (by rw [Hll.out]; exact Nat.le_refl _), Hst.out, IntWalk.i64_left, w64_add]
            have q6 : ¬ (j : Int) < (j : Int) := by omega
            go_wp2
            go_roundw
            case rel => exact ⟨⟨k + 1, by omega, by go_num, rfl⟩, hB⟩
            case measure => simp [intOf]; omega
      · obtain rfl : k = mw := by omega
        have hn : wrap64 (wsum (W.take k)) = wrap64 (tM u : Int) := by rw [List.take_of_length_le (by rw [Hwl.out]; exact Nat.le_refl _), HMac.out]
        obtain ⟨X, hX⟩ : ∃ X, wrap64 (tM u : Int) = X := ⟨_, rfl⟩
        rw [hn, hX]
        have HX := Lib.hid hX
        have Hru := Lib.hid (hru4.out.below hB)
        have HBo := Lib.hid (HB14.out.trans (hB.mono hw4))
        clear hn hX
        go_wp2
        go_loopw [14, 15] (fun v i wr => Hid (∃ j, 1 ≤ j ∧ (j ≤ L ∨ j = 1) ∧ i = .int .i64 ((j : Nat) + 1) ∧ v = .int .i64 (wrap64 ((n4 : Int) * (fact j : Int)))) ∧ Below wo.heap.size wo wr) (fun _ i _ => L + 2 - (intOf i).toNat)
        case atStart => exact ⟨⟨1, Nat.le_refl _, .inr rfl, rfl, by
          have : fact 1 = 1 := rfl
          rw [this, Int.natCast_one, Int.mul_one]
          congr 1
          unfold wrap64
          omega⟩, Below.refl _ _⟩
        case round =>
          clear hB hzo
          obtain ⟨HV, hB⟩ := hrel
          obtain ⟨wi, rfl⟩ : ∃ wi : World, wi = wr := ⟨_, rfl⟩
          obtain ⟨j, hj, hj2, rfl, rfl⟩ := HV.out
          clear HV
          have hzi := hB.size
          have Hbf := Lib.hid (HBo.out.trans (hB.mono HBo.out.size))
          go_wp2_with fail
          refine (isInt (lengthOf_any _ _ _ u _ (Hru.out.below hB) Hul.out (by omega) huc Hup.out) HL.out).mono ?_
          rintro e w6 ⟨rfl, hB6⟩
          have Hbf6 := Lib.hid (Hbf.out.trans (hB6.mono Hbf.out.size))
          have Hb6 := Lib.hid (hB.trans (hB6.mono hzi))
          by_cases hlj : j + 1 ≤ L
          · have q7 : (j : Int) + 1 ≤ (L : Int) := by omega
            have q9 : IntKind.i64.wrap (wrap64 ((n4 : Int) * (fact j : Int)) * ((j : Int) + 1)) = wrap64 ((n4 : Int) * (fact (j + 1) : Int)) := by
              rw [IntWalk.i64_left, w64_mul, Int.mul_assoc, show fact (j + 1) = (j + 1) * fact j from rfl, Nat.mul_comm (j + 1), Int.natCast_mul]
              rfl
            clear hB hB6
            go_wp2
            go_roundw
            case rel => exact ⟨⟨j + 1, by omega, .inl hlj, by go_num, rfl⟩, Hb6.out⟩
            case measure => simp [intOf]; omega
          · have q7 : ¬ (j : Int) + 1 ≤ (L : Int) := by omega
            have hfL : fact j = fact L := by
              rcases hj2 with h | h
              · rw [show j = L by omega]
              · subst h
                have h0 : L = 0 ∨ L = 1 := by omega
                rcases h0 with rfl | rfl <;> rfl
            have q10 : wrap64 ((n4 : Int) * (fact j : Int)) = X := by rw [hfL, HEq.out, HX.out]
            rw [q10]
            clear hB hB6 q10
            go_wp2
            go_ret
            exact ⟨by simp, Hbf6.out⟩
end Go.Proofs.Ytdpjcjnednmoeaa
