/-
  Law FnGrothendieck: for every input a Grothendieck polynomial begins with the Schubert polynomial, and is the sum over all dreams whose words make the permutation by swaps that make longer, with signs. No condition.
-/
import Derived.Test.YtflkomgfgmephaaGrothL
import Derived.Test.YtflkomgfgmephaaLawSch
import Derived.Deep.RegionHeld3
namespace Go.Proofs.Ytflkomgfgmephaa
open Go.RowKit

set_option maxRecDepth 100000 in
set_option maxHeartbeats 6400000 in
theorem lawGrothendieck_walk (w : World) (a : Option Addr) (n c : Nat) (xs : List Int) (hr : RB w a xs) (hn : xs.length = n) (hb : n ≤ 9223372036854775807) (hbs : Bytes xs) :
    Calls Try.prog 6 #[.slice a n c] w fun e w' => e = .returned (.bool true) ∧ Below w.heap.size w w' := by
  have Hn := Lib.hid hn; clear hn
  have Hbs := Lib.hid hbs; clear hbs
  by_cases hbig : 1048576 < n
  · have h1 := Lib.hid (show decide (1048576 < n) = true by simpa using hbig)
    go_enter Try.func6, Try.ntmps6
    go_wp2_with fail
    refine (is (big_any _ _ _ _ hb) h1.out).mono ?_
    rintro e w1 ⟨rfl, rfl⟩
    go_wp2
    go_ret
    exact ⟨rfl, Below.refl _ _⟩
  · have h1 := Lib.hid (show decide (1048576 < n) = false by simpa using hbig)
    go_enter Try.func6, Try.ntmps6
    go_wp2_with fail
    refine (is (big_any _ _ _ _ hb) h1.out).mono ?_
    rintro e w1 ⟨rfl, rfl⟩
    go_wp2_with fail
    refine (drawSmall_any _ _ _ xs _ hr Hn.out (by omega) Hbs.out).mono ?_
    rintro e w1 ⟨m, u, v0, z0, au, cu, av, cv, az, cz, rfl, ⟨hm2, hm4⟩, hu, -, -, hou, -, -, hB1⟩
    obtain ⟨hul, hup⟩ := perms_ok hu (by omega) (by omega)
    have Hul := Lib.hid hul
    have Hup := Lib.hid hup
    have hru := hou.rd
    have huc := hou.1.lt
    have HF := Lib.hid (groFacts hm2 hm4 hu)
    obtain ⟨L, hL⟩ : ∃ L, sumI (code u) = L := ⟨_, rfl⟩
    have Hpart := Lib.hid (show Eqv (partD L (GM u)) (SM u) from hL ▸ HF.out.part)
    have Hfin := Lib.hid (show Eqv (accX m u L (2 ^ sizeN m)) (GM u) from hL ▸ HF.out.fin)
    have hLb : 0 ≤ L ∧ L ≤ 100 := by rw [← hL]; exact (groFacts hm2 hm4 hu).len
    have HL := Lib.hid hL
    clear hou hr h1 hbig hu hul hup hL
    go_wp2_with fail
    refine (implGro_ok _ _ _ u _ hru Hul.out huc Hup.out (by omega) HF.out.ok).mono ?_
    rintro e w2 ⟨a2, n2, c2, rfl, hp2, hB2⟩
    have hru2 := hru.below hB2
    have hB2' := hB1.trans (hB2.mono hB1.size)
    have Hru := Lib.hid (fun w' (h : Below w2.heap.size w2 w') => hru2.below h)
    have Hp2 := Lib.hid (fun w' (h : Below w2.heap.size w2 w') => hp2.below h)
    clear hru hB2 hB1 hp2
    go_wp2_with fail
    refine (isInt (lengthOf_any _ _ _ u _ hru2 Hul.out (by omega) huc Hup.out) HL.out).mono ?_
    rintro e w3 ⟨rfl, hb3⟩
    have d2 := hb3
    go_wp2_with fail
    refine (partOf_any L _ _ _ (GM u) _ (Hp2.out _ d2) HF.out.ok).mono ?_
    rintro e w4 ⟨a4, n4, c4, rfl, hp4, hb4⟩
    have d3 := Below.trans d2 (hb4.mono (Below.size d2))
    go_wp2_with fail
    refine (schubert_law _ _ _ u _ (Hru.out _ d3) Hul.out huc Hup.out HF.out.sm).mono ?_
    rintro e w5 ⟨a5, n5, c5, rfl, hp5, hb5⟩
    have d4 := Below.trans d3 (hb5.mono (Below.size d3))
    have hp45 := PT.below hp4 hb5
    go_wp2_with fail
    refine (terms_law _ _ _ _ _ _ _ _ _ hp45 hp5 Hpart.out).mono ?_
    rintro e w6 ⟨rfl, hd6⟩
    have d5 := d4.trans (hd6.below _)
    have hB6 := hB2'.trans (d5.mono hB2'.size)
    have Hru6 := Lib.hid (Hru.out _ d5)
    have Hp6 := Lib.hid (Hp2.out _ d5)
    clear hru2 d2 d3 d4 d5 hb3 hb4 hb5 hd6 hp4 hp45 hp5 Hru Hp2 hB2' Hpart
    obtain ⟨Z, hZ⟩ : ∃ Z, sizeN m = Z := ⟨_, rfl⟩
    obtain ⟨qs, hZ6⟩ := size_int hm2 hm4 hZ
    obtain ⟨P, hP⟩ : ∃ P, 2 ^ Z = P := ⟨_, rfl⟩
    have HP := Lib.hid hP
    have HZ := Lib.hid hZ
    have HX := Lib.hid (fun x (h : x < P) => okX_of (n := m) (x := x) hm2 hm4 (by rw [hZ, hP]; exact h))
    have HA := Lib.hid (fun x (h : x ≤ P) => accX_okp (n := m) hm2 hm4 u L (x := x) (by rw [hZ, hP]; exact h))
    have hP64 : P ≤ 64 := by rw [← hP, ← hZ]; exact size_le hm2 hm4
    have h0 : PT (w6.alloc (.cells #[] 72)) (some ⟨w6.heap.size, 0, none⟩) 0 (accX m u L 0) := PT.of (by rw [accX_zero]; exact TO.made w6) (accX_okp hm2 hm4 u L (Nat.zero_le _))
    have hB0 : Below w6.heap.size w6 (w6.alloc (.cells #[] 72)) := (Below.refl _ _).alloc (Nat.le_refl _) _
    have qP := pow_int hP hP64
    clear hP hZ
    go_wp2
    rw [qs]
    go_loopw [9, 11] (fun gv xv wr => Hid (∃ (x : Nat) (a' : Option Addr) (n' c' : Nat), xv = .int .i64 x ∧ x ≤ P ∧ gv = .slice a' n' c' ∧ PT wr a' n' (accX m u L x)) ∧ Below w6.heap.size w6 wr) (fun _ xv _ => P - (intOf xv).toNat)
    case atStart => exact ⟨⟨0, _, _, _, rfl, Nat.zero_le _, rfl, h0⟩, hB0⟩
    case round =>
      clear h0 hB0
      obtain ⟨HV, hB⟩ := hrel
      obtain ⟨wx, rfl⟩ : ∃ wx : World, wx = wr := ⟨_, rfl⟩
      obtain ⟨x, ag, ng, cg, rfl, hx, rfl, hpg⟩ := HV.out
      clear HV
      by_cases hlt : x < P
      · have q1 : (x : Int) < (P : Int) := by omega
        obtain ⟨i0, hi, hz0, hz1, hz2⟩ := info_parts Try.info3
        have hCm := CO.made wx
        have hBW : Below wx.heap.size wx (wx.alloc (.cells #[] 53)) := (Below.refl _ _).alloc (Nat.le_refl _) _
        have hzW : (wx.alloc (.cells #[] 53)).heap.size = wx.heap.size + 1 := by simp
        have Hpg := Lib.hid (fun w' (h : Below wx.heap.size wx w') => hpg.below h)
        clear hpg
        go_wp2_with (first | (at_make; refine wpList_make_full _ rfl _ _ 24 rfl (wx.alloc (.cells #[] 53)).heap.size 3 i0 (.int .i64 0) 1 Try.underlying24 hi hz0 hz1 .i64 .i64 _ _ 7 rfl rfl ?m1 ?m2 ?m3 ?m4 ?m5 ?_))
        case m1 => rfl
        case m2 => rfl
        case m3 => rw [hz2]; omega
        case m4 => unfold maxLen; omega
        case m5 => exact Nat.le_refl _
        intro w2 hown2 hg2
        have hB2 : Below (wx.alloc (.cells #[] 53)).heap.size (wx.alloc (.cells #[] 53)) w2 := (Below.refl _ _).grown hg2 (Nat.le_refl _) (by simp)
        have hB2x := hBW.trans (hB2.mono hBW.size)
        have hz2' := hB2.size
        have hC2 := (hCm.below hB2).mono (B' := wx.heap.size) (S' := w2.heap.size) (Nat.le_refl _) hz2'
        obtain ⟨ge, hge⟩ : ∃ ge, wx.heap.size + 1 = ge := ⟨_, rfl⟩
        rw [hge] at hown2 hzW
        have hE2 : OwI w2 wx.heap.size w2.heap.size (some ⟨ge, 0, none⟩) 7 7 (List.replicate 7 0) := by
          have e := toList_madeCells_one (.int .i64 0) 7
          exact (OwI.mk (by simpa [ints, Value.cells, e] using hown2)).mono (by omega) (Nat.le_refl _)
        clear hown2 hg2 hCm hB2
        rw [hge]
        go_wp2
        go_loopw [12, 14, 15] (fun lv bv iv wr => Hid (∃ (i k : Nat) (a' : Option Addr) (c' : Nat), iv = .int .i64 i ∧ i ≤ m ∧ bv = .int .i64 (bitsTo m i) ∧ lv = .slice a' k c' ∧ CO wr wx.heap.size wr.heap.size a' k c' (allS m x i).1 ∧ OwI wr wx.heap.size wr.heap.size (some ⟨ge, 0, none⟩) 7 7 (allS m x i).2) ∧ Below wx.heap.size wx wr) (fun _ _ iv _ => m - (intOf iv).toNat)
        case atStart => exact ⟨⟨0, 0, _, _, rfl, Nat.zero_le _, rfl, rfl, hC2, hE2⟩, hB2x⟩
        case round =>
          clear hC2 hE2 hB2x hz2'
          obtain ⟨HV, hBi⟩ := hrel
          obtain ⟨wi, rfl⟩ : ∃ wi : World, wi = wr := ⟨_, rfl⟩
          obtain ⟨i, k, al, cl, rfl, hi4, rfl, rfl, hC, hE⟩ := HV.out
          clear HV
          have hble := bitsTo_le m hm4 i
          by_cases hlti : i < m
          · have q2 : (i : Int) < (m : Int) := by omega
            have hgood := allS_good m x i (by omega)
            have Hnx := Lib.hid (show allS m x (i + 1) = rowS x (bitsTo m i) i (allS m x i) (m - 1 - i) from rfl)
            have Hbx := Lib.hid (show bitsTo m (i + 1) = bitsTo m i + (m - 1 - i) from rfl)
            obtain ⟨b, hb0⟩ : ∃ b, bitsTo m i = b := ⟨_, rfl⟩
            obtain ⟨s0, hs0⟩ : ∃ s, allS m x i = s := ⟨_, rfl⟩
            rw [hb0] at hgood Hnx Hbx hble
            rw [hs0] at hC hE hgood Hnx
            have Hgood := Lib.hid (fun j => hgood.row (x := x) (i := i) (by omega) j)
            obtain ⟨J, hJ⟩ : ∃ J, m - 1 - i = J := ⟨_, rfl⟩
            rw [hJ] at Hnx Hbx
            clear hgood hs0
            rw [hb0]
            go_wp2
            go_loopw [12, 14, 16] (fun lv bv jv wr => Hid (∃ (j k t : Nat) (a' : Option Addr) (c' : Nat), jv = .int .i64 j ∧ j ≤ J ∧ t = b + j ∧ bv = .int .i64 t ∧ lv = .slice a' k c' ∧ CO wr wx.heap.size wr.heap.size a' k c' (rowS x b i s0 j).1 ∧ OwI wr wx.heap.size wr.heap.size (some ⟨ge, 0, none⟩) 7 7 (rowS x b i s0 j).2) ∧ Below wx.heap.size wx wr) (fun _ _ jv _ => J - (intOf jv).toNat)
            case atStart => exact ⟨⟨0, _, b, _, _, rfl, Nat.zero_le _, rfl, rfl, rfl, hC, hE⟩, hBi⟩
            case round =>
              clear hC hE hBi
              obtain ⟨HV, hBj⟩ := hrel
              obtain ⟨wj, rfl⟩ : ∃ wj : World, wj = wr := ⟨_, rfl⟩
              obtain ⟨j, k2, t, aj, cj, rfl, hjJ, ht, rfl, rfl, hC, hE⟩ := HV.out
              clear HV
              have hzj := hBj.size
              have Ht := Lib.hid ht
              have ht20 : t ≤ 20 := by omega
              by_cases hltj : j < J
              · have q3 : (i : Int) + (j : Int) ≤ (m : Int) - 2 := by omega
                have hg1 := Hgood.out j
                have hqb := bit_x x t (by omega)
                have Hst := Lib.hid (show rowS x b i s0 (j + 1) = stepS x t i j (rowS x b i s0 j) by rw [ht]; rfl)
                obtain ⟨s, hs⟩ : ∃ s, rowS x b i s0 j = s := ⟨_, rfl⟩
                rw [hs] at hC hE hg1 Hst
                rw [← ht] at hg1
                clear hs ht
                obtain ⟨y, hy⟩ : ∃ y, x / 2 ^ t % 2 = y := ⟨_, rfl⟩
                rw [hy] at hqb
                by_cases hy1 : y = 1
                · subst hy1
                  have Hst2 := Lib.hid (show (rowS x b i s0 (j + 1)) = (s.1 ++ [((i : Int), (j : Int))], s.2.set i (s.2.getD i 0 + 1)) by
                    rw [Hst.out, stepS, if_pos (by unfold bitOf; rw [hy]; rfl)])
                  have HC := Lib.hid hC
                  have HE := Lib.hid hE
                  have hk20 : k2 ≤ 20 := by have := hg1.cells; rw [hC.len] at this; omega
                  have He := Lib.hid hg1.exps
                  have q5 : (i : Int) < 7 := by omega
                  clear hC hE hy hg1
                  go_wp2_with (first | (at_builtin; go_loud (refine wpList_pushC (by rfl) (by rfl) _ _ (by rfl) HC.out (by rfl) (by rfl) (by omega) (by omega) ?_)))
                  intro a3 c3 w3 ho3 hg3
                  have hB3 := below_grown (v := .slice aj k2 cj) hBj hg3 (by omega) HC.out.lo
                  have hE3 := HE.out.kept hg3 (fun k hk => ne_blockC HC.out HE.out.1 k hk)
                  have hz3 := hg3.size
                  obtain ⟨g, hg, hgB, ⟨z, hz, hcz⟩, hf⟩ := OI.cons hE3.1 (j := i) (by omega)
                  simp only [Option.some.injEq, Addr.mk.injEq] at hg
                  obtain ⟨rfl, _⟩ := hg
                  obtain ⟨z0, z1⟩ := He.out z (List.mem_of_getElem? hz)
                  have HC3 := Lib.hid (show CO w3 wx.heap.size w3.heap.size a3 (k2 + 1) c3 (rowS x b i s0 (j + 1)).1 by rw [Hst2.out]; exact ho3)
                  have HE3 := Lib.hid (hE3.mono (Nat.le_refl wx.heap.size) hz3)
                  have Hz := Lib.hid (show s.2.set i (z + 1) = (rowS x b i s0 (j + 1)).2 by rw [Hst2.out, getD_of hz])
                  clear ho3 hE3 hg3 hz HC HE
                  go_wp2
                  go_roundw
                  case rel =>
                    have hs := HE3.out.1.store i (z + 1)
                    rw [Hz.out] at hs
                    have hO := Only.of_grown (v := .slice (some ⟨ge, 0, none⟩) 7 7) (B := wx.heap.size) (S := w3.heap.size) hs.2 HE3.out.1.lo (fun k hk => HE3.out.2 k hk)
                    have hC4 := (HC3.out.kept hs.2 (fun k hk e => ne_blockC HC3.out HE3.out.1 k e hk))
                    exact ⟨⟨j + 1, k2 + 1, t + 1, _, _, by go_num, by omega, by have := Ht.out; omega, by go_num, rfl, hC4.mono (Nat.le_refl _) (by simp), ⟨hs.1, fun k hk => by have := HE3.out.2 k hk; simp; omega⟩⟩, hO.below hB3 (Nat.le_refl _) (by omega)⟩
                  case measure => simp [intOf]; omega
                · have hy0 : y = 0 := by have := Nat.mod_lt (x / 2 ^ t) (show 2 > 0 by decide); omega
                  subst hy0
                  have Hst2 := Lib.hid (show (rowS x b i s0 (j + 1)) = s by
                    rw [Hst.out, stepS, if_neg (by unfold bitOf; rw [hy]; simp)])
                  have HC := Lib.hid hC
                  have HE := Lib.hid hE
                  clear hC hE hy hg1
                  go_wp2
                  go_roundw
                  case rel => exact ⟨⟨j + 1, _, t + 1, _, _, by go_num, by omega, by have := Ht.out; omega, by go_num, rfl, by rw [Hst2.out]; exact HC.out, by rw [Hst2.out]; exact HE.out⟩, hBj⟩
                  case measure => simp [intOf]; omega
              · have q3 : ¬ (i : Int) + (j : Int) ≤ (m : Int) - 2 := by omega
                obtain rfl : j = J := by omega
                have HC := Lib.hid hC
                have HE := Lib.hid hE
                clear hC hE ht
                go_wp2
                go_roundw
                case rel => exact ⟨⟨i + 1, _, _, _, by go_num, by omega, by rw [Hbx.out, ← Ht.out], rfl, by rw [Hnx.out]; exact HC.out, by rw [Hnx.out]; exact HE.out⟩, hBj⟩
                case measure => simp [intOf]; omega
          · obtain rfl : m = i := by omega
            have hck : k ≤ 12 := by have h1 := (allS_good m x m (by omega)).cells; rw [hC.len] at h1; omega
            have HK := Lib.hid (HX.out x hlt)
            have HCl := Lib.hid (show (cellsX m x).length = k from hC.len)
            have HE := Lib.hid (show OwI wi wx.heap.size wi.heap.size (some ⟨ge, 0, none⟩) 7 7 (expX m x) from hE)
            have Hru7 := Lib.hid (Hru6.out.below hB)
            clear hE
            go_wp2_with fail
            refine (implDW_any _ _ _ _ (cellsX m x) _ (by omega) (by omega) hC.rd HCl.out (by omega) trivial).mono ?_
            rintro e wd ⟨ad, nd, cd, rd, rfl, hod, hrd, hbd⟩
            obtain rfl : rd = true := by rw [hrd.out]; exact HK.out.dream
            have hBd := hBi.trans (hbd.mono hBi.size)
            have hol : (wordX m x).length = nd := hod.len
            have hnd : nd ≤ 6 := by rw [← hol]; exact HK.out.wlen
            have Hol := Lib.hid hol
            clear hrd hC hol
            go_wp2_with fail
            refine (demazurePerm_any _ m _ _ _ (wordX m x) _ hod.rd Hol.out (by omega) rfl HK.out.word).mono ?_
            rintro e we ⟨ae, ce, rfl, hoe, hbe⟩
            have hBe := hBd.trans (hbe.mono hBd.size)
            rw [show demPlay m (wordX m x) nd = demX m x by rw [demX, Hol.out]] at hoe
            have hrue := Hru7.out.below hBe
            have hBee := hB.trans (hBe.mono hB.size)
            have hie := hbd.trans (hbe.mono hbd.size)
            clear hod hbe hbd
            cases hd : decide (demX m x = u)
            · have Hd := Lib.hid hd
              have Hst := Lib.hid (show accX m u L (x + 1) = accX m u L x by
                rw [accX_succ, accR, if_neg]
                simpa [rowX] using hd)
              clear hd
              go_wp2_with fail
              refine (is (ints_any _ _ _ _ _ _ (demX m x) u _ hoe.rd hrue hoe.len Hul.out (by omega)) Hd.out).mono ?_
              rintro e wf ⟨rfl, hdf⟩
              have hBf := hBe.trans (hdf.below _)
              have hBff := hB.trans (hBf.mono hB.size)
              have Hpf := Lib.hid (Hpg.out _ hBf)
              clear hoe hrue
              go_wp2
              go_roundw
              case rel => exact ⟨⟨x + 1, _, _, _, by go_num, by omega, rfl, by rw [Hst.out]; exact Hpf.out⟩, hBff⟩
              case measure => simp [intOf]; omega
            · have Hd := Lib.hid hd
              have Hst := Lib.hid (show accX m u L (x + 1) = plusM (accX m u L x) (sgn k L) (monoM (expX m x)) by
                rw [accX_succ, accR, if_pos (by simpa [rowX] using hd), ← HCl.out]
                rfl)
              clear hd
              go_wp2_with fail
              refine (is (ints_any _ _ _ _ _ _ (demX m x) u _ hoe.rd hrue hoe.len Hul.out (by omega)) Hd.out).mono ?_
              rintro e wf ⟨rfl, hdf⟩
              have hBf := hBe.trans (hdf.below _)
              have hruf := hrue.below (hdf.below _)
              clear hoe hrue
              go_wp2_with fail
              refine (isInt (lengthOf_any _ _ _ u _ hruf Hul.out (by omega) huc Hup.out) HL.out).mono ?_
              rintro e wg ⟨rfl, hbg⟩
              have hBg := hBf.trans (hbg.mono hBf.size)
              have hig := (hie.trans (hdf.below _)).trans (hbg.mono (hie.trans (hdf.below _)).size)
              have HEg := Lib.hid (HE.out.rd.below hig)
              have Hel := Lib.hid (expX_len (n := m) (by omega) x)
              have HOm := Lib.hid (monoM_okp (by rw [Hel.out]; exact Nat.le_refl _) HK.out.exps)
              clear hruf hdf hbg
              by_cases ht0 : ((k : Int) - L).tmod 2 = 0
              · have e1 : (((k : Int) - L).tmod 2 != 0) = false := by simpa using ht0
                have Hsg := Lib.hid (show sgn k L = 1 by unfold sgn; rw [if_pos ht0])
                have q7 : IntKind.i64.wrap ((k : Int) - L) = (k : Int) - L := IntWalk.i64_in _ (by omega)
                go_wp2_with fail
                refine (specMono_any _ 7 _ (expX m x) _ HEg.out Hel.out (Nat.le_refl _) HK.out.exps).mono ?_
                rintro e wm ⟨am, nm, cm, rfl, hpm, hbm⟩
                have hBm := hBg.trans (hbm.mono hBg.size)
                have Hpgm := Lib.hid (Hpg.out _ hBm)
                go_wp2_with fail
                refine (plus_law _ _ _ _ _ _ _ _ _ _ Hpgm.out hpm (by omega) (HA.out x (by omega)) HOm.out (by rw [← Hsg.out, ← Hst.out]; exact HA.out (x + 1) (by omega))).mono ?_
                rintro e wp ⟨ap, np, cp, rfl, hpp, hbp⟩
                have hBp := hB.trans ((hBm.trans (hbp.mono hBm.size)).mono hB.size)
                have Hpp := Lib.hid (show PT wp ap np (accX m u L (x + 1)) by rw [Hst.out, Hsg.out]; exact hpp)
                clear hpp hpm
                go_wp2
                go_roundw
                case rel => exact ⟨⟨x + 1, _, _, _, by go_num, by omega, rfl, Hpp.out⟩, hBp⟩
                case measure => simp [intOf]; omega
              · have e1 : (((k : Int) - L).tmod 2 != 0) = true := by simpa using ht0
                have Hsg := Lib.hid (show sgn k L = -1 by unfold sgn; rw [if_neg ht0])
                have q7 : IntKind.i64.wrap ((k : Int) - L) = (k : Int) - L := IntWalk.i64_in _ (by omega)
                go_wp2_with fail
                refine (specMono_any _ 7 _ (expX m x) _ HEg.out Hel.out (Nat.le_refl _) HK.out.exps).mono ?_
                rintro e wm ⟨am, nm, cm, rfl, hpm, hbm⟩
                have hBm := hBg.trans (hbm.mono hBg.size)
                have Hpgm := Lib.hid (Hpg.out _ hBm)
                go_wp2_with fail
                refine (plus_law _ _ _ _ _ _ _ _ _ _ Hpgm.out hpm (by omega) (HA.out x (by omega)) HOm.out (by rw [← Hsg.out, ← Hst.out]; exact HA.out (x + 1) (by omega))).mono ?_
                rintro e wp ⟨ap, np, cp, rfl, hpp, hbp⟩
                have hBp := hB.trans ((hBm.trans (hbp.mono hBm.size)).mono hB.size)
                have Hpp := Lib.hid (show PT wp ap np (accX m u L (x + 1)) by rw [Hst.out, Hsg.out]; exact hpp)
                clear hpp hpm
                go_wp2
                go_roundw
                case rel => exact ⟨⟨x + 1, _, _, _, by go_num, by omega, rfl, Hpp.out⟩, hBp⟩
                case measure => simp [intOf]; omega
      · obtain rfl : P = x := by omega
        have q1 : ¬ (P : Int) < (P : Int) := by omega
        have Hp7 := Lib.hid (Hp6.out.below hB)
        have He := Lib.hid (show Eqv (GM u) (accX m u L P) by rw [← HP.out, ← HZ.out]; exact Hfin.out.symm)
        go_wp2_with fail
        refine (terms_law _ _ _ _ _ _ _ _ _ Hp7.out hpg He.out).mono ?_
        rintro e w7 ⟨rfl, hd7⟩
        have hBz := hB6.trans ((hB.trans (hd7.below _)).mono hB6.size)
        go_wp2
        go_ret
        exact ⟨rfl, hBz⟩
end Go.Proofs.Ytflkomgfgmephaa
