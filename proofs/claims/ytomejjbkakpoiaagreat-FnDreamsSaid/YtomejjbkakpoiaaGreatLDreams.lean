/-
  Law FnDreams: for every input the Schubert polynomial of a permutation is the sum over its reduced dreams, and each dream leads to it. No condition.
-/
import Derived.Test.YtomejjbkakpoiaaGreatDreamsP
import Derived.Test.YtomejjbkakpoiaaGreatPipeI
import Derived.Test.YtomejjbkakpoiaaGreatBuY34
import Derived.Test.YtomejjbkakpoiaaGreatBuY35
import Derived.Test.YtomejjbkakpoiaaGreatBuY28
namespace Go.Proofs.YtomejjbkakpoiaaGreat
open Go.RowKit

theorem PT.nil (w : World) (a : Option Addr) : PT w a 0 [] := ⟨.inl (by simp [termsM, canon, keysOf, uniq]), by simp [termsM, canon, keysOf, uniq], by omega⟩

set_option maxRecDepth 100000 in
set_option maxHeartbeats 6400000 in
theorem lawDreams_walk (w : World) (a : Option Addr) (n c : Nat) (xs : List Int) (hr : RB w a xs) (hn : xs.length = n) (hb : n ≤ 9223372036854775807) (hbs : Bytes xs) :
    Calls Tryz.prog 3 #[.slice a n c] w fun e w' => e = .returned (.bool true) ∧ Below w.heap.size w w' := by
  have Hn := Lib.hid hn; clear hn
  have Hbs := Lib.hid hbs; clear hbs
  by_cases hbig : 1048576 < n
  · have h1 := Lib.hid (show decide (1048576 < n) = true by simpa using hbig)
    go_enter Tryz.func3, Tryz.ntmps3
    go_wp2_with fail
    refine (is (big_any _ _ _ _ hb) h1.out).mono ?_
    rintro e w1 ⟨rfl, rfl⟩
    go_wp2
    go_ret
    exact ⟨rfl, Below.refl _ _⟩
  have h1 := Lib.hid (show decide (1048576 < n) = false by simpa using hbig)
  go_enter Tryz.func3, Tryz.ntmps3
  go_wp2_with fail
  refine (is (big_any _ _ _ _ hb) h1.out).mono ?_
  rintro e w1 ⟨rfl, rfl⟩
  go_wp2_with fail
  refine (drawTwo_any _ _ _ xs _ hr Hn.out (by omega) Hbs.out).mono ?_
  rintro e w1 ⟨m, u, v0, au, cu, av, cv, rfl, ⟨hm1, hm5⟩, hu, hv, hou, -, hB1⟩
  obtain ⟨hul, hup⟩ := perms_ok hu hm1 hm5
  have Hul := Lib.hid hul
  have Hup := Lib.hid hup
  have hru := hou.rd
  have huc := hou.1.lt
  have HF := Lib.hid (drmFacts hm1 hm5 hu)
  have hm64 : -9223372036854775808 ≤ (m : Int) := by omega
  have hm65 : (m : Int) ≤ 9223372036854775807 := by omega
  clear hou hv hr h1 hbig hu hul hup
  go_wp2_with fail
  refine (implPipe_any _ _ _ u _ hru Hul.out (by omega) huc).mono ?_
  rintro e w2 ⟨a2, n2, c2, r2, rfl, ho2, hr2, hB2⟩
  obtain rfl : r2 = true := by rw [hr2.out]; exact HF.out.ok
  obtain ⟨T, hT⟩ : ∃ T, pipeT u = T := ⟨_, rfl⟩
  have hne := HF.out.ne
  have hfew := HF.out.few
  have heach := HF.out.each
  have hacc := HF.out.acc
  have heq := HF.out.eq
  rw [hT] at ho2 hne hfew heach hacc heq
  have Htl := Lib.hid ho2.len
  have Heach := Lib.hid heach
  have Hacc := Lib.hid hacc
  have Heq := Lib.hid heq
  have hsu := Lib.hid HF.out.su
  rw [ho2.len] at hne hfew
  have hl2 := ho2.rd
  have hru2 := hru.below hB2
  have hB12 := hB1.trans (hB2.mono hB1.size)
  have qn : ((n2 : Int) == 0) = false := by simp; omega
  have hBa : Below w2.heap.size w2 (w2.alloc (.cells #[] 74)) := (Below.refl _ _).alloc (Nat.le_refl _) _
  obtain ⟨i0, hi, hz0, hz1, hz2⟩ := info_parts Tryz.info3
  clear ho2 hr2 hB2 hB1 heach hacc heq hT HF hru
  go_wp2
  go_loopw [7, 8] (fun fv iv wr => Hid (∃ (k : Nat) (af : Option Addr) (nf cf : Nat), iv = .int .i64 k ∧ k ≤ n2 ∧ fv = .slice af nf cf ∧ PT wr af nf (dmM T k)) ∧ Below w2.heap.size w2 wr) (fun _ iv _ => n2 - (intOf iv).toNat)
  case atStart => exact ⟨⟨0, _, _, _, rfl, Nat.zero_le _, rfl, PT.nil _ _⟩, hBa⟩
  case round =>
    clear hBa
    obtain ⟨HW, hBr⟩ := hrel
    obtain ⟨wo, rfl⟩ : ∃ wo : World, wo = wr := ⟨_, rfl⟩
    obtain ⟨k, af, nf, cf, rfl, hk, rfl, hpf⟩ := HW.out
    clear HW
    have hBo := hB12.trans (hBr.mono hB12.size)
    have Hpf := Lib.hid hpf
    clear hpf
    by_cases hlt : k < n2
    · obtain ⟨d, hd⟩ := some_of (show k < T.length by rw [Htl.out]; exact hlt)
      obtain ⟨b, off, rfl, hcell⟩ := (hl2.below hBr).at (k := k) (by rw [Htl.out]; exact hlt)
      obtain ⟨a1, c1, hc1, hr1⟩ := hcell k d hd
      obtain ⟨hd1, hd2, hd3, hd4⟩ := Heach.out d (List.mem_of_getElem? hd)
      obtain ⟨L, hL⟩ : ∃ L, d.length = L := ⟨_, rfl⟩
      rw [hL] at hc1 hd1
      have HL := Lib.hid hL
      have Hd2 := Lib.hid hd2
      have Hd3 := Lib.hid hd3
      have Hd4 := Lib.hid hd4
      have Hd := Lib.hid hd
      have q1 : (k : Int) < (n2 : Int) := by omega
      have hruo := hru2.below hBr
      have Hr1 := Lib.hid hr1
      clear hcell hd hL hd2 hd3 hd4 hr1
      go_wp2_with fail
      refine (implDP_any (m : Int) _ _ _ d _ hm64 hm65 Hr1.out HL.out (by omega) trivial).mono ?_
      rintro e w3 ⟨a3, n3, c3, r3, rfl, ho3, hr3, hB3⟩
      obtain rfl : r3 = true := by rw [hr3.out]; exact Hd2.out
      rw [Hd3.out] at ho3
      have hn3 : n3 = m := by rw [← ho3.len, Hul.out]
      subst hn3
      have hr3' := ho3.rd
      have hru3 := hruo.below hB3
      have hc3 := hc1
      rw [← hB3.cell (World.block_lt_of_cell? _ _ hc1)] at hc3
      have Hr3 := Lib.hid (Hr1.out.below hB3)
      have Hpf3 := Lib.hid (Hpf.out.below hB3)
      have hBo3 := hBr.trans (hB3.mono hBr.size)
      clear ho3 hr3 hc1 Hr1 Hpf hB3 hruo
      have hms : w3.heap.size ≤ w3.heap.size := Nat.le_refl _
      go_wp2_with fail
      refine (is (ints_any _ _ _ _ _ _ u u _ hr3' hru3 Hul.out Hul.out (by omega)) (show decide (u = u) = true by simp)).mono ?_
      rintro e w4 ⟨rfl, hd4⟩
      have hB4 := hBo3.trans (hd4.below w3.heap.size |>.mono hBo3.size)
      have hc4 := hc3
      rw [← (hd4.below w3.heap.size).cell (World.block_lt_of_cell? _ _ hc3)] at hc4
      have Hr4 := Lib.hid (Hr3.out.below (hd4.below w3.heap.size))
      have Hpf4 := Lib.hid (Hpf3.out.below (hd4.below w3.heap.size))
      have hs4 := hB4.size
      clear hr3' hru3 hc3 Hr3 Hpf3 hd4 hBo3
      go_wp2_with (first | (at_make; refine wpList_make_full _ rfl _ _ 24 rfl w4.heap.size 3 i0 (.int .i64 0) 1 Tryz.underlying24 hi hz0 hz1 .i64 .i64 _ _ 7 rfl rfl ?m1 ?m2 ?m3 ?m4 ?m5 ?_))
      case m1 => rfl
      case m2 => rfl
      case m3 => rw [hz2]; omega
      case m4 => unfold maxLen; omega
      case m5 => exact Nat.le_refl _
      intro w5 hown hg
      have hB5 : Below w4.heap.size w4 w5 := (Below.refl _ _).grown hg (Nat.le_refl _) (by simp)
      have hrow : OS w5 w4.heap.size (some ⟨w4.heap.size, 0, none⟩) 7 7 (rowE d 0) := by
        refine OS.of ?_
        have e := toList_madeCells_one (.int .i64 0) 7
        simpa [ints, Value.cells, e, rowE] using hown
      have Hrow := Lib.hid hrow
      clear hown hg hrow
      go_wp2
      go_loopw [12] (fun jv wr => Hid (∃ j : Nat, j ≤ L ∧ jv = .int .i64 j ∧ OS wr w4.heap.size (some ⟨w4.heap.size, 0, none⟩) 7 7 (rowE d j)) ∧ Below w4.heap.size w4 wr) (fun jv _ => L - (intOf jv).toNat)
      case atStart => exact ⟨⟨0, Nat.zero_le _, rfl, Hrow.out⟩, hB5⟩
      case round =>
        clear Hrow hB5
        obtain ⟨HV, hBj⟩ := hrel
        obtain ⟨wj, rfl⟩ : ∃ wj : World, wj = wr := ⟨_, rfl⟩
        obtain ⟨j, hj, rfl, ho⟩ := HV.out
        clear HV
        have hcj := hc4
        rw [← hBj.cell (World.block_lt_of_cell? _ _ hc4)] at hcj
        by_cases hjl : j < L
        · obtain ⟨b2, off2, rfl, hcell⟩ := (Hr4.out.below hBj).at (k := j) (by rw [HL.out]; exact hjl)
          obtain ⟨p0, q, hx⟩ := pair_at HL.out hjl
          obtain ⟨hx1, hx2⟩ := hcell _ _ hx
          obtain ⟨hp0, hp7⟩ := Hd4.out _ (List.mem_of_getElem? hx)
          simp only at hx1 hx2 hp0 hp7
          obtain ⟨p, rfl⟩ : ∃ p : Nat, p0 = p := ⟨p0.toNat, by omega⟩
          have hpn : p < 7 := by omega
          have k1 : ¬ (p : Int) < 0 := by omega
          have k2 : ¬ (7 : Int) ≤ (p : Int) := by omega
          have q2 : (j : Int) < (L : Int) := by omega
          obtain ⟨g, hg0, hBg, ⟨v, hv, hcv⟩, hfv⟩ := OI.cons ho hpn
          obtain rfl : w4.heap.size = g := by simpa using hg0
          obtain ⟨hv0, hv1⟩ := rowE_bd d j v (List.mem_of_getElem? hv)
          have q3 : IntKind.i64.wrap (v + 1) = v + 1 := IntWalk.i64_in _ (by omega)
          have s := ho.store p (v + 1)
          have hst : (rowE d j).set p (v + 1) = rowE d (j + 1) := by
            rw [rowE, cellOf_at hx]
            simp only [Int.toNat_natCast]
            rw [getD_of hv]
          rw [hst] at s
          have HS := Lib.hid s.1
          have hB2 := hBj.setCell (p := ⟨w4.heap.size, p, none⟩) hBg (.int .i64 (v + 1))
          have HB2 := Lib.hid hB2
          clear s ho hv hg0 hB2 hcell hx hx2 hst hp0 hp7
          go_wp2
          go_roundw
          case rel => exact ⟨⟨j + 1, by omega, by go_num, HS.out⟩, HB2.out⟩
          case measure => simp [intOf]; omega
        · obtain rfl : j = L := by omega
          have hro := ho.ri
          have hrl := rowE_length d j
          have hbd : ∀ x ∈ rowE d j, 0 ≤ x ∧ x ≤ 24 := fun x hx => by have := rowE_bd d j x hx; omega
          have Hpfj := Lib.hid (Hpf4.out.below hBj)
          have hBoj := hB4.trans (hBj.mono hs4)
          clear Hpf4 ho
          go_wp2_with fail
          refine (specMono_any _ _ _ (rowE d j) _ hro hrl (Nat.le_refl _) hbd).mono ?_
          rintro e w6 ⟨a6, n6, c6, rfl, hp6, hB6⟩
          have hpf6 := Hpfj.out.below hB6
          have hBo6 := hBoj.trans (hB6.mono hBoj.size)
          have hgd : T.getD k [] = d := by rw [List.getD_eq_getElem?_getD, Hd.out]; rfl
          have hsu2 : dmM T (k + 1) = plusM (dmM T k) 1 (monoM (rowE d j)) := by rw [dmM, hgd, HL.out]
          have hok0 := Hacc.out k (by rw [Htl.out]; exact hk)
          have hok1 := Hacc.out (k + 1) (by rw [Htl.out]; omega)
          have hmo := monoM_okp (e := rowE d j) (by omega) hbd
          clear hB6 Hpfj hro hbd
          go_wp2_with fail
          refine (plus_law _ _ _ _ _ _ (dmM T k) (monoM (rowE d j)) 1 _ hpf6 hp6 (by omega) hok0 hmo (by rw [← hsu2]; exact hok1)).mono ?_
          rintro e w7 ⟨a7, n7, c7, rfl, hp7, hB7⟩
          rw [← hsu2] at hp7
          have hBo7 := hBo6.trans (hB7.mono hBo6.size)
          have Hp7 := Lib.hid hp7
          clear hpf6 hp6 hp7 hB7 hsu2 hok0 hok1 hmo
          go_wp2
          go_roundw
          case rel => exact ⟨⟨k + 1, _, _, _, by go_num, by omega, rfl, Hp7.out⟩, hBo7⟩
          case measure => simp [intOf]; omega
    · obtain rfl : k = n2 := by omega
      have hruo := hru2.below hBr
      go_wp2_with fail
      refine (schubert_law _ _ _ u _ hruo Hul.out huc Hup.out hsu.out).mono ?_
      rintro e w6 ⟨a6, n6, c6, rfl, hp6, hB6⟩
      have hBo6 := hBo.trans (hB6.mono hBo.size)
      have hpf6 := Hpf.out.below hB6
      have heq : Eqv (dmM T k) (SM u) := by have := Heq.out.eqv; rw [Htl.out] at this; exact this
      clear hB6 Hpf
      go_wp2_with fail
      refine (terms_law _ _ _ _ _ _ (dmM T k) (SM u) _ hpf6 hp6 heq).mono ?_
      rintro e w8 ⟨rfl, hd⟩
      have hB8 := hBo6.trans (hd.below _)
      go_wp2
      go_ret
      exact ⟨rfl, hB8⟩
end Go.Proofs.YtomejjbkakpoiaaGreat
