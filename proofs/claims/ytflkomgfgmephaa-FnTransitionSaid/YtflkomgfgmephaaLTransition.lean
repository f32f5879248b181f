/-
  Law FnTransition: for every input a Schubert polynomial is a variable times that of a shorter permutation, and some others. No condition.
-/
import Derived.Test.YtflkomgfgmephaaTransP
import Derived.Test.YtflkomgfgmephaaTransI
import Derived.Test.YtflkomgfgmephaaLawSch
import Derived.Test.YtflkomgfgmephaaBuH3
namespace Go.Proofs.Ytflkomgfgmephaa
open Go.RowKit

set_option maxRecDepth 100000 in
set_option maxHeartbeats 6400000 in
theorem lawTransition_walk (w : World) (a : Option Addr) (n c : Nat) (xs : List Int) (hr : RB w a xs) (hn : xs.length = n) (hb : n ≤ 9223372036854775807) (hbs : Bytes xs) :
    Calls Try.prog 4 #[.slice a n c] w fun e w' => e = .returned (.bool true) ∧ Below w.heap.size w w' := by
  have Hn := Lib.hid hn; clear hn
  have Hbs := Lib.hid hbs; clear hbs
  by_cases hbig : 1048576 < n
  · have h1 := Lib.hid (show decide (1048576 < n) = true by simpa using hbig)
    go_enter Try.func4, Try.ntmps4
    go_wp2_with fail
    refine (is (big_any _ _ _ _ hb) h1.out).mono ?_
    rintro e w1 ⟨rfl, rfl⟩
    go_wp2
    go_ret
    exact ⟨rfl, Below.refl _ _⟩
  · have h1 := Lib.hid (show decide (1048576 < n) = false by simpa using hbig)
    go_enter Try.func4, Try.ntmps4
    go_wp2_with fail
    refine (is (big_any _ _ _ _ hb) h1.out).mono ?_
    rintro e w1 ⟨rfl, rfl⟩
    go_wp2_with fail
    refine (drawTwo_any _ _ _ xs _ hr Hn.out (by omega) Hbs.out).mono ?_
    rintro e w1 ⟨m, u, v0, au, cu, av, cv, rfl, ⟨hm1, hm5⟩, hu, hv, hou, -, hB1⟩
    obtain ⟨hul, hup⟩ := perms_ok hu hm1 hm5
    have Hul := Lib.hid hul
    have Hup := Lib.hid hup
    have hru := hou.rd
    have huc := hou.1.lt
    clear hou hv hr h1 hbig
    cases hok : trOk u
    · have H0 := Lib.hid (transNone hm1 hm5 hu hok)
      have Hok := Lib.hid hok
      clear hu hul hup hok
      go_wp2_with fail
      refine (implTrans_any _ _ _ u _ hru Hul.out (by omega)).mono ?_
      rintro e w2 ⟨r0, a1, n1, c1, a2, n2, c2, r3, mid, rfl, -, -, -, h3, -, -, hB2⟩
      obtain rfl : r3 = false := by rw [h3.out]; exact Hok.out
      have hru2 := hru.below hB2
      have hB2' := hB1.trans (hB2.mono hB1.size)
      clear hru hB2 hB1 h3
      go_wp2_with fail
      refine (isInt (lengthOf_any _ _ _ u _ hru2 Hul.out (by omega) huc Hup.out) H0.out).mono ?_
      rintro e w3 ⟨rfl, hB3⟩
      have hB3' := hB2'.trans (hB3.mono hB2'.size)
      go_wp2
      go_ret
      exact ⟨rfl, hB3'⟩
    · have HF := Lib.hid (transFacts hm1 hm5 hu hok)
      have HV := Lib.hid (trV_facts hok)
      have H0 := Lib.hid (tr_yes hok)
      have Hok := Lib.hid hok
      obtain ⟨Lu, hLu⟩ : ∃ L, sumI (code u) = L := ⟨_, rfl⟩
      have hLb : 0 ≤ Lu ∧ Lu ≤ 100 := by rw [← hLu]; have := len_ok hm1 hm5 hu; exact ⟨this.1, this.2.1⟩
      have HLu := Lib.hid hLu
      have HLv := Lib.hid (show sumI (code (trV u)) = Lu - 1 by have := HF.out.len; omega)
      have hr5 := HF.out.r
      clear hu hul hup hok hLu
      generalize hR : trR u = r at *
      generalize hVv : trV u = v at *
      have HR := Lib.hid hR
      have HVv := Lib.hid hVv
      clear hR hVv
      go_wp2_with fail
      refine (implTrans_any _ _ _ u _ hru Hul.out (by omega)).mono ?_
      rintro e w2 ⟨r0, a1, n1, c1, a2, n2, c2, r3, mid, rfl, h0, ho1, ho2, h3, hm1', hm2', hB2⟩
      obtain rfl : r3 = true := by rw [h3.out]; exact Hok.out
      obtain rfl : r0 = (r : Int) := by rw [h0.out]; exact H0.out.1
      rw [H0.out.2.1] at ho1
      have hl1 := ho1.len
      have Hvm := Lib.hid (show v.length = m by rw [HV.out.2.1, Hul.out])
      obtain rfl : n1 = m := by rw [← hl1]; exact Hvm.out
      have hvc := ho1.1.lt
      have hrv := ho1.rd
      have hl2 := ho2.len
      have Hl2 := Lib.hid hl2
      have hfew := HF.out.few
      rw [hl2] at hfew
      have hru2 := hru.below hB2
      have Ho2 := Lib.hid ho2
      have hB2' := hB1.trans (hB2.mono hB1.size)
      clear ho1 ho2 hru hB2 hB1 h3 h0 hl1 hl2 hm1' hm2'
      generalize hLL : tr2 u = l at *
      have HLL := Lib.hid hLL
      clear hLL
      go_wp2_with fail
      refine (variable_law r _ _ rfl (by omega)).mono ?_
      rintro e w3 ⟨a3, n3, c3, rfl, hp3, hB3⟩
      have hB3' := hB2'.trans (hB3.mono hB2'.size)
      have hru3 := hru2.below hB3
      have hrv3 := hrv.below hB3
      have Ho3 := Lib.hid (Ho2.out.below hB3)
      clear hru2 hrv Ho2 hB3 hB2'
      go_wp2_with fail
      refine (schubert_law _ _ _ v _ hrv3 Hvm.out hvc HV.out.1 (by have := HF.out.sv; rw [HVv.out] at this; exact this)).mono ?_
      rintro e w4 ⟨a4, n4, c4, rfl, hp4, hB4⟩
      have hB4' := hB3'.trans (hB4.mono hB3'.size)
      have hru4 := hru3.below hB4
      have hrv4 := hrv3.below hB4
      have hp34 := hp3.below hB4
      have Ho4 := Lib.hid (Ho3.out.below hB4)
      clear hru3 hrv3 Ho3 hB4 hB3' hp3
      have Hacc := Lib.hid (show ∀ k, k ≤ l.length → OKp (accF (timesM (varM r) (SM v)) (l.take k)) by have := HF.out.acc; rw [HR.out, HVv.out, HLL.out] at this; exact this)
      have Heq := Lib.hid (show Same (accF (timesM (varM r) (SM v)) l) (SM u) by have := HF.out.eq; rw [HR.out, HVv.out, HLL.out] at this; exact this)
      have Heach := Lib.hid (show ∀ x ∈ l, x.length = n1 ∧ isPerm x = true ∧ OKp (SM x) by have := HF.out.each; rw [HLL.out] at this; exact this)
      go_wp2_with fail
      refine (times_law _ _ _ _ _ _ (varM r) (SM v) _ hp34 hp4 (varM_okp (by omega)) (by have := HF.out.sv; rw [HVv.out] at this; exact this) (by have := Hacc.out 0 (Nat.zero_le _); exact this)).mono ?_
      rintro e w5 ⟨a5, n5, c5, rfl, hp5, hB5⟩
      have hB5' := hB4'.trans (hB5.mono hB4'.size)
      have hru5 := hru4.below hB5
      have hrv5 := hrv4.below hB5
      have Ho5 := Lib.hid (Ho4.out.below hB5)
      have Hp5 := Lib.hid hp5
      clear hru4 hrv4 Ho4 hB5 hB4' hp34 hp4 hp5
      generalize hf0 : timesM (varM r) (SM v) = f0 at *
      clear hf0
      go_wp2
      go_loopw [9, 10] (fun fv iv wr => Hid (∃ (k : Nat) (af : Option Addr) (nf cf : Nat), iv = .int .i64 k ∧ k ≤ n2 ∧ fv = .slice af nf cf ∧ PT wr af nf (accF f0 (l.take k))) ∧ Below w5.heap.size w5 wr) (fun _ iv _ => n2 - (intOf iv).toNat)
      case atStart => exact ⟨⟨0, _, _, _, rfl, Nat.zero_le _, rfl, Hp5.out⟩, Below.refl _ _⟩
      case round =>
        clear Hp5
        obtain ⟨HW, hBr⟩ := hrel
        obtain ⟨wo, rfl⟩ : ∃ wo : World, wo = wr := ⟨_, rfl⟩
        obtain ⟨k, af, nf, cf, rfl, hk, rfl, hpf⟩ := HW.out
        clear HW
        by_cases hlt : k < n2
        · obtain ⟨x, hx⟩ := some_of (show k < l.length by rw [Hl2.out]; exact hlt)
          obtain ⟨g, a', c', rfl, hcell, hio, _⟩ := (Ho5.out.below hBr).open hx
          obtain ⟨hxl, hxp, hxo⟩ := Heach.out x (List.mem_of_getElem? hx)
          rw [hxl] at hcell hio
          have hrx := hio.rd
          have hxc := hio.1.lt
          have Hxl := Lib.hid hxl
          have Hxp := Lib.hid hxp
          have Hxo := Lib.hid hxo
          have Hst := Lib.hid (show accF f0 (l.take (k + 1)) = plusM (accF f0 (l.take k)) 1 (SM x) by rw [take_at hx, accF_snoc])
          have q1 : (k : Int) < (n2 : Int) := by omega
          have hkl : k + 1 ≤ l.length := by rw [Hl2.out]; omega
          clear hxl hxp hxo hx hio
          go_wp2_with fail
          refine (schubert_law _ _ _ x _ hrx Hxl.out hxc Hxp.out Hxo.out).mono ?_
          rintro e w6 ⟨a6, n6, c6, rfl, hp6, hB6⟩
          have hBr6 := hBr.trans (hB6.mono hBr.size)
          have hpf6 := hpf.below hB6
          clear hrx hcell hpf hB6
          go_wp2_with fail
          refine (plus_law _ _ _ _ _ _ (accF f0 (l.take k)) (SM x) 1 _ hpf6 hp6 (by omega) (Hacc.out k (by omega)) Hxo.out (by have := Hacc.out (k + 1) hkl; rw [Hst.out] at this; exact this)).mono ?_
          rintro e w7 ⟨a7, n7, c7, rfl, hp7, hB7⟩
          have hBr7 := hBr6.trans (hB7.mono hBr6.size)
          rw [← Hst.out] at hp7
          have Hp7 := Lib.hid hp7
          clear hpf6 hp6 hp7 hB7
          go_wp2
          go_roundw
          case rel => exact ⟨⟨k + 1, _, _, _, by go_num, by omega, rfl, Hp7.out⟩, hBr7⟩
          case measure => simp [intOf]; omega
        · obtain rfl : k = n2 := by omega
          have hru6 := hru5.below hBr
          have hrv6 := hrv5.below hBr
          have hB6' := hB5'.trans (hBr.mono hB5'.size)
          have Hpf := Lib.hid (show PT wo af nf (accF f0 l) by rw [List.take_of_length_le (by rw [Hl2.out]; exact Nat.le_refl _)] at hpf; exact hpf)
          have Hfin := Lib.hid (show OKp (accF f0 l) by have := Hacc.out k (by rw [Hl2.out]; exact Nat.le_refl _); rw [List.take_of_length_le (by rw [Hl2.out]; exact Nat.le_refl _)] at this; exact this)
          have q3 : IntKind.i64.wrap (Lu - 1) = Lu - 1 := IntWalk.i64_in _ (by omega)
          clear hpf hru5 hrv5 Ho5
          go_wp2_with fail
          refine (isInt (lengthOf_any _ _ _ v _ hrv6 Hvm.out (by omega) hvc HV.out.1) HLv.out).mono ?_
          rintro e w7 ⟨rfl, hB7⟩
          have hru7 := hru6.below hB7
          have hB7' := hB6'.trans (hB7.mono hB6'.size)
          have Hp7 := Lib.hid (Hpf.out.below hB7)
          clear hru6 hrv6 hB6' Hpf hB7 hBr
          go_wp2_with fail
          refine (isInt (lengthOf_any _ _ _ u _ hru7 Hul.out (by omega) huc Hup.out) HLu.out).mono ?_
          rintro e w8 ⟨rfl, hB8⟩
          have hru8 := hru7.below hB8
          have hB8' := hB7'.trans (hB8.mono hB7'.size)
          have Hp8 := Lib.hid (Hp7.out.below hB8)
          clear hru7 hB7' Hp7 hB8
          go_wp2_with fail
          refine (schubert_law _ _ _ u _ hru8 Hul.out huc Hup.out HF.out.su).mono ?_
          rintro e w9 ⟨a9, n9, c9, rfl, hp9, hB9⟩
          have hB9' := hB8'.trans (hB9.mono hB8'.size)
          have hp89 := Hp8.out.below hB9
          clear Hp8 hB9 hB8' hru8
          go_wp2_with fail
          refine (terms_law _ _ _ _ _ _ (accF f0 l) (SM u) _ hp89 hp9 Heq.out.eqv).mono ?_
          rintro e w10 ⟨rfl, hd⟩
          have hB10 := hB9'.trans (hd.below _)
          go_wp2
          go_ret
          exact ⟨rfl, hB10⟩
end Go.Proofs.Ytflkomgfgmephaa
