/-
  Law FnMonk: for every input a Schubert polynomial times the sum of the first variables is the sum over the covers. No condition.
-/
import Derived.Test.YtflkomgfgmephaaMonkP
import Derived.Test.YtflkomgfgmephaaMonk
import Derived.Test.YtflkomgfgmephaaLawSch
import Derived.Test.YtflkomgfgmephaaBuH3
import Derived.Test.YtflkomgfgmephaaAt0
namespace Go.Proofs.Ytflkomgfgmephaa
open Go.RowKit

theorem PT.nil (w : World) (a : Option Addr) : PT w a 0 [] := ⟨.inl (by simp [termsM, canon, keysOf, uniq]), by simp [termsM, canon, keysOf, uniq], by omega⟩
theorem nil_okp : OKp [] := (GoodM.nil).okp (by decide) (by decide)
theorem implCls_ok (a : Option Addr) (n c : Nat) (l : List (List Int × Int)) (w : World) (hr : RP w a l) (hn : l.length = n) (hl : classesOk l = true) (hF : OKp (clsM l)) :
    Calls Try.prog 23 #[.slice a n c] w fun e w' => ∃ a' n' c', e = .returned (.tuple #[.slice a' n' c', .bool true]) ∧ PT w' a' n' (clsM l) ∧ Below w.heap.size w w' := by
  obtain ⟨h1, h2⟩ := cls_yes hl
  have h3 := classes_len hl
  refine (implClsPoly_any a n c l w hr hn (by omega) (fun p hp => by
    obtain ⟨k, hk⟩ := List.getElem?_of_mem hp
    have := (classes_each hl hk).2
    omega)).mono ?_
  rintro e w1 ⟨a1, n1, c1, r1, rfl, ho, hr1, hb⟩
  obtain rfl : r1 = true := by rw [hr1.out, h2]; exact hF.ok
  rw [h1, closedT_ok hF.ok] at ho
  exact ⟨_, _, _, rfl, PT.of ho hF, hb⟩

set_option maxRecDepth 100000 in
set_option maxHeartbeats 6400000 in
theorem lawMonk_walk (w : World) (a : Option Addr) (n c : Nat) (xs : List Int) (hr : RB w a xs) (hn : xs.length = n) (hb : n ≤ 9223372036854775807) (hbs : Bytes xs) :
    Calls Try.prog 5 #[.slice a n c] w fun e w' => e = .returned (.bool true) ∧ Below w.heap.size w w' := by
  have Hn := Lib.hid hn; clear hn
  have Hbs := Lib.hid hbs; clear hbs
  by_cases hbig : 1048576 < n
  · have h1 := Lib.hid (show decide (1048576 < n) = true by simpa using hbig)
    go_enter Try.func5, Try.ntmps5
    go_wp2_with fail
    refine (is (big_any _ _ _ _ hb) h1.out).mono ?_
    rintro e w1 ⟨rfl, rfl⟩
    go_wp2
    go_ret
    exact ⟨rfl, Below.refl _ _⟩
  · have h1 := Lib.hid (show decide (1048576 < n) = false by simpa using hbig)
    go_enter Try.func5, Try.ntmps5
    go_wp2_with fail
    refine (is (big_any _ _ _ _ hb) h1.out).mono ?_
    rintro e w1 ⟨rfl, rfl⟩
    go_wp2_with fail
    refine (drawTwo_any _ _ _ xs _ hr Hn.out (by omega) Hbs.out).mono ?_
    rintro e w1 ⟨m, u, v0, au, cu, av, cv, rfl, ⟨hm1, hm5⟩, hu, hv, hou, -, hB1⟩
    obtain ⟨hul, hup⟩ := perms_ok hu hm1 hm5
    have Hul := Lib.hid hul
    have Hup := Lib.hid hup
    have hru := hou.rd
    have huc := hou.1.lt
    have hr1 := hr.below hB1
    have hn20 : n ≤ 1048576 := by omega
    clear hou hv hr h1 hbig
    go_wp2_with fail
    refine (at0_zero _ _ _ xs _ hr1 Hn.out Hbs.out hn20).mono ?_
    rintro e w2 ⟨z, rfl, hz, rfl⟩
    clear hr1
    have q1 : (z : Int).tmod (m : Int) = ((z % m : Nat) : Int) := (Int.ofNat_tmod z m).symm
    have hzm := Nat.mod_lt z (show 0 < m by omega)
    have q0 : ¬ (m : Int) = 0 := by omega
    generalize z % m = t at *
    have HF := Lib.hid (monkFacts hm1 hm5 hu hzm)
    clear hu hul hup
    go_wp2_with fail
    refine (implMonk_any _ _ _ u (t : Int) _ hru Hul.out (by omega) huc (by omega) (by omega)).mono ?_
    rintro e w3 ⟨a3, n3, c3, r3, rfl, ho3, hr3, hB3⟩
    obtain rfl : r3 = true := by rw [hr3.out]; exact HF.out.inn
    have hru3 := hru.below hB3
    have hB3' := hB1.trans (hB3.mono hB1.size)
    have hl3 := ho3.rd
    have Hlen := Lib.hid ho3.len
    clear ho3 hr3 hru hB3 hB1 q1
    have hBa : Below w3.heap.size w3 (w3.alloc (.cells #[] 72)) := (Below.refl _ _).alloc (Nat.le_refl _) _
    go_wp2
    go_loopw [8, 9] (fun fv iv wr => Hid (∃ (k : Nat) (af : Option Addr) (nf cf : Nat), iv = .int .i64 k ∧ k ≤ t + 1 ∧ fv = .slice af nf cf ∧ PT wr af nf (varS k)) ∧ Below w3.heap.size w3 wr) (fun _ iv _ => t + 1 - (intOf iv).toNat)
    case atStart => exact ⟨⟨0, _, _, _, rfl, Nat.zero_le _, rfl, PT.nil _ _⟩, hBa⟩
    case round =>
      clear hBa
      obtain ⟨HW, hBr⟩ := hrel
      obtain ⟨wo, rfl⟩ : ∃ wo : World, wo = wr := ⟨_, rfl⟩
      obtain ⟨k, af, nf, cf, rfl, hk, rfl, hpf⟩ := HW.out
      clear HW
      by_cases hlt : k ≤ t
      · have q2 : (k : Int) ≤ (t : Int) := by omega
        go_wp2_with fail
        refine (variable_law k _ _ rfl (by omega)).mono ?_
        rintro e w6 ⟨a6, n6, c6, rfl, hp6, hB6⟩
        have hBr6 := hBr.trans (hB6.mono hBr.size)
        have hpf6 := hpf.below hB6
        clear hpf hB6
        go_wp2_with fail
        refine (plus_law _ _ _ _ _ _ (varS k) (varM k) 1 _ hpf6 hp6 (by omega) (varS_okp (by omega)) (varM_okp (by omega)) (varS_okp (k := k + 1) (by omega))).mono ?_
        rintro e w7 ⟨a7, n7, c7, rfl, hp7, hB7⟩
        have hBr7 := hBr6.trans (hB7.mono hBr6.size)
        have Hp7 := Lib.hid hp7
        clear hpf6 hp6 hp7 hB7
        go_wp2
        go_roundw
        case rel => exact ⟨⟨k + 1, _, _, _, by go_num, by omega, rfl, Hp7.out⟩, hBr7⟩
        case measure => simp [intOf]; omega
      · obtain rfl : k = t + 1 := by omega
        have hru4 := hru3.below hBr
        have hl4 := hl3.below hBr
        have hB4 := hB3'.trans (hBr.mono hB3'.size)
        have Hpf := Lib.hid hpf
        clear hpf hru3 hl3 hBr hB3'
        go_wp2_with fail
        refine (implCls_ok _ _ _ (monkT u t) _ hl4 Hlen.out HF.out.cls HF.out.c).mono ?_
        rintro e w5 ⟨a5, n5, c5, rfl, hp5, hB5⟩
        have hru5 := hru4.below hB5
        have hB5' := hB4.trans (hB5.mono hB4.size)
        have Hpf5 := Lib.hid (Hpf.out.below hB5)
        clear hru4 hl4 hB4 Hpf hB5
        go_wp2_with fail
        refine (schubert_law _ _ _ u _ hru5 Hul.out huc Hup.out HF.out.su).mono ?_
        rintro e w6 ⟨a6, n6, c6, rfl, hp6, hB6⟩
        have hB6' := hB5'.trans (hB6.mono hB5'.size)
        have hp56 := hp5.below hB6
        have Hpf6 := Lib.hid (Hpf5.out.below hB6)
        clear hp5 Hpf5 hB6 hB5' hru5
        go_wp2_with fail
        refine (times_law _ _ _ _ _ _ (SM u) (varS (t + 1)) _ hp6 Hpf6.out HF.out.su (varS_okp (by omega)) HF.out.p).mono ?_
        rintro e w7 ⟨a7, n7, c7, rfl, hp7, hB7⟩
        have hB7' := hB6'.trans (hB7.mono hB6'.size)
        have hp57 := hp56.below hB7
        clear hp56 hp6 Hpf6 hB7 hB6'
        go_wp2_with fail
        refine (terms_law _ _ _ _ _ _ (clsM (monkT u t)) (timesM (SM u) (varS (t + 1))) _ hp57 hp7 HF.out.eq.eqv).mono ?_
        rintro e w8 ⟨rfl, hd⟩
        have hB8 := hB7'.trans (hd.below _)
        go_wp2
        go_ret
        exact ⟨rfl, hB8⟩
end Go.Proofs.Ytflkomgfgmephaa
