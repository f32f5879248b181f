/-
  KeyPoly of the reference.
-/
import Derived.Test.YtocgcgmlemoekaaKey
namespace Go.Proofs.Ytocgcgmlemoekaa
open Go.RowKit

set_option maxRecDepth 100000 in
set_option maxHeartbeats 6400000 in
theorem specKeyPoly_post (a : Option Addr) (n c : Nat) (xs : List Int) (w : World) (hr : RI w a xs) (hn : xs.length = n) (hb : n ≤ 1048576) :
    Calls Try.prog 23 #[.slice a n c] w (PostT w (keyT xs) (keyOk xs)) := by
  have Hn := Lib.hid hn
  by_cases h15 : 1 ≤ n ∧ n ≤ 5
  rotate_left
  · have H0 := Lib.hid (key_no (keyIn_false (xs := xs) (.inl (by omega))))
    clear hn
    go_enter Try.func23, Try.ntmps23
    go_wp2_with fail
    refine (l1In_no (n : Int) 1 5 _ (by omega)).mono ?_
    rintro e w1 ⟨rfl, hd1⟩
    have hB1 := hd1.below w.heap.size
    go_wp2
    go_ret2
    exact ⟨_, _, _, _, rfl, by rw [H0.out.1]; exact TO.nil, H0.out.2.symm, hB1⟩
  obtain ⟨h1, h5⟩ := h15
  have HN := Lib.hid (show nin xs ≤ 1000000 by have := nin_small (v := xs) (by omega); omega)
  have HupL := Lib.hid (show (ups xs).length ≤ 1000000 by have := upf_le (nin xs) xs; have := HN.out; unfold ups; omega)
  have Hu := Lib.hid (show ∀ k ∈ ups xs, k + 1 < n from fun k hk => by have := ups_lt xs k hk; rw [hn] at this; exact this)
  clear hn
  go_enter Try.func23, Try.ntmps23
  go_wp2_with fail
  refine (l1In_yes (n : Int) 1 5 _ (by omega)).mono ?_
  rintro e w1 ⟨rfl, hd1⟩
  go_wp2
  go_loopw [4] (fun kv wr => ∃ k : Nat, kv = .int .i64 k ∧ k ≤ n ∧ Hid (∀ (j : Nat) (x : Int), j < k → xs[j]? = some x → 0 ≤ x ∧ x ≤ 4) ∧ Drew w wr) (fun kv _ => n - (intOf kv).toNat)
  case atStart => exact ⟨0, rfl, Nat.zero_le _, fun j _ hj => by omega, hd1⟩
  case round =>
    clear hd1
    obtain ⟨k, rfl, hk, H4, hd⟩ := hrel
    obtain ⟨wo, rfl⟩ : ∃ wo : World, wo = wr := ⟨_, rfl⟩
    have hB := hd.below w.heap.size
    by_cases hlt : k < n
    · obtain ⟨x, hx⟩ := some_at Hn.out hlt
      obtain ⟨b1, off, rfl, hcell⟩ := (hr.below hB).at (k := k) (by rw [Hn.out]; omega)
      have p1 := hcell k x hx
      have q3 : (k : Int) < (n : Int) := by omega
      have Hx := Lib.hid hx
      have HD := Lib.hid hd
      clear hcell hx hd
      by_cases hx4 : 0 ≤ x ∧ x ≤ 4
      · have H42 := Lib.hid (show ∀ (j : Nat) (y : Int), j < k + 1 → xs[j]? = some y → 0 ≤ y ∧ y ≤ 4 from fun j y hj hy => by
          rcases Nat.lt_or_ge j k with h | h
          · exact H4.out j y h hy
          · obtain rfl : j = k := by omega
            rw [Hx.out] at hy
            obtain rfl := Option.some.inj hy
            omega)
        go_wp2_with fail
        refine (l1In_yes x 0 4 _ hx4).mono ?_
        rintro e w2 ⟨rfl, hd2⟩
        have hd3 := HD.out.trans hd2
        go_wp2
        go_roundw
        case rel => exact ⟨k + 1, by go_num, by omega, H42.out, hd3⟩
        case measure => simp [intOf]; omega
      · have H0 := Lib.hid (key_no (keyIn_false (xs := xs) (.inr ⟨k, x, Hx.out, hx4⟩)))
        go_wp2_with fail
        refine (l1In_no x 0 4 _ (by omega)).mono ?_
        rintro e w2 ⟨rfl, hd2⟩
        have hB2 := (HD.out.trans hd2).below w.heap.size
        go_wp2
        go_ret2
        exact ⟨_, _, _, _, rfl, by rw [H0.out.1]; exact TO.nil, H0.out.2.symm, hB2⟩
    · obtain rfl : k = n := by omega
      have HI : Hid (In4 xs) := fun x hx => by
        obtain ⟨j, hj⟩ := List.getElem?_of_mem hx
        exact H4.out j x (by have := lt_of_some hj; rw [Hn.out] at this; exact this) hj
      have H0 := Lib.hid (key_yes (keyIn_true (xs := xs) (by rw [Hn.out]; omega) HI.out))
      have hr1 := hr.below hB
      obtain ⟨N, hN'⟩ : ∃ N, nin xs = N := ⟨_, rfl⟩
      have hN6 : N ≤ 1000000 := by rw [← hN']; exact HN.out
      have HNN := Lib.hid hN'
      clear hd H4 hN'
      go_wp2_with fail
      refine (l1Ints_any _ _ _ xs _ hr1 Hn.out (by omega)).mono ?_
      rintro e w2 ⟨a1, c1, rfl, ho1, hb1⟩
      have hB1 := hB.trans (hb1.mono hB.size)
      have h1 : OwI (w2.alloc (.cells #[] 3)) w2.heap.size (w2.alloc (.cells #[] 3)).heap.size (some ⟨w2.heap.size, 0, none⟩) 0 0 [] := OwI.mk (World.ownsRow_made _ #[] 0 (Nat.le_refl _) (Nat.zero_le _) rfl)
      have hBa : Below w2.heap.size w2 (w2.alloc (.cells #[] 3)) := (Below.refl _ _).alloc (Nat.le_refl _) _
      have hne : ∀ g, (Value.slice a1 k c1).ownBlock = some g → (Value.slice (some ⟨w2.heap.size, 0, none⟩) 0 0).ownBlock ≠ some g := by
        intro g hg e
        have h2 := ho1.2 g hg
        simp [Value.ownBlock] at e
        omega
      have hzw := hB.size
      have hz1 := hb1.size
      have hO1 := h1.mono (B' := w.heap.size) (S' := (w2.alloc (.cells #[] 3)).heap.size) (by omega) (Nat.le_refl _)
      have hV1 := (ho1.below hBa).mono (B' := w.heap.size) (S' := (w2.alloc (.cells #[] 3)).heap.size) hzw hBa.size
      have hB2 := hB1.trans (hBa.mono hB1.size)
      clear h1 ho1 hBa hb1 hB hB1 hr1
      go_wp2
      go_loopw [5, 6, 7] (fun vv ov kv wr => Hid (∃ (j : Nat) (don : List Nat) (v : List Int) (a1 : Option Addr) (m c1 : Nat) (a2 : Option Addr) (c2 : Nat), kv = .int .i64 j ∧ j ≤ k ∧ ov = .slice a1 m c1 ∧ vv = .slice a2 k c2 ∧ OwI wr w.heap.size wr.heap.size a1 m c1 (natI don) ∧ OwI wr w.heap.size wr.heap.size a2 k c2 v ∧ (∀ g, (Value.slice a2 k c2).ownBlock = some g → (Value.slice a1 m c1).ownBlock ≠ some g) ∧ (ups xs = don ++ ups v ∧ fell xs = fell v) ∧ flat v j ∧ m + nin v = N) ∧ Below w.heap.size w wr) (fun _ ov kv _ => (N - lenOf ov) * (k + 1) + (k - (intOf kv).toNat))
      case atStart => exact ⟨⟨0, [], xs, _, 0, _, _, _, rfl, Nat.zero_le _, rfl, rfl, hO1, hV1, hne, ⟨rfl, rfl⟩, fun j _ _ hj => by omega, by rw [HNN.out]; omega⟩, hB2⟩
      case round =>
        clear hO1 hV1 hne hB2
        obtain ⟨HV, hB⟩ := hrel
        obtain ⟨wq, rfl⟩ : ∃ wq : World, wq = wr := ⟨_, rfl⟩
        obtain ⟨j, don, v, a1, m, c1, a2, c2, rfl, hj, rfl, rfl, hO, hV, hne, hup, hfl, hmN⟩ := HV.out
        clear HV
        have Hvl := Lib.hid hV.len
        have Hup := Lib.hid hup
        have Hfl := Lib.hid hfl
        have Hml := Lib.hid hO.len
        clear hup hfl
        have hbs := hB.size
        by_cases hlt2 : j + 1 < k
        · obtain ⟨x, hx⟩ := some_at Hvl.out (show j < k by omega)
          obtain ⟨y, hy⟩ := some_at Hvl.out hlt2
          obtain ⟨b, off, hab, hcell⟩ := hV.rd.at (k := j) (by rw [Hvl.out]; omega)
          have p1 := hcell j x hx
          have p2 := hcell (j + 1) y hy
          have q1 : (j : Int) + 1 < (k : Int) := by omega
          have q2 : (j : Int) < (k : Int) := by omega
          have q3 : IntKind.i64.wrap ((j : Int) + 1) = ((j + 1 : Nat) : Int) := by rw [IntWalk.i64_in _ (by omega)]; omega
          have q4 : ((j + 1 : Nat) : Int) < (k : Int) := by omega
          have Hx := Lib.hid hx
          have Hy := Lib.hid hy
          clear hcell hx hy
          subst hab
          by_cases hxy : x < y
          · have Hasc := Lib.hid (asc_at Hx.out Hy.out hxy Hfl.out)
            have hnin := nin_sw Hasc.out
            have Hus := Lib.hid (ups_some Hasc.out)
            have Hsw := Lib.hid (sw_swp (w := v) (k := j) (by rw [Hvl.out]; exact hlt2))
            have HO := Lib.hid (fun d : Nat => hO.below (Drew.below (Drew.drewN wq d) _))
            have HVr := Lib.hid (fun d : Nat => hV.rd.below (Drew.below (Drew.drewN wq d) _))
            have hBd : ∀ d : Nat, Below w.heap.size w (wq.drewN d) := fun d => hB.trans (Drew.below (Drew.drewN wq d) _)
            have HBd := Lib.hid hBd
            have hg : decide (x < y) = true := by simp [hxy]
            clear hO hV hne hBd
            go_wp2
            go_quiet (fail)
            go_wp2_with fail
            refine (l1Swap_any _ _ _ v j (j + 1) _ _ _ (HVr.out _) Hvl.out (by omega) rfl rfl (by omega) hlt2).mono ?_
            rintro e w2 ⟨a3, c3, rfl, ho3, hb3⟩
            rw [Hsw.out] at ho3
            have HO2 := Lib.hid ((HO.out _).below hb3)
            have hB2 := (HBd.out _).trans (hb3.mono (HBd.out _).size)
            have Ho3 := Lib.hid ho3
            have hs2 := hB2.size
            have hne2 : ∀ g, (Value.slice a3 k c3).ownBlock = some g → (Value.slice a1 m c1).ownBlock ≠ some g := by
              intro g hg e
              have e1 := Ho3.out.1.lo g hg
              have e2 := (HO.out 0).2 g e
              simp at e1 e2
              omega
            have Hne2 := Lib.hid hne2
            clear ho3 hb3 hne2 HVr HO
            go_wp2_with (first | (at_builtin; go_loud (refine wpList_pushI (by rfl) (by rfl) _ _ (by rfl) HO2.out (by rfl) (by rfl) (by omega) hs2 ?_)))
            intro a4 c4 w4 ho4 hg4
            have hB4 := below_grown hB2 hg4.grown hs2 HO2.out.1.lo
            have hv4 : OwI w4 w.heap.size w4.heap.size a3 k c3 (sw v j) := by
              have h5 : OwI w4 _ _ a3 k c3 (sw v j) := ⟨Ho3.out.1.kept hg4.grown (fun g hg e => Hne2.out g hg e), Ho3.out.2⟩
              exact h5.mono hbs hg4.grown.size
            have hne4 : ∀ g, (Value.slice a3 k c3).ownBlock = some g → (Value.slice a4 (m + 1) c4).ownBlock ≠ some g := by
              intro g hg e
              rcases hg4.home with h6 | h6
              · rw [h6] at e
                exact Hne2.out g hg e
              · have e1 := h6 g e
                have e2 := Ho3.out.2 g hg
                omega
            rw [← natI_append] at ho4
            have HF := Lib.hid (And.intro ho4 (And.intro hv4 hne4))
            clear ho4 hv4 hne4 HO2 Ho3 Hne2 hg4 HBd
            go_wp2
            go_roundw
            case rel => exact ⟨⟨0, don ++ [j], sw v j, _, m + 1, _, _, _, by go_num, Nat.zero_le _, rfl, rfl, HF.out.1, HF.out.2.1, HF.out.2.2, ⟨by rw [Hup.out.1, Hus.out.1, List.append_assoc]; rfl, by rw [Hup.out.2, Hus.out.2]⟩, fun j _ _ hj => by omega, by omega⟩, hB4⟩
            case measure =>
              simp only [lenOf, intOf]
              obtain ⟨r, hr'⟩ : ∃ r, N - m = r + 1 := ⟨N - m - 1, by omega⟩
              have e2 : N - (m + 1) = r := by omega
              rw [hr', e2, Nat.succ_mul]
              simp
              omega
          · have Hfl2 := Lib.hid (show flat v (j + 1) from fun i p q hi hp hq => by
              rcases Nat.lt_or_ge i j with h | h
              · exact Hfl.out i p q h hp hq
              · obtain rfl : i = j := by omega
                rw [Hx.out] at hp
                rw [Hy.out] at hq
                obtain rfl := Option.some.inj hp
                obtain rfl := Option.some.inj hq
                exact hxy)
            have hBd : ∀ d : Nat, Below w.heap.size w (wq.drewN d) := fun d => hB.trans (Drew.below (Drew.drewN wq d) _)
            have HG := Lib.hid (fun d : Nat => And.intro (hO.below (Drew.below (Drew.drewN wq d) _)) (And.intro (hV.below (Drew.below (Drew.drewN wq d) _)) hne))
            have HBd := Lib.hid hBd
            have hg : decide (x < y) = false := by simp [hxy]
            clear hO hV hne hBd
            go_wp2
            go_quiet (fail)
            go_wp2
            go_roundw
            case rel => exact ⟨⟨j + 1, don, v, _, m, _, _, _, by go_num, by omega, rfl, rfl, (HG.out _).1, (HG.out _).2.1, (HG.out 0).2.2, Hup.out, Hfl2.out, hmN⟩, HBd.out _⟩
            case measure =>
              simp only [lenOf, intOf]
              simp
              omega
        · have Hnone := Lib.hid (ups_none (asc_all (w := v) (fun i p q hp hq => by
            have := (List.getElem?_eq_some_iff.1 hq).1
            rw [Hvl.out] at this
            exact Hfl.out i p q (by omega) hp hq)))
          have Hdon := Lib.hid (show don = ups xs by rw [Hup.out.1, Hnone.out.1, List.append_nil])
          have Hv := Lib.hid (show v = fell xs by rw [Hup.out.2, Hnone.out.2])
          have H4v := Lib.hid (show In4 v by rw [Hv.out]; exact HI.out.perm (fell_perm xs))
          have q1 : ¬ (j : Int) + 1 < (k : Int) := by omega
          have Hl3 := Lib.hid (show (ups xs).length = m by have := Hml.out; rw [Hdon.out] at this; simpa [natI] using this)
          have hm6 : m ≤ 1000000 := by have := HupL.out; have := Hl3.out; omega
          have HOr := Lib.hid (show RI wq a1 (natI (ups xs)) by rw [← Hdon.out]; exact hO.rd)
          have HVr := Lib.hid hV.rd
          clear hO hV hne hmN
          go_wp2_with fail
          refine (l2Key_any _ _ _ v _ HVr.out Hvl.out (by omega) H4v.out.digs).mono ?_
          rintro e w5 ⟨rfl, hw5⟩
          obtain rfl : wq = w5 := hw5.symm
          have hMo := MO.one wq (keyL v) 1
          have hBa : Below wq.heap.size wq (wq.alloc (.cells #[.int .i64 (keyL v), .int .i64 1] 88)) := (Below.refl _ _).alloc (Nat.le_refl _) _
          have hB6 := hB.trans (hBa.mono hbs)
          have HOr6 := Lib.hid (HOr.out.below hBa)
          have HF0 := Lib.hid (show MO (wq.alloc (.cells #[.int .i64 (keyL v), .int .i64 1] 88)) w.heap.size (wq.alloc (.cells #[.int .i64 (keyL v), .int .i64 1] 88)).heap.size (some ⟨wq.heap.size, 0, none⟩) 1 1 (canon (((ups xs).drop m).foldr demM [(keyL (fell xs), 1)])) by
            rw [List.drop_of_length_le (by rw [Hl3.out]; exact Nat.le_refl _), List.foldr_nil, canon_one (by decide) (by unfold in64; omega), ← Hv.out]
            exact hMo.mono hbs (Nat.le_refl _))
          have q0 : IntKind.i64.wrap ((m : Int) - 1) = (m : Int) - 1 := IntWalk.i64_in _ (by omega)
          obtain ⟨W6, hW6⟩ : ∃ W6, wq.alloc (.cells #[.int .i64 (keyL v), .int .i64 1] 88) = W6 := ⟨_, rfl⟩
          rw [hW6] at hB6 HOr6 HF0
          have Hsb := Lib.hid (Bv.kb_start (n := k) (xs := fell xs) (by rw [(fell_perm xs).length_eq, Hn.out]) (by omega) (HI.out.perm (fell_perm xs)))
          clear hMo hBa HOr HVr
          go_wp2
          go_loopw [8, 9] (fun fv iv wr => Hid (∃ (j : Nat) (a' : Option Addr) (n' c' : Nat), j ≤ m ∧ iv = .int .i64 ((j : Int) - 1) ∧ fv = .slice a' n' c' ∧ MO wr w.heap.size wr.heap.size a' n' c' (canon (((ups xs).drop j).foldr demM [(keyL (fell xs), 1)]))) ∧ Below W6.heap.size W6 wr) (fun _ iv _ => (intOf iv + 1).toNat)
          case atStart => exact ⟨⟨m, _, _, _, Nat.le_refl _, rfl, rfl, HF0.out⟩, Below.refl _ _⟩
          case round =>
            clear HF0 q0 hW6 hB
            obtain ⟨HV, hB⟩ := hrel
            obtain ⟨wz, rfl⟩ : ∃ wz : World, wz = wr := ⟨_, rfl⟩
            obtain ⟨i, a4, n4, c4, hi, rfl, rfl, hM⟩ := HV.out
            clear HV
            have hBw := hB6.trans (hB.mono hB6.size)
            rcases i with _ | i
            · rw [List.drop_zero] at hM
              have HM := Lib.hid hM
              have HK := Lib.hid (show ∀ p ∈ canon (keyM xs), inK p.1 from fun p hp => ((kb_low (by omega) Hsb.out _ Hu.out).canon p hp).1)
              clear hM
              go_wp2_with fail
              refine (l2Shut_any _ _ _ _ _ HM.out.rd HM.out.len HK.out).mono ?_
              rintro e w9 ⟨a9, n9, c9, r9, rfl, ho9, hh9, hb9⟩
              have hB9 := hBw.trans (hb9.mono hBw.size)
              have Ho9 := Lib.hid (ho9.mono (B' := w.heap.size) (S' := w9.heap.size) hBw.size (Nat.le_refl _))
              clear ho9
              go_wp2
              go_ret2
              exact ⟨_, _, _, _, rfl, by rw [H0.out.1]; exact Ho9.out, by rw [H0.out.2]; exact hh9, hB9⟩
            · obtain ⟨k', hk'⟩ : ∃ k, (ups xs)[i]? = some k := ⟨(ups xs)[i]'(by rw [Hl3.out]; omega), List.getElem?_eq_getElem _⟩
              have hk5 := Hu.out k' (List.mem_of_getElem? hk')
              obtain ⟨b, off, rfl, hcell⟩ := (HOr6.out.below hB).at (k := i) (by rw [natI, List.length_map, Hl3.out]; omega)
              have p1 := hcell i (k' : Int) (by rw [natI, List.getElem?_map, hk']; rfl)
              have hF7 : Bv (kb k) (((ups xs).drop (i + 1)).foldr demM [(keyL (fell xs), 1)]) := kb_low (by omega) Hsb.out _ (fun q hq => Hu.out q (List.mem_of_mem_drop hq))
              have Hst := Lib.hid (show canon (demM k' (canon (((ups xs).drop (i + 1)).foldr demM [(keyL (fell xs), 1)]))) = canon (((ups xs).drop i).foldr demM [(keyL (fell xs), 1)]) by
                rw [drop_at hk', List.foldr_cons]
                exact canon_eqv (demM_eqv (canon_self _)))
              have hcnt := kb_count h5 hF7
              have Hlen := Lib.hid hM.len
              rw [Hlen.out] at hcnt
              have HBd := Lib.hid (hF7.canon.bd (fun t _ => by have := kb_le k t; omega))
              have HM := Lib.hid hM
              clear hM hk' hcell hF7
              have e1 : ((i + 1 : Nat) : Int) - 1 = (i : Int) := by omega
              rw [e1]
              have q1 : (i : Int) < (m : Int) := by omega
              have q2 : (0 : Int) ≤ (i : Int) := by omega
              have q6 : IntKind.i64.wrap ((i : Int) - 1) = (i : Int) - 1 := IntWalk.i64_in _ (by omega)
              clear e1
              go_wp2_with fail
              refine (l2Demazure_any _ _ _ k' _ _ _ HM.out.rd Hlen.out (by omega) rfl (by omega) HBd.out).mono ?_
              rintro e w5 ⟨a5, n5, c5, rfl, ho5, hb5⟩
              rw [Hst.out] at ho5
              have HM5 := Lib.hid (ho5.mono (B' := w.heap.size) (S' := w5.heap.size) hBw.size (Nat.le_refl _))
              have hB5 := hB.trans (hb5.mono hB.size)
              clear ho5 hb5 HM
              go_wp2
              go_roundw
              case rel => exact ⟨⟨i, _, _, _, by omega, rfl, rfl, HM5.out⟩, hB5⟩
              case measure => clear q6; simp [intOf]
theorem specKeyPoly_any (a : Option Addr) (n c : Nat) (xs : List Int) (w : World) (hr : RI w a xs) (hn : xs.length = n) (hb : n ≤ 1048576) :
    Calls Try.prog 23 #[.slice a n c] w fun e w' => ∃ a' n' c' r, e = .returned (.tuple #[.slice a' n' c', .bool r]) ∧ TO w' w.heap.size w'.heap.size a' n' c' (keyT xs) ∧ Hid (r = keyOk xs) ∧ Below w.heap.size w w' :=
  (specKeyPoly_post a n c xs w hr hn hb).mono fun _ _ h => h
end Go.Proofs.Ytocgcgmlemoekaa
