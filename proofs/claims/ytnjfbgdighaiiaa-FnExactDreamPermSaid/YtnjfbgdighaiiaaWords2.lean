/-
  Contracts of isWord, l1Swap, exchanged, l1Play, WordPerm.
-/
import Derived.Test.YtnjfbgdighaiiaaLetter
import Derived.Test.YtnjfbgdighaiiaaSwap
namespace Go.Proofs.Ytnjfbgdighaiiaa
open Go.RowKit

set_option maxRecDepth 100000 in
set_option maxHeartbeats 1600000 in
theorem isWord_any (N : Int) (a : Option Addr) (n c : Nat) (xs : List Int) (w : World) (hr : RI w a xs) (hn : xs.length = n) (hb : n ≤ 17592186044416) (hl : -9223372036854775808 ≤ N) (hu : N ≤ 9223372036854775807) :
    Calls Try.prog 150 #[.int .i64 N, .slice a n c] w fun e w' => e = .returned (.bool (isWord N xs)) ∧ w = w' := by
  have Hn := Lib.hid hn; clear hn
  -- what is compared with: N - 2, wrapped
  obtain ⟨T, hT, hTw⟩ : ∃ T, IntKind.i64.wrap (N - 2) = T ∧ (-9223372036854775806 ≤ N → T = N - 2) := ⟨_, rfl, fun h => IntWalk.i64_in _ (by omega)⟩
  have HT := Lib.hid hT
  go_enter Try.func150, Try.ntmps150
  go_wp2
  go_loop [9] (fun i => ∃ k : Nat, k ≤ n ∧ i = .int .i64 k ∧ Hid (∀ (j : Nat) (z : Int), j < k → xs[j]? = some z → 0 ≤ z ∧ z ≤ T)) (fun i => n - (intOf i).toNat)
  case atStart => exact ⟨0, Nat.zero_le _, rfl, by intro j z hj; omega⟩
  case round =>
    obtain ⟨k, hk, rfl, HA⟩ := hrel
    by_cases hlt : k < n
    · obtain ⟨b, off, rfl, hcell⟩ := hr.at (k := k) (by rw [Hn.out]; exact hlt)
      obtain ⟨x, hx⟩ := some_at Hn.out hlt
      have hc := hcell k x hx
      have Hx := Lib.hid hx; clear hx hcell
      by_cases h0 : x < 0
      · have hno := Lib.hid (isWord_bad (n := N) Hx.out (letter_no (.inl h0)))
        go_wp2
        go_ret
        exact ⟨ret_bool hno.out.symm, rfl⟩
      · by_cases h1 : T < x
        · have hno := Lib.hid (show isWord N xs = false by
            by_cases hs : 1 ≤ N ∧ N ≤ 7
            · exact isWord_bad (n := N) Hx.out (letter_no (.inr (by have := hTw (by omega); omega)))
            · exact isWord_size (by omega))
          go_wp2
          go_ret
          exact ⟨ret_bool hno.out.symm, rfl⟩
        · go_wp2
          go_round
          case rel => exact ⟨k + 1, by omega, by go_num, by
              intro j z hj hz
              rcases Nat.lt_or_ge j k with h | h
              · exact HA.out j z h hz
              · obtain rfl : j = k := by omega
                rw [Hx.out] at hz
                obtain rfl := Option.some.inj hz
                omega⟩
          case measure => simp [intOf]; omega
    · obtain rfl : k = n := by omega
      by_cases hs : 1 ≤ N ∧ N ≤ 7
      · have hTe := hTw (by omega)
        have hok := Lib.hid (isWord_ok (n := N) (xs := xs) (by
          intro j z hj hz
          have := HA.out j z (by rw [Hn.out] at hj; exact hj) hz
          exact letter_yes (by omega)))
        clear hTw hTe hT HT HA
        go_wp2_with fail
        refine (isSize_yes _ _ hs).mono ?_
        rintro e w1 ⟨rfl, rfl⟩
        go_wp2
        go_ret
        exact ⟨ret_bool (by rw [hok.out, Hn.out, decide_eq_true hs.1, decide_eq_true hs.2]; exact decide_eq_decide.2 (by omega)), rfl⟩
      · have hno := Lib.hid (isWord_size (n := N) (xs := xs) (by omega))
        clear hTw hT HT HA
        go_wp2_with fail
        refine (isSize_no _ _ (by omega)).mono ?_
        rintro e w1 ⟨rfl, rfl⟩
        go_wp2
        go_ret
        exact ⟨ret_bool hno.out.symm, rfl⟩

def play (n : Nat) (xs : List Int) : Nat → List Int
  | 0 => ident n
  | k + 1 => swp (play n xs k) (xs.getD k 0).toNat ((xs.getD k 0).toNat + 1)
theorem play_length (n : Nat) (xs : List Int) (k : Nat) : (play n xs k).length = n := by
  induction k with
  | zero => exact ident_length n
  | succ k ih => rw [play, swp_length, ih]

set_option maxRecDepth 100000 in
set_option maxHeartbeats 1600000 in
theorem l1Play_any (N : Int) (p : Nat) (a : Option Addr) (n c : Nat) (xs : List Int) (w : World) (hr : RI w a xs) (hn : xs.length = n) (hb : n ≤ 17592186044416) (hN : N = (p : Int)) (hw : isWord N xs = true) :
    Calls Try.prog 83 #[.int .i64 N, .slice a n c, .bool true] w fun e w' => ∃ a' c', e = .returned (.slice a' p c') ∧ OwI w' w.heap.size w'.heap.size a' p c' (play p xs n) ∧ Below w.heap.size w w' := by
  subst hN
  have hbd := isWord_bd hw
  have Hbd := Lib.hid hbd.2.2.2
  have hp : 1 ≤ p ∧ p ≤ 7 := by omega
  clear hbd hw
  have Hn := Lib.hid hn; clear hn
  go_enter Try.func83, Try.ntmps83
  go_wp2_with fail
  refine (specIdent_any p _ _ rfl hp).mono ?_
  rintro e w1 ⟨a1, c1, rfl, ho1, hB1⟩
  go_wp2
  go_loopw [7, 8] (fun v i wr => Hid (∃ k : Nat, k ≤ n ∧ i = .int .i64 k ∧ ∃ a' c', v = .slice a' p c' ∧ OwI wr w.heap.size wr.heap.size a' p c' (play p xs k)) ∧ Below w.heap.size w wr) (fun _ i _ => n - (intOf i).toNat)
  case atStart => exact ⟨⟨0, Nat.zero_le _, rfl, _, _, rfl, ho1⟩, hB1⟩
  case round =>
    clear ho1 hB1
    obtain ⟨HV, hB⟩ := hrel
    obtain ⟨wo, rfl⟩ : ∃ wo : World, wo = wr := ⟨_, rfl⟩
    obtain ⟨k, hk, rfl, a', c', rfl, ho⟩ := HV.out
    clear HV
    have hbs := hB.size
    by_cases hlt : k < n
    · obtain ⟨b, off, rfl, hcell⟩ := (hr.below hB).at (k := k) (by rw [Hn.out]; exact hlt)
      obtain ⟨x0, hx⟩ := some_at Hn.out hlt
      have hc := hcell k x0 hx
      have hxb := Hbd.out k x0 hx
      obtain ⟨x, rfl⟩ : ∃ x : Nat, x0 = (x : Int) := ⟨x0.toNat, by omega⟩
      have hst : play p xs (k + 1) = swp (play p xs k) x (x + 1) := by rw [play, getD_of hx]; rfl
      have Hst := Lib.hid hst
      clear hst hx hcell
      have hod := ho.below (w' := wo.drewN 1) (Drew.below ⟨1, rfl⟩ _)
      go_wp2
      go_quiet (fail)
      have hod := ho.below (Drew.below ⟨nq, rfl⟩ wo.heap.size)
      have hBd := hB.trans (Drew.below ⟨nq, rfl⟩ w.heap.size)
      have hsz : (wo.drewN nq).heap.size = wo.heap.size := rfl
      obtain ⟨wd, hwd⟩ : ∃ wd, wo.drewN nq = wd := ⟨_, rfl⟩
      rw [hwd] at hod hBd hsz ⊢
      go_wp2_with fail
      refine (l1Swap_any _ _ _ (play p xs k) x (x + 1) _ _ _ hod.rd (play_length p xs k) (by omega) rfl (by omega) (by omega) (by omega)).mono ?_
      rintro e w2 ⟨a2, c2, rfl, ho2, hb2⟩
      have hB2 := hBd.trans (hb2.mono (by omega))
      have HO := Lib.hid (ho2.mono (show w.heap.size ≤ _ by omega) (Nat.le_refl _))
      clear ho2 ho hod
      go_wp2
      go_roundw
      case rel => exact ⟨⟨k + 1, by omega, by go_num, _, _, rfl, by rw [Hst.out]; exact HO.out⟩, hB2⟩
      case measure => simp [intOf]; omega
    · obtain rfl : k = n := by omega
      have HO := Lib.hid ho; clear ho
      go_wp2
      go_ret
      exact ⟨_, _, rfl, HO.out, hB⟩

set_option maxRecDepth 100000 in
set_option maxHeartbeats 1600000 in
theorem wordPerm_any (N : Int) (p : Nat) (a : Option Addr) (n c : Nat) (xs : List Int) (w : World) (hr : RI w a xs) (hn : xs.length = n) (hb : n ≤ 17592186044416) (hN : N = (p : Int)) (hw : isWord N xs = true) :
    Calls Try.prog 107 #[.int .i64 N, .slice a n c] w fun e w' => ∃ a' c', e = .returned (.slice a' p c') ∧ OwI w' w.heap.size w'.heap.size a' p c' (play p xs n) ∧ Below w.heap.size w w' := by
  subst hN
  have hbd := isWord_bd hw
  have Hbd := Lib.hid hbd.2.2.2
  have hp : 1 ≤ p ∧ p ≤ 7 := by omega
  have Hw := Lib.hid hw
  clear hbd hw
  have Hn := Lib.hid hn; clear hn
  go_enter Try.func107, Try.ntmps107
  go_wp2_with fail
  refine (is (isWord_any _ _ _ _ xs _ hr Hn.out (by omega) (by omega) (by omega)) Hw.out).mono ?_
  rintro e w1 ⟨rfl, rfl⟩
  go_wp2_with fail
  refine (implIdent_any p _ _ rfl hp).mono ?_
  rintro e w1 ⟨a1, c1, rfl, ho1, hB1⟩
  go_wp2
  go_loopw [5, 16] (fun v i wr => Hid (∃ k : Nat, k ≤ n ∧ i = .int .i64 k ∧ ∃ a' c', v = .slice a' p c' ∧ OwI wr w.heap.size wr.heap.size a' p c' (play p xs k)) ∧ Below w.heap.size w wr) (fun _ i _ => n - (intOf i).toNat)
  case atStart => exact ⟨⟨0, Nat.zero_le _, rfl, _, _, rfl, ho1⟩, hB1⟩
  case round =>
    clear ho1 hB1
    obtain ⟨HV, hB⟩ := hrel
    obtain ⟨wo, rfl⟩ : ∃ wo : World, wo = wr := ⟨_, rfl⟩
    obtain ⟨k, hk, rfl, a', c', rfl, ho⟩ := HV.out
    clear HV
    have hbs := hB.size
    by_cases hlt : k < n
    · obtain ⟨b, off, rfl, hcell⟩ := (hr.below hB).at (k := k) (by rw [Hn.out]; exact hlt)
      obtain ⟨x0, hx⟩ := some_at Hn.out hlt
      have hc := hcell k x0 hx
      have hxb := Hbd.out k x0 hx
      obtain ⟨x, rfl⟩ : ∃ x : Nat, x0 = (x : Int) := ⟨x0.toNat, by omega⟩
      have hst : play p xs (k + 1) = swp (play p xs k) x (x + 1) := by rw [play, getD_of hx]; rfl
      have Hst := Lib.hid hst
      clear hst hx hcell
      go_wp2_with fail
      refine (exchanged_any _ _ _ (play p xs k) x (x + 1) _ _ _ ho.rd (play_length p xs k) (by omega) rfl (by omega) (by omega) (by omega) (by omega)).mono ?_
      rintro e w2 ⟨a2, c2, rfl, ho2, hb2⟩
      have hB2 := hB.trans (hb2.mono (by omega))
      have HO := Lib.hid (ho2.mono (show w.heap.size ≤ _ by omega) (Nat.le_refl _))
      clear ho2 ho
      go_wp2
      go_roundw
      case rel => exact ⟨⟨k + 1, by omega, by go_num, _, _, rfl, by rw [Hst.out]; exact HO.out⟩, hB2⟩
      case measure => simp [intOf]; omega
    · obtain rfl : k = n := by omega
      have HO := Lib.hid ho; clear ho
      go_wp2
      go_ret
      exact ⟨_, _, rfl, HO.out, hB⟩
end Go.Proofs.Ytnjfbgdighaiiaa
