/-
  Contracts of isWord, l1Swap, exchanged, l1Play, WordPerm.
  Sums; contract of l1Sum.
  Permutations stay permutations; contracts of l1Length, LengthOf.
  Permutations stay permutations; contracts of l1Length, LengthOf, isReduced.
-/
import Derived.Test.YtomejjbkakpoiaaGreatBuY17
import Derived.Test.YtomejjbkakpoiaaGreatBuY1
import Derived.Test.YtomejjbkakpoiaaGreatCode
namespace Go.Proofs.YtomejjbkakpoiaaGreat
open Go.RowKit

set_option maxRecDepth 100000 in
set_option maxHeartbeats 1600000 in
theorem isWord_any (N : Int) (a : Option Addr) (n c : Nat) (xs : List Int) (w : World) (hr : RI w a xs) (hn : xs.length = n) (hb : n ≤ 17592186044416) (hl : -9223372036854775808 ≤ N) (hu : N ≤ 9223372036854775807) :
    Calls Tryz.prog 82 #[.int .i64 N, .slice a n c] w fun e w' => e = .returned (.bool (isWord N xs)) ∧ w = w' := by
  have Hn := Lib.hid hn; clear hn
  -- what is compared with: N - 2, wrapped
  obtain ⟨T, hT, hTw⟩ : ∃ T, IntKind.i64.wrap (N - 2) = T ∧ (-9223372036854775806 ≤ N → T = N - 2) := ⟨_, rfl, fun h => IntWalk.i64_in _ (by omega)⟩
  have HT := Lib.hid hT
  go_enter Tryz.func82, Tryz.ntmps82
  go_wp2
  go_loop [9] (fun i => ∃ k : Nat, k ≤ n ∧ i = .int .i64 k ∧ Hid (∀ (j : Nat) (z : Int), j < k → xs[j]? = some z → 0 ≤ z ∧ z ≤ T)) (fun i => n - (intOf i).toNat)
  case atStart => exact ⟨0, Nat.zero_le _, rfl, by intro j z hj; omega⟩
  case round =>
    obtain ⟨k, hk, rfl, HA⟩ := hrel
    by_cases hlt : k < n
    · obtain ⟨b, off, rfl, hcell⟩ := hr.at (k := k) (by rw [Hn.out]; exact hlt)
      obtain ⟨x, hx⟩ := some_at Hn.out hlt
      have hc := hcell k x hx
      have Hx := Lib.hid hx; clear hx hcell
      by_cases h0 : x < 0
      · have hno := Lib.hid (isWord_bad (n := N) Hx.out (letter_no (.inl h0)))
        go_wp2
        go_ret
        exact ⟨ret_bool hno.out.symm, rfl⟩
      · by_cases h1 : T < x
        · have hno := Lib.hid (show isWord N xs = false by
            by_cases hs : 1 ≤ N ∧ N ≤ 7
            · exact isWord_bad (n := N) Hx.out (letter_no (.inr (by have := hTw (by omega); omega)))
            · exact isWord_size (by omega))
          go_wp2
          go_ret
          exact ⟨ret_bool hno.out.symm, rfl⟩
        · go_wp2
          go_round
          case rel => exact ⟨k + 1, by omega, by go_num, by
              intro j z hj hz
              rcases Nat.lt_or_ge j k with h | h
              · exact HA.out j z h hz
              · obtain rfl : j = k := by omega
                rw [Hx.out] at hz
                obtain rfl := Option.some.inj hz
                omega⟩
          case measure => simp [intOf]; omega
    · obtain rfl : k = n := by omega
      by_cases hs : 1 ≤ N ∧ N ≤ 7
      · have hTe := hTw (by omega)
        have hok := Lib.hid (isWord_ok (n := N) (xs := xs) (by
          intro j z hj hz
          have := HA.out j z (by rw [Hn.out] at hj; exact hj) hz
          exact letter_yes (by omega)))
        clear hTw hTe hT HT HA
        go_wp2_with fail
        refine (isSize_yes _ _ hs).mono ?_
        rintro e w1 ⟨rfl, rfl⟩
        go_wp2
        go_ret
        exact ⟨ret_bool (by rw [hok.out, Hn.out, decide_eq_true hs.1, decide_eq_true hs.2]; exact decide_eq_decide.2 (by omega)), rfl⟩
      · have hno := Lib.hid (isWord_size (n := N) (xs := xs) (by omega))
        clear hTw hT HT HA
        go_wp2_with fail
        refine (isSize_no _ _ (by omega)).mono ?_
        rintro e w1 ⟨rfl, rfl⟩
        go_wp2
        go_ret
        exact ⟨ret_bool hno.out.symm, rfl⟩

def play (n : Nat) (xs : List Int) : Nat → List Int
  | 0 => ident n
  | k + 1 => swp (play n xs k) (xs.getD k 0).toNat ((xs.getD k 0).toNat + 1)
theorem play_length (n : Nat) (xs : List Int) (k : Nat) : (play n xs k).length = n := by
  induction k with
  | zero => exact ident_length n
  | succ k ih => rw [play, swp_length, ih]

set_option maxRecDepth 100000 in
set_option maxHeartbeats 1600000 in
theorem l1Play_any (N : Int) (p : Nat) (a : Option Addr) (n c : Nat) (xs : List Int) (w : World) (hr : RI w a xs) (hn : xs.length = n) (hb : n ≤ 17592186044416) (hN : N = (p : Int)) (hw : isWord N xs = true) :
    Calls Tryz.prog 28 #[.int .i64 N, .slice a n c, .bool true] w fun e w' => ∃ a' c', e = .returned (.slice a' p c') ∧ OwI w' w.heap.size w'.heap.size a' p c' (play p xs n) ∧ Below w.heap.size w w' := by
  subst hN
  have hbd := isWord_bd hw
  have Hbd := Lib.hid hbd.2.2.2
  have hp : 1 ≤ p ∧ p ≤ 7 := by omega
  clear hbd hw
  have Hn := Lib.hid hn; clear hn
  go_enter Tryz.func28, Tryz.ntmps28
  go_wp2_with fail
  refine (specIdent_any p _ _ rfl hp).mono ?_
  rintro e w1 ⟨a1, c1, rfl, ho1, hB1⟩
  go_wp2
  go_loopw [7, 8] (fun v i wr => Hid (∃ k : Nat, k ≤ n ∧ i = .int .i64 k ∧ ∃ a' c', v = .slice a' p c' ∧ OwI wr w.heap.size wr.heap.size a' p c' (play p xs k)) ∧ Below w.heap.size w wr) (fun _ i _ => n - (intOf i).toNat)
  case atStart => exact ⟨⟨0, Nat.zero_le _, rfl, _, _, rfl, ho1⟩, hB1⟩
  case round =>
    clear ho1 hB1
    obtain ⟨HV, hB⟩ := hrel
    obtain ⟨wo, rfl⟩ : ∃ wo : World, wo = wr := ⟨_, rfl⟩
    obtain ⟨k, hk, rfl, a', c', rfl, ho⟩ := HV.out
    clear HV
    have hbs := hB.size
    by_cases hlt : k < n
    · obtain ⟨b, off, rfl, hcell⟩ := (hr.below hB).at (k := k) (by rw [Hn.out]; exact hlt)
      obtain ⟨x0, hx⟩ := some_at Hn.out hlt
      have hc := hcell k x0 hx
      have hxb := Hbd.out k x0 hx
      obtain ⟨x, rfl⟩ : ∃ x : Nat, x0 = (x : Int) := ⟨x0.toNat, by omega⟩
      have hst : play p xs (k + 1) = swp (play p xs k) x (x + 1) := by rw [play, getD_of hx]; rfl
      have Hst := Lib.hid hst
      clear hst hx hcell
      have hod := ho.below (w' := wo.drewN 1) (Drew.below ⟨1, rfl⟩ _)
      go_wp2
      go_quiet (fail)
      have hod := ho.below (Drew.below ⟨nq, rfl⟩ wo.heap.size)
      have hBd := hB.trans (Drew.below ⟨nq, rfl⟩ w.heap.size)
      have hsz : (wo.drewN nq).heap.size = wo.heap.size := rfl
      obtain ⟨wd, hwd⟩ : ∃ wd, wo.drewN nq = wd := ⟨_, rfl⟩
      rw [hwd] at hod hBd hsz ⊢
      go_wp2_with fail
      refine (l1Swap_any _ _ _ (play p xs k) x (x + 1) _ _ _ hod.rd (play_length p xs k) (by omega) rfl (by omega) (by omega) (by omega)).mono ?_
      rintro e w2 ⟨a2, c2, rfl, ho2, hb2⟩
      have hB2 := hBd.trans (hb2.mono (by omega))
      have HO := Lib.hid (ho2.mono (show w.heap.size ≤ _ by omega) (Nat.le_refl _))
      clear ho2 ho hod
      go_wp2
      go_roundw
      case rel => exact ⟨⟨k + 1, by omega, by go_num, _, _, rfl, by rw [Hst.out]; exact HO.out⟩, hB2⟩
      case measure => simp [intOf]; omega
    · obtain rfl : k = n := by omega
      have HO := Lib.hid ho; clear ho
      go_wp2
      go_ret
      exact ⟨_, _, rfl, HO.out, hB⟩

set_option maxRecDepth 100000 in
set_option maxHeartbeats 1600000 in
theorem wordPerm_any (N : Int) (p : Nat) (a : Option Addr) (n c : Nat) (xs : List Int) (w : World) (hr : RI w a xs) (hn : xs.length = n) (hb : n ≤ 17592186044416) (hN : N = (p : Int)) (hw : isWord N xs = true) :
    Calls Tryz.prog 41 #[.int .i64 N, .slice a n c] w fun e w' => ∃ a' c', e = .returned (.slice a' p c') ∧ OwI w' w.heap.size w'.heap.size a' p c' (play p xs n) ∧ Below w.heap.size w w' := by
  subst hN
  have hbd := isWord_bd hw
  have Hbd := Lib.hid hbd.2.2.2
  have hp : 1 ≤ p ∧ p ≤ 7 := by omega
  have Hw := Lib.hid hw
  clear hbd hw
  have Hn := Lib.hid hn; clear hn
  go_enter Tryz.func41, Tryz.ntmps41
  go_wp2_with fail
  refine (is (isWord_any _ _ _ _ xs _ hr Hn.out (by omega) (by omega) (by omega)) Hw.out).mono ?_
  rintro e w1 ⟨rfl, rfl⟩
  go_wp2_with fail
  refine (implIdent_any p _ _ rfl hp).mono ?_
  rintro e w1 ⟨a1, c1, rfl, ho1, hB1⟩
  go_wp2
  go_loopw [5, 16] (fun v i wr => Hid (∃ k : Nat, k ≤ n ∧ i = .int .i64 k ∧ ∃ a' c', v = .slice a' p c' ∧ OwI wr w.heap.size wr.heap.size a' p c' (play p xs k)) ∧ Below w.heap.size w wr) (fun _ i _ => n - (intOf i).toNat)
  case atStart => exact ⟨⟨0, Nat.zero_le _, rfl, _, _, rfl, ho1⟩, hB1⟩
  case round =>
    clear ho1 hB1
    obtain ⟨HV, hB⟩ := hrel
    obtain ⟨wo, rfl⟩ : ∃ wo : World, wo = wr := ⟨_, rfl⟩
    obtain ⟨k, hk, rfl, a', c', rfl, ho⟩ := HV.out
    clear HV
    have hbs := hB.size
    by_cases hlt : k < n
    · obtain ⟨b, off, rfl, hcell⟩ := (hr.below hB).at (k := k) (by rw [Hn.out]; exact hlt)
      obtain ⟨x0, hx⟩ := some_at Hn.out hlt
      have hc := hcell k x0 hx
      have hxb := Hbd.out k x0 hx
      obtain ⟨x, rfl⟩ : ∃ x : Nat, x0 = (x : Int) := ⟨x0.toNat, by omega⟩
      have hst : play p xs (k + 1) = swp (play p xs k) x (x + 1) := by rw [play, getD_of hx]; rfl
      have Hst := Lib.hid hst
      clear hst hx hcell
      go_wp2_with fail
      refine (exchanged_any _ _ _ (play p xs k) x (x + 1) _ _ _ ho.rd (play_length p xs k) (by omega) rfl (by omega) (by omega) (by omega) (by omega)).mono ?_
      rintro e w2 ⟨a2, c2, rfl, ho2, hb2⟩
      have hB2 := hB.trans (hb2.mono (by omega))
      have HO := Lib.hid (ho2.mono (show w.heap.size ≤ _ by omega) (Nat.le_refl _))
      clear ho2 ho
      go_wp2
      go_roundw
      case rel => exact ⟨⟨k + 1, by omega, by go_num, _, _, rfl, by rw [Hst.out]; exact HO.out⟩, hB2⟩
      case measure => simp [intOf]; omega
    · obtain rfl : k = n := by omega
      have HO := Lib.hid ho; clear ho
      go_wp2
      go_ret
      exact ⟨_, _, rfl, HO.out, hB⟩
end Go.Proofs.YtomejjbkakpoiaaGreat

namespace Go.Proofs.YtomejjbkakpoiaaGreat
open Go.RowKit

def sumI (xs : List Int) : Int := xs.foldr (· + ·) 0
theorem sumI_nil : sumI [] = 0 := rfl
theorem sumI_cons (x : Int) (xs : List Int) : sumI (x :: xs) = x + sumI xs := rfl
theorem sumI_append (xs ys : List Int) : sumI (xs ++ ys) = sumI xs + sumI ys := by
  induction xs with
  | nil => simp [sumI_nil]
  | cons x xs ih => rw [List.cons_append, sumI_cons, sumI_cons, ih]; omega
theorem sumI_take {xs : List Int} {k : Nat} {x : Int} (h : xs[k]? = some x) : sumI (xs.take (k + 1)) = sumI (xs.take k) + x := by
  obtain ⟨hk, rfl⟩ := List.getElem?_eq_some_iff.1 h
  rw [List.take_succ_eq_append_getElem hk, sumI_append, sumI_cons, sumI_nil]; omega
/-- numbers so small that no sum of them wraps -/
def Small (xs : List Int) : Prop := ∀ x ∈ xs, -1048576 ≤ x ∧ x ≤ 1048576
theorem sumI_bd {xs : List Int} (h : Small xs) : -(1048576 * (xs.length : Int)) ≤ sumI xs ∧ sumI xs ≤ 1048576 * (xs.length : Int) := by
  induction xs with
  | nil => simp [sumI_nil]
  | cons x xs ih =>
    have h1 := h x (by simp)
    have h2 := ih (fun y hy => h y (by simp [hy]))
    rw [sumI_cons, List.length_cons]
    omega
theorem Small.take {xs : List Int} (h : Small xs) (k : Nat) : Small (xs.take k) := fun x hx => h x (List.mem_of_mem_take hx)
theorem Small.at {xs : List Int} (h : Small xs) {k : Nat} {x : Int} (hx : xs[k]? = some x) : -1048576 ≤ x ∧ x ≤ 1048576 := h x (List.mem_of_getElem? hx)

set_option maxHeartbeats 400000 in
theorem l1Sum_any (a : Option Addr) (n c : Nat) (xs : List Int) (w : World) (hr : RI w a xs) (hn : xs.length = n) (hb : n ≤ 1048576) (hs : Small xs) :
    Calls Tryz.prog 106 #[.slice a n c] w fun e w' => e = .returned (.int .i64 (sumI xs)) ∧ w = w' := by
  have Hn := Lib.hid hn; clear hn
  have HS := Lib.hid hs; clear hs
  go_enter Tryz.func106, Tryz.ntmps106
  go_wp2
  go_loop [3, 4] (fun s i => ∃ k : Nat, k ≤ n ∧ i = .int .i64 k ∧ s = .int .i64 (sumI (xs.take k))) (fun _ i => n - (intOf i).toNat)
  case atStart => exact ⟨0, Nat.zero_le _, rfl, rfl⟩
  case round =>
    obtain ⟨k, hk, rfl, rfl⟩ := hrel
    by_cases hlt : k < n
    · obtain ⟨b, off, rfl, hcell⟩ := hr.at (k := k) (by rw [Hn.out]; exact hlt)
      obtain ⟨x, hx⟩ := some_at Hn.out hlt
      have hc := hcell k x hx
      have hxb := HS.out.at hx
      have hsb := sumI_bd (HS.out.take k)
      have hst := Lib.hid (sumI_take hx)
      have hlk : (xs.take k).length = k := by rw [List.length_take, Hn.out]; omega
      rw [hlk] at hsb
      clear hcell hx hlk
      obtain ⟨s, hsv⟩ : ∃ s, sumI (xs.take k) = s := ⟨_, rfl⟩
      rw [hsv] at hsb ⊢
      have Hv := Lib.hid hsv; clear hsv
      go_wp2
      go_round
      case rel => exact ⟨k + 1, by omega, by go_num, by rw [hst.out, Hv.out]⟩
      case measure => simp [intOf]; omega
    · obtain rfl : k = n := by omega
      go_wp2
      go_ret
      exact ⟨ret_int (by rw [List.take_of_length_le (by rw [Hn.out]; omega)]), rfl⟩
end Go.Proofs.YtomejjbkakpoiaaGreat

namespace Go.Proofs.YtomejjbkakpoiaaGreat
open Go.RowKit

theorem isPerm_iff (xs : List Int) : isPerm xs = true ↔ 1 ≤ xs.length ∧ xs.length ≤ 7 ∧ (∀ x ∈ xs, 0 ≤ x ∧ x < xs.length) ∧ xs.Nodup := by
  constructor
  · intro h
    have hl := perm_len h
    refine ⟨hl.1, hl.2, fun x hx => ?_, ?_⟩
    · obtain ⟨i, hi⟩ := List.mem_iff_getElem?.1 hx
      exact perm_at h hi
    · rw [List.nodup_iff_pairwise_ne, List.pairwise_iff_getElem]
      intro i j hi hj hij e
      simp only [isPerm, Bool.and_eq_true, List.all_eq_true] at h
      have := h.2 j (by simpa using hj)
      have hxj : xs[j]? = some xs[j] := List.getElem?_eq_getElem hj
      simp only [permAt, getD_of hxj, Bool.and_eq_true, Bool.not_eq_true'] at this
      have h3 := this.2
      rw [List.contains_eq_mem, decide_eq_false_iff_not] at h3
      refine h3 (List.mem_iff_getElem?.2 ⟨i, ?_⟩)
      rw [List.getElem?_take, if_pos hij, ← e, List.getElem?_eq_getElem hi]
  · rintro ⟨h1, h2, h3, h4⟩
    refine isPerm_true h1 h2 (fun j hj => ?_)
    have hxj : xs[j]? = some xs[j] := List.getElem?_eq_getElem hj
    have hb := h3 xs[j] (List.getElem_mem hj)
    have hnm : ¬ xs[j] ∈ xs.take j := by
      intro hm
      obtain ⟨i, hi⟩ := List.mem_iff_getElem?.1 hm
      rw [List.getElem?_take] at hi
      split at hi
      · rename_i hij
        obtain ⟨hi', e⟩ := List.getElem?_eq_some_iff.1 hi
        rw [List.nodup_iff_pairwise_ne, List.pairwise_iff_getElem] at h4
        exact h4 i j hi' hj hij e
      · cases hi
    simp only [permAt, getD_of hxj, List.contains_eq_mem, hnm]
    simp; omega
theorem swp_perm {xs : List Int} {i j : Nat} (hi : i < xs.length) (hj : j < xs.length) : (swp xs i j).Perm xs := by
  rw [swp_at (List.getElem?_eq_getElem hi) (List.getElem?_eq_getElem hj)]
  exact List.set_set_perm hi hj
theorem isPerm_swp {xs : List Int} {i j : Nat} (h : isPerm xs = true) (hi : i < xs.length) (hj : j < xs.length) : isPerm (swp xs i j) = true := by
  rw [isPerm_iff] at h ⊢
  have hp := swp_perm hi hj
  rw [hp.length_eq]
  exact ⟨h.1, h.2.1, fun x hx => h.2.2.1 x (hp.mem_iff.1 hx), hp.nodup_iff.2 h.2.2.2⟩
theorem isPerm_ident {n : Nat} (h : 1 ≤ n ∧ n ≤ 7) : isPerm (ident n) = true := by
  obtain ⟨h1, h2⟩ := h
  have : n = 1 ∨ n = 2 ∨ n = 3 ∨ n = 4 ∨ n = 5 ∨ n = 6 ∨ n = 7 := by omega
  rcases this with rfl | rfl | rfl | rfl | rfl | rfl | rfl <;> decide
theorem code_nat {xs : List Int} {i : Nat} {x : Int} (h : (code xs)[i]? = some x) : 0 ≤ x ∧ x ≤ (xs.length : Nat) := by
  have hi := (List.getElem?_eq_some_iff.1 h).1
  rw [code_length] at hi
  rw [code_at rfl hi] at h
  obtain rfl := Option.some.inj h
  have := cnt_le xs i (xs.length - 1 - i)
  omega
theorem small_code {xs : List Int} (h : xs.length ≤ 1000) : Small (code xs) := by
  intro x hx
  obtain ⟨i, hi⟩ := List.mem_iff_getElem?.1 hx
  have := code_nat hi
  omega

set_option maxRecDepth 100000 in
set_option maxHeartbeats 800000 in
theorem l1Length_any (a : Option Addr) (n c : Nat) (xs : List Int) (w : World) (hr : RI w a xs) (hn : xs.length = n) (hb : n ≤ 1000) :
    Calls Tryz.prog 67 #[.slice a n c] w fun e w' => e = .returned (.int .i64 (sumI (code xs))) ∧ Below w.heap.size w w' := by
  go_enter Tryz.func67, Tryz.ntmps67
  go_wp2_with fail
  refine (l1Code_any _ _ _ xs _ hr hn (by omega)).mono ?_
  rintro e w1 ⟨a1, c1, rfl, ho, hB⟩
  have hl := Lib.hid ho.len
  have hsm := Lib.hid (small_code (xs := xs) (by omega))
  go_wp2_with fail
  refine (l1Sum_any _ _ _ (code xs) _ ho.rd hl.out (by omega) hsm.out).mono ?_
  rintro e w2 ⟨rfl, rfl⟩
  go_wp2
  go_ret
  exact ⟨rfl, hB⟩

set_option maxRecDepth 100000 in
set_option maxHeartbeats 800000 in
theorem lengthOf_any (a : Option Addr) (n c : Nat) (xs : List Int) (w : World) (hr : RI w a xs) (hn : xs.length = n) (hb : n ≤ 1000) (hcap : n ≤ c) (hp : isPerm xs = true) :
    Calls Tryz.prog 22 #[.slice a n c] w fun e w' => e = .returned (.int .i64 (sumI (code xs))) ∧ Below w.heap.size w w' := by
  have Hn := Lib.hid hn; clear hn
  have Hp := Lib.hid hp
  have hcf : codeOf xs = code xs := by rw [codeOf, hp]; rfl
  have Hcf := Lib.hid hcf; clear hcf hp
  have hsm := Lib.hid (small_code (xs := xs) (by rw [Hn.out]; exact hb))
  go_enter Tryz.func22, Tryz.ntmps22
  go_wp2_with fail
  refine (is (implIsPerm_any _ _ _ xs _ hr Hn.out (by omega)) Hp.out).mono ?_
  rintro e w1 ⟨rfl, hd⟩
  have hr1 := hr.below hd
  go_wp2_with fail
  refine (codeOf_any _ _ _ xs _ hr1 Hn.out (by omega) hcap).mono ?_
  rintro e w2 ⟨a2, n2, c2, rfl, ho, hb2⟩
  rw [Hcf.out] at ho
  have hl := ho.len
  have hl2 : n2 = n := by rw [← hl, code_length, Hn.out]
  subst hl2
  have Hl := Lib.hid hl; clear hl
  have hB := hd.trans (hb2.mono hd.size)
  clear hr1 hb2 hd
  go_wp2
  go_loop [3, 12] (fun s i => Hid (∃ k : Nat, k ≤ n2 ∧ i = .int .i64 k ∧ s = .int .i64 (sumI ((code xs).take k)))) (fun _ i => n2 - (intOf i).toNat)
  case atStart => exact ⟨0, Nat.zero_le _, rfl, rfl⟩
  case round =>
    obtain ⟨k, hk, rfl, rfl⟩ := hrel.out
    by_cases hlt : k < n2
    · obtain ⟨b, off, hab, hcell⟩ := ho.rd.at (k := k) (by rw [Hl.out]; exact hlt)
      subst hab
      obtain ⟨x, hx⟩ := some_at Hl.out hlt
      have hc := hcell k x hx
      have hst := sumI_take hx
      have hbd := sumI_bd (hsm.out.take k)
      have hbx := hsm.out.at hx
      have hlen : (((code xs).take k).length : Int) ≤ 1000 := by rw [List.length_take]; omega
      obtain ⟨s, hs⟩ : ∃ s, sumI ((code xs).take k) = s := ⟨_, rfl⟩
      rw [hs] at hst hbd ⊢
      have Hst := Lib.hid hst; clear hst hx hcell hs
      have hsb : -1048576000 ≤ s ∧ s ≤ 1048576000 := by omega
      clear hbd
      go_wp2
      go_round
      case rel => exact ⟨k + 1, by omega, by go_num, by rw [Hst.out] <;> go_num⟩
      case measure => simp [intOf]; omega
    · obtain rfl : k = n2 := by omega
      go_wp2
      go_ret
      exact ⟨ret_int (by rw [List.take_of_length_le (by rw [Hl.out]; exact Nat.le_refl _)]), hB⟩
end Go.Proofs.YtomejjbkakpoiaaGreat

namespace Go.Proofs.YtomejjbkakpoiaaGreat
open Go.RowKit

theorem isPerm_play {p : Nat} {xs : List Int} (h : isWord (p : Int) xs = true) : ∀ {k : Nat}, k ≤ xs.length → isPerm (play p xs k) = true := by
  have hb := isWord_bd h
  intro k
  induction k with
  | zero => intro _; exact isPerm_ident (by omega)
  | succ k ih =>
    intro hk
    obtain ⟨x, hx⟩ := some_at rfl (show k < xs.length by omega)
    have := hb.2.2.2 k x hx
    rw [play, getD_of hx]
    exact isPerm_swp (ih (by omega)) (by rw [play_length]; omega) (by rw [play_length]; omega)

def reduced (N : Int) (xs : List Int) : Bool := isWord N xs && decide (sumI (code (play N.toNat xs xs.length)) = xs.length)
set_option maxRecDepth 100000 in
set_option maxHeartbeats 800000 in
theorem isReduced_any (N : Int) (a : Option Addr) (n c : Nat) (xs : List Int) (w : World) (hr : RI w a xs) (hn : xs.length = n) (hb : n ≤ 17592186044416) (hl : -9223372036854775808 ≤ N) (hu : N ≤ 9223372036854775807) :
    Calls Tryz.prog 40 #[.int .i64 N, .slice a n c] w fun e w' => e = .returned (.bool (reduced N xs)) ∧ Below w.heap.size w w' := by
  have Hn := Lib.hid hn; clear hn
  cases hw : isWord N xs
  · have hno := Lib.hid (show reduced N xs = false by rw [reduced, hw]; rfl)
    have Hw := Lib.hid hw; clear hw
    go_enter Tryz.func40, Tryz.ntmps40
    go_wp2_with fail
    refine (is (isWord_any _ _ _ _ xs _ hr Hn.out hb hl hu) Hw.out).mono ?_
    rintro e w1 ⟨rfl, rfl⟩
    go_wp2
    go_ret
    exact ⟨ret_bool hno.out.symm, Below.refl _ _⟩
  · have hbd := isWord_bd hw
    obtain ⟨p, rfl⟩ : ∃ p : Nat, N = (p : Int) := ⟨N.toNat, by omega⟩
    have hpp := isPerm_play hw (k := n) (by rw [Hn.out]; exact Nat.le_refl _)
    have hred : reduced (p : Int) xs = decide (sumI (code (play p xs n)) = (n : Int)) := by rw [reduced, hw, Hn.out]; rfl
    have Hred := Lib.hid hred
    have Hpp := Lib.hid hpp
    have Hw := Lib.hid hw
    have hp7 : p ≤ 7 := by omega
    clear hbd hpp hred hw
    go_enter Tryz.func40, Tryz.ntmps40
    go_wp2_with fail
    refine (is (isWord_any _ _ _ _ xs _ hr Hn.out hb hl hu) Hw.out).mono ?_
    rintro e w1 ⟨rfl, rfl⟩
    go_wp2_with fail
    refine (wordPerm_any _ p _ _ _ xs _ hr Hn.out hb rfl Hw.out).mono ?_
    rintro e w1 ⟨a1, c1, rfl, ho, hb1⟩
    go_wp2_with fail
    refine (lengthOf_any _ _ _ (play p xs n) _ ho.rd (play_length p xs n) (by omega) ho.1.lt Hpp.out).mono ?_
    rintro e w2 ⟨rfl, hb2⟩
    have hB := hb1.trans (hb2.mono hb1.size)
    obtain ⟨s, hs⟩ : ∃ s, sumI (code (play p xs n)) = s := ⟨_, rfl⟩
    rw [hs] at Hred ⊢
    clear ho hb1 hb2
    go_wp2
    go_ret
    exact ⟨ret_bool (by rw [Hred.out]; by_cases h : s = (n : Int) <;> simp [h]), hB⟩
end Go.Proofs.YtomejjbkakpoiaaGreat
