/-
  Contracts of IsPerm, the program's and the reference's.
  Contracts of isSize and IdentityPerm.
-/
import Derived.Test.YtomejjbkakpoiaaGreatBuE9
import Derived.Test.YtomejjbkakpoiaaGreatBuE10
import Derived.Test.YtomejjbkakpoiaaGreatBuE1
import Derived.RegionTactic
import Derived.ChangeAlike
namespace Go.Proofs.YtomejjbkakpoiaaGreat
open Go.RowKit

def permAt (xs : List Int) (k : Nat) : Bool :=
  decide (0 ≤ xs.getD k 0) && decide (xs.getD k 0 < xs.length) && !((xs.take k).contains (xs.getD k 0))
def isPerm (xs : List Int) : Bool := decide (1 ≤ xs.length) && decide (xs.length ≤ 7) && (List.range xs.length).all (permAt xs)

theorem isPerm_false {xs : List Int} {k : Nat} (hk : k < xs.length) (h : permAt xs k = false) : isPerm xs = false := by
  simp only [isPerm, Bool.and_eq_false_iff]
  right
  rw [List.all_eq_false]
  exact ⟨k, by simpa using hk, by simp [h]⟩
theorem isPerm_true {xs : List Int} (h1 : 1 ≤ xs.length) (h2 : xs.length ≤ 7) (h : ∀ j, j < xs.length → permAt xs j = true) : isPerm xs = true := by
  have : (List.range xs.length).all (permAt xs) = true := by
    rw [List.all_eq_true]; intro j hj; exact h j (by simpa using hj)
  simp [isPerm, this, h1, h2]
theorem perm_len {xs : List Int} (h : isPerm xs = true) : 1 ≤ xs.length ∧ xs.length ≤ 7 := by
  simp [isPerm] at h; exact ⟨by omega, h.1.2⟩
theorem perm_at {xs : List Int} (h : isPerm xs = true) {k : Nat} {x : Int} (hx : xs[k]? = some x) : 0 ≤ x ∧ x < xs.length := by
  have hk := (List.getElem?_eq_some_iff.1 hx).1
  simp only [isPerm, Bool.and_eq_true, List.all_eq_true] at h
  have := h.2 k (by simpa using hk)
  simp only [permAt, getD_of hx, Bool.and_eq_true, decide_eq_true_eq] at this
  exact this.1

set_option maxHeartbeats 400000 in
theorem l1Has_any (a : Option Addr) (n c : Nat) (xs : List Int) (x : Int) (w : World) (hr : RI w a xs) (hn : xs.length = n) (hb : n ≤ 17592186044416) :
    Calls Tryz.prog 95 #[.slice a n c, .int .i64 x] w fun e w' => e = .returned (.bool (xs.contains x)) ∧ Drew w w' := by
  have Hn := Lib.hid hn; clear hn
  go_enter Tryz.func95, Tryz.ntmps95
  go_wp2
  go_loop [5] (fun i => ∃ k : Nat, k ≤ n ∧ i = .int .i64 k ∧ Hid ((xs.take k).contains x = false)) (fun i => n - (intOf i).toNat)
  case atStart => exact ⟨0, Nat.zero_le _, rfl, by exact rfl⟩
  case round =>
    obtain ⟨k, hk, rfl, HA⟩ := hrel
    by_cases hlt : k < n
    · obtain ⟨b, off, rfl, hcell⟩ := hr.at (k := k) (by rw [Hn.out]; exact hlt)
      obtain ⟨y, hy⟩ := some_at Hn.out hlt
      have hc := hcell k y hy
      have Hy := Lib.hid hy; clear hy
      clear hcell
      by_cases h1 : y = x
      · have hb1 : (y == x) = true := by simp [h1]
        go_wp2
        go_ret
        exact ⟨ret_bool (by have := List.mem_of_getElem? Hy.out; rw [h1] at this; simp [this]), Drew.refl _⟩
      · have hb1 : (y == x) = false := by simp [h1]
        go_wp2
        go_round
        case rel => exact ⟨k + 1, by omega, by go_num, by
          rw [List.take_add_one, Hy.out]
          have := HA.out
          simp only [List.contains_eq_mem, decide_eq_false_iff_not] at this
          simp [this]
          intro h; exact h1 h.symm⟩
        case measure => simp [intOf]; omega
    · obtain rfl : k = n := by omega
      go_wp2
      go_ret
      exact ⟨ret_bool (by have := HA.out; rw [List.take_of_length_le (by rw [Hn.out]; omega)] at this; rw [← this]; simp), Drew.refl _⟩

set_option maxRecDepth 100000 in
set_option maxHeartbeats 1600000 in
theorem specIsPerm_any (a : Option Addr) (n c : Nat) (xs : List Int) (w : World) (hr : RI w a xs) (hn : xs.length = n) (hb : n ≤ 17592186044416) (hcap : n ≤ c) :
    Calls Tryz.prog 50 #[.slice a n c] w fun e w' => e = .returned (.bool (isPerm xs)) ∧ Drew w w' := by
  have Hn := Lib.hid hn; clear hn
  by_cases hsz : 1 ≤ n ∧ n ≤ 7
  · go_enter Tryz.func50, Tryz.ntmps50
    go_wp2_with fail
    refine (l1In_yes _ _ _ _ (by omega)).mono ?_
    rintro e w1 ⟨rfl, hd0⟩
    go_wp2
    go_loopw [3] (fun i wr => ∃ k : Nat, k ≤ n ∧ i = .int .i64 k ∧ Hid (∀ j, j < k → permAt xs j = true) ∧ Drew w wr) (fun i _ => n - (intOf i).toNat)
    case atStart => exact ⟨0, Nat.zero_le _, rfl, by intro j hj; omega, hd0⟩
    case round =>
      clear hd0
      obtain ⟨k, hk, rfl, HA, hd⟩ := hrel
      by_cases hlt : k < n
      · have hrw := hr.drew hd
        obtain ⟨b, off, rfl, hcell⟩ := hrw.at (k := k) (by rw [Hn.out]; exact hlt)
        obtain ⟨x, hx⟩ := some_at Hn.out hlt
        have hc := hcell k x hx
        have Hx := Lib.hid hx; clear hx
        have hrt : RI wr (some ⟨b, off, none⟩) (xs.take k) := .inr ⟨b, off, rfl, fun j y hy => hcell j y (by
          rw [List.getElem?_take] at hy; split at hy
          · exact hy
          · cases hy)⟩
        clear hcell
        have hltI : (k : Int) < (n : Int) := by omega
        have q1 : IntKind.i64.wrap ((n : Int) - 1) = (n : Int) - 1 := IntWalk.i64_in _ (by omega)
        have hkc : k ≤ c := by omega
        by_cases h1 : x < 0 ∨ (n : Int) - 1 < x
        · go_wp2
          go_quiet ((go_at_call 43; exact quiet (l1In_no _ _ _ _ (by omega))))
          go_wp2
          go_ret
          exact ⟨ret_bool (isPerm_false (k := k) (by rw [Hn.out]; exact hlt) (by rw [permAt, getD_of Hx.out, Hn.out]; simp; omega)).symm, hd.trans (Drew.drewN _ _)⟩
        · have hin : 0 ≤ x ∧ x ≤ (n : Int) - 1 := by omega
          clear h1
          cases hm : (xs.take k).contains x
          · go_wp2
            go_quiet ((first | (go_at_call 43; exact quiet (l1In_yes _ _ _ _ hin)) | (go_at_call 95; exact quiet (is (l1Has_any _ k _ (xs.take k) x _ (hrt.drew (Drew.drewN _ _)) (by rw [List.length_take, Hn.out]; omega) (by omega)) hm))))
            go_wp2
            go_roundw
            case rel => exact ⟨k + 1, by omega, by go_num, by
              intro j hj
              rcases Nat.lt_or_ge j k with h | h
              · exact HA.out j h
              · obtain rfl : j = k := by omega
                rw [permAt, getD_of Hx.out, Hn.out, hm]; simp; omega, hd.trans (Drew.drewN _ _)⟩
            case measure => simp [intOf]; omega
          · go_wp2
            go_quiet ((first | (go_at_call 43; exact quiet (l1In_yes _ _ _ _ hin)) | (go_at_call 95; exact quiet (is (l1Has_any _ k _ (xs.take k) x _ (hrt.drew (Drew.drewN _ _)) (by rw [List.length_take, Hn.out]; omega) (by omega)) hm))))
            go_wp2
            go_ret
            exact ⟨ret_bool (isPerm_false (k := k) (by rw [Hn.out]; exact hlt) (by rw [permAt, getD_of Hx.out, hm]; simp)).symm, hd.trans (Drew.drewN _ _)⟩
      · obtain rfl : k = n := by omega
        go_wp2
        go_ret
        exact ⟨ret_bool (isPerm_true (by rw [Hn.out]; omega) (by rw [Hn.out]; omega) (by rw [Hn.out]; exact HA.out)).symm, hd⟩
  · go_enter Tryz.func50, Tryz.ntmps50
    go_wp2_with fail
    refine (l1In_no _ _ _ _ (by omega)).mono ?_
    rintro e w1 ⟨rfl, hd0⟩
    go_wp2
    go_ret
    exact ⟨ret_bool (by rw [isPerm, Hn.out]; symm; simp; omega), hd0⟩

/-- the seven marks: which of 0 .. 6 are among the numbers -/
def met (l : List Int) : List Value := (List.range 7).map fun (j : Nat) => Value.bool (l.contains (j : Int))
theorem met_length (l : List Int) : (met l).length = 7 := by simp [met]
theorem met_at (l : List Int) {m : Nat} (h : m < 7) : (met l)[m]? = some (.bool (l.contains (m : Int))) := by simp [met, h]
theorem met_snoc (l : List Int) {m : Nat} (h : m < 7) : (met l).set m (.bool true) = met (l ++ [(m : Int)]) := by
  apply List.ext_getElem?
  intro i
  rw [List.getElem?_set, met_length]
  by_cases hi : m = i
  · subst hi
    rw [if_pos rfl, if_pos h, met_at _ h]
    simp
  · rw [if_neg hi]
    by_cases h7 : i < 7
    · rw [met_at _ h7, met_at _ h7]
      have : ((i : Int) == (m : Int)) = false := by simp; omega
      simp [List.mem_append]
      omega
    · rw [List.getElem?_eq_none (by rw [met_length]; omega), List.getElem?_eq_none (by rw [met_length]; omega)]
theorem met_made (w : World) (T : Nat) : (w.alloc (.cells #[.bool false, .bool false, .bool false, .bool false, .bool false, .bool false, .bool false] T)).ownsRow w.heap.size T 1 (.slice (some ⟨w.heap.size, 0, none⟩) 7 7) 7 (met []) :=
  ⟨by rw [met_length], .inr ⟨w.heap.size, 7, _, rfl, Nat.le_refl _, heap_alloc_new w _, Nat.le_refl _, by unfold maxLen; omega, rfl, rfl⟩⟩

set_option maxRecDepth 100000 in
set_option maxHeartbeats 1600000 in
theorem implIsPerm_any (a : Option Addr) (n c : Nat) (xs : List Int) (w : World) (hr : RI w a xs) (hn : xs.length = n) (hb : n ≤ 17592186044416) :
    Calls Tryz.prog 29 #[.slice a n c] w fun e w' => e = .returned (.bool (isPerm xs)) ∧ Below w.heap.size w w' := by
  have Hn := Lib.hid hn; clear hn
  by_cases h1 : n < 1
  · go_enter Tryz.func29, Tryz.ntmps29
    go_wp2
    go_ret
    exact ⟨ret_bool (by rw [isPerm, Hn.out]; symm; simp; omega), Below.refl _ _⟩
  by_cases h7 : 7 < n
  · go_enter Tryz.func29, Tryz.ntmps29
    go_wp2
    go_ret
    exact ⟨ret_bool (by rw [isPerm, Hn.out]; symm; simp; omega), Below.refl _ _⟩
  have hm0 := met_made w 94
  have hB0 := (Below.refl w.heap.size w).alloc (Nat.le_refl _) (.cells #[.bool false, .bool false, .bool false, .bool false, .bool false, .bool false, .bool false] 94)
  go_enter Tryz.func29, Tryz.ntmps29
  go_wp2
  go_loopw [17] (fun i wr => ∃ k : Nat, k ≤ n ∧ i = .int .i64 k ∧ Hid (∀ j, j < k → permAt xs j = true) ∧ Hid (wr.ownsRow w.heap.size 94 1 (.slice (some ⟨w.heap.size, 0, none⟩) 7 7) 7 (met (xs.take k))) ∧ Below w.heap.size w wr) (fun i _ => n - (intOf i).toNat)
  case atStart => exact ⟨0, Nat.zero_le _, rfl, by intro j hj; omega, Lib.hid hm0, hB0⟩
  case round =>
    clear hm0 hB0
    obtain ⟨k, hk, rfl, HA, HM, hB⟩ := hrel
    by_cases hlt : k < n
    · have hrw := hr.below hB
      obtain ⟨b, off, rfl, hcell⟩ := hrw.at (k := k) (by rw [Hn.out]; exact hlt)
      obtain ⟨x, hx⟩ := some_at Hn.out hlt
      have hc := hcell k x hx
      have Hx := Lib.hid hx; clear hx
      clear hcell hrw
      by_cases h1 : x < 0
      · go_wp2
        go_ret
        exact ⟨ret_bool (isPerm_false (k := k) (by rw [Hn.out]; exact hlt) (by rw [permAt, getD_of Hx.out, Hn.out]; simp; omega)).symm, hB⟩
      by_cases h2 : (n : Int) ≤ x
      · go_wp2
        go_ret
        exact ⟨ret_bool (isPerm_false (k := k) (by rw [Hn.out]; exact hlt) (by rw [permAt, getD_of Hx.out, Hn.out]; simp; omega)).symm, hB⟩
      obtain ⟨m, rfl⟩ : ∃ m : Nat, x = (m : Int) := ⟨x.toNat, by omega⟩
      have hm7 : m < 7 := by omega
      have hcm := HM.out.cellAt m (by omega)
      have hfm := HM.out.frozenAt m
      rw [met_at _ hm7] at hcm
      cases hm : (xs.take k).contains (m : Int)
      · rw [hm] at hcm
        have Hm := Lib.hid hm; clear hm
        go_wp2
        go_roundw
        case rel =>
          have hs := HM.out.stored m (.bool true)
          rw [met_snoc _ hm7] at hs
          exact ⟨k + 1, by omega, by go_num, by
              intro j hj
              rcases Nat.lt_or_ge j k with h | h
              · exact HA.out j h
              · obtain rfl : j = k := by omega
                rw [permAt, getD_of Hx.out, Hn.out, Hm.out]; simp; omega, Lib.hid (by rw [List.take_add_one, Hx.out]; exact hs.1), hB.grown hs.2 (by have := hB.size; omega) (by intro k hk; simp at hk; omega)⟩
        case measure => simp [intOf]; omega
      · rw [hm] at hcm
        have Hm := Lib.hid hm; clear hm
        go_wp2
        go_ret
        exact ⟨ret_bool (isPerm_false (k := k) (by rw [Hn.out]; exact hlt) (by rw [permAt, getD_of Hx.out, Hm.out]; simp)).symm, hB⟩
    · obtain rfl : k = n := by omega
      go_wp2
      go_ret
      exact ⟨ret_bool (isPerm_true (by rw [Hn.out]; omega) (by rw [Hn.out]; omega) (by rw [Hn.out]; exact HA.out)).symm, hB⟩
end Go.Proofs.YtomejjbkakpoiaaGreat

namespace Go.Proofs.YtomejjbkakpoiaaGreat
open Go.RowKit

theorem isSize_yes (n : Int) (w : World) (h : 1 ≤ n ∧ n ≤ 7) :
    Calls Tryz.prog 113 #[.int .i64 n] w fun e w' => e = .returned (.bool true) ∧ w = w' := by
  obtain ⟨h1, h2⟩ := h
  go_enter Tryz.func113, Tryz.ntmps113
  go_wp2
  go_ret
  exact ⟨by simp, rfl⟩
theorem isSize_no (n : Int) (w : World) (h : n < 1 ∨ 7 < n) :
    Calls Tryz.prog 113 #[.int .i64 n] w fun e w' => e = .returned (.bool false) ∧ w = w' := by
  by_cases h1 : 1 ≤ n
  · have h2 : ¬ n ≤ 7 := by omega
    go_enter Tryz.func113, Tryz.ntmps113
    go_wp2
    go_ret
    exact ⟨by simp, rfl⟩
  · go_enter Tryz.func113, Tryz.ntmps113
    go_wp2
    go_ret
    exact ⟨by simp, rfl⟩

def ident (n : Nat) : List Int := (List.range n).map fun (i : Nat) => (i : Int)
theorem ident_length (n : Nat) : (ident n).length = n := by simp [ident]
theorem ident_at {n i : Nat} (h : i < n) : (ident n)[i]? = some (i : Int) := by simp [ident, h]
theorem ident_succ (n : Nat) : ident (n + 1) = ident n ++ [(n : Int)] := by simp [ident, List.range_succ]

set_option maxRecDepth 100000 in
set_option maxHeartbeats 800000 in
theorem specIdent_any (n : Nat) (N : Int) (w : World) (hN : N = (n : Int)) (h : 1 ≤ n ∧ n ≤ 7) :
    Calls Tryz.prog 70 #[.int .i64 N] w fun e w' => ∃ a' c', e = .returned (.slice a' n c') ∧ OwI w' w.heap.size w'.heap.size a' n c' (ident n) ∧ Below w.heap.size w w' := by
  subst hN
  go_enter Tryz.func70, Tryz.ntmps70
  go_wp2_with fail
  refine (l1In_yes _ _ _ _ (by omega)).mono ?_
  rintro e w1 ⟨rfl, hd⟩
  have hb1 := hd.below w.heap.size
  have hsz1 := hb1.size
  have H1 := Lib.hid ((OwI.mk (World.ownsRow_made w1 #[] 0 (Nat.le_refl _) (Nat.zero_le _) rfl) : OwI (w1.alloc (.cells #[] 3)) w1.heap.size (w1.alloc (.cells #[] 3)).heap.size (some ⟨w1.heap.size, 0, none⟩) 0 0 []).mono hsz1 (Nat.le_refl _))
  have hB0 : Below w.heap.size w (w1.alloc (.cells #[] 3)) := hb1.alloc hsz1 _
  go_wp2
  go_loopw [3, 4] (fun v i wr => Hid (∃ k : Nat, k ≤ n ∧ i = .int .i64 k ∧ ∃ a' c', v = .slice a' k c' ∧ OwI wr w.heap.size wr.heap.size a' k c' (ident k)) ∧ Below w.heap.size w wr) (fun _ i _ => n - (intOf i).toNat)
  case atStart => exact ⟨⟨0, Nat.zero_le _, rfl, _, _, rfl, H1.out⟩, hB0⟩
  case round =>
    clear H1 hB0 hb1
    obtain ⟨HV, hB⟩ := hrel
    obtain ⟨wo, rfl⟩ : ∃ wo : World, wo = wr := ⟨_, rfl⟩
    obtain ⟨k, hk, rfl, a', c', rfl, ho⟩ := HV.out
    clear HV
    have hbs := hB.size
    by_cases hlt : k < n
    · go_wp2_with (first | (at_builtin; go_loud (refine wpList_pushI (by rfl) (by rfl) _ _ (by rfl) ho (by rfl) (by rfl) (by omega) (by omega) ?_)))
      intro a2 c2 w2 ho2 hg2
      have hB2 := hg2.below hB (by omega) (fun k hk => ho.1.lo k hk)
      rw [← ident_succ] at ho2
      clear ho
      go_wp2
      go_roundw
      case rel => exact ⟨⟨k + 1, by omega, by go_num, _, _, rfl, ho2⟩, hB2⟩
      case measure => simp [intOf]; omega
    · obtain rfl : k = n := by omega
      go_wp2
      go_ret
      exact ⟨_, _, rfl, ho, hB⟩

set_option maxRecDepth 100000 in
set_option maxHeartbeats 800000 in
theorem implIdent_any (n : Nat) (N : Int) (w : World) (hN : N = (n : Int)) (h : 1 ≤ n ∧ n ≤ 7) :
    Calls Tryz.prog 83 #[.int .i64 N] w fun e w' => ∃ a' c', e = .returned (.slice a' n c') ∧ OwI w' w.heap.size w'.heap.size a' n c' (ident n) ∧ Below w.heap.size w w' := by
  subst hN
  obtain ⟨i0, hi, hz0, hz1, hz2⟩ := info_parts Tryz.info3
  go_enter Tryz.func83, Tryz.ntmps83
  go_wp2_with fail
  refine (isSize_yes _ _ (by omega)).mono ?_
  rintro e w1 ⟨rfl, rfl⟩
  go_wp2_with (first | (at_make; refine wpList_make_full _ rfl _ _ 24 rfl w.heap.size 3 i0 (.int .i64 0) 1 Tryz.underlying24 hi hz0 hz1 .i64 .i64 _ _ n rfl rfl ?m1 ?m2 ?m3 ?m4 ?m5 ?_))
  case m1 => rfl
  case m2 => rfl
  case m3 => rw [hz2]; omega
  case m4 => unfold maxLen; omega
  case m5 => exact Nat.le_refl _
  intro w1 hown hg
  have hB : Below w.heap.size w w1 := (Below.refl _ _).grown hg (Nat.le_refl _) (by simp)
  have hrow : OS w1 w.heap.size (some ⟨w.heap.size, 0, none⟩) n n (fillTo (ident n) n 0) := by
    refine OS.of ?_
    rw [fillTo_zero]
    have e := toList_madeCells_one (.int .i64 0) n
    simpa [ints, Value.cells, e] using hown
  have Hrow := Lib.hid hrow; clear hown hg hrow
  go_wp2
  go_loopw [12] (fun iv wr => Hid (∃ i : Nat, i ≤ n ∧ iv = .int .i64 i ∧ OS wr w.heap.size (some ⟨w.heap.size, 0, none⟩) n n (fillTo (ident n) n i)) ∧ Below w.heap.size w wr) (fun i _ => n - (intOf i).toNat)
  case atStart => exact ⟨⟨0, Nat.zero_le _, rfl, Hrow.out⟩, hB⟩
  case round =>
    clear Hrow hB
    obtain ⟨HV, hB⟩ := hrel
    obtain ⟨wo, rfl⟩ : ∃ wo : World, wo = wr := ⟨_, rfl⟩
    obtain ⟨i, hi', rfl, ho⟩ := HV.out
    clear HV
    by_cases hlt : i < n
    · obtain ⟨g, hg0, hBg, ⟨v, hv, hcv⟩, hfv⟩ := OI.cons ho hlt
      obtain rfl : w.heap.size = g := by simpa using hg0
      have hs := ho.store i (i : Int)
      rw [fillTo_succ (ident_length n) hlt (ident_at hlt)] at hs
      have hB2 := hB.grown hs.2 hB.size (by intro q hq; obtain rfl := Option.some.inj hq; exact Nat.le_refl _)
      have HS := Lib.hid hs.1
      clear hs hv ho
      go_wp2
      go_roundw
      case rel => exact ⟨⟨i + 1, by omega, by go_num, HS.out⟩, hB2⟩
      case measure => simp [intOf]; omega
    · obtain rfl : i = n := by omega
      rw [fillTo_all (ident_length i)] at ho
      have HO := Lib.hid (OwI.of ho); clear ho
      go_wp2
      go_ret
      exact ⟨_, _, rfl, HO.out, hB⟩
end Go.Proofs.YtomejjbkakpoiaaGreat
