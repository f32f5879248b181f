/-
  Contracts of IsPerm, the program's and the reference's.
  Contracts of l1Trim and TrimPerm: places at the end that are not moved, left away.
  Schubert polynomials out of the staircase. Plain.
  Contracts of open and of operated, with DemazureOf, IsobaricOf and AtomOf of the program.
-/
import Derived.Test.YtjljacmepidgcaaBuK9
import Derived.Test.YtjljacmepidgcaaBuK10
import Derived.Test.YtjljacmepidgcaaBuK11
import Derived.Test.YtjljacmepidgcaaBuK7
import Derived.StillTailTactics
namespace Go.Proofs.Ytjljacmepidgcaa
open Go.RowKit

def permAt (xs : List Int) (k : Nat) : Bool :=
  decide (0 ≤ xs.getD k 0) && decide (xs.getD k 0 < xs.length) && !((xs.take k).contains (xs.getD k 0))
def isPerm (xs : List Int) : Bool := decide (1 ≤ xs.length) && decide (xs.length ≤ 7) && (List.range xs.length).all (permAt xs)

theorem isPerm_false {xs : List Int} {k : Nat} (hk : k < xs.length) (h : permAt xs k = false) : isPerm xs = false := by
  simp only [isPerm, Bool.and_eq_false_iff]
  right
  rw [List.all_eq_false]
  exact ⟨k, by simpa using hk, by simp [h]⟩
theorem isPerm_true {xs : List Int} (h1 : 1 ≤ xs.length) (h2 : xs.length ≤ 7) (h : ∀ j, j < xs.length → permAt xs j = true) : isPerm xs = true := by
  have : (List.range xs.length).all (permAt xs) = true := by
    rw [List.all_eq_true]; intro j hj; exact h j (by simpa using hj)
  simp [isPerm, this, h1, h2]
theorem perm_len {xs : List Int} (h : isPerm xs = true) : 1 ≤ xs.length ∧ xs.length ≤ 7 := by
  simp [isPerm] at h; exact ⟨by omega, h.1.2⟩
theorem perm_at {xs : List Int} (h : isPerm xs = true) {k : Nat} {x : Int} (hx : xs[k]? = some x) : 0 ≤ x ∧ x < xs.length := by
  have hk := (List.getElem?_eq_some_iff.1 hx).1
  simp only [isPerm, Bool.and_eq_true, List.all_eq_true] at h
  have := h.2 k (by simpa using hk)
  simp only [permAt, getD_of hx, Bool.and_eq_true, decide_eq_true_eq] at this
  exact this.1

set_option maxHeartbeats 400000 in
theorem l1Has_any (a : Option Addr) (n c : Nat) (xs : List Int) (x : Int) (w : World) (hr : RI w a xs) (hn : xs.length = n) (hb : n ≤ 17592186044416) :
    Calls Try.prog 33 #[.slice a n c, .int .i64 x] w fun e w' => e = .returned (.bool (xs.contains x)) ∧ Drew w w' := by
  have Hn := Lib.hid hn; clear hn
  go_enter Try.func33, Try.ntmps33
  go_wp2
  go_loop [5] (fun i => ∃ k : Nat, k ≤ n ∧ i = .int .i64 k ∧ Hid ((xs.take k).contains x = false)) (fun i => n - (intOf i).toNat)
  case atStart => exact ⟨0, Nat.zero_le _, rfl, by exact rfl⟩
  case round =>
    obtain ⟨k, hk, rfl, HA⟩ := hrel
    by_cases hlt : k < n
    · obtain ⟨b, off, rfl, hcell⟩ := hr.at (k := k) (by rw [Hn.out]; exact hlt)
      obtain ⟨y, hy⟩ := some_at Hn.out hlt
      have hc := hcell k y hy
      have Hy := Lib.hid hy; clear hy
      clear hcell
      by_cases h1 : y = x
      · have hb1 : (y == x) = true := by simp [h1]
        go_wp2
        go_ret
        exact ⟨ret_bool (by have := List.mem_of_getElem? Hy.out; rw [h1] at this; simp [this]), Drew.refl _⟩
      · have hb1 : (y == x) = false := by simp [h1]
        go_wp2
        go_round
        case rel => exact ⟨k + 1, by omega, by go_num, by
          rw [List.take_add_one, Hy.out]
          have := HA.out
          simp only [List.contains_eq_mem, decide_eq_false_iff_not] at this
          simp [this]
          intro h; exact h1 h.symm⟩
        case measure => simp [intOf]; omega
    · obtain rfl : k = n := by omega
      go_wp2
      go_ret
      exact ⟨ret_bool (by have := HA.out; rw [List.take_of_length_le (by rw [Hn.out]; omega)] at this; rw [← this]; simp), Drew.refl _⟩

set_option maxRecDepth 100000 in
set_option maxHeartbeats 1600000 in
theorem specIsPerm_any (a : Option Addr) (n c : Nat) (xs : List Int) (w : World) (hr : RI w a xs) (hn : xs.length = n) (hb : n ≤ 17592186044416) (hcap : n ≤ c) :
    Calls Try.prog 28 #[.slice a n c] w fun e w' => e = .returned (.bool (isPerm xs)) ∧ Drew w w' := by
  have Hn := Lib.hid hn; clear hn
  by_cases hsz : 1 ≤ n ∧ n ≤ 7
  · go_enter Try.func28, Try.ntmps28
    go_wp2_with fail
    refine (l1In_yes _ _ _ _ (by omega)).mono ?_
    rintro e w1 ⟨rfl, hd0⟩
    go_wp2
    go_loopw [3] (fun i wr => ∃ k : Nat, k ≤ n ∧ i = .int .i64 k ∧ Hid (∀ j, j < k → permAt xs j = true) ∧ Drew w wr) (fun i _ => n - (intOf i).toNat)
    case atStart => exact ⟨0, Nat.zero_le _, rfl, by intro j hj; omega, hd0⟩
    case round =>
      clear hd0
      obtain ⟨k, hk, rfl, HA, hd⟩ := hrel
      by_cases hlt : k < n
      · have hrw := hr.drew hd
        obtain ⟨b, off, rfl, hcell⟩ := hrw.at (k := k) (by rw [Hn.out]; exact hlt)
        obtain ⟨x, hx⟩ := some_at Hn.out hlt
        have hc := hcell k x hx
        have Hx := Lib.hid hx; clear hx
        have hrt : RI wr (some ⟨b, off, none⟩) (xs.take k) := .inr ⟨b, off, rfl, fun j y hy => hcell j y (by
          rw [List.getElem?_take] at hy; split at hy
          · exact hy
          · cases hy)⟩
        clear hcell
        have hltI : (k : Int) < (n : Int) := by omega
        have q1 : IntKind.i64.wrap ((n : Int) - 1) = (n : Int) - 1 := IntWalk.i64_in _ (by omega)
        have hkc : k ≤ c := by omega
        by_cases h1 : x < 0 ∨ (n : Int) - 1 < x
        · go_wp2
          go_quiet ((go_at_call 43; exact quiet (l1In_no _ _ _ _ (by omega))))
          go_wp2
          go_ret
          exact ⟨ret_bool (isPerm_false (k := k) (by rw [Hn.out]; exact hlt) (by rw [permAt, getD_of Hx.out, Hn.out]; simp; omega)).symm, hd.trans (Drew.drewN _ _)⟩
        · have hin : 0 ≤ x ∧ x ≤ (n : Int) - 1 := by omega
          clear h1
          cases hm : (xs.take k).contains x
          · go_wp2
            go_quiet ((first | (go_at_call 43; exact quiet (l1In_yes _ _ _ _ hin)) | (go_at_call 33; exact quiet (is (l1Has_any _ k _ (xs.take k) x _ (hrt.drew (Drew.drewN _ _)) (by rw [List.length_take, Hn.out]; omega) (by omega)) hm))))
            go_wp2
            go_roundw
            case rel => exact ⟨k + 1, by omega, by go_num, by
              intro j hj
              rcases Nat.lt_or_ge j k with h | h
              · exact HA.out j h
              · obtain rfl : j = k := by omega
                rw [permAt, getD_of Hx.out, Hn.out, hm]; simp; omega, hd.trans (Drew.drewN _ _)⟩
            case measure => simp [intOf]; omega
          · go_wp2
            go_quiet ((first | (go_at_call 43; exact quiet (l1In_yes _ _ _ _ hin)) | (go_at_call 33; exact quiet (is (l1Has_any _ k _ (xs.take k) x _ (hrt.drew (Drew.drewN _ _)) (by rw [List.length_take, Hn.out]; omega) (by omega)) hm))))
            go_wp2
            go_ret
            exact ⟨ret_bool (isPerm_false (k := k) (by rw [Hn.out]; exact hlt) (by rw [permAt, getD_of Hx.out, hm]; simp)).symm, hd.trans (Drew.drewN _ _)⟩
      · obtain rfl : k = n := by omega
        go_wp2
        go_ret
        exact ⟨ret_bool (isPerm_true (by rw [Hn.out]; omega) (by rw [Hn.out]; omega) (by rw [Hn.out]; exact HA.out)).symm, hd⟩
  · go_enter Try.func28, Try.ntmps28
    go_wp2_with fail
    refine (l1In_no _ _ _ _ (by omega)).mono ?_
    rintro e w1 ⟨rfl, hd0⟩
    go_wp2
    go_ret
    exact ⟨ret_bool (by rw [isPerm, Hn.out]; symm; simp; omega), hd0⟩

/-- the seven marks: which of 0 .. 6 are among the numbers -/
def met (l : List Int) : List Value := (List.range 7).map fun (j : Nat) => Value.bool (l.contains (j : Int))
theorem met_length (l : List Int) : (met l).length = 7 := by simp [met]
theorem met_at (l : List Int) {m : Nat} (h : m < 7) : (met l)[m]? = some (.bool (l.contains (m : Int))) := by simp [met, h]
theorem met_snoc (l : List Int) {m : Nat} (h : m < 7) : (met l).set m (.bool true) = met (l ++ [(m : Int)]) := by
  apply List.ext_getElem?
  intro i
  rw [List.getElem?_set, met_length]
  by_cases hi : m = i
  · subst hi
    rw [if_pos rfl, if_pos h, met_at _ h]
    simp
  · rw [if_neg hi]
    by_cases h7 : i < 7
    · rw [met_at _ h7, met_at _ h7]
      have : ((i : Int) == (m : Int)) = false := by simp; omega
      simp [List.mem_append]
      omega
    · rw [List.getElem?_eq_none (by rw [met_length]; omega), List.getElem?_eq_none (by rw [met_length]; omega)]
theorem met_made (w : World) (T : Nat) : (w.alloc (.cells #[.bool false, .bool false, .bool false, .bool false, .bool false, .bool false, .bool false] T)).ownsRow w.heap.size T 1 (.slice (some ⟨w.heap.size, 0, none⟩) 7 7) 7 (met []) :=
  ⟨by rw [met_length], .inr ⟨w.heap.size, 7, _, rfl, Nat.le_refl _, heap_alloc_new w _, Nat.le_refl _, by unfold maxLen; omega, rfl, rfl⟩⟩

set_option maxRecDepth 100000 in
set_option maxHeartbeats 1600000 in
theorem implIsPerm_any (a : Option Addr) (n c : Nat) (xs : List Int) (w : World) (hr : RI w a xs) (hn : xs.length = n) (hb : n ≤ 17592186044416) :
    Calls Try.prog 19 #[.slice a n c] w fun e w' => e = .returned (.bool (isPerm xs)) ∧ Below w.heap.size w w' := by
  have Hn := Lib.hid hn; clear hn
  by_cases h1 : n < 1
  · go_enter Try.func19, Try.ntmps19
    go_wp2
    go_ret
    exact ⟨ret_bool (by rw [isPerm, Hn.out]; symm; simp; omega), Below.refl _ _⟩
  by_cases h7 : 7 < n
  · go_enter Try.func19, Try.ntmps19
    go_wp2
    go_ret
    exact ⟨ret_bool (by rw [isPerm, Hn.out]; symm; simp; omega), Below.refl _ _⟩
  have hm0 := met_made w 55
  have hB0 := (Below.refl w.heap.size w).alloc (Nat.le_refl _) (.cells #[.bool false, .bool false, .bool false, .bool false, .bool false, .bool false, .bool false] 55)
  go_enter Try.func19, Try.ntmps19
  go_wp2
  go_loopw [17] (fun i wr => ∃ k : Nat, k ≤ n ∧ i = .int .i64 k ∧ Hid (∀ j, j < k → permAt xs j = true) ∧ Hid (wr.ownsRow w.heap.size 55 1 (.slice (some ⟨w.heap.size, 0, none⟩) 7 7) 7 (met (xs.take k))) ∧ Below w.heap.size w wr) (fun i _ => n - (intOf i).toNat)
  case atStart => exact ⟨0, Nat.zero_le _, rfl, by intro j hj; omega, Lib.hid hm0, hB0⟩
  case round =>
    clear hm0 hB0
    obtain ⟨k, hk, rfl, HA, HM, hB⟩ := hrel
    by_cases hlt : k < n
    · have hrw := hr.below hB
      obtain ⟨b, off, rfl, hcell⟩ := hrw.at (k := k) (by rw [Hn.out]; exact hlt)
      obtain ⟨x, hx⟩ := some_at Hn.out hlt
      have hc := hcell k x hx
      have Hx := Lib.hid hx; clear hx
      clear hcell hrw
      by_cases h1 : x < 0
      · go_wp2
        go_ret
        exact ⟨ret_bool (isPerm_false (k := k) (by rw [Hn.out]; exact hlt) (by rw [permAt, getD_of Hx.out, Hn.out]; simp; omega)).symm, hB⟩
      by_cases h2 : (n : Int) ≤ x
      · go_wp2
        go_ret
        exact ⟨ret_bool (isPerm_false (k := k) (by rw [Hn.out]; exact hlt) (by rw [permAt, getD_of Hx.out, Hn.out]; simp; omega)).symm, hB⟩
      obtain ⟨m, rfl⟩ : ∃ m : Nat, x = (m : Int) := ⟨x.toNat, by omega⟩
      have hm7 : m < 7 := by omega
      have hcm := HM.out.cellAt m (by omega)
      have hfm := HM.out.frozenAt m
      rw [met_at _ hm7] at hcm
      cases hm : (xs.take k).contains (m : Int)
      · rw [hm] at hcm
        have Hm := Lib.hid hm; clear hm
        go_wp2
        go_roundw
        case rel =>
          have hs := HM.out.stored m (.bool true)
          rw [met_snoc _ hm7] at hs
          exact ⟨k + 1, by omega, by go_num, by
              intro j hj
              rcases Nat.lt_or_ge j k with h | h
              · exact HA.out j h
              · obtain rfl : j = k := by omega
                rw [permAt, getD_of Hx.out, Hn.out, Hm.out]; simp; omega, Lib.hid (by rw [List.take_add_one, Hx.out]; exact hs.1), hB.grown hs.2 (by have := hB.size; omega) (by intro k hk; simp at hk; omega)⟩
        case measure => simp [intOf]; omega
      · rw [hm] at hcm
        have Hm := Lib.hid hm; clear hm
        go_wp2
        go_ret
        exact ⟨ret_bool (isPerm_false (k := k) (by rw [Hn.out]; exact hlt) (by rw [permAt, getD_of Hx.out, Hm.out]; simp)).symm, hB⟩
    · obtain rfl : k = n := by omega
      go_wp2
      go_ret
      exact ⟨ret_bool (isPerm_true (by rw [Hn.out]; omega) (by rw [Hn.out]; omega) (by rw [Hn.out]; exact HA.out)).symm, hB⟩
end Go.Proofs.Ytjljacmepidgcaa

namespace Go.Proofs.Ytjljacmepidgcaa
open Go.RowKit

/-- how many places are left of the first n -/
def trimLen (xs : List Int) : Nat → Nat
  | 0 => 0
  | 1 => 1
  | n + 2 => if xs.getD (n + 1) 0 = ((n + 1 : Nat) : Int) then trimLen xs (n + 1) else n + 2
def trim (xs : List Int) : List Int := xs.take (trimLen xs xs.length)
theorem trimLen_small (xs : List Int) {m : Nat} (h : m ≤ 1) : trimLen xs m = m := by
  rcases m with _ | _ | m
  · rfl
  · rfl
  · omega
theorem trimLen_go {xs : List Int} {m : Nat} {y : Int} (h : 1 < m) (hy : xs[m - 1]? = some y) (he : y = (m : Int) - 1) : trimLen xs m = trimLen xs (m - 1) := by
  obtain ⟨k, rfl⟩ : ∃ k, m = k + 2 := ⟨m - 2, by omega⟩
  have e : k + 2 - 1 = k + 1 := by omega
  rw [e] at hy ⊢
  rw [trimLen, if_pos (by rw [getD_of hy, he]; omega)]
theorem trimLen_stop {xs : List Int} {m : Nat} {y : Int} (h : 1 < m) (hy : xs[m - 1]? = some y) (he : y ≠ (m : Int) - 1) : trimLen xs m = m := by
  obtain ⟨k, rfl⟩ : ∃ k, m = k + 2 := ⟨m - 2, by omega⟩
  have e : k + 2 - 1 = k + 1 := by omega
  rw [e] at hy
  rw [trimLen, if_neg (by rw [getD_of hy]; intro h1; omega)]
theorem trimLen_le (xs : List Int) (m : Nat) : trimLen xs m ≤ m := by
  induction m with
  | zero => exact Nat.le_refl _
  | succ m ih =>
    rcases m with _ | m
    · exact Nat.le_refl _
    · rw [trimLen]; split <;> omega
theorem RI.take {w : World} {a : Option Addr} {xs : List Int} (h : RI w a xs) (m : Nat) : RI w a (xs.take m) := by
  rcases h with rfl | ⟨b, off, ha, hc⟩
  · left; simp
  · refine .inr ⟨b, off, ha, fun k x hx => hc k x ?_⟩
    rw [List.getElem?_take] at hx; split at hx
    · exact hx
    · cases hx

set_option maxRecDepth 100000 in
set_option maxHeartbeats 800000 in
theorem implTrim_any (a : Option Addr) (n c : Nat) (xs : List Int) (w : World) (hr : RI w a xs) (hn : xs.length = n) (hb : n ≤ 1048576) (hnc : n ≤ c) (hp : isPerm xs = true) :
    Calls Try.prog 55 #[.slice a n c] w fun e w' => ∃ a' c', e = .returned (.slice a' (trimLen xs n) c') ∧ OwI w' w.heap.size w'.heap.size a' (trimLen xs n) c' (xs.take (trimLen xs n)) ∧ Below w.heap.size w w' := by
  have Hn := Lib.hid hn; clear hn
  obtain ⟨r, hr0⟩ : ∃ r, trimLen xs n = r := ⟨_, rfl⟩
  have hrn : r ≤ n := by rw [← hr0]; exact trimLen_le xs n
  rw [hr0]
  have HR := Lib.hid hr0; clear hr0
  have HP := Lib.hid hp; clear hp
  go_enter Try.func55, Try.ntmps55
  go_wp2_with fail
  refine (is (implIsPerm_any _ _ _ xs _ hr Hn.out (by omega)) HP.out).mono ?_
  rintro e w0 ⟨rfl, hb0⟩
  have hr := hr.below hb0
  go_wp2
  go_loop [3] (fun i => ∃ k : Nat, k ≤ n ∧ i = .int .i64 k ∧ Hid (trimLen xs k = r)) (fun i => (intOf i).toNat)
  case atStart => exact ⟨n, Nat.le_refl _, rfl, HR⟩
  case round =>
    obtain ⟨k, hk, rfl, HK⟩ := hrel
    by_cases h1 : 1 < k
    · obtain ⟨b, off, rfl, hcell⟩ := hr.at (k := k - 1) (by rw [Hn.out]; omega)
      obtain ⟨y, hy⟩ := some_at (k := k - 1) Hn.out (by omega)
      have hc := hcell (k - 1) y hy
      have Hy := Lib.hid hy; clear hy hcell
      have q1 : (0 : Int) ≤ (k : Int) - 1 := by omega
      have q2 : (k : Int) - 1 < (n : Int) := by omega
      by_cases he : y = (k : Int) - 1
      · have Hk := Lib.hid ((trimLen_go h1 Hy.out he).symm.trans HK.out)
        have e1 : (y == (k : Int) - 1) = true := by simp [he]
        have He := Lib.hid he; clear he
        have q3 : IntKind.i64.wrap ((k : Int) - 1) = (k : Int) - 1 := IntWalk.i64_in _ (by omega)
        have q4 : ((k : Int) - 1).toNat = k - 1 := by omega
        go_wp2
        go_round
        case rel =>
          clear q3 q4
          exact ⟨k - 1, by omega, by go_num, Hk⟩
        case measure => clear q3 q4; simp [intOf]; omega
      · have Hk := Lib.hid ((trimLen_stop h1 Hy.out he).symm.trans HK.out)
        have e1 : (y == (k : Int) - 1) = false := by simp [he]
        obtain rfl : k = r := Hk.out
        have hrt := hr.take k
        have hlt : (xs.take k).length = k := by rw [List.length_take, Hn.out]; omega
        have Hlt := Lib.hid hlt; clear hlt
        have q5 : (k : Int) ≤ (c : Int) := by omega
        have q3 : IntKind.i64.wrap ((k : Int) - 1) = (k : Int) - 1 := IntWalk.i64_in _ (by omega)
        have q4 : ((k : Int) - 1).toNat = k - 1 := by omega
        have hc0 : ¬ c = 0 := by omega
        go_wp2_with fail
        clear q3 q4
        refine (cloneI_any _ _ _ (xs.take k) _ hrt Hlt.out (by omega)).mono ?_
        rintro e w1 ⟨a1, c1, rfl, ho, hB⟩
        go_wp2
        go_ret
        exact ⟨_, _, rfl, ho.mono hb0.size (Nat.le_refl _), hb0.trans (hB.mono hb0.size)⟩
    · have Hk := Lib.hid ((trimLen_small xs (m := k) (by omega)).symm.trans HK.out)
      obtain rfl : k = r := Hk.out
      have hrt := hr.take k
      have hlt : (xs.take k).length = k := by rw [List.length_take, Hn.out]; omega
      have Hlt := Lib.hid hlt; clear hlt
      have q5 : (k : Int) ≤ (c : Int) := by omega
      by_cases hc0 : c = 0
      · go_wp2_with fail
        refine (cloneI_any _ _ _ (xs.take k) _ hrt Hlt.out (by omega)).mono ?_
        rintro e w1 ⟨a1, c1, rfl, ho, hB⟩
        go_wp2
        go_ret
        exact ⟨_, _, rfl, ho.mono hb0.size (Nat.le_refl _), hb0.trans (hB.mono hb0.size)⟩
      · go_wp2_with fail
        refine (cloneI_any _ _ _ (xs.take k) _ hrt Hlt.out (by omega)).mono ?_
        rintro e w1 ⟨a1, c1, rfl, ho, hB⟩
        go_wp2
        go_ret
        exact ⟨_, _, rfl, ho.mono hb0.size (Nat.le_refl _), hb0.trans (hB.mono hb0.size)⟩
end Go.Proofs.Ytjljacmepidgcaa

namespace Go.Proofs.Ytjljacmepidgcaa
open Go.RowKit

theorem nin_le (l : List Int) : nin l ≤ l.length * l.length := by
  induction l with
  | nil => exact Nat.le_refl _
  | cons a r ih =>
    rw [nin, List.length_cons, Nat.succ_mul, Nat.mul_succ]
    have := List.length_filter_le (fun x => decide (a < x)) r
    omega
theorem upf_le : ∀ (f : Nat) (w : List Int), (upf f w).length ≤ f := by
  intro f
  induction f with
  | zero => intro w; exact Nat.le_refl _
  | succ f ih =>
    intro w
    rw [upf]
    split
    · exact Nat.zero_le _
    · rw [List.length_cons]; exact Nat.succ_le_succ (ih _)
theorem nin_small {v : List Int} (h : v.length ≤ 7) : nin v ≤ 49 := Nat.le_trans (nin_le v) (Nat.mul_le_mul h h)
def schM (v : List Int) (m : Nat) : Mons := (ups v).foldr dividedM [(partK m m, 1)]
end Go.Proofs.Ytjljacmepidgcaa

namespace Go.Proofs.Ytjljacmepidgcaa
open Go.RowKit Go.MapKept

def monsOf (xs : List (List Int × Int)) : Mons := xs.map fun p => (keyL p.1, p.2)
theorem dig_keyL {s : List Int} (hl : s.length = 7) (hd : Digs s) {i : Nat} (hi : i < 7) : s[i]? = some (dig (keyL s) i) := by
  obtain ⟨a, b, c, d, e, f, g, rfl⟩ := seven_list hl
  have h := pack_digs (hd a (by simp)) (hd b (by simp)) (hd c (by simp)) (hd d (by simp)) (hd e (by simp)) (hd f (by simp)) (hd g (by simp))
  have e1 : keyL [a, b, c, d, e, f, g] = pack a b c d e f g := by unfold pack; simp only [keyL]; omega
  rw [e1]
  obtain ⟨_, h0, h1, h2, h3, h4, h5, h6⟩ := h
  rcases seven (show i ≤ 6 by omega) with rfl | rfl | rfl | rfl | rfl | rfl | rfl <;> simp_all
theorem digs_keyL {s : List Int} (hl : s.length = 7) (hd : Digs s) : digs (keyL s) = s := by
  apply List.ext_getElem?
  intro i
  rcases Nat.lt_or_ge i 7 with h | h
  · rw [digs_at h, dig_keyL hl hd h]
  · rw [List.getElem?_eq_none (by rw [digs_length]; exact h), List.getElem?_eq_none (by omega)]
theorem polyOk_each {xs : List (List Int × Int)} (h : polyOk xs = true) {k : Nat} {s : List Int} {c : Int} (hx : xs[k]? = some (s, c)) : s.length = 7 ∧ Digs s ∧ (∀ x ∈ s, x ≤ 24) ∧ -1000000 ≤ c ∧ c ≤ 1000000 ∧ c ≠ 0 := by
  unfold polyOk at h
  simp only [Bool.and_eq_true, decide_eq_true_eq, List.all_eq_true, List.mem_range] at h
  have hk := (List.getElem?_eq_some_iff.1 hx).1
  have h2 := h.2 k hk
  obtain ⟨e1, e2, e3⟩ := termAt_ok hx h2
  refine ⟨e1, e2, ?_, ?_⟩
  · intro x hxs
    simp only [termAt, termOf_at hx, Bool.and_eq_true, List.all_eq_true] at h2
    have := h2.1.2 x hxs
    simp [small] at this
    omega
  · simp [coefOk] at e3
    omega
theorem polyOk_len {xs : List (List Int × Int)} (h : polyOk xs = true) : xs.length ≤ 600 := by
  unfold polyOk at h
  simp only [Bool.and_eq_true, decide_eq_true_eq] at h
  exact h.1
theorem polyOk_mons {xs : List (List Int × Int)} (h : polyOk xs = true) : Bd 24 (monsOf xs) := by
  intro p hp
  obtain ⟨q, hq, rfl⟩ := List.mem_map.1 hp
  obtain ⟨k, hk⟩ := List.getElem?_of_mem hq
  obtain ⟨e1, e2, e3, _⟩ := polyOk_each h hk
  refine ⟨keyL_small e2 (by omega), fun i hi => e3 _ (List.mem_of_getElem? (dig_keyL e1 e2 hi))⟩
theorem polyOk_in64 {xs : List (List Int × Int)} (h : polyOk xs = true) : ∀ p ∈ monsOf xs, in64 p.2 := by
  intro p hp
  obtain ⟨q, hq, rfl⟩ := List.mem_map.1 hp
  obtain ⟨k, hk⟩ := List.getElem?_of_mem hq
  obtain ⟨_, _, _, e4, e5, _⟩ := polyOk_each h hk
  unfold in64
  simp only
  omega

theorem run_arrayAt7 (a : Option Addr) (c : Nat) (w : World) : (Instr.arrayAt 56 (.slice a 7 c)).run Try.prog w = .ok (.pointer a) w := by
  simp [Instr.arrayAt, run_underlying arrK.hu]
end Go.Proofs.Ytjljacmepidgcaa
