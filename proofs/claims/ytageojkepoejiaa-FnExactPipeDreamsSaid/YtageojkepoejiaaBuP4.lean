/-
  Contracts of IsPerm, the program's and the reference's.
  Contracts of l1Code and CodeOf: how many smaller numbers stand behind each.
-/
import Derived.Test.YtageojkepoejiaaBuP3
import Derived.Test.YtageojkepoejiaaBuP1
namespace Go.Proofs.Ytageojkepoejiaa
open Go.RowKit

def permAt (xs : List Int) (k : Nat) : Bool :=
  decide (0 ≤ xs.getD k 0) && decide (xs.getD k 0 < xs.length) && !((xs.take k).contains (xs.getD k 0))
def isPerm (xs : List Int) : Bool := decide (1 ≤ xs.length) && decide (xs.length ≤ 7) && (List.range xs.length).all (permAt xs)

theorem isPerm_false {xs : List Int} {k : Nat} (hk : k < xs.length) (h : permAt xs k = false) : isPerm xs = false := by
  simp only [isPerm, Bool.and_eq_false_iff]
  right
  rw [List.all_eq_false]
  exact ⟨k, by simpa using hk, by simp [h]⟩
theorem isPerm_true {xs : List Int} (h1 : 1 ≤ xs.length) (h2 : xs.length ≤ 7) (h : ∀ j, j < xs.length → permAt xs j = true) : isPerm xs = true := by
  have : (List.range xs.length).all (permAt xs) = true := by
    rw [List.all_eq_true]; intro j hj; exact h j (by simpa using hj)
  simp [isPerm, this, h1, h2]
theorem perm_len {xs : List Int} (h : isPerm xs = true) : 1 ≤ xs.length ∧ xs.length ≤ 7 := by
  simp [isPerm] at h; exact ⟨by omega, h.1.2⟩
theorem perm_at {xs : List Int} (h : isPerm xs = true) {k : Nat} {x : Int} (hx : xs[k]? = some x) : 0 ≤ x ∧ x < xs.length := by
  have hk := (List.getElem?_eq_some_iff.1 hx).1
  simp only [isPerm, Bool.and_eq_true, List.all_eq_true] at h
  have := h.2 k (by simpa using hk)
  simp only [permAt, getD_of hx, Bool.and_eq_true, decide_eq_true_eq] at this
  exact this.1

set_option maxHeartbeats 400000 in
theorem l1Has_any (a : Option Addr) (n c : Nat) (xs : List Int) (x : Int) (w : World) (hr : RI w a xs) (hn : xs.length = n) (hb : n ≤ 17592186044416) :
    Calls Try.prog 97 #[.slice a n c, .int .i64 x] w fun e w' => e = .returned (.bool (xs.contains x)) ∧ Drew w w' := by
  have Hn := Lib.hid hn; clear hn
  go_enter Try.func97, Try.ntmps97
  go_wp2
  go_loop [5] (fun i => ∃ k : Nat, k ≤ n ∧ i = .int .i64 k ∧ Hid ((xs.take k).contains x = false)) (fun i => n - (intOf i).toNat)
  case atStart => exact ⟨0, Nat.zero_le _, rfl, by exact rfl⟩
  case round =>
    obtain ⟨k, hk, rfl, HA⟩ := hrel
    by_cases hlt : k < n
    · obtain ⟨b, off, rfl, hcell⟩ := hr.at (k := k) (by rw [Hn.out]; exact hlt)
      obtain ⟨y, hy⟩ := some_at Hn.out hlt
      have hc := hcell k y hy
      have Hy := Lib.hid hy; clear hy
      clear hcell
      by_cases h1 : y = x
      · have hb1 : (y == x) = true := by simp [h1]
        go_wp2
        go_ret
        exact ⟨ret_bool (by have := List.mem_of_getElem? Hy.out; rw [h1] at this; simp [this]), Drew.refl _⟩
      · have hb1 : (y == x) = false := by simp [h1]
        go_wp2
        go_round
        case rel => exact ⟨k + 1, by omega, by go_num, by
          rw [List.take_add_one, Hy.out]
          have := HA.out
          simp only [List.contains_eq_mem, decide_eq_false_iff_not] at this
          simp [this]
          intro h; exact h1 h.symm⟩
        case measure => simp [intOf]; omega
    · obtain rfl : k = n := by omega
      go_wp2
      go_ret
      exact ⟨ret_bool (by have := HA.out; rw [List.take_of_length_le (by rw [Hn.out]; omega)] at this; rw [← this]; simp), Drew.refl _⟩

set_option maxRecDepth 100000 in
set_option maxHeartbeats 1600000 in
theorem specIsPerm_any (a : Option Addr) (n c : Nat) (xs : List Int) (w : World) (hr : RI w a xs) (hn : xs.length = n) (hb : n ≤ 17592186044416) (hcap : n ≤ c) :
    Calls Try.prog 58 #[.slice a n c] w fun e w' => e = .returned (.bool (isPerm xs)) ∧ Drew w w' := by
  have Hn := Lib.hid hn; clear hn
  by_cases hsz : 1 ≤ n ∧ n ≤ 7
  · go_enter Try.func58, Try.ntmps58
    go_wp2_with fail
    refine (l1In_yes _ _ _ _ (by omega)).mono ?_
    rintro e w1 ⟨rfl, hd0⟩
    go_wp2
    go_loopw [3] (fun i wr => ∃ k : Nat, k ≤ n ∧ i = .int .i64 k ∧ Hid (∀ j, j < k → permAt xs j = true) ∧ Drew w wr) (fun i _ => n - (intOf i).toNat)
    case atStart => exact ⟨0, Nat.zero_le _, rfl, by intro j hj; omega, hd0⟩
    case round =>
      clear hd0
      obtain ⟨k, hk, rfl, HA, hd⟩ := hrel
      by_cases hlt : k < n
      · have hrw := hr.drew hd
        obtain ⟨b, off, rfl, hcell⟩ := hrw.at (k := k) (by rw [Hn.out]; exact hlt)
        obtain ⟨x, hx⟩ := some_at Hn.out hlt
        have hc := hcell k x hx
        have Hx := Lib.hid hx; clear hx
        have hrt : RI wr (some ⟨b, off, none⟩) (xs.take k) := .inr ⟨b, off, rfl, fun j y hy => hcell j y (by
          rw [List.getElem?_take] at hy; split at hy
          · exact hy
          · cases hy)⟩
        clear hcell
        have hltI : (k : Int) < (n : Int) := by omega
        have q1 : IntKind.i64.wrap ((n : Int) - 1) = (n : Int) - 1 := IntWalk.i64_in _ (by omega)
        have hkc : k ≤ c := by omega
        by_cases h1 : x < 0 ∨ (n : Int) - 1 < x
        · go_wp2
          go_quiet ((go_at_call 71; exact quiet (l1In_no _ _ _ _ (by omega))))
          go_wp2
          go_ret
          exact ⟨ret_bool (isPerm_false (k := k) (by rw [Hn.out]; exact hlt) (by rw [permAt, getD_of Hx.out, Hn.out]; simp; omega)).symm, hd.trans (Drew.drewN _ _)⟩
        · have hin : 0 ≤ x ∧ x ≤ (n : Int) - 1 := by omega
          clear h1
          cases hm : (xs.take k).contains x
          · go_wp2
            go_quiet ((first | (go_at_call 71; exact quiet (l1In_yes _ _ _ _ hin)) | (go_at_call 97; exact quiet (is (l1Has_any _ k _ (xs.take k) x _ (hrt.drew (Drew.drewN _ _)) (by rw [List.length_take, Hn.out]; omega) (by omega)) hm))))
            go_wp2
            go_roundw
            case rel => exact ⟨k + 1, by omega, by go_num, by
              intro j hj
              rcases Nat.lt_or_ge j k with h | h
              · exact HA.out j h
              · obtain rfl : j = k := by omega
                rw [permAt, getD_of Hx.out, Hn.out, hm]; simp; omega, hd.trans (Drew.drewN _ _)⟩
            case measure => simp [intOf]; omega
          · go_wp2
            go_quiet ((first | (go_at_call 71; exact quiet (l1In_yes _ _ _ _ hin)) | (go_at_call 97; exact quiet (is (l1Has_any _ k _ (xs.take k) x _ (hrt.drew (Drew.drewN _ _)) (by rw [List.length_take, Hn.out]; omega) (by omega)) hm))))
            go_wp2
            go_ret
            exact ⟨ret_bool (isPerm_false (k := k) (by rw [Hn.out]; exact hlt) (by rw [permAt, getD_of Hx.out, hm]; simp)).symm, hd.trans (Drew.drewN _ _)⟩
      · obtain rfl : k = n := by omega
        go_wp2
        go_ret
        exact ⟨ret_bool (isPerm_true (by rw [Hn.out]; omega) (by rw [Hn.out]; omega) (by rw [Hn.out]; exact HA.out)).symm, hd⟩
  · go_enter Try.func58, Try.ntmps58
    go_wp2_with fail
    refine (l1In_no _ _ _ _ (by omega)).mono ?_
    rintro e w1 ⟨rfl, hd0⟩
    go_wp2
    go_ret
    exact ⟨ret_bool (by rw [isPerm, Hn.out]; symm; simp; omega), hd0⟩

/-- the seven marks: which of 0 .. 6 are among the numbers -/
def met (l : List Int) : List Value := (List.range 7).map fun (j : Nat) => Value.bool (l.contains (j : Int))
theorem met_length (l : List Int) : (met l).length = 7 := by simp [met]
theorem met_at (l : List Int) {m : Nat} (h : m < 7) : (met l)[m]? = some (.bool (l.contains (m : Int))) := by simp [met, h]
theorem met_snoc (l : List Int) {m : Nat} (h : m < 7) : (met l).set m (.bool true) = met (l ++ [(m : Int)]) := by
  apply List.ext_getElem?
  intro i
  rw [List.getElem?_set, met_length]
  by_cases hi : m = i
  · subst hi
    rw [if_pos rfl, if_pos h, met_at _ h]
    simp
  · rw [if_neg hi]
    by_cases h7 : i < 7
    · rw [met_at _ h7, met_at _ h7]
      have : ((i : Int) == (m : Int)) = false := by simp; omega
      simp [List.mem_append]
      omega
    · rw [List.getElem?_eq_none (by rw [met_length]; omega), List.getElem?_eq_none (by rw [met_length]; omega)]
theorem met_made (w : World) (T : Nat) : (w.alloc (.cells #[.bool false, .bool false, .bool false, .bool false, .bool false, .bool false, .bool false] T)).ownsRow w.heap.size T 1 (.slice (some ⟨w.heap.size, 0, none⟩) 7 7) 7 (met []) :=
  ⟨by rw [met_length], .inr ⟨w.heap.size, 7, _, rfl, Nat.le_refl _, heap_alloc_new w _, Nat.le_refl _, by unfold maxLen; omega, rfl, rfl⟩⟩

set_option maxRecDepth 100000 in
set_option maxHeartbeats 1600000 in
theorem implIsPerm_any (a : Option Addr) (n c : Nat) (xs : List Int) (w : World) (hr : RI w a xs) (hn : xs.length = n) (hb : n ≤ 17592186044416) :
    Calls Try.prog 61 #[.slice a n c] w fun e w' => e = .returned (.bool (isPerm xs)) ∧ Below w.heap.size w w' := by
  have Hn := Lib.hid hn; clear hn
  by_cases h1 : n < 1
  · go_enter Try.func61, Try.ntmps61
    go_wp2
    go_ret
    exact ⟨ret_bool (by rw [isPerm, Hn.out]; symm; simp; omega), Below.refl _ _⟩
  by_cases h7 : 7 < n
  · go_enter Try.func61, Try.ntmps61
    go_wp2
    go_ret
    exact ⟨ret_bool (by rw [isPerm, Hn.out]; symm; simp; omega), Below.refl _ _⟩
  have hm0 := met_made w 94
  have hB0 := (Below.refl w.heap.size w).alloc (Nat.le_refl _) (.cells #[.bool false, .bool false, .bool false, .bool false, .bool false, .bool false, .bool false] 94)
  go_enter Try.func61, Try.ntmps61
  go_wp2
  go_loopw [17] (fun i wr => ∃ k : Nat, k ≤ n ∧ i = .int .i64 k ∧ Hid (∀ j, j < k → permAt xs j = true) ∧ Hid (wr.ownsRow w.heap.size 94 1 (.slice (some ⟨w.heap.size, 0, none⟩) 7 7) 7 (met (xs.take k))) ∧ Below w.heap.size w wr) (fun i _ => n - (intOf i).toNat)
  case atStart => exact ⟨0, Nat.zero_le _, rfl, by intro j hj; omega, Lib.hid hm0, hB0⟩
  case round =>
    clear hm0 hB0
    obtain ⟨k, hk, rfl, HA, HM, hB⟩ := hrel
    by_cases hlt : k < n
    · have hrw := hr.below hB
      obtain ⟨b, off, rfl, hcell⟩ := hrw.at (k := k) (by rw [Hn.out]; exact hlt)
      obtain ⟨x, hx⟩ := some_at Hn.out hlt
      have hc := hcell k x hx
      have Hx := Lib.hid hx; clear hx
      clear hcell hrw
      by_cases h1 : x < 0
      · go_wp2
        go_ret
        exact ⟨ret_bool (isPerm_false (k := k) (by rw [Hn.out]; exact hlt) (by rw [permAt, getD_of Hx.out, Hn.out]; simp; omega)).symm, hB⟩
      by_cases h2 : (n : Int) ≤ x
      · go_wp2
        go_ret
        exact ⟨ret_bool (isPerm_false (k := k) (by rw [Hn.out]; exact hlt) (by rw [permAt, getD_of Hx.out, Hn.out]; simp; omega)).symm, hB⟩
      obtain ⟨m, rfl⟩ : ∃ m : Nat, x = (m : Int) := ⟨x.toNat, by omega⟩
      have hm7 : m < 7 := by omega
      have hcm := HM.out.cellAt m (by omega)
      have hfm := HM.out.frozenAt m
      rw [met_at _ hm7] at hcm
      cases hm : (xs.take k).contains (m : Int)
      · rw [hm] at hcm
        have Hm := Lib.hid hm; clear hm
        go_wp2
        go_roundw
        case rel =>
          have hs := HM.out.stored m (.bool true)
          rw [met_snoc _ hm7] at hs
          exact ⟨k + 1, by omega, by go_num, by
              intro j hj
              rcases Nat.lt_or_ge j k with h | h
              · exact HA.out j h
              · obtain rfl : j = k := by omega
                rw [permAt, getD_of Hx.out, Hn.out, Hm.out]; simp; omega, Lib.hid (by rw [List.take_add_one, Hx.out]; exact hs.1), hB.grown hs.2 (by have := hB.size; omega) (by intro k hk; simp at hk; omega)⟩
        case measure => simp [intOf]; omega
      · rw [hm] at hcm
        have Hm := Lib.hid hm; clear hm
        go_wp2
        go_ret
        exact ⟨ret_bool (isPerm_false (k := k) (by rw [Hn.out]; exact hlt) (by rw [permAt, getD_of Hx.out, Hm.out]; simp)).symm, hB⟩
    · obtain rfl : k = n := by omega
      go_wp2
      go_ret
      exact ⟨ret_bool (isPerm_true (by rw [Hn.out]; omega) (by rw [Hn.out]; omega) (by rw [Hn.out]; exact HA.out)).symm, hB⟩
end Go.Proofs.Ytageojkepoejiaa

namespace Go.Proofs.Ytageojkepoejiaa
open Go.RowKit

theorem OwI.nil0 {w : World} {B S : Nat} : OwI w B S none 0 0 [] := ⟨OS.of ⟨rfl, .inl ⟨rfl, rfl⟩⟩, fun k hk => by simp [Value.ownBlock] at hk⟩
/-- how many of the m numbers behind place i are smaller -/
def cnt (xs : List Int) (i m : Nat) : Nat := ((List.range m).filter fun t => decide (xs.getD (i + 1 + t) 0 < xs.getD i 0)).length
def code (xs : List Int) : List Int := (List.range xs.length).map fun i => (cnt xs i (xs.length - 1 - i) : Int)
theorem cnt_le (xs : List Int) (i m : Nat) : cnt xs i m ≤ m := by
  unfold cnt
  exact Nat.le_trans (List.length_filter_le _ _) (by simp)
theorem cnt_succ {xs : List Int} {i m : Nat} {x y : Int} (hx : xs[i]? = some x) (hy : xs[i + 1 + m]? = some y) : cnt xs i (m + 1) = if y < x then cnt xs i m + 1 else cnt xs i m := by
  unfold cnt
  rw [List.range_succ, List.filter_append, List.length_append, List.filter_cons, List.filter_nil, getD_of hx, getD_of hy]
  by_cases h : y < x <;> simp [h]
theorem code_length (xs : List Int) : (code xs).length = xs.length := by simp [code]
theorem code_at {xs : List Int} {n i : Nat} (hn : xs.length = n) (hi : i < n) : (code xs)[i]? = some (cnt xs i (n - 1 - i) : Int) := by
  subst hn
  simp [code, hi]
theorem fill_zero {C : List Int} {n i : Nat} (hC : C.length = n) (hi : i < n) : (fillTo C n i).set i 0 = fillTo C n i := by
  unfold fillTo
  obtain ⟨d, hd⟩ : ∃ d, n - i = d + 1 := ⟨n - i - 1, by omega⟩
  rw [hd, List.replicate_succ, List.set_append_right _ _ (by simp; omega)]
  have : i - (C.take i).length = 0 := by simp; omega
  rw [this, List.set_cons_zero]
/-- the code as far as place i, of which m are counted -/
def codeAt (xs : List Int) (n i m : Nat) : List Int := (fillTo (code xs) n i).set i (cnt xs i m : Int)
theorem codeAt_start {xs : List Int} {n i : Nat} (hn : xs.length = n) (hi : i < n) : codeAt xs n i 0 = fillTo (code xs) n i := by
  unfold codeAt
  exact fill_zero (by rw [code_length]; exact hn) hi
theorem codeAt_set (xs : List Int) (n i m : Nat) : (codeAt xs n i m).set i (cnt xs i m + 1 : Int) = (fillTo (code xs) n i).set i ((cnt xs i m + 1 : Nat) : Int) := by
  unfold codeAt
  rw [List.set_set]; rfl
theorem codeAt_less {xs : List Int} {n i m : Nat} {x y : Int} (hx : xs[i]? = some x) (hy : xs[i + 1 + m]? = some y) (h : y < x) : (codeAt xs n i m).set i ((cnt xs i m : Int) + 1) = codeAt xs n i (m + 1) := by
  unfold codeAt
  rw [List.set_set, cnt_succ hx hy, if_pos h]; rfl
theorem codeAt_same {xs : List Int} {n i m : Nat} {x y : Int} (hx : xs[i]? = some x) (hy : xs[i + 1 + m]? = some y) (h : ¬ y < x) : codeAt xs n i m = codeAt xs n i (m + 1) := by
  unfold codeAt
  rw [cnt_succ hx hy, if_neg h]
theorem codeAt_end {xs : List Int} {n i : Nat} (hn : xs.length = n) (hi : i < n) : codeAt xs n i (n - 1 - i) = fillTo (code xs) n (i + 1) := by
  unfold codeAt
  exact fillTo_succ (by rw [code_length]; exact hn) hi (code_at hn hi)
theorem codeAt_at {xs : List Int} {n i m : Nat} (hn : xs.length = n) (hi : i < n) : (codeAt xs n i m)[i]? = some (cnt xs i m : Int) := by
  unfold codeAt
  rw [List.getElem?_set, if_pos rfl, if_pos]
  rw [fillTo_length (by rw [code_length]; exact hn) (by omega)]; exact hi

set_option maxRecDepth 100000 in
set_option maxHeartbeats 1600000 in
theorem l1Code_any (a : Option Addr) (n c : Nat) (xs : List Int) (w : World) (hr : RI w a xs) (hn : xs.length = n) (hb : n ≤ 17592186044416) :
    Calls Try.prog 82 #[.slice a n c] w fun e w' => ∃ a' c', e = .returned (.slice a' n c') ∧ OwI w' w.heap.size w'.heap.size a' n c' (code xs) ∧ Below w.heap.size w w' := by
  have Hn := Lib.hid hn; clear hn
  obtain ⟨i0, hi, hz0, hz1, hz2⟩ := info_parts Try.info3
  go_enter Try.func82, Try.ntmps82
  go_wp2_with (first | (at_make; refine wpList_make_full _ rfl _ _ 22 rfl w.heap.size 3 i0 (.int .i64 0) 1 Try.underlying22 hi hz0 hz1 .i64 .i64 _ _ n rfl rfl ?m1 ?m2 ?m3 ?m4 ?m5 ?_))
  case m1 => rfl
  case m2 => rfl
  case m3 => rw [hz2]; omega
  case m4 => unfold maxLen; omega
  case m5 => exact Nat.le_refl _
  intro w1 hown hg
  have hB : Below w.heap.size w w1 := (Below.refl _ _).grown hg (Nat.le_refl _) (by simp)
  have hrow : OS w1 w.heap.size (some ⟨w.heap.size, 0, none⟩) n n (fillTo (code xs) n 0) := by
    refine OS.of ?_
    rw [fillTo_zero]
    have e := toList_madeCells_one (.int .i64 0) n
    simpa [ints, Value.cells, e] using hown
  have Hrow := Lib.hid hrow; clear hown hg hrow
  go_wp2
  go_loopw [4] (fun iv wr => Hid (∃ i : Nat, i ≤ n ∧ iv = .int .i64 i ∧ OS wr w.heap.size (some ⟨w.heap.size, 0, none⟩) n n (fillTo (code xs) n i)) ∧ Below w.heap.size w wr) (fun i _ => n - (intOf i).toNat)
  case atStart => exact ⟨⟨0, Nat.zero_le _, rfl, Hrow.out⟩, hB⟩
  case round =>
    clear Hrow hB
    obtain ⟨HV, hB⟩ := hrel
    obtain ⟨wo, rfl⟩ : ∃ wo : World, wo = wr := ⟨_, rfl⟩
    obtain ⟨i, hi', rfl, ho⟩ := HV.out
    clear HV
    by_cases hlt : i < n
    · rw [← codeAt_start Hn.out hlt] at ho
      have HO := Lib.hid ho; clear ho
      obtain ⟨x, hx⟩ := some_at Hn.out hlt
      have Hx := Lib.hid hx; clear hx
      go_wp2
      go_loopw [5] (fun jv wr => Hid (∃ m : Nat, i + 1 + m ≤ n ∧ jv = .int .i64 (i + 1 + m : Nat) ∧ OS wr w.heap.size (some ⟨w.heap.size, 0, none⟩) n n (codeAt xs n i m)) ∧ Below w.heap.size w wr) (fun j _ => n - (intOf j).toNat)
      case atStart => exact ⟨⟨0, by omega, by go_num, HO.out⟩, hB⟩
      case round =>
        clear HO hB
        obtain ⟨HV, hB⟩ := hrel
        obtain ⟨wq, rfl⟩ : ∃ wq : World, wq = wr := ⟨_, rfl⟩
        obtain ⟨m, hm, rfl, ho⟩ := HV.out
        clear HV
        by_cases hj : i + 1 + m < n
        · obtain ⟨b, off, rfl, hcell⟩ := (hr.below hB).at (k := i) (by rw [Hn.out]; exact hlt)
          obtain ⟨y, hy⟩ := some_at Hn.out hj
          have hcx := hcell i x Hx.out
          have hcy := hcell (i + 1 + m) y hy
          have Hy := Lib.hid hy; clear hy
          clear hcell
          obtain ⟨g, hg0, hBg, ⟨v, hv, hcv⟩, hfv⟩ := OI.cons ho hlt
          obtain rfl : w.heap.size = g := by simpa using hg0
          rw [codeAt_at Hn.out hlt] at hv
          obtain rfl := Option.some.inj hv
          have hle := cnt_le xs i m
          have HO := Lib.hid ho; clear ho hv hg0
          have q0 : (i : Int) < (n : Int) := by omega
          have q1 : ((i + 1 + m : Nat) : Int) < (n : Int) := by omega
          have q2 : (0 : Int) ≤ ((i + 1 + m : Nat) : Int) := by omega
          by_cases hyx : y < x
          · have Hst := Lib.hid (codeAt_less (n := n) Hx.out Hy.out hyx)
            obtain ⟨u, hu⟩ : ∃ u, cnt xs i m = u := ⟨_, rfl⟩
            rw [hu] at hcv hle
            have Hu := Lib.hid hu; clear hu
            go_wp2
            go_quiet (fail)
            have hod := HO.out.below (Drew.below ⟨nq, rfl⟩ wq.heap.size)
            have hBd := hB.trans (Drew.below ⟨nq, rfl⟩ w.heap.size)
            have hcv' : (wq.drewN nq).cell? ⟨w.heap.size, i, none⟩ = some (.int .i64 u) := by simpa using hcv
            have hfv' : (wq.drewN nq).frozen? ⟨w.heap.size, i, none⟩ = false := by simpa using hfv
            obtain ⟨wd, hwd⟩ : ∃ wd, wq.drewN nq = wd := ⟨_, rfl⟩
            rw [hwd] at hod hBd hcv' hfv' ⊢
            have hs := hod.store i ((u : Int) + 1)
            have hs1 : OS (wd.setCell ⟨w.heap.size, i, none⟩ (.int .i64 ((u : Int) + 1))) w.heap.size (some ⟨w.heap.size, 0, none⟩) n n (codeAt xs n i (m + 1)) := by
              rw [← Hst.out, Hu.out]; exact hs.1
            have hB2 := hBd.grown hs.2 hBd.size (by intro q hq; obtain rfl := Option.some.inj hq; exact Nat.le_refl _)
            have HS := Lib.hid hs1; clear hs hs1 hod
            go_wp2
            go_roundw
            case rel => exact ⟨⟨m + 1, by omega, by go_num, HS.out⟩, hB2⟩
            case measure => simp [intOf]; omega
          · have Hst := Lib.hid (codeAt_same (n := n) Hx.out Hy.out hyx)
            go_wp2
            go_quiet (fail)
            go_wp2
            go_roundw
            case rel => exact ⟨⟨m + 1, by omega, by go_num, by rw [← Hst.out]; exact HO.out.below (Drew.below ⟨nq, rfl⟩ _)⟩, hB.trans (Drew.below ⟨nq, rfl⟩ _)⟩
            case measure => simp [intOf]; omega
        · obtain rfl : m = n - 1 - i := by omega
          rw [codeAt_end Hn.out hlt] at ho
          have HO := Lib.hid ho; clear ho
          have hnj : ¬ (((i + 1 + (n - 1 - i) : Nat) : Int) < (n : Int)) := by omega
          go_wp2
          go_roundw
          case rel => exact ⟨⟨i + 1, by omega, by go_num, HO.out⟩, hB⟩
          case measure => simp [intOf]; omega
    · obtain rfl : i = n := by omega
      rw [fillTo_all (by rw [code_length]; exact Hn.out)] at ho
      have HO := Lib.hid (OwI.of ho); clear ho
      go_wp2
      go_ret
      exact ⟨_, _, rfl, HO.out, hB⟩

def codeOf (xs : List Int) : List Int := if isPerm xs then code xs else []
theorem codeOf_length (xs : List Int) : (codeOf xs).length ≤ 7 := by
  unfold codeOf
  split
  · rw [code_length]; exact (perm_len ‹_›).2
  · simp

set_option maxRecDepth 100000 in
set_option maxHeartbeats 1600000 in
theorem codeOf_any (a : Option Addr) (n c : Nat) (xs : List Int) (w : World) (hr : RI w a xs) (hn : xs.length = n) (hb : n ≤ 17592186044416) (hcap : n ≤ c) :
    Calls Try.prog 86 #[.slice a n c] w fun e w' => ∃ a' n' c', e = .returned (.slice a' n' c') ∧ OwI w' w.heap.size w'.heap.size a' n' c' (codeOf xs) ∧ Below w.heap.size w w' := by
  have Hn := Lib.hid hn; clear hn
  cases hp : isPerm xs
  · have Hp := Lib.hid hp; clear hp
    go_enter Try.func86, Try.ntmps86
    go_wp2_with fail
    refine (is (implIsPerm_any _ _ _ xs _ hr Hn.out (by omega)) Hp.out).mono ?_
    rintro e w1 ⟨rfl, hd⟩
    go_wp2
    go_ret
    exact ⟨_, _, _, rfl, by rw [codeOf, Hp.out]; exact OwI.nil0, hd⟩
  have hl := perm_len hp
  rw [Hn.out] at hl
  have Hp := Lib.hid hp; clear hp
  obtain ⟨i0, hi, hz0, hz1, hz2⟩ := info_parts Try.info3
  go_enter Try.func86, Try.ntmps86
  go_wp2_with fail
  refine (is (implIsPerm_any _ _ _ xs _ hr Hn.out (by omega)) Hp.out).mono ?_
  rintro e wi ⟨rfl, hbi⟩
  have hri := hr.below hbi
  have hszi := hbi.size
  go_wp2_with (first | (at_make; refine wpList_make_full _ rfl _ _ 22 rfl wi.heap.size 3 i0 (.int .i64 0) 1 Try.underlying22 hi hz0 hz1 .i64 .i64 _ _ n rfl rfl ?m1 ?m2 ?m3 ?m4 ?m5 ?_))
  case m1 => rfl
  case m2 => rfl
  case m3 => rw [hz2]; omega
  case m4 => unfold maxLen; omega
  case m5 => exact Nat.le_refl _
  intro w1 hown hg
  have hB : Below wi.heap.size wi w1 := (Below.refl _ _).grown hg (Nat.le_refl _) (by simp)
  have hrow : OS w1 wi.heap.size (some ⟨wi.heap.size, 0, none⟩) n n (fillTo (code xs) n 0) := by
    refine OS.of ?_
    rw [fillTo_zero]
    have e := toList_madeCells_one (.int .i64 0) n
    simpa [ints, Value.cells, e] using hown
  have Hrow := Lib.hid hrow; clear hown hg hrow
  go_wp2
  go_loopw [15] (fun iv wr => Hid (∃ i : Nat, i ≤ n ∧ iv = .int .i64 i ∧ OS wr wi.heap.size (some ⟨wi.heap.size, 0, none⟩) n n (fillTo (code xs) n i)) ∧ Below wi.heap.size wi wr) (fun i _ => n - (intOf i).toNat)
  case atStart => exact ⟨⟨0, Nat.zero_le _, rfl, Hrow.out⟩, hB⟩
  case round =>
    clear Hrow hB
    obtain ⟨HV, hB⟩ := hrel
    obtain ⟨wo, rfl⟩ : ∃ wo : World, wo = wr := ⟨_, rfl⟩
    obtain ⟨i, hi', rfl, ho⟩ := HV.out
    clear HV
    by_cases hlt : i < n
    · rw [← codeAt_start Hn.out hlt] at ho
      have HO := Lib.hid ho; clear ho
      obtain ⟨x, hx⟩ := some_at Hn.out hlt
      have Hx := Lib.hid hx; clear hx
      obtain ⟨b, off, rfl, _⟩ := hri.at (k := i) (by rw [Hn.out]; exact hlt)
      have q1 : IntKind.i64.wrap ((i : Int) + 1) = ((i + 1 : Nat) : Int) := by rw [IntWalk.i64_in _ (by omega)]; omega
      have q2 : i + 1 ≤ n := by omega
      have q3 : i + 1 ≤ c := by omega
      have q4 : ((i + 1 : Nat) : Int) ≤ (n : Int) := by omega
      by_cases hlast : i + 1 = n
      · have he := codeAt_end Hn.out hlt
        have hz : n - 1 - i = 0 := by omega
        rw [hz] at he
        have He := Lib.hid he; clear he hz
        by_cases hcn : c = n
        · skip
          go_wp2
          go_loop [23] (fun v => v = .int .i64 (0 : Nat)) (fun _ => 0)
          case atStart => rfl
          case round =>
            obtain rfl := hrel
            go_wp2
            go_roundw
            case rel => exact ⟨⟨i + 1, by omega, by go_num, by rw [← He.out]; exact HO.out⟩, hB⟩
            case measure => simp [intOf]; omega
        · skip
          go_wp2
          go_loop [23] (fun v => v = .int .i64 (0 : Nat)) (fun _ => 0)
          case atStart => rfl
          case round =>
            obtain rfl := hrel
            go_wp2
            go_roundw
            case rel => exact ⟨⟨i + 1, by omega, by go_num, by rw [← He.out]; exact HO.out⟩, hB⟩
            case measure => simp [intOf]; omega
      · have hci : ¬ (c = i + 1) := by omega
        go_wp2
        go_loopw [23] (fun jv wr => Hid (∃ m : Nat, m ≤ n - (i + 1) ∧ jv = .int .i64 m ∧ OS wr wi.heap.size (some ⟨wi.heap.size, 0, none⟩) n n (codeAt xs n i m)) ∧ Below wi.heap.size wi wr) (fun j _ => n - (i + 1) - (intOf j).toNat)
        case atStart => exact ⟨⟨0, by omega, by go_num, HO.out⟩, hB⟩
        case round =>
          clear HO hB
          obtain ⟨HV, hB⟩ := hrel
          obtain ⟨wq, rfl⟩ : ∃ wq : World, wq = wr := ⟨_, rfl⟩
          obtain ⟨m, hm, rfl, ho⟩ := HV.out
          clear HV
          by_cases hj : m < n - (i + 1)
          · obtain ⟨b', off', hbo, hcell⟩ := (hri.below hB).at (k := i) (by rw [Hn.out]; exact hlt)
            obtain ⟨rfl, rfl⟩ : b = b' ∧ off = off' := by simpa using hbo
            obtain ⟨y, hy⟩ := some_at (k := i + 1 + m) Hn.out (by omega)
            have hcx := hcell i x Hx.out
            have hcy := hcell (i + 1 + m) y hy
            rw [← Nat.add_assoc] at hcy
            have Hy := Lib.hid hy; clear hy hbo
            clear hcell
            obtain ⟨g, hg0, hBg, ⟨v, hv, hcv⟩, hfv⟩ := OI.cons ho hlt
            obtain rfl : wi.heap.size = g := by simpa using hg0
            rw [codeAt_at Hn.out hlt] at hv
            obtain rfl := Option.some.inj hv
            have hle := cnt_le xs i m
            have HO := Lib.hid ho; clear hv hg0
            have hjI : (m : Int) < ((n - (i + 1) : Nat) : Int) := by omega
            by_cases hyx : y < x
            · have Hst := Lib.hid (codeAt_less (n := n) Hx.out Hy.out hyx)
              obtain ⟨u, hu⟩ : ∃ u, cnt xs i m = u := ⟨_, rfl⟩
              rw [hu] at hcv hle
              have Hu := Lib.hid hu; clear hu
              have hs := ho.store i ((u : Int) + 1)
              have hs1 : OS (wq.setCell ⟨wi.heap.size, i, none⟩ (.int .i64 ((u : Int) + 1))) wi.heap.size (some ⟨wi.heap.size, 0, none⟩) n n (codeAt xs n i (m + 1)) := by
                rw [← Hst.out, Hu.out]; exact hs.1
              have hB2 := hB.grown hs.2 hB.size (by intro q hq; obtain rfl := Option.some.inj hq; exact Nat.le_refl _)
              have HS := Lib.hid hs1; clear hs hs1 ho
              go_wp2
              go_roundw
              case rel => exact ⟨⟨m + 1, by omega, by go_num, HS.out⟩, hB2⟩
              case measure => simp [intOf]; omega
            · have Hst := Lib.hid (codeAt_same (n := n) Hx.out Hy.out hyx)
              clear ho
              go_wp2
              go_roundw
              case rel => exact ⟨⟨m + 1, by omega, by go_num, by rw [← Hst.out]; exact HO.out⟩, hB⟩
              case measure => simp [intOf]; omega
          · obtain rfl : m = n - (i + 1) := by omega
            have he : n - (i + 1) = n - 1 - i := by omega
            rw [he, codeAt_end Hn.out hlt] at ho
            have HO := Lib.hid ho; clear ho he
            go_wp2
            go_roundw
            case rel => exact ⟨⟨i + 1, by omega, by go_num, HO.out⟩, hB⟩
            case measure => simp [intOf]; omega
    · obtain rfl : i = n := by omega
      rw [fillTo_all (by rw [code_length]; exact Hn.out)] at ho
      have HO := Lib.hid (OwI.of ho); clear ho
      go_wp2
      go_ret
      exact ⟨_, _, _, rfl, by rw [codeOf, Hp.out]; exact HO.out.mono hszi (Nat.le_refl _), hbi.trans (hB.mono hszi)⟩
end Go.Proofs.Ytageojkepoejiaa
