/-
  Contracts of ContainsShape, the program's and the reference's.
-/
import Derived.Test.YtleehkgfoicmdaaShape
namespace Go.Proofs.Ytleehkgfoicmdaa
open Go.RowKit

/-- no row of ys is longer than that of xs, up to k -/
def under (xs ys : List Int) : Bool := decide (ys.length ≤ xs.length) && (List.range ys.length).all fun k => decide (ys.getD k 0 ≤ xs.getD k 0)
theorem under_long {xs ys : List Int} (h : xs.length < ys.length) : under xs ys = false := by simp [under]; omega
theorem under_no {xs ys : List Int} {k : Nat} {x y : Int} (hx : xs[k]? = some x) (hy : ys[k]? = some y) (h : x < y) : under xs ys = false := by
  simp only [under, Bool.and_eq_false_iff]
  right
  rw [List.all_eq_false]
  exact ⟨k, by have := (List.getElem?_eq_some_iff.1 hy).1; simpa using this, by rw [getD_of hx, getD_of hy]; simp; omega⟩
theorem under_yes {xs ys : List Int} (hl : ys.length ≤ xs.length) (h : ∀ j, j < ys.length → ys.getD j 0 ≤ xs.getD j 0) : under xs ys = true := by
  simp only [under, Bool.and_eq_true, decide_eq_true_eq]
  refine ⟨hl, ?_⟩
  rw [List.all_eq_true]
  intro j hj
  simpa using h j (by simpa using hj)

set_option maxHeartbeats 400000 in
theorem l4Contains_any (a b : Option Addr) (n c m d : Nat) (xs ys : List Int) (w : World) (hr : RI w a xs) (hs : RI w b ys) (hn : xs.length = n) (hm : ys.length = m) (hb : n ≤ 17592186044416) :
    Calls Try.prog 69 #[.slice a n c, .slice b m d] w fun e w' => e = .returned (.bool (under xs ys)) ∧ Drew w w' := by
  have Hn := Lib.hid hn; clear hn
  have Hm := Lib.hid hm; clear hm
  by_cases hmn : n < m
  · go_enter Try.func69, Try.ntmps69
    go_wp2
    go_ret
    exact ⟨ret_bool (under_long (by rw [Hn.out, Hm.out]; exact hmn)).symm, Drew.refl _⟩
  · go_enter Try.func69, Try.ntmps69
    go_wp2
    go_loopw [5] (fun i wr => ∃ k : Nat, k ≤ m ∧ i = .int .i64 k ∧ Hid (∀ j, j < k → ys.getD j 0 ≤ xs.getD j 0) ∧ Drew w wr) (fun i _ => m - (intOf i).toNat)
    case atStart => exact ⟨0, Nat.zero_le _, rfl, by intro j hj; omega, Drew.refl _⟩
    case round =>
      obtain ⟨k, hk, rfl, HA, hd⟩ := hrel
      by_cases hlt : k < m
      · obtain ⟨b1, off, rfl, hcell⟩ := (hr.drew hd).at (k := k) (by rw [Hn.out]; omega)
        obtain ⟨b2, off2, rfl, hcell2⟩ := (hs.drew hd).at (k := k) (by rw [Hm.out]; exact hlt)
        obtain ⟨x, hx⟩ := some_at Hn.out (show k < n by omega)
        obtain ⟨y, hy⟩ := some_at Hm.out hlt
        have hc := hcell k x hx
        have hc2 := hcell2 k y hy
        have Hx := Lib.hid hx; clear hx
        have Hy := Lib.hid hy; clear hy
        clear hcell hcell2
        have hltI : (k : Int) < (m : Int) := by omega
        have hltJ : (k : Int) < (n : Int) := by omega
        by_cases h1 : x < y
        · go_wp2
          go_quiet (fail)
          go_wp2
          go_ret
          exact ⟨ret_bool (under_no Hx.out Hy.out h1).symm, hd.trans (Drew.drewN _ _)⟩
        · go_wp2
          go_quiet (fail)
          go_wp2
          go_roundw
          case rel => exact ⟨k + 1, by omega, by go_num, by
                intro j hj
                rcases Nat.lt_or_ge j k with h | h
                · exact HA.out j h
                · obtain rfl : j = k := by omega
                  rw [getD_of Hx.out, getD_of Hy.out]; omega, hd.trans (Drew.drewN _ _)⟩
          case measure => simp [intOf]; omega
      · go_wp2
        go_ret
        exact ⟨ret_bool (under_yes (by rw [Hn.out, Hm.out]; omega) (by intro j hj; exact HA.out j (by rw [Hm.out] at hj; omega))).symm, hd⟩

set_option maxHeartbeats 400000 in
theorem specContains_any (a b : Option Addr) (n c m d : Nat) (xs ys : List Int) (w : World) (hr : RI w a xs) (hs : RI w b ys) (hn : xs.length = n) (hm : ys.length = m) (hb : n ≤ 17592186044416) (hb2 : m ≤ 17592186044416) :
    Calls Try.prog 23 #[.slice a n c, .slice b m d] w fun e w' => e = .returned (.bool (isShape xs && isShape ys && under xs ys)) ∧ Drew w w' := by
  have Hn := Lib.hid hn; clear hn
  have Hm := Lib.hid hm; clear hm
  cases h1 : isShape xs
  · have H1 := Lib.hid h1; clear h1
    go_enter Try.func23, Try.ntmps23
    go_wp2_with fail
    refine (is (specIsShape_any _ _ _ xs _ hr Hn.out (by omega)) H1.out).mono ?_
    rintro e w1 ⟨rfl, hd⟩
    go_wp2
    go_ret
    exact ⟨rfl, hd⟩
  · have H1 := Lib.hid h1; clear h1
    cases h2 : isShape ys
    · have H2 := Lib.hid h2; clear h2
      go_enter Try.func23, Try.ntmps23
      go_wp2_with fail
      refine (is (specIsShape_any _ _ _ xs _ hr Hn.out (by omega)) H1.out).mono ?_
      rintro e w1 ⟨rfl, hd⟩
      go_wp2_with fail
      refine (is (specIsShape_any _ _ _ ys _ (hs.drew hd) Hm.out (by omega)) H2.out).mono ?_
      rintro e w2 ⟨rfl, hd2⟩
      go_wp2
      go_ret
      exact ⟨rfl, hd.trans hd2⟩
    · have H2 := Lib.hid h2; clear h2
      go_enter Try.func23, Try.ntmps23
      go_wp2_with fail
      refine (is (specIsShape_any _ _ _ xs _ hr Hn.out (by omega)) H1.out).mono ?_
      rintro e w1 ⟨rfl, hd⟩
      go_wp2_with fail
      refine (is (specIsShape_any _ _ _ ys _ (hs.drew hd) Hm.out (by omega)) H2.out).mono ?_
      rintro e w2 ⟨rfl, hd2⟩
      go_wp2_with fail
      refine (l4Contains_any _ _ _ _ _ _ xs ys _ ((hr.drew hd).drew hd2) ((hs.drew hd).drew hd2) Hn.out Hm.out hb).mono ?_
      rintro e w3 ⟨rfl, hd3⟩
      go_wp2
      go_ret
      exact ⟨by simp, (hd.trans hd2).trans hd3⟩

set_option maxHeartbeats 400000 in
theorem implContains_any (a b : Option Addr) (n c m d : Nat) (xs ys : List Int) (w : World) (hr : RI w a xs) (hs : RI w b ys) (hn : xs.length = n) (hm : ys.length = m) (hb : n ≤ 17592186044416) (hb2 : m ≤ 17592186044416) :
    Calls Try.prog 24 #[.slice a n c, .slice b m d] w fun e w' => e = .returned (.bool (isShape xs && isShape ys && under xs ys)) ∧ Drew w w' := by
  have Hn := Lib.hid hn; clear hn
  have Hm := Lib.hid hm; clear hm
  cases h1 : isShape xs
  · have H1 := Lib.hid h1; clear h1
    go_enter Try.func24, Try.ntmps24
    go_wp2_with fail
    refine (is (implIsShape_any _ _ _ xs _ hr Hn.out (by omega)) H1.out).mono ?_
    rintro e w1 ⟨rfl, hd⟩
    go_wp2
    go_ret
    exact ⟨rfl, hd⟩
  · have H1 := Lib.hid h1; clear h1
    cases h2 : isShape ys
    · have H2 := Lib.hid h2; clear h2
      go_enter Try.func24, Try.ntmps24
      go_wp2_with fail
      refine (is (implIsShape_any _ _ _ xs _ hr Hn.out (by omega)) H1.out).mono ?_
      rintro e w1 ⟨rfl, hd⟩
      go_wp2_with fail
      refine (is (implIsShape_any _ _ _ ys _ (hs.drew hd) Hm.out (by omega)) H2.out).mono ?_
      rintro e w2 ⟨rfl, hd2⟩
      go_wp2
      go_ret
      exact ⟨rfl, hd.trans hd2⟩
    · have H2 := Lib.hid h2; clear h2
      by_cases hmn : n < m
      · go_enter Try.func24, Try.ntmps24
        go_wp2_with fail
        refine (is (implIsShape_any _ _ _ xs _ hr Hn.out (by omega)) H1.out).mono ?_
        rintro e w1 ⟨rfl, hd⟩
        go_wp2_with fail
        refine (is (implIsShape_any _ _ _ ys _ (hs.drew hd) Hm.out (by omega)) H2.out).mono ?_
        rintro e w2 ⟨rfl, hd2⟩
        go_wp2
        go_ret
        exact ⟨ret_bool (by rw [under_long (by rw [Hn.out, Hm.out]; exact hmn)]; rfl), hd.trans hd2⟩
      · go_enter Try.func24, Try.ntmps24
        go_wp2_with fail
        refine (is (implIsShape_any _ _ _ xs _ hr Hn.out (by omega)) H1.out).mono ?_
        rintro e w1 ⟨rfl, hd⟩
        go_wp2_with fail
        refine (is (implIsShape_any _ _ _ ys _ (hs.drew hd) Hm.out (by omega)) H2.out).mono ?_
        rintro e w2 ⟨rfl, hd2⟩
        go_wp2
        go_loop [24] (fun i => ∃ k : Nat, k ≤ m ∧ i = .int .i64 k ∧ Hid (∀ j, j < k → ys.getD j 0 ≤ xs.getD j 0)) (fun i => m - (intOf i).toNat)
        case atStart => exact ⟨0, Nat.zero_le _, rfl, by intro j hj; omega⟩
        case round =>
          obtain ⟨k, hk, rfl, HA⟩ := hrel
          by_cases hlt : k < m
          · obtain ⟨b1, off, rfl, hcell⟩ := ((hr.drew hd).drew hd2).at (k := k) (by rw [Hn.out]; omega)
            obtain ⟨b2, off2, rfl, hcell2⟩ := ((hs.drew hd).drew hd2).at (k := k) (by rw [Hm.out]; exact hlt)
            obtain ⟨x, hx⟩ := some_at Hn.out (show k < n by omega)
            obtain ⟨y, hy⟩ := some_at Hm.out hlt
            have hc := hcell k x hx
            have hc2 := hcell2 k y hy
            have Hx := Lib.hid hx; clear hx
            have Hy := Lib.hid hy; clear hy
            clear hcell hcell2
            have hltJ : k < n := by omega
            by_cases h3 : x < y
            · go_wp2
              go_ret
              exact ⟨ret_bool (by rw [under_no Hx.out Hy.out h3]), hd.trans hd2⟩
            · go_wp2
              go_round
              case rel => exact ⟨k + 1, by omega, by go_num, by
                    intro j hj
                    rcases Nat.lt_or_ge j k with h | h
                    · exact HA.out j h
                    · obtain rfl : j = k := by omega
                      rw [getD_of Hx.out, getD_of Hy.out]; omega⟩
              case measure => simp [intOf]; omega
          · go_wp2
            go_ret
            exact ⟨ret_bool (by rw [under_yes (by rw [Hn.out, Hm.out]; omega) (by intro j hj; exact HA.out j (by rw [Hm.out] at hj; omega))]), hd.trans hd2⟩
end Go.Proofs.Ytleehkgfoicmdaa
