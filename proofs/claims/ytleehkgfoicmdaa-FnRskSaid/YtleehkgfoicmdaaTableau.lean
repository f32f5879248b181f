/-
  Contracts of TableauOk, the program's and the reference's.
-/
import Derived.Test.YtleehkgfoicmdaaShape
import Derived.Test.YtleehkgfoicmdaaToIntSS
namespace Go.Proofs.Ytleehkgfoicmdaa
open Go.RowKit

def lens (xss : List (List Int)) : List Int := xss.map fun l => (l.length : Int)
def cellAt (xss : List (List Int)) (i j : Nat) : Int := (xss.getD i []).getD j 0
def cellOk (xss : List (List Int)) (i j : Nat) : Bool :=
  decide (0 ≤ cellAt xss i j) && decide (cellAt xss i j ≤ 20) && (j == 0 || decide (cellAt xss i (j - 1) ≤ cellAt xss i j)) && (i == 0 || decide (cellAt xss (i - 1) j < cellAt xss i j))
def rowOk (xss : List (List Int)) (i : Nat) : Bool := (List.range (xss.getD i []).length).all (cellOk xss i)
def tabOk (xss : List (List Int)) : Bool := isShape (lens xss) && (List.range xss.length).all (rowOk xss)

theorem lens_length (xss : List (List Int)) : (lens xss).length = xss.length := by simp [lens]
theorem lens_at {xss : List (List Int)} {i : Nat} {l : List Int} (h : xss[i]? = some l) : (lens xss)[i]? = some (l.length : Int) := by simp [lens, h]
theorem cell_of {xss : List (List Int)} {i j : Nat} {l : List Int} {x : Int} (h : xss[i]? = some l) (hx : l[j]? = some x) : cellAt xss i j = x := by
  unfold cellAt
  rw [List.getD_eq_getElem?_getD, List.getD_eq_getElem?_getD, h]
  simp [hx]
theorem rows_of {xss : List (List Int)} {i : Nat} {l : List Int} (h : xss[i]? = some l) : (xss.getD i []).length = l.length := by
  rw [List.getD_eq_getElem?_getD, h]; rfl
theorem tab_shape {xss : List (List Int)} {i : Nat} (hi : i < xss.length) (h : shapeAt (lens xss) i = false) : tabOk xss = false := by
  unfold tabOk
  rw [isShape_false (k := i) (by rw [lens_length]; exact hi) h]; rfl
theorem tab_cell {xss : List (List Int)} {i j : Nat} {l : List Int} (hl : xss[i]? = some l) (hj : j < l.length) (h : cellOk xss i j = false) : tabOk xss = false := by
  unfold tabOk
  have h1 : rowOk xss i = false := by
    unfold rowOk
    rw [List.all_eq_false]
    exact ⟨j, by rw [rows_of hl]; simpa using hj, by simp [h]⟩
  have h2 : (List.range xss.length).all (rowOk xss) = false := by
    rw [List.all_eq_false]
    exact ⟨i, by simpa using lt_of_some hl, by simp [h1]⟩
  rw [h2, Bool.and_false]
theorem tab_long {xss : List (List Int)} (h : 16 < xss.length) : tabOk xss = false := by
  unfold tabOk isShape
  rw [lens_length]
  simp; omega
theorem row_all {xss : List (List Int)} {i : Nat} {l : List Int} (hl : xss[i]? = some l) (h : ∀ j, j < l.length → cellOk xss i j = true) : rowOk xss i = true := by
  unfold rowOk
  rw [List.all_eq_true]
  intro j hj
  rw [rows_of hl] at hj
  exact h j (by simpa using hj)
theorem tab_all {xss : List (List Int)} (hn : xss.length ≤ 16) (h1 : ∀ i, i < xss.length → shapeAt (lens xss) i = true) (h2 : ∀ i, i < xss.length → rowOk xss i = true) : tabOk xss = true := by
  unfold tabOk
  rw [isShape_true (by rw [lens_length]; exact h1), lens_length]
  have : (List.range xss.length).all (rowOk xss) = true := by
    rw [List.all_eq_true]; intro i hi; exact h2 i (by simpa using hi)
  rw [this]; simp; omega
theorem cell_range {xss : List (List Int)} {i j : Nat} {x : Int} (h : cellAt xss i j = x) (hx : x < 0 ∨ 20 < x) : cellOk xss i j = false := by
  unfold cellOk; rw [h]; simp; omega
theorem cell_left {xss : List (List Int)} {i j : Nat} {x y : Int} (h : cellAt xss i j = x) (hy : cellAt xss i (j - 1) = y) (hj : j ≠ 0) (hx : x < y) : cellOk xss i j = false := by
  unfold cellOk; rw [h, hy]; simp; omega
theorem cell_up {xss : List (List Int)} {i j : Nat} {x z : Int} (h : cellAt xss i j = x) (hz : cellAt xss (i - 1) j = z) (hi : i ≠ 0) (hx : x ≤ z) : cellOk xss i j = false := by
  unfold cellOk; rw [h, hz]; simp; omega
theorem cell_fine {xss : List (List Int)} {i j : Nat} {x : Int} (h : cellAt xss i j = x) (h0 : ¬ (x < 0 ∨ 20 < x)) (hl : j ≠ 0 → cellAt xss i (j - 1) ≤ x) (hu : i ≠ 0 → cellAt xss (i - 1) j < x) : cellOk xss i j = true := by
  unfold cellOk; rw [h]
  simp only [Bool.and_eq_true, decide_eq_true_eq, Bool.or_eq_true, beq_iff_eq]
  refine ⟨⟨⟨by omega, by omega⟩, ?_⟩, ?_⟩
  · by_cases hj : j = 0
    · exact .inl hj
    · exact .inr (hl hj)
  · by_cases hi : i = 0
    · exact .inl hi
    · exact .inr (hu hi)
theorem shapeAt_before {xs : List Int} {k : Nat} {x y : Int} (h : xs[k]? = some x) (hy : xs[k-1]? = some y) (h0 : k ≠ 0) (hs : shapeAt xs k = true) : x ≤ y := by
  unfold shapeAt at hs
  rw [getD_of h, getD_of hy] at hs
  simp only [Bool.and_eq_true, decide_eq_true_eq, Bool.or_eq_true, beq_iff_eq] at hs
  rcases hs.2 with h | h
  · exact absurd h h0
  · exact h

set_option maxRecDepth 100000 in
set_option maxHeartbeats 6400000 in
theorem specTab_any (a : Option Addr) (n c : Nat) (xss : List (List Int)) (w : World) (hr : RII w a xss) (hn : xss.length = n) (hb : n ≤ 1048576) (hsh : ShortII xss) :
    Calls Try.prog 39 #[.slice a n c] w fun e w' => e = .returned (.bool (tabOk xss)) ∧ Drew w w' := by
  have Hn := Lib.hid hn; clear hn
  have HSh := Lib.hid hsh; clear hsh
  by_cases hbig : 16 < n
  · go_enter Try.func39, Try.ntmps39
    go_wp2
    go_ret
    exact ⟨ret_bool (tab_long (by rw [Hn.out]; exact hbig)).symm, Drew.refl _⟩
  · go_enter Try.func39, Try.ntmps39
    go_wp2
    go_loopw [3] (fun i wr => ∃ k : Nat, k ≤ n ∧ i = .int .i64 k ∧ Hid (∀ j, j < k → shapeAt (lens xss) j = true ∧ rowOk xss j = true) ∧ Drew w wr) (fun i _ => n - (intOf i).toNat)
    case atStart => exact ⟨0, Nat.zero_le _, rfl, by intro j hj; omega, Drew.refl _⟩
    case round =>
      obtain ⟨k, hk, rfl, HA, hd⟩ := hrel
      obtain ⟨wo, rfl⟩ : ∃ wo : World, wo = wr := ⟨_, rfl⟩
      by_cases hlt : k < n
      · obtain ⟨b, off, rfl, hcell⟩ := (hr.drew hd).at (k := k) (by rw [Hn.out]; exact hlt)
        obtain ⟨row, hrow⟩ := some_of (show k < xss.length by rw [Hn.out]; exact hlt)
        obtain ⟨ra, rc, hc, hrr⟩ := hcell k row hrow
        have hll := HSh.out row (List.mem_of_getElem? hrow)
        have hlA := lens_at hrow
        obtain ⟨L, hL⟩ : ∃ L, row.length = L := ⟨_, rfl⟩
        rw [hL] at hc hll hlA
        have HL := Lib.hid hL; clear hL
        have HlA := Lib.hid hlA; clear hlA
        have hltI : (k : Int) < (n : Int) := by omega
        have hkx : k < xss.length := by rw [Hn.out]; exact hlt
        have Hrow := Lib.hid hrow; clear hrow
        have Hkx := Lib.hid hkx; clear hkx
        by_cases h1 : (L : Int) < 1 ∨ 16 < (L : Int)
        · clear hcell
          go_wp2
          go_quiet ((go_at_call 68; exact quiet (l1In_no _ _ _ _ h1)))
          go_wp2
          go_ret
          exact ⟨ret_bool (tab_shape (i := k) Hkx.out (by rcases h1 with h | h <;> first | exact shapeAt_low HlA.out h | exact shapeAt_high HlA.out h)).symm, hd.trans (Drew.drewN _ _)⟩
        · have hin : 1 ≤ (L : Int) ∧ (L : Int) ≤ 16 := by omega
          have hL0 : 0 < L := by omega
          by_cases h3 : k = 0
          · clear hcell
            have hsA : shapeAt (lens xss) k = true := by subst h3; exact shapeAt_zero HlA.out (by omega) (by omega)
            have HsA := Lib.hid hsA; clear hsA
            have h3n : ¬ 0 < k := by omega
            have H3 := Lib.hid h3; clear h3
            have hkz : decide (0 < k) = false := by simp; omega
            go_wp2
            go_quiet ((go_at_call 68; exact quiet (l1In_yes _ _ _ _ hin)))
            have hd1 := hd.trans (Drew.drewN wo nq)
            have hc1 : (wo.drewN nq).cell? ⟨b, off + k, none⟩ = some (.slice ra L rc) := by rw [(Drew.drewN wo nq).cell]; exact hc
            have hrr1 := hrr.drew (Drew.drewN wo nq)
            clear hc hrr hd hkz
            go_wp2_with fail
            generalize wo.drewN nq = wn at *
            go_loopw [4] (fun i wr => ∃ m : Nat, m ≤ L ∧ i = .int .i64 m ∧ Hid (∀ j, j < m → cellOk xss k j = true) ∧ Drew wn wr) (fun i _ => L - (intOf i).toNat)
            case atStart => exact ⟨0, Nat.zero_le _, rfl, by intro j hj; omega, Drew.refl _⟩
            case round =>
              obtain ⟨m, hm, rfl, HC, hdi⟩ := hrel
              have hd2 := hd1.trans hdi
              have hc2 : wr.cell? ⟨b, off + k, none⟩ = some (.slice ra L rc) := by rw [hdi.cell]; exact hc1
              by_cases hml : m < L
              · obtain ⟨rb, ro, rfl, hrc⟩ := (hrr1.drew hdi).at (k := m) (by rw [HL.out]; exact hml)
                obtain ⟨x, hx⟩ := some_at HL.out hml
                have hcx := hrc m x hx
                have hcl := cell_of Hrow.out hx
                have HCL := Lib.hid hcl; clear hcl hx
                have hmI : (m : Int) < (L : Int) := by omega
                have hlj : m ≠ 0 → ∃ y, cellAt xss k (m - 1) = y ∧ wr.cell? ⟨rb, ro + (m - 1), none⟩ = some (.int .i64 y) := by
                  intro h0
                  obtain ⟨y, hy⟩ := some_at HL.out (show m - 1 < L by omega)
                  exact ⟨y, cell_of Hrow.out hy, hrc _ y hy⟩
                clear hrc
                by_cases hx0 : x < 0 ∨ 20 < x
                · clear hlj
                  go_wp2
                  have hkz : decide (0 < k) = false := by simp; omega
                  go_quiet ((go_at_call 68; exact quiet (l1In_no _ _ _ _ hx0)))
                  clear hkz
                  go_wp2
                  go_ret
                  exact ⟨ret_bool (tab_cell Hrow.out (j := m) (by rw [HL.out]; exact hml) (cell_range HCL.out hx0)).symm, hd2.trans (Drew.drewN _ _)⟩
                · have hxin : 0 ≤ x ∧ x ≤ 20 := by omega
                  by_cases hm0 : m = 0
                  · subst hm0
                    clear hlj
                    rw [Nat.add_zero] at hcx
                    go_wp2
                    have hkz : decide (0 < k) = false := by simp; omega
                    go_quiet ((go_at_call 68; exact quiet (l1In_yes _ _ _ _ hxin)))
                    clear hkz
                    go_wp2
                    go_roundw
                    case rel => exact ⟨1, by omega, rfl, by intro j hj; obtain rfl : j = 0 := (by omega); exact cell_fine HCL.out (by omega) (by simp) (fun h => absurd H3.out h), hdi.trans (Drew.drewN _ _)⟩
                    case measure => simp [intOf]; omega
                  · obtain ⟨y, hy, hcy⟩ := hlj hm0
                    clear hlj
                    have HY := Lib.hid hy; clear hy
                    have hmp : 0 < m := by omega
                    by_cases hxy : x < y
                    · have hxy' : x < y := hxy
                      go_wp2
                      have hkz : decide (0 < k) = false := by simp; omega
                      have p1 : (0 : Int) ≤ (m : Int) - 1 := by omega
                      have p2 : (m : Int) - 1 < (L : Int) := by omega
                      have p3 : IntKind.i64.wrap ((m : Int) - 1) = (m : Int) - 1 := IntWalk.i64_in _ (by omega)
                      have p4 : ((m : Int) - 1).toNat = m - 1 := by omega
                      go_quiet ((go_at_call 68; exact quiet (l1In_yes _ _ _ _ hxin)))
                      clear p1 p2 p3 p4 hkz
                      go_wp2
                      go_ret
                      exact ⟨ret_bool (tab_cell Hrow.out (j := m) (by rw [HL.out]; exact hml) (cell_left HCL.out HY.out hm0 hxy)).symm, hd2.trans (Drew.drewN _ _)⟩
                    · have hyx : ¬ x < y := hxy
                      go_wp2
                      have d1 : decide (x < y) = false := by simp; omega
                      have hkz : decide (0 < k) = false := by simp; omega
                      have p1 : (0 : Int) ≤ (m : Int) - 1 := by omega
                      have p2 : (m : Int) - 1 < (L : Int) := by omega
                      have p3 : IntKind.i64.wrap ((m : Int) - 1) = (m : Int) - 1 := IntWalk.i64_in _ (by omega)
                      have p4 : ((m : Int) - 1).toNat = m - 1 := by omega
                      go_quiet ((go_at_call 68; exact quiet (l1In_yes _ _ _ _ hxin)))
                      clear p1 p2 p3 p4 d1 hkz
                      go_wp2
                      go_roundw
                      case rel => exact ⟨m + 1, by omega, by go_num, by
                            intro j hj
                            rcases Nat.lt_or_ge j m with h | h
                            · exact HC.out j h
                            · obtain rfl : j = m := (by omega)
                              exact cell_fine HCL.out (by omega) (fun _ => by rw [HY.out]; omega) (fun h => absurd H3.out h), hdi.trans (Drew.drewN _ _)⟩
                      case measure => simp [intOf]; omega
              · obtain rfl : m = L := by omega
                have hrk := row_all Hrow.out (by intro j hj; exact HC.out j (by rw [HL.out] at hj; omega))
                have HRK := Lib.hid hrk; clear hrk
                go_wp2
                go_roundw
                case rel =>
                  exact ⟨k + 1, by omega, by go_num, by
                      intro j hj
                      rcases Nat.lt_or_ge j k with h | h
                      · exact HA.out j h
                      · obtain rfl : j = k := (by omega)
                        exact ⟨HsA.out, HRK.out⟩, hd2⟩
                case measure => simp [intOf]; omega
          · have hk0 : 0 < k := by omega
            have hlast : k - 1 < xss.length := by have := Hkx.out; omega
            obtain ⟨up, hup⟩ := some_of hlast
            obtain ⟨ua, uc, hcu, hru⟩ := hcell (k - 1) up hup
            have hlu := lens_at hup
            have hul := HSh.out up (List.mem_of_getElem? hup)
            obtain ⟨U, hU⟩ : ∃ U, up.length = U := ⟨_, rfl⟩
            rw [hU] at hcu hlu hul
            have HU := Lib.hid hU; clear hU
            have Hlu := Lib.hid hlu; clear hlu
            have Hup := Lib.hid hup; clear hup hlast hcell
            have q1 : (0 : Int) ≤ (k : Int) - 1 := by omega
            have q2 : (k : Int) - 1 < (n : Int) := by omega
            by_cases h4 : U < L
            · have h4' : (U : Int) < (L : Int) := by omega
              have q3 : IntKind.i64.wrap ((k : Int) - 1) = (k : Int) - 1 := IntWalk.i64_in _ (by omega)
              have q4 : ((k : Int) - 1).toNat = k - 1 := by omega
              go_wp2
              go_quiet ((go_at_call 68; exact quiet (l1In_yes _ _ _ _ hin)))
              clear q3 q4
              go_wp2
              go_ret
              exact ⟨ret_bool (tab_shape (i := k) Hkx.out (shapeAt_rise HlA.out Hlu.out h3 (by omega))).symm, hd.trans (Drew.drewN _ _)⟩
            · have hsA : shapeAt (lens xss) k = true := shapeAt_next HlA.out Hlu.out (by omega) (by omega) (by omega)
              have HsA := Lib.hid hsA; clear hsA
              have h4' : ¬ (U : Int) < (L : Int) := by omega
              have q3 : IntKind.i64.wrap ((k : Int) - 1) = (k : Int) - 1 := IntWalk.i64_in _ (by omega)
              have q4 : ((k : Int) - 1).toNat = k - 1 := by omega
              go_wp2
              go_quiet ((go_at_call 68; exact quiet (l1In_yes _ _ _ _ hin)))
              clear q3 q4
              have hd1 := hd.trans (Drew.drewN wo nq)
              have hc1 : (wo.drewN nq).cell? ⟨b, off + k, none⟩ = some (.slice ra L rc) := by rw [(Drew.drewN wo nq).cell]; exact hc
              have hcu1 : (wo.drewN nq).cell? ⟨b, off + (k - 1), none⟩ = some (.slice ua U uc) := by rw [(Drew.drewN wo nq).cell]; exact hcu
              have hrr1 := hrr.drew (Drew.drewN wo nq)
              have hru1 := hru.drew (Drew.drewN wo nq)
              clear hc hrr hd hcu hru
              go_wp2_with fail
              generalize wo.drewN nq = wn at *
              go_loopw [4] (fun i wr => ∃ m : Nat, m ≤ L ∧ i = .int .i64 m ∧ Hid (∀ j, j < m → cellOk xss k j = true) ∧ Drew wn wr) (fun i _ => L - (intOf i).toNat)
              case atStart => exact ⟨0, Nat.zero_le _, rfl, by intro j hj; omega, Drew.refl _⟩
              case round =>
                obtain ⟨m, hm, rfl, HC, hdi⟩ := hrel
                have hd2 := hd1.trans hdi
                have hc2 : wr.cell? ⟨b, off + k, none⟩ = some (.slice ra L rc) := by rw [hdi.cell]; exact hc1
                have hcu2 : wr.cell? ⟨b, off + (k - 1), none⟩ = some (.slice ua U uc) := by rw [hdi.cell]; exact hcu1
                by_cases hml : m < L
                · obtain ⟨rb, ro, rfl, hrc⟩ := (hrr1.drew hdi).at (k := m) (by rw [HL.out]; exact hml)
                  obtain ⟨x, hx⟩ := some_at HL.out hml
                  have hcx := hrc m x hx
                  have hcl := cell_of Hrow.out hx
                  have HCL := Lib.hid hcl; clear hcl hx
                  obtain ⟨ub, uo, rfl, hurc⟩ := (hru1.drew hdi).at (k := m) (by rw [HU.out]; omega)
                  obtain ⟨z, hz⟩ := some_at HU.out (show m < U by omega)
                  have hcz := hurc m z hz
                  have HCZ := Lib.hid (cell_of Hup.out hz)
                  clear hurc hz
                  have hmU : (m : Int) < (U : Int) := by omega
                  have hmI : (m : Int) < (L : Int) := by omega
                  have hlj : m ≠ 0 → ∃ y, cellAt xss k (m - 1) = y ∧ wr.cell? ⟨rb, ro + (m - 1), none⟩ = some (.int .i64 y) := by
                    intro h0
                    obtain ⟨y, hy⟩ := some_at HL.out (show m - 1 < L by omega)
                    exact ⟨y, cell_of Hrow.out hy, hrc _ y hy⟩
                  clear hrc
                  by_cases hx0 : x < 0 ∨ 20 < x
                  · clear hlj
                    go_wp2
                    have q1 : (0 : Int) ≤ (k : Int) - 1 := by omega
                    have q2 : (k : Int) - 1 < (n : Int) := by omega
                    have q3 : IntKind.i64.wrap ((k : Int) - 1) = (k : Int) - 1 := IntWalk.i64_in _ (by omega)
                    have q4 : ((k : Int) - 1).toNat = k - 1 := by omega
                    go_quiet ((go_at_call 68; exact quiet (l1In_no _ _ _ _ hx0)))
                    clear q1 q2 q3 q4
                    go_wp2
                    go_ret
                    exact ⟨ret_bool (tab_cell Hrow.out (j := m) (by rw [HL.out]; exact hml) (cell_range HCL.out hx0)).symm, hd2.trans (Drew.drewN _ _)⟩
                  · have hxin : 0 ≤ x ∧ x ≤ 20 := by omega
                    by_cases hm0 : m = 0
                    · subst hm0
                      clear hlj
                      rw [Nat.add_zero] at hcx
                      rw [Nat.add_zero] at hcz
                      by_cases hxz : x ≤ z
                      · have hxz' : x ≤ z := hxz
                        go_wp2
                        have q1 : (0 : Int) ≤ (k : Int) - 1 := by omega
                        have q2 : (k : Int) - 1 < (n : Int) := by omega
                        have q3 : IntKind.i64.wrap ((k : Int) - 1) = (k : Int) - 1 := IntWalk.i64_in _ (by omega)
                        have q4 : ((k : Int) - 1).toNat = k - 1 := by omega
                        go_quiet ((go_at_call 68; exact quiet (l1In_yes _ _ _ _ hxin)))
                        clear q1 q2 q3 q4
                        go_wp2
                        go_ret
                        exact ⟨ret_bool (tab_cell Hrow.out (j := 0) (by rw [HL.out]; exact hml) (cell_up HCL.out HCZ.out h3 hxz)).symm, hd2.trans (Drew.drewN _ _)⟩
                      · have hzx : ¬ x ≤ z := hxz
                        go_wp2
                        have d2 : decide (x ≤ z) = false := by simp; omega
                        have q1 : (0 : Int) ≤ (k : Int) - 1 := by omega
                        have q2 : (k : Int) - 1 < (n : Int) := by omega
                        have q3 : IntKind.i64.wrap ((k : Int) - 1) = (k : Int) - 1 := IntWalk.i64_in _ (by omega)
                        have q4 : ((k : Int) - 1).toNat = k - 1 := by omega
                        go_quiet ((go_at_call 68; exact quiet (l1In_yes _ _ _ _ hxin)))
                        clear q1 q2 q3 q4 d2
                        go_wp2
                        go_roundw
                        case rel => exact ⟨1, by omega, rfl, by intro j hj; obtain rfl : j = 0 := (by omega); exact cell_fine HCL.out (by omega) (by simp) (fun _ => by rw [HCZ.out]; omega), hdi.trans (Drew.drewN _ _)⟩
                        case measure => simp [intOf]; omega
                    · obtain ⟨y, hy, hcy⟩ := hlj hm0
                      clear hlj
                      have HY := Lib.hid hy; clear hy
                      have hmp : 0 < m := by omega
                      by_cases hxy : x < y
                      · have hxy' : x < y := hxy
                        go_wp2
                        have p1 : (0 : Int) ≤ (m : Int) - 1 := by omega
                        have p2 : (m : Int) - 1 < (L : Int) := by omega
                        have p3 : IntKind.i64.wrap ((m : Int) - 1) = (m : Int) - 1 := IntWalk.i64_in _ (by omega)
                        have p4 : ((m : Int) - 1).toNat = m - 1 := by omega
                        have q1 : (0 : Int) ≤ (k : Int) - 1 := by omega
                        have q2 : (k : Int) - 1 < (n : Int) := by omega
                        have q3 : IntKind.i64.wrap ((k : Int) - 1) = (k : Int) - 1 := IntWalk.i64_in _ (by omega)
                        have q4 : ((k : Int) - 1).toNat = k - 1 := by omega
                        go_quiet ((go_at_call 68; exact quiet (l1In_yes _ _ _ _ hxin)))
                        clear p1 p2 p3 p4 q1 q2 q3 q4
                        go_wp2
                        go_ret
                        exact ⟨ret_bool (tab_cell Hrow.out (j := m) (by rw [HL.out]; exact hml) (cell_left HCL.out HY.out hm0 hxy)).symm, hd2.trans (Drew.drewN _ _)⟩
                      · have hyx : ¬ x < y := hxy
                        by_cases hxz : x ≤ z
                        · have hxz' : x ≤ z := hxz
                          go_wp2
                          have d1 : decide (x < y) = false := by simp; omega
                          have p1 : (0 : Int) ≤ (m : Int) - 1 := by omega
                          have p2 : (m : Int) - 1 < (L : Int) := by omega
                          have p3 : IntKind.i64.wrap ((m : Int) - 1) = (m : Int) - 1 := IntWalk.i64_in _ (by omega)
                          have p4 : ((m : Int) - 1).toNat = m - 1 := by omega
                          have q1 : (0 : Int) ≤ (k : Int) - 1 := by omega
                          have q2 : (k : Int) - 1 < (n : Int) := by omega
                          have q3 : IntKind.i64.wrap ((k : Int) - 1) = (k : Int) - 1 := IntWalk.i64_in _ (by omega)
                          have q4 : ((k : Int) - 1).toNat = k - 1 := by omega
                          go_quiet ((go_at_call 68; exact quiet (l1In_yes _ _ _ _ hxin)))
                          clear p1 p2 p3 p4 q1 q2 q3 q4 d1
                          go_wp2
                          go_ret
                          exact ⟨ret_bool (tab_cell Hrow.out (j := m) (by rw [HL.out]; exact hml) (cell_up HCL.out HCZ.out h3 hxz)).symm, hd2.trans (Drew.drewN _ _)⟩
                        · have hzx : ¬ x ≤ z := hxz
                          go_wp2
                          have d1 : decide (x < y) = false := by simp; omega
                          have d2 : decide (x ≤ z) = false := by simp; omega
                          have p1 : (0 : Int) ≤ (m : Int) - 1 := by omega
                          have p2 : (m : Int) - 1 < (L : Int) := by omega
                          have p3 : IntKind.i64.wrap ((m : Int) - 1) = (m : Int) - 1 := IntWalk.i64_in _ (by omega)
                          have p4 : ((m : Int) - 1).toNat = m - 1 := by omega
                          have q1 : (0 : Int) ≤ (k : Int) - 1 := by omega
                          have q2 : (k : Int) - 1 < (n : Int) := by omega
                          have q3 : IntKind.i64.wrap ((k : Int) - 1) = (k : Int) - 1 := IntWalk.i64_in _ (by omega)
                          have q4 : ((k : Int) - 1).toNat = k - 1 := by omega
                          go_quiet ((go_at_call 68; exact quiet (l1In_yes _ _ _ _ hxin)))
                          clear p1 p2 p3 p4 q1 q2 q3 q4 d1 d2
                          go_wp2
                          go_roundw
                          case rel => exact ⟨m + 1, by omega, by go_num, by
                                intro j hj
                                rcases Nat.lt_or_ge j m with h | h
                                · exact HC.out j h
                                · obtain rfl : j = m := (by omega)
                                  exact cell_fine HCL.out (by omega) (fun _ => by rw [HY.out]; omega) (fun _ => by rw [HCZ.out]; omega), hdi.trans (Drew.drewN _ _)⟩
                          case measure => simp [intOf]; omega
                · obtain rfl : m = L := by omega
                  have hrk := row_all Hrow.out (by intro j hj; exact HC.out j (by rw [HL.out] at hj; omega))
                  have HRK := Lib.hid hrk; clear hrk
                  go_wp2
                  go_roundw
                  case rel =>
                    exact ⟨k + 1, by omega, by go_num, by
                        intro j hj
                        rcases Nat.lt_or_ge j k with h | h
                        · exact HA.out j h
                        · obtain rfl : j = k := (by omega)
                          exact ⟨HsA.out, HRK.out⟩, hd2⟩
                  case measure => simp [intOf]; omega
      · go_wp2
        go_ret
        exact ⟨ret_bool (tab_all (by rw [Hn.out]; omega) (fun i hi => (HA.out i (by rw [Hn.out] at hi; omega)).1) (fun i hi => (HA.out i (by rw [Hn.out] at hi; omega)).2)).symm, hd⟩
end Go.Proofs.Ytleehkgfoicmdaa
