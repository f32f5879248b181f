/-
  Contract of the program's TableauOk.
-/
import Derived.Test.YtleehkgfoicmdaaTableau
namespace Go.Proofs.Ytleehkgfoicmdaa
open Go.RowKit

set_option maxRecDepth 100000 in
set_option maxHeartbeats 6400000 in
theorem implTab_any (a : Option Addr) (n c : Nat) (xss : List (List Int)) (w : World) (hr : RII w a xss) (hn : xss.length = n) (hb : n ≤ 1048576) (hsh : ShortII xss) :
    Calls Try.prog 41 #[.slice a n c] w fun e w' => e = .returned (.bool (tabOk xss)) ∧ Below w.heap.size w w' := by
  have Hn := Lib.hid hn; clear hn
  have HSh := Lib.hid hsh; clear hsh
  have hemp : OwI (w.alloc (.cells #[] 3)) w.heap.size (w.alloc (.cells #[] 3)).heap.size (some ⟨w.heap.size, 0, none⟩) 0 0 [] := OwI.mk (World.ownsRow_made _ #[] 0 (Nat.le_refl _) (Nat.zero_le _) rfl)
  have hB0 : Below w.heap.size w (w.alloc (.cells #[] 3)) := (Below.refl _ _).alloc (Nat.le_refl _) _
  have HE := Lib.hid hemp; clear hemp
  go_enter Try.func41, Try.ntmps41
  go_wp2
  go_loopw [3, 13] (fun v i wr => ∃ k : Nat, k ≤ n ∧ i = .int .i64 k ∧ (∃ a' c', v = .slice a' k c' ∧ OwI wr w.heap.size wr.heap.size a' k c' ((lens xss).take k)) ∧ Below w.heap.size w wr) (fun _ i _ => n - (intOf i).toNat)
  case atStart => exact ⟨0, Nat.zero_le _, rfl, ⟨_, _, rfl, HE.out⟩, hB0⟩
  case round =>
    clear HE hB0
    obtain ⟨k, hk, rfl, ⟨a1, c1, rfl, ho⟩, hbel⟩ := hrel
    obtain ⟨wo, rfl⟩ : ∃ wo : World, wo = wr := ⟨_, rfl⟩
    have hs0 := hbel.size
    by_cases hlt : k < n
    · obtain ⟨b, off, rfl, hcell⟩ := (hr.below hbel).at (k := k) (by rw [Hn.out]; exact hlt)
      obtain ⟨row, hrow⟩ := some_of (show k < xss.length by rw [Hn.out]; exact hlt)
      obtain ⟨ra, rc, hc, hrr⟩ := hcell k row hrow
      have htk := take_at (lens_at hrow)
      obtain ⟨L, hL⟩ : ∃ L, row.length = L := ⟨_, rfl⟩
      rw [hL] at hc htk
      have Htk := Lib.hid htk; clear htk hL hcell hrow
      go_wp2_with (first | (at_builtin; go_loud (refine wpList_pushI (by rfl) (by rfl) _ _ (by rfl) ho (by rfl) (by rfl) (by omega) hs0 ?_)))
      intro a2 c2 w2 ho2 hg2
      have hb2 := hg2.below hbel hs0 (fun q hq => ho.1.lo q hq)
      clear ho hg2
      go_wp2
      go_roundw
      case rel => exact ⟨k + 1, by omega, by go_num, ⟨a2, c2, rfl, by rw [Htk.out]; exact ho2⟩, hb2⟩
      case measure => simp [intOf]; omega
    · obtain rfl : k = n := by omega
      rw [List.take_of_length_le (by rw [lens_length, Hn.out]; omega)] at ho
      have hll := Lib.hid (show (lens xss).length = k by rw [lens_length, Hn.out])
      cases hsb : isShape (lens xss)
      · have Hsb := Lib.hid hsb; clear hsb
        go_wp2_with fail
        refine (is (implIsShape_any _ _ _ (lens xss) _ ho.rd hll.out (by omega)) Hsb.out).mono ?_
        rintro e w2 ⟨rfl, hd2⟩
        go_wp2
        go_ret
        exact ⟨ret_bool (by unfold tabOk; rw [Hsb.out]; rfl), hbel.trans (hd2.below _)⟩
      · have hlen16 := shape_bd hsb
        rw [hll.out] at hlen16
        have Hsb := Lib.hid hsb; clear hsb
        go_wp2_with fail
        refine (is (implIsShape_any _ _ _ (lens xss) _ ho.rd hll.out (by omega)) Hsb.out).mono ?_
        rintro e w2 ⟨rfl, hd2⟩
        have hbel2 : Below w.heap.size w w2 := hbel.trans (hd2.below _)
        have hr2 := hr.below hbel2
        clear ho hd2 hbel hk hlt hs0
        obtain ⟨n, rfl⟩ : ∃ n, n = k := ⟨k, rfl⟩
        go_wp2_with fail
        go_loop [28] (fun i => ∃ k : Nat, k ≤ n ∧ i = .int .i64 k ∧ Hid (∀ j, j < k → rowOk xss j = true)) (fun i => n - (intOf i).toNat)
        case atStart => exact ⟨0, Nat.zero_le _, rfl, by intro j hj; omega⟩
        case round =>
          obtain ⟨k, hk, rfl, HA⟩ := hrel
          by_cases hlt : k < n
          · obtain ⟨b, off, rfl, hcell⟩ := hr2.at (k := k) (by rw [Hn.out]; exact hlt)
            obtain ⟨row, hrow⟩ := some_of (show k < xss.length by rw [Hn.out]; exact hlt)
            obtain ⟨ra, rc, hc, hrr⟩ := hcell k row hrow
            have hll2 := HSh.out row (List.mem_of_getElem? hrow)
            obtain ⟨L, hL⟩ : ∃ L, row.length = L := ⟨_, rfl⟩
            rw [hL] at hc hll2
            have HL := Lib.hid hL; clear hL
            have hsA : shapeAt (lens xss) k = true := by
              have h := Hsb.out
              simp only [isShape, Bool.and_eq_true, List.all_eq_true] at h
              exact h.2 k (by rw [lens_length]; have := lt_of_some hrow; simpa using this)
            have hup : k ≠ 0 → ∃ (up : List Int) (ua : Option Addr) (uc : Nat), xss[k - 1]? = some up ∧ w2.cell? ⟨b, off + (k - 1), none⟩ = some (.slice ua up.length uc) ∧ RI w2 ua up ∧ L ≤ up.length := by
              intro h0
              obtain ⟨up, hup⟩ := some_of (show k - 1 < xss.length by have := lt_of_some hrow; omega)
              obtain ⟨ua, uc, e1, e2⟩ := hcell (k - 1) up hup
              refine ⟨up, ua, uc, hup, e1, e2, ?_⟩
              have := shapeAt_before (lens_at hrow) (lens_at hup) h0 hsA
              rw [HL.out] at this
              omega
            have Hrow := Lib.hid hrow; clear hrow hcell hsA
            go_wp2_with fail
            go_loop [35] (fun i => ∃ m : Nat, m ≤ L ∧ i = .int .i64 m ∧ Hid (∀ j, j < m → cellOk xss k j = true)) (fun i => L - (intOf i).toNat)
            case atStart => exact ⟨0, Nat.zero_le _, rfl, by intro j hj; omega⟩
            case round =>
              obtain ⟨m, hm, rfl, HC⟩ := hrel
              by_cases hml : m < L
              · obtain ⟨rb, ro, rfl, hrc⟩ := hrr.at (k := m) (by rw [HL.out]; exact hml)
                obtain ⟨x, hx⟩ := some_at HL.out hml
                have hcx := hrc m x hx
                have HCL := Lib.hid (cell_of Hrow.out hx)
                have hlj : m ≠ 0 → ∃ y, cellAt xss k (m - 1) = y ∧ w2.cell? ⟨rb, ro + (m - 1), none⟩ = some (.int .i64 y) := by
                  intro h0
                  obtain ⟨y, hy⟩ := some_at HL.out (show m - 1 < L by omega)
                  exact ⟨y, cell_of Hrow.out hy, hrc _ y hy⟩
                clear hrc hx
                by_cases hx0 : x < 0 ∨ 20 < x
                · clear hlj hup
                  rcases hx0 with hx1 | hx1
                  all_goals
                    go_wp2_with fail
                    go_ret
                    exact ⟨ret_bool (tab_cell Hrow.out (j := m) (by rw [HL.out]; exact hml) (cell_range HCL.out (by omega))).symm, hbel2⟩
                · have hx1 : 0 ≤ x := by omega
                  have hx2 : x ≤ 20 := by omega
                  by_cases hm0 : m = 0
                  · have hmn : ¬ 0 < m := by omega
                    have HM0 := Lib.hid hm0
                    clear hlj hm0
                    by_cases hk0 : k = 0
                    · have hkn : ¬ 0 < k := by omega
                      have HK0 := Lib.hid hk0
                      clear hup hk0
                      go_wp2_with fail
                      go_round
                      case rel => exact ⟨m + 1, by omega, by go_num, by
                            intro j hj
                            rcases Nat.lt_or_ge j m with h | h
                            · exact HC.out j h
                            · obtain rfl : j = m := (by omega)
                              exact cell_fine HCL.out (by omega) (fun h => absurd HM0.out h) (fun h => absurd HK0.out h)⟩
                      case measure => simp [intOf]; omega
                    · obtain ⟨up, ua, uc, hupk, hcu, hru, hLu⟩ := hup hk0
                      clear hup
                      have hkp : 0 < k := by omega
                      obtain ⟨U, hU⟩ : ∃ U, up.length = U := ⟨_, rfl⟩
                      rw [hU] at hcu hLu
                      obtain ⟨ub, uo, rfl, hurc⟩ := hru.at (k := m) (by rw [hU]; omega)
                      obtain ⟨z, hz⟩ := some_at hU (show m < U by omega)
                      have hcz := hurc m z hz
                      have HCZ := Lib.hid (cell_of hupk hz)
                      have hmU : m < U := by omega
                      clear hurc hz hU hupk
                      by_cases hxz : x ≤ z
                      · have hxz2 : x ≤ z := hxz
                        go_wp2_with fail
                        go_ret
                        exact ⟨ret_bool (tab_cell Hrow.out (j := m) (by rw [HL.out]; exact hml) (cell_up HCL.out HCZ.out hk0 hxz)).symm, hbel2⟩
                      · have hzx : z < x := by omega
                        go_wp2_with fail
                        go_round
                        case rel => exact ⟨m + 1, by omega, by go_num, by
                              intro j hj
                              rcases Nat.lt_or_ge j m with h | h
                              · exact HC.out j h
                              · obtain rfl : j = m := (by omega)
                                exact cell_fine HCL.out (by omega) (fun h => absurd HM0.out h) (fun _ => by rw [HCZ.out]; omega)⟩
                        case measure => simp [intOf]; omega
                  · obtain ⟨y, hy, hcy⟩ := hlj hm0
                    clear hlj
                    have HY := Lib.hid hy; clear hy
                    have hmp : 0 < m := by omega
                    by_cases hxy : x < y
                    · clear hup
                      go_wp2_with fail
                      go_ret
                      exact ⟨ret_bool (tab_cell Hrow.out (j := m) (by rw [HL.out]; exact hml) (cell_left HCL.out HY.out hm0 hxy)).symm, hbel2⟩
                    · have hyx : y ≤ x := by omega
                      by_cases hk0 : k = 0
                      · have hkn : ¬ 0 < k := by omega
                        have HK0 := Lib.hid hk0
                        clear hup hk0
                        go_wp2_with fail
                        go_round
                        case rel => exact ⟨m + 1, by omega, by go_num, by
                              intro j hj
                              rcases Nat.lt_or_ge j m with h | h
                              · exact HC.out j h
                              · obtain rfl : j = m := (by omega)
                                exact cell_fine HCL.out (by omega) (fun _ => by rw [HY.out]; omega) (fun h => absurd HK0.out h)⟩
                        case measure => simp [intOf]; omega
                      · obtain ⟨up, ua, uc, hupk, hcu, hru, hLu⟩ := hup hk0
                        clear hup
                        have hkp : 0 < k := by omega
                        obtain ⟨U, hU⟩ : ∃ U, up.length = U := ⟨_, rfl⟩
                        rw [hU] at hcu hLu
                        obtain ⟨ub, uo, rfl, hurc⟩ := hru.at (k := m) (by rw [hU]; omega)
                        obtain ⟨z, hz⟩ := some_at hU (show m < U by omega)
                        have hcz := hurc m z hz
                        have HCZ := Lib.hid (cell_of hupk hz)
                        have hmU : m < U := by omega
                        clear hurc hz hU hupk
                        by_cases hxz : x ≤ z
                        · have hxz2 : x ≤ z := hxz
                          go_wp2_with fail
                          go_ret
                          exact ⟨ret_bool (tab_cell Hrow.out (j := m) (by rw [HL.out]; exact hml) (cell_up HCL.out HCZ.out hk0 hxz)).symm, hbel2⟩
                        · have hzx : z < x := by omega
                          go_wp2_with fail
                          go_round
                          case rel => exact ⟨m + 1, by omega, by go_num, by
                                intro j hj
                                rcases Nat.lt_or_ge j m with h | h
                                · exact HC.out j h
                                · obtain rfl : j = m := (by omega)
                                  exact cell_fine HCL.out (by omega) (fun _ => by rw [HY.out]; omega) (fun _ => by rw [HCZ.out]; omega)⟩
                          case measure => simp [intOf]; omega
              · obtain rfl : m = L := by omega
                have HRK := Lib.hid (row_all Hrow.out (by intro j hj; exact HC.out j (by rw [HL.out] at hj; omega)))
                clear hup
                go_wp2_with fail
                go_round
                case rel => exact ⟨k + 1, by omega, by go_num, by
                      intro j hj
                      rcases Nat.lt_or_ge j k with h | h
                      · exact HA.out j h
                      · obtain rfl : j = k := (by omega)
                        exact HRK.out⟩
                case measure => simp [intOf]; omega
          · obtain rfl : k = n := by omega
            go_wp2_with fail
            go_ret
            refine ⟨ret_bool (tab_all (by rw [Hn.out]; omega) (fun i hi => ?_) (fun i hi => HA.out i (by rw [Hn.out] at hi; omega))).symm, hbel2⟩
            have h := Hsb.out
            simp only [isShape, Bool.and_eq_true, List.all_eq_true] at h
            exact h.2 i (by rw [lens_length]; simpa using hi)

theorem tab_impl (a : Option Addr) (n c : Nat) (xss : List (List Int)) (w : World) (hr : RII w a xss) (hn : xss.length = n) (hb : n ≤ 1048576) (hsh : ShortII xss) :
    Calls Try.prog 41 #[.slice a n c] w fun e w' => ∃ b, e = .returned (.bool b) ∧ Hid (b = tabOk xss) ∧ Below w.heap.size w w' :=
  (implTab_any a n c xss w hr hn hb hsh).mono fun _ _ ⟨he, hb⟩ => ⟨_, he, rfl, hb⟩
theorem tab_spec (a : Option Addr) (n c : Nat) (xss : List (List Int)) (w : World) (hr : RII w a xss) (hn : xss.length = n) (hb : n ≤ 1048576) (hsh : ShortII xss) :
    Calls Try.prog 39 #[.slice a n c] w fun e w' => ∃ b, e = .returned (.bool b) ∧ Hid (b = tabOk xss) ∧ Below w.heap.size w w' :=
  (specTab_any a n c xss w hr hn hb hsh).mono fun _ _ ⟨he, hd⟩ => ⟨_, he, rfl, hd.below _⟩
end Go.Proofs.Ytleehkgfoicmdaa
