/-
  Contract of the reference's FormatPoly: it returns a text of at most 120000 bytes.
  Contracts of DrawFormatPoly, DrawParsePoly.
-/
import Derived.Test.YtcminkcoifkbgaaGreatDoorBuF
import Derived.Test.YtcminkcoifkbgaaGreatDoorBuQ3
import Derived.Test.YtcminkcoifkbgaaGreatDoorBuQ6
namespace Go.Proofs.YtcminkcoifkbgaaGreatDoor
open Go.RowKit

def TextPost (w : World) (e : Ending) (w' : World) : Prop := ∃ b : ByteArray, e = .returned (.string b) ∧ b.size ≤ 120000 ∧ Below w.heap.size w w'
theorem TextPost.of {w w' : World} {b : ByteArray} (h : b.size ≤ 120000) (hb : Below w.heap.size w w') : TextPost w (.returned (.string b)) w' := ⟨b, rfl, h, hb⟩
set_option maxRecDepth 100000 in
set_option maxHeartbeats 6400000 in
theorem specFormat_any (a : Option Addr) (n c : Nat) (xs : List (List Int × Int)) (w : World) (hr : RP w a xs) (hn : xs.length = n) (hb : n ≤ 1048576) :
    Calls Tryz.prog 16 #[.slice a n c] w (TextPost w) := by
  have Hn := Lib.hid hn; clear hn
  cases hok : polyOk xs
  · have Hok := Lib.hid hok
    clear hok
    go_enter Tryz.func16, Tryz.ntmps16
    go_wp2_with fail
    refine (is (specPolyOk_any _ _ _ xs _ hr Hn.out hb) Hok.out).mono ?_
    rintro e w1 ⟨rfl, hd⟩
    go_wp2
    go_ret
    exact TextPost.of (by decide) hd
  · have Hok := Lib.hid hok
    clear hok
    by_cases h0 : n = 0
    · have e0 : ((n : Int) == 0) = true := by simp; omega
      clear h0
      go_enter Tryz.func16, Tryz.ntmps16
      go_wp2_with fail
      refine (is (specPolyOk_any _ _ _ xs _ hr Hn.out hb) Hok.out).mono ?_
      rintro e w1 ⟨rfl, hd⟩
      go_wp2
      go_ret
      exact TextPost.of (by decide) hd
    · have e0 : ((n : Int) == 0) = false := by simp; omega
      have h600 : n ≤ 600 := by have := (poly_in Hok.out).1; rw [Hn.out] at this; exact this
      clear h0
      go_enter Tryz.func16, Tryz.ntmps16
      go_wp2_with fail
      refine (is (specPolyOk_any _ _ _ xs _ hr Hn.out hb) Hok.out).mono ?_
      rintro e w1 ⟨rfl, hB1⟩
      go_wp2
      go_loopw [3, 4] (fun s i wr => Hid (∃ k : Nat, ∃ u : ByteArray, k ≤ n ∧ i = .int .i64 k ∧ s = .string u ∧ u.size ≤ k * 200) ∧ Below w.heap.size w wr) (fun _ i _ => n - (intOf i).toNat)
      case atStart => exact ⟨⟨0, ⟨#[]⟩, Nat.zero_le _, rfl, rfl, by decide⟩, hB1⟩
      case round =>
        clear hB1
        obtain ⟨HV, hB⟩ := hrel
        obtain ⟨wo, rfl⟩ : ∃ wo : World, wo = wr := ⟨_, rfl⟩
        obtain ⟨k, u, hk, rfl, rfl, hus⟩ := HV.out
        clear HV
        have hbs := hB.size
        by_cases hlt : k < n
        · obtain ⟨b, off, rfl, hcell⟩ := (hr.below hB).at (k := k) (by rw [Hn.out]; exact hlt)
          obtain ⟨s, x, hx⟩ := part_at Hn.out hlt
          obtain ⟨a1, c1, hc1, hc2, hri, hcp⟩ := hcell k _ hx
          simp only at hc1 hc2 hri hcp
          have hmem := List.mem_of_getElem? hx
          obtain ⟨hs7, hnar, _, hx0, hx1⟩ := (poly_in Hok.out).2 _ hmem
          simp only at hs7 hnar hx0 hx1
          have hfs : (fmt x).size ≤ 20 := fmt_size (by omega)
          rw [hs7] at hc1 hcp
          obtain ⟨f, hf⟩ : ∃ f, fmt x = f := ⟨_, rfl⟩
          have cI : ∀ (d : Nat) (os : Array Obj), Calls Tryz.prog 37 #[.int .i64 x] (Go.Sort.grow (redrawn wo d) os) fun e w'' => e = .returned (.string f) ∧ ∃ p : Regrown, w'' = Go.Sort.grow (redrawn wo p.d) p.os := by
            intro d os
            refine Calls.regrown_of ?_
            rw [← hf]
            exact specFmt_any x (by omega) (by omega) _
          have cS : ∀ q, q ≤ 7 → ∃ g : ByteArray, g.size ≤ 147 ∧ ∀ (d : Nat) (os : Array Obj), Calls Tryz.prog 38 #[.slice a1 q c1] (Go.Sort.grow (redrawn wo d) os) fun e w'' => e = .returned (.string g) ∧ ∃ p : Regrown, w'' = Go.Sort.grow (redrawn wo p.d) p.os := by
            intro q hq
            have hnq : Narrow (s.take q) := fun z hz => hnar z (List.mem_of_mem_take hz)
            have hlq : (s.take q).length = q := by rw [List.length_take, hs7]; omega
            refine ⟨fmts (s.take q), Nat.le_trans (fmts_size hnq) (by rw [hlq]; omega), fun d os => Calls.regrown_of ?_⟩
            exact specFmts_any a1 q c1 (s.take q) _ ((hri.below (below_regrown wo d os)).taken _) hlq (by omega) hnq
          have k1 := fun d os => cell_regrown hc1 d os
          have k2 := fun d os => cell_regrown hc2 d os
          rw [hf] at hfs
          have CI := Lib.hid cI
          have CS := Lib.hid cS
          have Hs7 := Lib.hid hs7
          have q1 : (k : Int) < (n : Int) := by omega
          have hcs : (⟨#[58]⟩ : ByteArray).size = 1 := rfl
          have hms : (⟨#[44, 32]⟩ : ByteArray).size = 2 := rfl
          clear hcell hx hmem hf cI cS hnar hs7
          go_wp2
          go_loopw [5] (fun iv wr => ∃ q : Nat, q ≤ 7 ∧ iv = .int .i64 q ∧ wr = wo) (fun iv _ => (intOf iv).toNat)
          case atStart => exact ⟨7, Nat.le_refl _, rfl, rfl⟩
          case round =>
            obtain ⟨q, hq7, rfl, rfl⟩ := hrel
            by_cases hq0 : q = 0
            · subst hq0
              have hk0 : ¬ (0 : Int) < ((0 : Nat) : Int) := by omega
              obtain ⟨g, hgs, hcg⟩ := CS.out 0 (by omega)
              have CG := Lib.hid hcg
              clear hcg CS hri
              by_cases hk0' : k = 0
              · have g0 : ¬ ((0 : Int) < (k : Int)) := by omega
                have z1 : ¬ 9223372036854775807 < u.size + f.size := by omega
                have z2 : ¬ 9223372036854775807 < (u ++ f).size + (⟨#[58]⟩ : ByteArray).size := by rw [append_size]; omega
                have z3 : ¬ 9223372036854775807 < (u ++ f ++ (⟨#[58]⟩ : ByteArray)).size + g.size := by rw [append_size, append_size]; omega
                have y1 : ¬ 9223372036854775807 < u.size + f.size + 1 := by omega
                have y2 : ¬ 9223372036854775807 < u.size + f.size + 1 + g.size := by omega
                have Hsz := Lib.hid (show (u ++ f ++ (⟨#[58]⟩ : ByteArray) ++ g).size ≤ (k + 1) * 200 by rw [append_size, append_size, append_size]; omega)
                clear hk0' hcs hms
                go_wp2
                refine wp_region_quiet_below (by kernel_rfl) (by kernel_rfl) ?_
                repeat (quiet_step (first | (go_at_call 37; exact CI.out _ _) | (go_at_call 38; exact CG.out _ _)))
                refine wpQuiet_nil ?_
                intro _ hw'
                obtain ⟨⟨dq, osq⟩, hw''⟩ := hw'
                subst hw''
                have hB2 := hB.trans ((below_regrown _ dq osq).mono hbs)
                go_wp2
                go_roundw
                case rel => exact ⟨⟨k + 1, _, by omega, by go_num, rfl, Hsz.out⟩, hB2⟩
                case measure => simp [intOf]; omega
              · have g0 : (0 : Int) < (k : Int) := by omega
                have z0 : ¬ 9223372036854775807 < u.size + (⟨#[44, 32]⟩ : ByteArray).size := by omega
                have z1 : ¬ 9223372036854775807 < (u ++ (⟨#[44, 32]⟩ : ByteArray)).size + f.size := by rw [append_size]; omega
                have z2 : ¬ 9223372036854775807 < (u ++ (⟨#[44, 32]⟩ : ByteArray) ++ f).size + (⟨#[58]⟩ : ByteArray).size := by rw [append_size, append_size]; omega
                have z3 : ¬ 9223372036854775807 < (u ++ (⟨#[44, 32]⟩ : ByteArray) ++ f ++ (⟨#[58]⟩ : ByteArray)).size + g.size := by rw [append_size, append_size, append_size]; omega
                have y0 : ¬ 9223372036854775807 < u.size + 2 + f.size := by omega
                have y1 : ¬ 9223372036854775807 < u.size + 2 + f.size + 1 := by omega
                have y2 : ¬ 9223372036854775807 < u.size + 2 + f.size + 1 + g.size := by omega
                have Hsz := Lib.hid (show (u ++ (⟨#[44, 32]⟩ : ByteArray) ++ f ++ (⟨#[58]⟩ : ByteArray) ++ g).size ≤ (k + 1) * 200 by rw [append_size, append_size, append_size, append_size]; omega)
                clear hk0' hcs hms
                go_wp2
                refine wp_region_quiet_below (by kernel_rfl) (by kernel_rfl) ?_
                repeat (quiet_step (first | (go_at_call 37; exact CI.out _ _) | (go_at_call 38; exact CG.out _ _)))
                refine wpQuiet_nil ?_
                intro _ hw'
                obtain ⟨⟨dq, osq⟩, hw''⟩ := hw'
                subst hw''
                have hB2 := hB.trans ((below_regrown _ dq osq).mono hbs)
                go_wp2
                go_roundw
                case rel => exact ⟨⟨k + 1, _, by omega, by go_num, rfl, Hsz.out⟩, hB2⟩
                case measure => simp [intOf]; omega
            · obtain ⟨q', hq'⟩ : ∃ q', q = q' + 1 := ⟨q - 1, by omega⟩
              obtain ⟨b2, off2, rfl, hcx⟩ := hri.at (k := q') (by rw [Hs7.out]; omega)
              obtain ⟨z, hz⟩ := some_at (k := q') Hs7.out (by omega)
              have hcz := hcx q' z hz
              have r0 : (0 : Int) < (q : Int) := by omega
              have r1 : IntKind.i64.wrap ((q : Int) - 1) = (q' : Int) := by rw [IntWalk.i64_in _ (by omega)]; omega
              have r2 : (q' : Int) < 7 := by omega
              have Hqq := Lib.hid hq'
              clear hcx hz hq'
              by_cases hz0 : z = 0
              · have hzb : (z == 0) = true := by simp [hz0]
                go_wp2
                go_roundw
                case rel => exact ⟨q', by have := Hqq.out; omega, by first | rfl | go_num, by first | rfl | trivial⟩
                case measure => have := Hqq.out; simp [intOf]; omega
              · have hzb : (z == 0) = false := by simp [hz0]
                obtain ⟨g, hgs, hcg⟩ := CS.out q hq7
                have CG := Lib.hid hcg
                have hcq : q ≤ c1 := by omega
                have hc0 : ¬ c1 = 0 := by omega
                clear hcg CS hri hz0
                by_cases hk0' : k = 0
                · have g0 : ¬ ((0 : Int) < (k : Int)) := by omega
                  have z1 : ¬ 9223372036854775807 < u.size + f.size := by omega
                  have z2 : ¬ 9223372036854775807 < (u ++ f).size + (⟨#[58]⟩ : ByteArray).size := by rw [append_size]; omega
                  have z3 : ¬ 9223372036854775807 < (u ++ f ++ (⟨#[58]⟩ : ByteArray)).size + g.size := by rw [append_size, append_size]; omega
                  have y1 : ¬ 9223372036854775807 < u.size + f.size + 1 := by omega
                  have y2 : ¬ 9223372036854775807 < u.size + f.size + 1 + g.size := by omega
                  have Hsz := Lib.hid (show (u ++ f ++ (⟨#[58]⟩ : ByteArray) ++ g).size ≤ (k + 1) * 200 by rw [append_size, append_size, append_size]; omega)
                  clear hk0' hcs hms
                  go_wp2
                  refine wp_region_quiet_below (by kernel_rfl) (by kernel_rfl) ?_
                  repeat (quiet_step (first | (go_at_call 37; exact CI.out _ _) | (go_at_call 38; exact CG.out _ _)))
                  refine wpQuiet_nil ?_
                  intro _ hw'
                  obtain ⟨⟨dq, osq⟩, hw''⟩ := hw'
                  subst hw''
                  have hB2 := hB.trans ((below_regrown _ dq osq).mono hbs)
                  go_wp2
                  go_roundw
                  case rel => exact ⟨⟨k + 1, _, by omega, by go_num, rfl, Hsz.out⟩, hB2⟩
                  case measure => simp [intOf]; omega
                · have g0 : (0 : Int) < (k : Int) := by omega
                  have z0 : ¬ 9223372036854775807 < u.size + (⟨#[44, 32]⟩ : ByteArray).size := by omega
                  have z1 : ¬ 9223372036854775807 < (u ++ (⟨#[44, 32]⟩ : ByteArray)).size + f.size := by rw [append_size]; omega
                  have z2 : ¬ 9223372036854775807 < (u ++ (⟨#[44, 32]⟩ : ByteArray) ++ f).size + (⟨#[58]⟩ : ByteArray).size := by rw [append_size, append_size]; omega
                  have z3 : ¬ 9223372036854775807 < (u ++ (⟨#[44, 32]⟩ : ByteArray) ++ f ++ (⟨#[58]⟩ : ByteArray)).size + g.size := by rw [append_size, append_size, append_size]; omega
                  have y0 : ¬ 9223372036854775807 < u.size + 2 + f.size := by omega
                  have y1 : ¬ 9223372036854775807 < u.size + 2 + f.size + 1 := by omega
                  have y2 : ¬ 9223372036854775807 < u.size + 2 + f.size + 1 + g.size := by omega
                  have Hsz := Lib.hid (show (u ++ (⟨#[44, 32]⟩ : ByteArray) ++ f ++ (⟨#[58]⟩ : ByteArray) ++ g).size ≤ (k + 1) * 200 by rw [append_size, append_size, append_size, append_size]; omega)
                  clear hk0' hcs hms
                  go_wp2
                  refine wp_region_quiet_below (by kernel_rfl) (by kernel_rfl) ?_
                  repeat (quiet_step (first | (go_at_call 37; exact CI.out _ _) | (go_at_call 38; exact CG.out _ _)))
                  refine wpQuiet_nil ?_
                  intro _ hw'
                  obtain ⟨⟨dq, osq⟩, hw''⟩ := hw'
                  subst hw''
                  have hB2 := hB.trans ((below_regrown _ dq osq).mono hbs)
                  go_wp2
                  go_roundw
                  case rel => exact ⟨⟨k + 1, _, by omega, by go_num, rfl, Hsz.out⟩, hB2⟩
                  case measure => simp [intOf]; omega
        · obtain rfl : k = n := by omega
          go_wp2
          go_ret
          exact TextPost.of (by omega) hB
end Go.Proofs.YtcminkcoifkbgaaGreatDoor

namespace Go.Proofs.YtcminkcoifkbgaaGreatDoor
open Go.RowKit

def DfPost (w : World) (e : Ending) (w' : World) : Prop :=
  ∃ ys a' n' c', e = .returned (.slice a' n' c') ∧ RP w' a' ys ∧ ys.length = n' ∧ n' ≤ 1000 ∧ n' ≤ c' ∧ Below w.heap.size w w'
set_option maxRecDepth 100000 in
set_option maxHeartbeats 3200000 in
theorem drawFormat_any (a : Option Addr) (m c : Nat) (xs : List Int) (w : World) (hr : RB w a xs) (hm : xs.length = m) (hb : m ≤ 1048576) (hx : Bytes xs) :
    Calls Tryz.prog 5 #[.slice a m c] w (DfPost w) := by
  go_enter Tryz.func5, Tryz.ntmps5
  go_wp2_with fail
  refine (l1New_any _ _ _ xs _ hr hm hb hx).mono ?_
  rintro e w1 ⟨rfl, hC1, hB1, hz1⟩
  clear hr
  go_wp2_with fail
  refine (dBentPoly_any _ _ _ _ _ _ hC1).mono ?_
  rintro e w2 ⟨ys, a2, n2, c2, rfl, h1, h2, h3, h4, hC2, hO2⟩
  have H := Lib.hid (show RP w2 a2 ys ∧ ys.length = n2 ∧ n2 ≤ 1000 ∧ n2 ≤ c2 ∧ Below w.heap.size w w2 from ⟨h1, h2, h3, h4, hO2.below hB1 (Nat.le_refl _) (by omega)⟩)
  clear h1 h2 h3 h4 hC1 hC2 hO2
  go_wp2
  go_ret
  exact ⟨_, _, _, _, rfl, H.out⟩
def DsPost (w : World) (e : Ending) (w' : World) : Prop := ∃ b : ByteArray, e = .returned (.string b) ∧ b.size ≤ 200000 ∧ Below w.heap.size w w'
set_option maxRecDepth 100000 in
set_option maxHeartbeats 3200000 in
theorem drawParse_any (a : Option Addr) (m c : Nat) (xs : List Int) (w : World) (hr : RB w a xs) (hm : xs.length = m) (hb : m ≤ 1048576) (hx : Bytes xs) :
    Calls Tryz.prog 6 #[.slice a m c] w (DsPost w) := by
  go_enter Tryz.func6, Tryz.ntmps6
  go_wp2_with fail
  refine (l1New_any _ _ _ xs _ hr hm hb hx).mono ?_
  rintro e w1 ⟨rfl, hC1, hB1, hz1⟩
  clear hr
  go_wp2_with fail
  refine (dPoly_any _ _ _ _ _ _ hC1).mono ?_
  rintro e w2 ⟨F, a2, n2, c2, rfl, hF, ho2, hC2, hO2⟩
  have hlen := ho2.len
  have hfew := hF.few
  have hn2 : n2 ≤ 5 := by rw [← hlen, termsM, List.length_map]; exact Nat.le_trans (canon_len_le F) hfew
  have hrd := ho2.rd
  clear hC1 hF ho2 hfew
  go_wp2_with fail
  refine (specFormat_any _ _ _ _ _ hrd hlen (by omega)).mono ?_
  rintro e w3 ⟨u, rfl, hu, hB3⟩
  have hC3 := hC2.below hB3
  have hO3 := hO2.laid hB3
  have hz2 := hO3.size
  clear hrd hC2 hO2 hB3
  go_wp2_with fail
  refine (l1Once_any 4 (by omega) (by omega) _ _ _ _ _ _ hC3).mono ?_
  rintro e w4 ⟨bb, rfl, hC4, hO4⟩
  have hO4' := hO3.trans hO4
  have hz4 := hO4.size
  clear hC3 hO4 hO3
  cases bb
  · have H := Lib.hid (hO4'.below hB1 (Nat.le_refl _) (by omega))
    clear hC4 hO4'
    go_wp2
    go_ret
    exact ⟨_, rfl, by omega, H.out⟩
  · obtain ⟨W, hW⟩ : ∃ W, w4.alloc (.cells #[.string ⟨#[44]⟩, .string ⟨#[44, 32, 49, 58]⟩, .string ⟨#[32]⟩, .string ⟨#[44, 32, 48, 58, 49]⟩, .string ⟨#[58]⟩, .string ⟨#[44, 32, 49, 58, 48, 32, 48]⟩, .string ⟨#[44, 32, 53]⟩] 9) = W := ⟨_, rfl⟩
    have hBW : Below w4.heap.size w4 W := by rw [← hW]; exact (Below.refl _ _).alloc (Nat.le_refl _) _
    have g0 : W.heap[w4.heap.size]? = some (.cells #[.string ⟨#[44]⟩, .string ⟨#[44, 32, 49, 58]⟩, .string ⟨#[32]⟩, .string ⟨#[44, 32, 48, 58, 49]⟩, .string ⟨#[58]⟩, .string ⟨#[44, 32, 49, 58, 48, 32, 48]⟩, .string ⟨#[44, 32, 53]⟩] 9) := by rw [← hW]; exact heap_alloc_new w4 _
    have hcell : ∀ k x, ([⟨#[44]⟩, ⟨#[44, 32, 49, 58]⟩, ⟨#[32]⟩, ⟨#[44, 32, 48, 58, 49]⟩, ⟨#[58]⟩, ⟨#[44, 32, 49, 58, 48, 32, 48]⟩, ⟨#[44, 32, 53]⟩] : List ByteArray)[k]? = some x → W.cell? ⟨w4.heap.size, k, none⟩ = some (.string x) := by
      intro k x hk
      rw [cell_of_row W _ k _ _ (0, 0) g0]
      rcases k with _ | _ | _ | _ | _ | _ | _ | k
      all_goals first | (simp at hk; subst hk; rfl) | simp at hk
    have hsm : ∀ x ∈ ([⟨#[44]⟩, ⟨#[44, 32, 49, 58]⟩, ⟨#[32]⟩, ⟨#[44, 32, 48, 58, 49]⟩, ⟨#[58]⟩, ⟨#[44, 32, 49, 58, 48, 32, 48]⟩, ⟨#[44, 32, 53]⟩] : List ByteArray), x.size ≤ 7 := by decide
    have hC5 := hC4.below hBW
    have hO5 := hO4'.laid hBW
    have hzW : w4.heap.size < W.heap.size := (Array.getElem?_eq_some_iff.1 g0).1
    have HS := Lib.hid hsm
    have HCL := Lib.hid hcell
    have hgz : w.heap.size < w4.heap.size := by omega
    clear hC4 hO4' hBW g0 hcell hsm
    go_wp2_with fail
    refine (l1Pick_any _ _ _ _ rfl (by decide) (by decide) _ _ _ _ _ _ hC5 HCL.out hgz hzW).mono ?_
    rintro e w6 ⟨y, hy, rfl, hC6, hO6⟩
    have hys := HS.out y hy
    have hz6 := hO6.size
    have H := Lib.hid ((hO5.trans hO6).below hB1 (Nat.le_refl _) (by omega))
    have z1 : ¬ 9223372036854775807 < u.size + y.size := by omega
    have Hsz := Lib.hid (show (u ++ y).size ≤ 200000 by rw [append_size]; omega)
    clear hC5 hO5 hC6 hO6 HCL HS hy
    go_wp2
    go_ret
    exact ⟨_, rfl, Hsz.out, H.out⟩
end Go.Proofs.YtcminkcoifkbgaaGreatDoor
