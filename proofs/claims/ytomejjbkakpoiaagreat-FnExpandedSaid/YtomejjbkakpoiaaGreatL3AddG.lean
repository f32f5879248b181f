/-
  Contract of l3Add: what is known of the classes that come out.
-/
import Derived.Test.YtomejjbkakpoiaaGreatL3Add
namespace Go.Proofs.YtomejjbkakpoiaaGreat
open Go.RowKit

/-- a class of the list, or the new permutation with the number or the sum -/
def FromAdd (xs : List (List Int × Int)) (v : List Int) (x : Int) (z : List Int × Int) : Prop := z ∈ xs ∨ (z.1 = v ∧ (z.2 = x ∨ ∃ q ∈ xs, z.2 = q.2 + x))
def AddPost (w : World) (n : Nat) (xs : List (List Int × Int)) (v : List Int) (x : Int) (e : Ending) (w' : World) : Prop :=
  ∃ a' n' c' zs, e = .returned (.slice a' n' c') ∧ KN w' w.heap.size w'.heap.size a' n' c' zs ∧ Hid (zs.length ≤ n + 1 ∧ ∀ z ∈ zs, FromAdd xs v x z) ∧ Below w.heap.size w w'

set_option maxRecDepth 100000 in
set_option maxHeartbeats 6400000 in
theorem l3Add_from (a : Option Addr) (n c : Nat) (xs : List (List Int × Int)) (b : Option Addr) (m d : Nat) (p : List Int) (x : Int) (w : World) (hr : RP w a xs) (hn : xs.length = n) (hb : n ≤ 100000) (hsh : Short_P xs)
    (hrp : RI w b p) (hm : p.length = m) (hmb : m ≤ 1048576) (hmd : m ≤ d) (hx : -1000000 ≤ x ∧ x ≤ 1000000) (hxs : ∀ q ∈ xs, -1000000 ≤ q.2 ∧ q.2 ≤ 1000000) {v : List Int} (hv : p.take (trimLen p m) = v) :
    Calls Tryz.prog 85 #[.slice a n c, .slice b m d, .int .i64 x] w (AddPost w n xs v x) := by
  have Hn := Lib.hid hn
  have Hm := Lib.hid hm
  have Hsh := Lib.hid hsh
  have Hxs := Lib.hid hxs
  obtain ⟨l, hl⟩ : ∃ l, trimLen p m = l := ⟨_, rfl⟩
  have hlm : l ≤ m := by rw [← hl]; exact trimLen_le p m
  have Hvl := Lib.hid (show v.length = l by rw [← hv, List.length_take, hl, hm]; omega)
  have HT := Lib.hid (fun w => l1Trim_any b m d p w)
  rw [hl, show p.take l = v by rw [← hl]; exact hv] at HT
  obtain ⟨x0, hx0⟩ : ∃ x0, (x == 0) = x0 := ⟨_, rfl⟩
  clear hn hm hl hv hsh hxs
  go_enter Tryz.func85, Tryz.ntmps85
  go_wp2_with fail
  refine (HT.out _ hrp Hm.out hmb hmd).mono ?_
  rintro e w1 ⟨a7, c7, rfl, ho7, hb7⟩
  have hz7 := hb7.size
  have hBa : Below w1.heap.size w1 (w1.alloc (.cells #[] 52)) := (Below.refl _ _).alloc (Nat.le_refl _) _
  have HV0 := Lib.hid ((ho7.below hBa).mono (B' := w.heap.size) (S' := (w1.alloc (.cells #[] 52)).heap.size) (Nat.le_refl _) hBa.size)
  have HK0 := Lib.hid ((KN.made w1).mono (B' := w.heap.size) (S' := (w1.alloc (.cells #[] 52)).heap.size) hz7 (Nat.le_refl _))
  have hB0 := hb7.trans (hBa.mono hz7)
  clear ho7 hb7 hBa
  go_wp2
  go_loopw [8, 9, 10] (fun ov dv iv wr => Hid (∃ (i : Nat) (d : Bool) (a1 : Option Addr) (m1 c1 : Nat) (zs : List (List Int × Int)), iv = .int .i64 i ∧ i ≤ n ∧ dv = .bool d ∧ ov = .slice a1 m1 c1 ∧ KN wr w.heap.size wr.heap.size a1 m1 c1 zs ∧ OwI wr w.heap.size wr.heap.size a7 l c7 v ∧ m1 ≤ i + (if d = true then 1 else 0) ∧ ∀ z ∈ zs, FromAdd xs v x z) ∧ Below w.heap.size w wr) (fun _ _ iv _ => n - (intOf iv).toNat)
  case atStart => exact ⟨⟨0, x0, _, _, _, [], rfl, Nat.zero_le _, rfl, rfl, HK0.out, HV0.out, Nat.zero_le _, fun z h => by cases h⟩, hB0⟩
  case round =>
    clear HK0 HV0 hB0
    obtain ⟨HV, hB⟩ := hrel
    obtain ⟨wo, rfl⟩ : ∃ wo : World, wo = wr := ⟨_, rfl⟩
    obtain ⟨i, dd, a1, m1, c1, zs, rfl, hi, rfl, rfl, hK, hv, hm1, hzs⟩ := HV.out
    clear HV
    have hbs := hB.size
    have Hzs := Lib.hid hzs
    clear hzs
    by_cases hlt : i < n
    · obtain ⟨s, y, hx1⟩ := part_at Hn.out hlt
      obtain ⟨bb, off, rfl, hcell⟩ := hr.at (k := i) (by rw [Hn.out]; exact hlt)
      obtain ⟨a2, c2, p1, p2, hri, hcap⟩ := hcell i _ hx1
      simp only at p1 p2 hri hcap
      have hsl : s.length ≤ 1048576 := Hsh.out (s, y) (List.mem_of_getElem? hx1)
      have hyb : -1000000 ≤ y ∧ y ≤ 1000000 := Hxs.out (s, y) (List.mem_of_getElem? hx1)
      obtain ⟨sl, hl⟩ : ∃ sl, s.length = sl := ⟨_, rfl⟩
      rw [hl] at p1 hcap hsl
      have Hl := Lib.hid hl
      have hbz : bb < w.heap.size := World.block_lt_of_cell? _ _ p1
      have S_of : ∀ w2, Below w.heap.size w w2 → w2.cell? ⟨bb, off + i * 2, none⟩ = some (.slice a2 sl c2) ∧ w2.cell? ⟨bb, off + i * 2 + 1, none⟩ = some (.int .i64 y) := by
        intro w2 hb2
        exact ⟨by rw [hb2.cell (p := ⟨bb, off + i * 2, none⟩) hbz]; exact p1, by rw [hb2.cell (p := ⟨bb, off + i * 2 + 1, none⟩) hbz]; exact p2⟩
      have HR := Lib.hid (fun w2 (h : Below w.heap.size w w2) => hri.below h)
      have q1 : (i : Int) < (n : Int) := by omega
      have Hin := Lib.hid (List.mem_of_getElem? hx1)
      have Hcopy := Lib.hid (fun (ys : List (List Int × Int)) (h : ∀ z ∈ ys, FromAdd xs v x z) => show ∀ z ∈ ys ++ [(s, y)], FromAdd xs v x z from fun z hz => by
        rcases List.mem_append.1 hz with hz | hz
        · exact h z hz
        · rw [List.mem_singleton] at hz
          subst hz
          exact .inl Hin.out)
      have Hput := Lib.hid (fun (ys : List (List Int × Int)) (t : Int) (ht : t = x ∨ t = y + x) (h : ∀ z ∈ ys, FromAdd xs v x z) => show ∀ z ∈ ys ++ [(v, t)], FromAdd xs v x z from fun z hz => by
        rcases List.mem_append.1 hz with hz | hz
        · exact h z hz
        · rw [List.mem_singleton] at hz
          subst hz
          refine .inr ⟨rfl, ?_⟩
          rcases ht with ht | ht
          · exact .inl ht
          · exact .inr ⟨(s, y), Hin.out, ht⟩)
      have y1 := (S_of wo hB).1
      have y2 := (S_of wo hB).2
      clear hcell hx1 hl p1 p2 hri
      cases dd with
      | true =>
        rw [if_pos rfl] at hm1
        have HKd := Lib.hid (hK.below (Drew.below (Drew.drewN wo 1) _))
        have Hv1 := Lib.hid (hv.below (Drew.below (Drew.drewN wo 1) _))
        have d1 : Below w.heap.size w wo.drew := hB.trans (Drew.below ⟨1, rfl⟩ _)
        have hds : wo.heap.size = wo.drew.heap.size := rfl
        have hbsd : w.heap.size ≤ wo.drew.heap.size := d1.size
        have HZ := Lib.hid (Hcopy.out _ Hzs.out)
        clear hK hv y1 y2
        go_wp2
        go_region_held3 (fun w' => w'.cell? ⟨bb, off + i * 2, none⟩ = some (.slice a2 sl c2) ∧ w'.cell? ⟨bb, off + i * 2 + 1, none⟩ = some (.int .i64 y)) ((first | exact S_of _ hB | exact S_of _ d1 | exact S_of _ hB5 | exact S_of _ (Below.alloc hB5 (Below.size hB5) _) | exact S_of _ ‹_›))
          ((first | (go_at_call 66; refine (l1Ints_any _ _ _ s _ (HR.out _ (by first | exact hB | exact d1)) Hl.out hsl).mono ?_; rintro e w5 ⟨a5, c5, rfl, ho5, hb5⟩; have hB5 := d1.trans (hb5.mono (Below.size d1)); have HK5 := Lib.hid (KN.below HKd.out hb5); have Hv5 := Lib.hid (OwI.below Hv1.out hb5); have Ho5 := Lib.hid ho5; have hs5 := hb5.size; clear ho5 hb5) | (refine step_pushN (by rfl) (by rfl) _ _ (by rfl) HK5.out (by rfl) Ho5.out (Below.size d1) (by rfl) (by omega) (Below.size hB5) hs5 (Nat.le_refl _) ?_; intro a6 c6 w6 ho6 hg6; have hB6 := below_grown (v := .slice a1 m1 c1) hB5 hg6 (Below.size hB5) HK5.out.lo; have Hv6 := Lib.hid ((KN.keep HK5.out Hv5.out hg6).mono (B' := w.heap.size) (S' := w6.heap.size) (Nat.le_refl _) (Nat.le_trans hs5 hg6.size)))))
        have HF := Lib.hid ho6
        clear ho6 hg6 S_of d1 hB5 HKd Hv1 HK5 Hv5 Ho5
        go_wp2
        go_roundw
        case rel => exact ⟨⟨i + 1, true, _, _, _, _, by go_num, by omega, rfl, rfl, HF.out, Hv6.out, by simp; omega, HZ.out⟩, hB6⟩
        case measure => simp [intOf]; omega
      | false =>
        rw [if_neg (by simp)] at hm1
        have HK1 := Lib.hid hK
        have Hv0 := Lib.hid hv
        clear hK hv
        cases hls : less s v
        · have Hls := Lib.hid hls
          clear hls
          go_wp2_with fail
          refine (is (l1Less_any _ _ _ _ _ _ s v _ (HR.out _ hB) Hv0.out.rd Hl.out Hvl.out (by omega) (by omega)) Hls.out).mono ?_
          rintro e w2 ⟨rfl, hd2⟩
          have hBb := hB.trans (hd2.below _)
          have HK2 := Lib.hid (HK1.out.below (hd2.below _))
          have Hv2 := Lib.hid (Hv0.out.below (hd2.below _))
          have y3 := (S_of w2 hBb).1
          have y4 := (S_of w2 hBb).2
          have hz2 := (hd2.below wo.heap.size).size
          clear HK1 Hv0 hd2 y1 y2
          by_cases hsv : s = v
          · have Hsv := Lib.hid (show decide (s = v) = true by simpa using hsv)
            clear hsv
            go_wp2_with fail
            refine (is (l1Same_any _ _ _ _ _ _ s v _ (HR.out _ hBb) Hv2.out.rd Hl.out Hvl.out (by omega)) Hsv.out).mono ?_
            rintro e w3 ⟨rfl, hd3⟩
            have hBc := hBb.trans (hd3.below _)
            have HK3 := Lib.hid (HK2.out.below (hd3.below _))
            have Hv3 := Lib.hid (Hv2.out.below (hd3.below _))
            have hz3 := (hd3.below w2.heap.size).size
            have hbs3 := hBc.size
            have hz23 : wo.heap.size ≤ w3.heap.size := Nat.le_trans hz2 hz3
            have y5 := (S_of w3 hBc).1
            have y6 := (S_of w3 hBc).2
            have q4 : IntKind.i64.wrap (y + x) = y + x := IntWalk.i64_in _ (by omega)
            clear HK2 Hv2 hd3 y3 y4
            by_cases hyx : y + x = 0
            · have q5 : (y + x == 0) = true := by simpa using hyx
              have HF := Lib.hid (HK3.out.mono (B' := w.heap.size) (S' := w3.heap.size) (Nat.le_refl _) hz23)
              have HFv := Lib.hid (Hv3.out.mono (B' := w.heap.size) (S' := w3.heap.size) (Nat.le_refl _) hz23)
              go_wp2
              go_roundw
              case rel => exact ⟨⟨i + 1, true, _, _, _, _, by go_num, by omega, rfl, rfl, HF.out, HFv.out, by simp; omega, Hzs.out⟩, hBc⟩
              case measure => simp [intOf]; omega
            · have q5 : (y + x == 0) = false := by simpa using hyx
              obtain ⟨t, ht⟩ : ∃ t, y + x = t := ⟨_, rfl⟩
              have HZ := Lib.hid (Hput.out zs t (.inr ht.symm) Hzs.out)
              go_wp2_with (first | (at_builtin; go_loud (refine wpList_pushN (by rfl) (by rfl) _ _ (by rfl) HK3.out (by rfl) Hv3.out (Nat.le_refl _) (by rfl) (by rfl) (by omega) hbs3 hz23 hz23 ?_)))
              intro a4 c4 w4 ho4 hg4
              have hBd := below_grown (v := .slice a1 m1 c1) hBc hg4 hbs3 HK3.out.lo
              have Hv4 := Lib.hid ((KN.keep HK3.out Hv3.out hg4).mono (B' := w.heap.size) (S' := w4.heap.size) (Nat.le_refl _) (Nat.le_trans hz23 hg4.size))
              have HF := Lib.hid ho4
              clear ho4 hg4 HK3 Hv3
              go_wp2
              go_roundw
              case rel => exact ⟨⟨i + 1, true, _, _, _, _, by go_num, by omega, rfl, rfl, HF.out, Hv4.out, by simp; omega, HZ.out⟩, hBd⟩
              case measure => simp [intOf]; omega
          · have Hsv := Lib.hid (show decide (s = v) = false by simpa using hsv)
            clear hsv
            go_wp2_with fail
            refine (is (l1Same_any _ _ _ _ _ _ s v _ (HR.out _ hBb) Hv2.out.rd Hl.out Hvl.out (by omega)) Hsv.out).mono ?_
            rintro e w3 ⟨rfl, hd3⟩
            have hBc := hBb.trans (hd3.below _)
            have HK3 := Lib.hid (HK2.out.below (hd3.below _))
            have Hv3 := Lib.hid (Hv2.out.below (hd3.below _))
            have hz3 := (hd3.below w2.heap.size).size
            have hbs3 := hBc.size
            have hz23 : wo.heap.size ≤ w3.heap.size := Nat.le_trans hz2 hz3
            clear HK2 Hv2 hd3 y3 y4
            go_wp2_with (first | (at_builtin; go_loud (refine wpList_pushN (by rfl) (by rfl) _ _ (by rfl) HK3.out (by rfl) Hv3.out (Nat.le_refl _) (by rfl) (by rfl) (by omega) hbs3 hz23 hz23 ?_)))
            intro a4 c4 w4 ho4 hg4
            have HZ1 := Lib.hid (Hput.out zs x (.inl rfl) Hzs.out)
            have hBd := below_grown (v := .slice a1 m1 c1) hBc hg4 hbs3 HK3.out.lo
            have hv4 := ((KN.keep HK3.out Hv3.out hg4).mono (B' := w.heap.size) (S' := w4.heap.size) (Nat.le_refl _) (Nat.le_trans hz23 hg4.size))
            have HKd := Lib.hid (ho4.below (Drew.below (Drew.drewN w4 1) _))
            have Hv1 := Lib.hid (hv4.below (Drew.below (Drew.drewN w4 1) _))
            have d1 : Below w.heap.size w w4.drew := hBd.trans (Drew.below ⟨1, rfl⟩ _)
            have hds : w4.heap.size = w4.drew.heap.size := rfl
            have hbsd : w.heap.size ≤ w4.drew.heap.size := d1.size
            have HZ := Lib.hid (Hcopy.out _ HZ1.out)
            clear ho4 hg4 hv4 HK3 Hv3 hBb
            go_wp2
            go_region_held3 (fun w' => w'.cell? ⟨bb, off + i * 2, none⟩ = some (.slice a2 sl c2) ∧ w'.cell? ⟨bb, off + i * 2 + 1, none⟩ = some (.int .i64 y)) ((first | exact S_of _ hBd | exact S_of _ d1 | exact S_of _ hB5 | exact S_of _ (Below.alloc hB5 (Below.size hB5) _) | exact S_of _ ‹_›))
              ((first | (go_at_call 66; refine (l1Ints_any _ _ _ s _ (HR.out _ (by first | exact hBd | exact d1)) Hl.out hsl).mono ?_; rintro e w5 ⟨a5, c5, rfl, ho5, hb5⟩; have hB5 := d1.trans (hb5.mono (Below.size d1)); have HK5 := Lib.hid (KN.below HKd.out hb5); have Hv5 := Lib.hid (OwI.below Hv1.out hb5); have Ho5 := Lib.hid ho5; have hs5 := hb5.size; clear ho5 hb5) | (refine step_pushN (by rfl) (by rfl) _ _ (by rfl) HK5.out (by rfl) Ho5.out (Below.size d1) (by rfl) (by omega) (Below.size hB5) hs5 (Nat.le_refl _) ?_; intro a6 c6 w6 ho6 hg6; have hB6 := below_grown (v := .slice a4 (m1 + 1) c4) hB5 hg6 (Below.size hB5) HK5.out.lo; have Hv6 := Lib.hid ((KN.keep HK5.out Hv5.out hg6).mono (B' := w.heap.size) (S' := w6.heap.size) (Nat.le_refl _) (Nat.le_trans hs5 hg6.size)))))
            have HF := Lib.hid ho6
            clear ho6 hg6 S_of d1 hB5 HKd Hv1 HK5 Hv5 Ho5
            go_wp2
            go_roundw
            case rel => exact ⟨⟨i + 1, true, _, _, _, _, by go_num, by omega, rfl, rfl, HF.out, Hv6.out, by simp; omega, HZ.out⟩, hB6⟩
            case measure => simp [intOf]; omega
        · have Hls := Lib.hid hls
          clear hls
          go_wp2_with fail
          refine (is (l1Less_any _ _ _ _ _ _ s v _ (HR.out _ hB) Hv0.out.rd Hl.out Hvl.out (by omega) (by omega)) Hls.out).mono ?_
          rintro e w2 ⟨rfl, hd2⟩
          have hBb := hB.trans (hd2.below _)
          have hz2 := (hd2.below wo.heap.size).size
          have HKd := Lib.hid ((HK1.out.below (hd2.below _)).below (Drew.below (Drew.drewN w2 1) _))
          have Hv1 := Lib.hid ((Hv0.out.below (hd2.below _)).below (Drew.below (Drew.drewN w2 1) _))
          have d1 : Below w.heap.size w w2.drew := hBb.trans (Drew.below ⟨1, rfl⟩ _)
          have hds : w2.heap.size = w2.drew.heap.size := rfl
          have hbsd : w.heap.size ≤ w2.drew.heap.size := d1.size
          have HZ := Lib.hid (Hcopy.out _ Hzs.out)
          clear HK1 Hv0 hd2 y1 y2
          go_wp2
          go_region_held3 (fun w' => w'.cell? ⟨bb, off + i * 2, none⟩ = some (.slice a2 sl c2) ∧ w'.cell? ⟨bb, off + i * 2 + 1, none⟩ = some (.int .i64 y)) ((first | exact S_of _ hBb | exact S_of _ d1 | exact S_of _ hB5 | exact S_of _ (Below.alloc hB5 (Below.size hB5) _) | exact S_of _ ‹_›))
            ((first | (go_at_call 66; refine (l1Ints_any _ _ _ s _ (HR.out _ (by first | exact hBb | exact d1)) Hl.out hsl).mono ?_; rintro e w5 ⟨a5, c5, rfl, ho5, hb5⟩; have hB5 := d1.trans (hb5.mono (Below.size d1)); have HK5 := Lib.hid (KN.below HKd.out hb5); have Hv5 := Lib.hid (OwI.below Hv1.out hb5); have Ho5 := Lib.hid ho5; have hs5 := hb5.size; clear ho5 hb5) | (refine step_pushN (by rfl) (by rfl) _ _ (by rfl) HK5.out (by rfl) Ho5.out (Below.size d1) (by rfl) (by omega) (Below.size hB5) (Nat.le_trans hz2 hs5) (Nat.le_refl _) ?_; intro a6 c6 w6 ho6 hg6; have hB6 := below_grown (v := .slice a1 m1 c1) hB5 hg6 (Below.size hB5) HK5.out.lo; have Hv6 := Lib.hid ((KN.keep HK5.out Hv5.out hg6).mono (B' := w.heap.size) (S' := w6.heap.size) (Nat.le_refl _) (Nat.le_trans (Nat.le_trans hz2 hs5) hg6.size)))))
          have HF := Lib.hid ho6
          clear ho6 hg6 S_of d1 hB5 HKd Hv1 HK5 Hv5 Ho5
          go_wp2
          go_roundw
          case rel => exact ⟨⟨i + 1, false, _, _, _, _, by go_num, by omega, rfl, rfl, HF.out, Hv6.out, by simp; omega, HZ.out⟩, hB6⟩
          case measure => simp [intOf]; omega
    · obtain rfl : i = n := by omega
      have q1 : ¬ (i : Int) < (i : Int) := by omega
      cases dd with
      | true =>
        rw [if_pos rfl] at hm1
        have HK := Lib.hid hK
        have hlen := Lib.hid (show zs.length ≤ i + 1 by rw [hK.len]; exact hm1)
        clear hK hv
        go_wp2
        go_ret
        exact ⟨_, _, _, _, rfl, HK.out, ⟨hlen.out, Hzs.out⟩, hB⟩
      | false =>
        rw [if_neg (by simp)] at hm1
        have HK1 := Lib.hid hK
        have Hv0 := Lib.hid hv
        have HZ := Lib.hid (show ∀ z ∈ zs ++ [(v, x)], FromAdd xs v x z from fun z hz => by
          rcases List.mem_append.1 hz with hz | hz
          · exact Hzs.out z hz
          · rw [List.mem_singleton] at hz
            subst hz
            exact .inr ⟨rfl, .inl rfl⟩)
        have hlen := Lib.hid (show (zs ++ [(v, x)]).length ≤ i + 1 by rw [List.length_append, hK.len]; simp; omega)
        clear hK hv
        go_wp2_with (first | (at_builtin; go_loud (refine wpList_pushN (by rfl) (by rfl) _ _ (by rfl) HK1.out (by rfl) Hv0.out (Nat.le_refl _) (by rfl) (by rfl) (by omega) hbs (Nat.le_refl _) (Nat.le_refl _) ?_)))
        intro a4 c4 w4 ho4 hg4
        have hBd := below_grown (v := .slice a1 m1 c1) hB hg4 hbs HK1.out.lo
        have HF := Lib.hid ho4
        clear ho4 hg4 HK1 Hv0
        go_wp2
        go_ret
        exact ⟨_, _, _, _, rfl, HF.out, ⟨hlen.out, HZ.out⟩, hBd⟩
end Go.Proofs.YtomejjbkakpoiaaGreat
