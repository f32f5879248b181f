/-
  Contract of l3Add, for a permutation that is not there yet.
-/
import Derived.Test.YtocgcgmlemoekaaKN
import Derived.Test.YtocgcgmlemoekaaSameI
import Derived.Test.YtocgcgmlemoekaaTrim
import Derived.Deep.RegionHeld3
namespace Go.Proofs.Ytocgcgmlemoekaa
open Go.RowKit

def insAt (v : List Int) (xs : List (List Int × Int)) : Nat := (xs.takeWhile fun p => less p.1 v).length
theorem insAt_take (v : List Int) (xs : List (List Int × Int)) : xs.takeWhile (fun p => less p.1 v) = xs.take (insAt v xs) := by
  unfold insAt
  induction xs with
  | nil => rfl
  | cons p xs ih =>
    rw [List.takeWhile_cons]
    split
    · rw [List.length_cons, List.take_succ_cons, ← ih]
    · rfl
theorem insAt_drop (v : List Int) (xs : List (List Int × Int)) : xs.dropWhile (fun p => less p.1 v) = xs.drop (insAt v xs) := by
  unfold insAt
  induction xs with
  | nil => rfl
  | cons p xs ih =>
    rw [List.takeWhile_cons, List.dropWhile_cons]
    split
    · rw [List.length_cons, List.drop_succ_cons, ← ih]
    · rfl
theorem insAt_less {v : List Int} {xs : List (List Int × Int)} : ∀ {i : Nat} {p : List Int × Int}, i < insAt v xs → xs[i]? = some p → less p.1 v = true := by
  unfold insAt
  induction xs with
  | nil => intro i p hi; simp at hi
  | cons q xs ih =>
    intro i p hi hp
    rw [List.takeWhile_cons] at hi
    split at hi
    · rename_i h
      cases i with
      | zero => obtain rfl : q = p := (by simpa using hp); exact h
      | succ i => exact ih (by simpa using hi) (by simpa using hp)
    · simp at hi
theorem insAt_stop {v : List Int} {xs : List (List Int × Int)} {p : List Int × Int} (hp : xs[insAt v xs]? = some p) : less p.1 v = false := by
  unfold insAt at hp
  induction xs with
  | nil => simp at hp
  | cons q xs ih =>
    rw [List.takeWhile_cons] at hp
    split at hp
    · exact ih (by simpa using hp)
    · rename_i h
      obtain rfl : q = p := by simpa using hp
      simpa using h
theorem insAt_le (v : List Int) (xs : List (List Int × Int)) : insAt v xs ≤ xs.length := by
  have := congrArg List.length (insAt_take v xs)
  rw [List.length_take] at this
  show (xs.takeWhile fun p => less p.1 v).length ≤ _
  omega
/-- what has been put out after i -/
def insTo (v : List Int) (x : Int) (xs : List (List Int × Int)) (i : Nat) : Bool → List (List Int × Int)
  | false => xs.take i
  | true => xs.take (insAt v xs) ++ (v, x) :: (xs.take i).drop (insAt v xs)
theorem insTo_next {v : List Int} {x : Int} {xs : List (List Int × Int)} {i : Nat} {p : List Int × Int} (hp : xs[i]? = some p) {d : Bool} (hd : d = true → insAt v xs ≤ i) : insTo v x xs i d ++ [p] = insTo v x xs (i + 1) d := by
  cases d with
  | false => show xs.take i ++ [p] = _; rw [← take_at hp]; rfl
  | true =>
    have h := hd rfl
    have hl := lt_of_some hp
    show (xs.take (insAt v xs) ++ (v, x) :: (xs.take i).drop (insAt v xs)) ++ [p] = xs.take (insAt v xs) ++ (v, x) :: (xs.take (i + 1)).drop (insAt v xs)
    rw [take_at hp, List.drop_append_of_le_length (by rw [List.length_take]; omega)]
    simp
theorem insTo_put {v : List Int} {x : Int} {xs : List (List Int × Int)} : insTo v x xs (insAt v xs) false ++ [(v, x)] = insTo v x xs (insAt v xs) true := by
  show xs.take (insAt v xs) ++ [(v, x)] = xs.take (insAt v xs) ++ (v, x) :: (xs.take (insAt v xs)).drop (insAt v xs)
  rw [List.drop_of_length_le (by rw [List.length_take]; omega)]
theorem insTo_end {v : List Int} {x : Int} {xs : List (List Int × Int)} : insTo v x xs xs.length true = insK v x xs := by
  unfold insTo insK
  rw [List.take_length, insAt_take, insAt_drop]

set_option maxRecDepth 100000 in
set_option maxHeartbeats 6400000 in
theorem l3Add_any (a : Option Addr) (n c : Nat) (xs : List (List Int × Int)) (b : Option Addr) (m d : Nat) (p : List Int) (x : Int) (w : World) (hr : RP w a xs) (hn : xs.length = n) (hb : n ≤ 100000) (hsh : Short_P xs)
    (hrp : RI w b p) (hm : p.length = m) (hmb : m ≤ 1048576) (hmd : m ≤ d) (hx : x ≠ 0) {v : List Int} (hv : p.take (trimLen p m) = v) (hne : ∀ q ∈ xs, q.1 ≠ v) :
    Calls Try.prog 116 #[.slice a n c, .slice b m d, .int .i64 x] w fun e w' => ∃ a' c', e = .returned (.slice a' (n + 1) c') ∧ KN w' w.heap.size w'.heap.size a' (n + 1) c' (insK v x xs) ∧ Below w.heap.size w w' := by
  have Hn := Lib.hid hn
  have Hm := Lib.hid hm
  have Hsh := Lib.hid hsh
  have Hne := Lib.hid hne
  have Hins := Lib.hid (insAt_le v xs)
  rw [hn] at Hins
  obtain ⟨l, hl⟩ : ∃ l, trimLen p m = l := ⟨_, rfl⟩
  have hlm : l ≤ m := by rw [← hl]; exact trimLen_le p m
  have Hvl := Lib.hid (show v.length = l by rw [← hv, List.length_take, hl, hm]; omega)
  have HT := Lib.hid (fun w => l1Trim_any b m d p w)
  rw [hl, show p.take l = v by rw [← hl]; exact hv] at HT
  obtain ⟨j, hj⟩ : ∃ j, insAt v xs = j := ⟨_, rfl⟩
  have HJ := Lib.hid hj
  have hjn : j ≤ n := by have := Hins.out; rw [hj] at this; exact this
  have hx0 : (x == 0) = false := by simpa using hx
  clear hn hm hl hv hsh hne Hins hj hx
  go_enter Try.func116, Try.ntmps116
  go_wp2_with fail
  refine (HT.out _ hrp Hm.out hmb hmd).mono ?_
  rintro e w1 ⟨a7, c7, rfl, ho7, hb7⟩
  have hz7 := hb7.size
  have hBa : Below w1.heap.size w1 (w1.alloc (.cells #[] 101)) := (Below.refl _ _).alloc (Nat.le_refl _) _
  have HV0 := Lib.hid ((ho7.below hBa).mono (B' := w.heap.size) (S' := (w1.alloc (.cells #[] 101)).heap.size) (Nat.le_refl _) hBa.size)
  have HK0 := Lib.hid ((KN.made w1).mono (B' := w.heap.size) (S' := (w1.alloc (.cells #[] 101)).heap.size) hz7 (Nat.le_refl _))
  have hB0 := hb7.trans (hBa.mono hz7)
  clear ho7 hb7 hBa
  go_wp2
  go_loopw [8, 9, 10] (fun ov dv iv wr => Hid (∃ (i : Nat) (d : Bool) (a1 : Option Addr) (m1 c1 : Nat), iv = .int .i64 i ∧ i ≤ n ∧ dv = .bool d ∧ ov = .slice a1 m1 c1 ∧ KN wr w.heap.size wr.heap.size a1 m1 c1 (insTo v x xs i d) ∧ OwI wr w.heap.size wr.heap.size a7 l c7 v ∧ (d = false → i ≤ j) ∧ (d = true → j < i)) ∧ Below w.heap.size w wr) (fun _ _ iv _ => n - (intOf iv).toNat)
  case atStart => exact ⟨⟨0, false, _, _, _, rfl, Nat.zero_le _, rfl, rfl, HK0.out, HV0.out, fun _ => Nat.zero_le _, fun h => by cases h⟩, hB0⟩
  case round =>
    clear HK0 HV0 hB0
    obtain ⟨HV, hB⟩ := hrel
    obtain ⟨wo, rfl⟩ : ∃ wo : World, wo = wr := ⟨_, rfl⟩
    obtain ⟨i, dd, a1, m1, c1, rfl, hi, rfl, rfl, hK, hv, hdf, hdt⟩ := HV.out
    clear HV
    have hbs := hB.size
    have hm1 : m1 ≤ n + 1 := by
      have h1 := hK.len
      cases dd with
      | false => rw [← h1]; show (xs.take i).length ≤ _; rw [List.length_take]; omega
      | true => rw [← h1]; show (xs.take (insAt v xs) ++ (v, x) :: (xs.take i).drop (insAt v xs)).length ≤ _; rw [List.length_append, List.length_cons, List.length_drop, List.length_take, List.length_take]; have := Hn.out; omega
    by_cases hlt : i < n
    · obtain ⟨s, y, hx1⟩ := part_at Hn.out hlt
      obtain ⟨bb, off, rfl, hcell⟩ := hr.at (k := i) (by rw [Hn.out]; exact hlt)
      obtain ⟨a2, c2, p1, p2, hri, hcap⟩ := hcell i _ hx1
      simp only at p1 p2 hri hcap
      have hsl : s.length ≤ 1048576 := Hsh.out (s, y) (List.mem_of_getElem? hx1)
      obtain ⟨sl, hl⟩ : ∃ sl, s.length = sl := ⟨_, rfl⟩
      rw [hl] at p1 hcap hsl
      have Hl := Lib.hid hl
      have hbz : bb < w.heap.size := World.block_lt_of_cell? _ _ p1
      have S_of : ∀ w2, Below w.heap.size w w2 → w2.cell? ⟨bb, off + i * 2, none⟩ = some (.slice a2 sl c2) ∧ w2.cell? ⟨bb, off + i * 2 + 1, none⟩ = some (.int .i64 y) := by
        intro w2 hb2
        exact ⟨by rw [hb2.cell (p := ⟨bb, off + i * 2, none⟩) hbz]; exact p1, by rw [hb2.cell (p := ⟨bb, off + i * 2 + 1, none⟩) hbz]; exact p2⟩
      have HR := Lib.hid (fun w2 (h : Below w.heap.size w w2) => hri.below h)
      have q1 : (i : Int) < (n : Int) := by omega
      have Hx := Lib.hid hx1
      have Hns := Lib.hid (show s ≠ v from Hne.out (s, y) (List.mem_of_getElem? hx1))
      have y1 := (S_of wo hB).1
      have y2 := (S_of wo hB).2
      clear hcell hx1 hl p1 p2 hri
      -- the state ahead of the last append: world, list, whether done
      have tail : ∀ (wp : World) (dn : Bool) (a3 : Option Addr) (m3 c3 : Nat), True := fun _ _ _ _ _ => trivial
      clear tail
      cases dd with
      | true =>
        have hdt' := hdt rfl
        have HN := Lib.hid (insTo_next (v := v) (x := x) Hx.out (d := true) (fun _ => by have := HJ.out; omega))
        have HKd := Lib.hid (hK.below (Drew.below (Drew.drewN wo 1) _))
        have Hv1 := Lib.hid (hv.below (Drew.below (Drew.drewN wo 1) _))
        have d1 : Below w.heap.size w wo.drew := hB.trans (Drew.below ⟨1, rfl⟩ _)
        have hds : wo.heap.size = wo.drew.heap.size := rfl
        clear hK hv hdf hdt y1 y2
        go_wp2
        go_region_held3 (fun w' => w'.cell? ⟨bb, off + i * 2, none⟩ = some (.slice a2 sl c2) ∧ w'.cell? ⟨bb, off + i * 2 + 1, none⟩ = some (.int .i64 y)) ((first | exact S_of _ hB | exact S_of _ d1 | exact S_of _ hB5 | exact S_of _ (Below.alloc hB5 (Below.size hB5) _) | exact S_of _ ‹_›))
          ((first | (go_at_call 74; refine (l1Ints_any _ _ _ s _ (HR.out _ (by first | exact hB | exact d1)) Hl.out hsl).mono ?_; rintro e w5 ⟨a5, c5, rfl, ho5, hb5⟩; have hB5 := d1.trans (hb5.mono (Below.size d1)); have HK5 := Lib.hid (KN.below HKd.out hb5); have Hv5 := Lib.hid (OwI.below Hv1.out hb5); have Ho5 := Lib.hid ho5; have hs5 := hb5.size; clear ho5 hb5) | (refine step_pushN (by rfl) (by rfl) _ _ (by rfl) HK5.out (by rfl) Ho5.out hbs (by rfl) (by omega) (Below.size hB5) hs5 (Nat.le_refl _) ?_; intro a6 c6 w6 ho6 hg6; have hB6 := below_grown (v := .slice a1 m1 c1) hB5 hg6 (Below.size hB5) HK5.out.lo; have Hv6 := Lib.hid ((KN.keep HK5.out Hv5.out hg6).mono (B' := w.heap.size) (S' := w6.heap.size) (Nat.le_refl _) (Nat.le_trans hs5 hg6.size)))))
        rw [HN.out] at ho6
        have HF := Lib.hid ho6
        clear ho6 hg6 S_of d1 hB5 HKd Hv1 HK5 Hv5 Ho5
        go_wp2
        go_roundw
        case rel => exact ⟨⟨i + 1, true, _, _, _, by go_num, by omega, rfl, rfl, HF.out, Hv6.out, fun h => (by cases h), fun _ => (by omega)⟩, hB6⟩
        case measure => simp [intOf]; omega
      | false =>
        have hdf' := hdf rfl
        by_cases hij : i < j
        · have Hless := Lib.hid (show less s v = true from insAt_less (xs := xs) (i := i) (by rw [HJ.out]; exact hij) Hx.out)
          have HN := Lib.hid (insTo_next (v := v) (x := x) Hx.out (d := false) (fun h => by cases h))
          have HK1 := Lib.hid hK
          have Hv0 := Lib.hid hv
          clear hK hv hdf hdt
          go_wp2_with fail
          refine (is (l1Less_any _ _ _ _ _ _ s v _ (HR.out _ hB) Hv0.out.rd Hl.out Hvl.out (by omega) (by omega)) Hless.out).mono ?_
          rintro e w2 ⟨rfl, hd2⟩
          have hBb := hB.trans (hd2.below _)
          have HKd := Lib.hid ((HK1.out.below (hd2.below _)).below (Drew.below (Drew.drewN w2 1) _))
          have Hv1 := Lib.hid ((Hv0.out.below (hd2.below _)).below (Drew.below (Drew.drewN w2 1) _))
          have hz2 := (hd2.below wo.heap.size).size
          have d1 : Below w.heap.size w w2.drew := hBb.trans (Drew.below ⟨1, rfl⟩ _)
          have hds : w2.heap.size = w2.drew.heap.size := rfl
          have hbs2 := hBb.size
          clear HK1 Hv0 hd2 y1 y2
          go_wp2
          go_region_held3 (fun w' => w'.cell? ⟨bb, off + i * 2, none⟩ = some (.slice a2 sl c2) ∧ w'.cell? ⟨bb, off + i * 2 + 1, none⟩ = some (.int .i64 y)) ((first | exact S_of _ hBb | exact S_of _ d1 | exact S_of _ hB5 | exact S_of _ (Below.alloc hB5 (Below.size hB5) _) | exact S_of _ ‹_›))
            ((first | (go_at_call 74; refine (l1Ints_any _ _ _ s _ (HR.out _ (by first | exact hBb | exact d1)) Hl.out hsl).mono ?_; rintro e w5 ⟨a5, c5, rfl, ho5, hb5⟩; have hB5 := d1.trans (hb5.mono (Below.size d1)); have HK5 := Lib.hid (KN.below HKd.out hb5); have Hv5 := Lib.hid (OwI.below Hv1.out hb5); have Ho5 := Lib.hid ho5; have hs5 := hb5.size; clear ho5 hb5) | (refine step_pushN (by rfl) (by rfl) _ _ (by rfl) HK5.out (by rfl) Ho5.out hbs2 (by rfl) (by omega) (Below.size hB5) (Nat.le_trans hz2 hs5) (Nat.le_refl _) ?_; intro a6 c6 w6 ho6 hg6; have hB6 := below_grown (v := .slice a1 m1 c1) hB5 hg6 (Below.size hB5) HK5.out.lo; have Hv6 := Lib.hid ((KN.keep HK5.out Hv5.out hg6).mono (B' := w.heap.size) (S' := w6.heap.size) (Nat.le_refl _) (Nat.le_trans (Nat.le_trans hz2 hs5) hg6.size)))))
          rw [HN.out] at ho6
          have HF := Lib.hid ho6
          clear ho6 hg6 S_of d1 hB5 HKd Hv1 HK5 Hv5 Ho5
          go_wp2
          go_roundw
          case rel => exact ⟨⟨i + 1, false, _, _, _, by go_num, by omega, rfl, rfl, HF.out, Hv6.out, fun _ => (by omega), fun h => (by cases h)⟩, hB6⟩
          case measure => simp [intOf]; omega
        · obtain rfl : i = j := by omega
          have Hless := Lib.hid (show less s v = false from insAt_stop (xs := xs) (by rw [HJ.out]; exact Hx.out))
          have HP := Lib.hid (show insTo v x xs i false ++ [(v, x)] = insTo v x xs i true by rw [← HJ.out]; exact insTo_put)
          have HN := Lib.hid (insTo_next (v := v) (x := x) Hx.out (d := true) (fun _ => by have := HJ.out; omega))
          have HK1 := Lib.hid hK
          have Hv0 := Lib.hid hv
          clear hK hv hdf hdt
          go_wp2_with fail
          refine (is (l1Less_any _ _ _ _ _ _ s v _ (HR.out _ hB) Hv0.out.rd Hl.out Hvl.out (by omega) (by omega)) Hless.out).mono ?_
          rintro e w2 ⟨rfl, hd2⟩
          have hBb := hB.trans (hd2.below _)
          have HK2 := Lib.hid (HK1.out.below (hd2.below _))
          have Hv2 := Lib.hid (Hv0.out.below (hd2.below _))
          have y3 := (S_of w2 hBb).1
          have y4 := (S_of w2 hBb).2
          have hz2 := (hd2.below wo.heap.size).size
          clear HK1 Hv0 hd2 y1 y2
          go_wp2_with fail
          refine (is (l1Same_any _ _ _ _ _ _ s v _ (HR.out _ hBb) Hv2.out.rd Hl.out Hvl.out (by omega)) (by simpa using Hns.out : _ = false)).mono ?_
          rintro e w3 ⟨rfl, hd3⟩
          have hBc := hBb.trans (hd3.below _)
          have HK3 := Lib.hid (HK2.out.below (hd3.below _))
          have Hv3 := Lib.hid (Hv2.out.below (hd3.below _))
          have hz3 := (hd3.below w2.heap.size).size
          have hbs3 := hBc.size
          have hz23 : wo.heap.size ≤ w3.heap.size := Nat.le_trans hz2 hz3
          clear HK2 Hv2 hd3 y3 y4
          go_wp2_with (first | (at_builtin; go_loud (refine wpList_pushN (by rfl) (by rfl) _ _ (by rfl) HK3.out (by rfl) Hv3.out (Nat.le_refl _) (by rfl) (by rfl) (by omega) hbs3 hz23 hz23 ?_)))
          intro a4 c4 w4 ho4 hg4
          rw [HP.out] at ho4
          have hBd := below_grown (v := .slice a1 m1 c1) hBc hg4 hbs3 HK3.out.lo
          have hv4 := ((KN.keep HK3.out Hv3.out hg4).mono (B' := w.heap.size) (S' := w4.heap.size) (Nat.le_refl _) (Nat.le_trans hz23 hg4.size))
          have HKd := Lib.hid (ho4.below (Drew.below (Drew.drewN w4 1) _))
          have Hv1 := Lib.hid (hv4.below (Drew.below (Drew.drewN w4 1) _))
          have d1 : Below w.heap.size w w4.drew := hBd.trans (Drew.below ⟨1, rfl⟩ _)
          have hds : w4.heap.size = w4.drew.heap.size := rfl
          have hbs4 := hBd.size
          have y5 := (S_of w4 hBd).1
          have y6 := (S_of w4 hBd).2
          clear ho4 hg4 hv4 HK3 Hv3 hBb
          clear y5 y6
          go_wp2
          go_region_held3 (fun w' => w'.cell? ⟨bb, off + i * 2, none⟩ = some (.slice a2 sl c2) ∧ w'.cell? ⟨bb, off + i * 2 + 1, none⟩ = some (.int .i64 y)) ((first | exact S_of _ hBd | exact S_of _ d1 | exact S_of _ hB5 | exact S_of _ (Below.alloc hB5 (Below.size hB5) _) | exact S_of _ ‹_›))
            ((first | (go_at_call 74; refine (l1Ints_any _ _ _ s _ (HR.out _ (by first | exact hBd | exact d1)) Hl.out hsl).mono ?_; rintro e w5 ⟨a5, c5, rfl, ho5, hb5⟩; have hB5 := d1.trans (hb5.mono (Below.size d1)); have HK5 := Lib.hid (KN.below HKd.out hb5); have Hv5 := Lib.hid (OwI.below Hv1.out hb5); have Ho5 := Lib.hid ho5; have hs5 := hb5.size; clear ho5 hb5) | (refine step_pushN (by rfl) (by rfl) _ _ (by rfl) HK5.out (by rfl) Ho5.out hbs4 (by rfl) (by omega) (Below.size hB5) hs5 (Nat.le_refl _) ?_; intro a6 c6 w6 ho6 hg6; have hB6 := below_grown (v := .slice a4 (m1 + 1) c4) hB5 hg6 (Below.size hB5) HK5.out.lo; have Hv6 := Lib.hid ((KN.keep HK5.out Hv5.out hg6).mono (B' := w.heap.size) (S' := w6.heap.size) (Nat.le_refl _) (Nat.le_trans hs5 hg6.size)))))
          rw [HN.out] at ho6
          have HF := Lib.hid ho6
          clear ho6 hg6 S_of d1 hB5 HKd Hv1 HK5 Hv5 Ho5
          go_wp2
          go_roundw
          case rel => exact ⟨⟨i + 1, true, _, _, _, by go_num, by omega, rfl, rfl, HF.out, Hv6.out, fun h => (by cases h), fun _ => (by omega)⟩, hB6⟩
          case measure => simp [intOf]; omega
    · obtain rfl : i = n := by omega
      have q1 : ¬ (i : Int) < (i : Int) := by omega
      cases dd with
      | true =>
        have hfin : insTo v x xs i true = insK v x xs := by rw [← Hn.out]; exact insTo_end
        rw [hfin] at hK
        have hml : m1 = i + 1 := by
          have h1 := hK.len
          unfold insK at h1
          rw [insAt_take, insAt_drop, List.length_append, List.length_cons, List.length_take, List.length_drop, Hn.out, HJ.out] at h1
          omega
        subst hml
        have HK := Lib.hid hK
        clear hK hv hdf hdt hfin
        go_wp2
        go_ret
        exact ⟨_, _, rfl, HK.out, hB⟩
      | false =>
        have hdf' := hdf rfl
        obtain rfl : i = j := by omega
        have HP := Lib.hid (show insTo v x xs i false ++ [(v, x)] = insK v x xs by
          have h1 : insTo v x xs i false ++ [(v, x)] = insTo v x xs i true := by rw [← HJ.out]; exact insTo_put
          rw [h1, ← Hn.out]; exact insTo_end)
        have hml : m1 = i := by
          have h1 := hK.len
          unfold insTo at h1
          rw [List.length_take, Hn.out] at h1
          omega
        subst hml
        have HK1 := Lib.hid hK
        have Hv0 := Lib.hid hv
        clear hK hv hdf hdt
        go_wp2_with (first | (at_builtin; go_loud (refine wpList_pushN (by rfl) (by rfl) _ _ (by rfl) HK1.out (by rfl) Hv0.out (Nat.le_refl _) (by rfl) (by rfl) (by omega) hbs (Nat.le_refl _) (Nat.le_refl _) ?_)))
        intro a4 c4 w4 ho4 hg4
        rw [HP.out] at ho4
        have hBd := below_grown (v := .slice a1 m1 c1) hB hg4 hbs HK1.out.lo
        have HF := Lib.hid ho4
        clear ho4 hg4 HK1 Hv0
        go_wp2
        go_ret
        exact ⟨_, _, rfl, HF.out, hBd⟩
end Go.Proofs.Ytocgcgmlemoekaa
