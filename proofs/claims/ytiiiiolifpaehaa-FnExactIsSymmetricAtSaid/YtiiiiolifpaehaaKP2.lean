/-
  Slices of pairs of a slice of integers and an integer: measured, compared.
-/
import Derived.Test.YtiiiiolifpaehaaKP
namespace Go.Proofs.Ytiiiiolifpaehaa
open Go.RowKit

def heads (xs : List (List Int × Int)) : List (List Int) := xs.map fun p => p.1
def Wide_P (n : Nat) (xs : List (List Int × Int)) : Prop := n ≤ 9223372036854775807 ∧ ∀ p ∈ xs, p.1.length ≤ 9223372036854775807
def ms_P (xs : List (List Int × Int)) : Nat := xs.length + sz_II (heads xs)
theorem heads_at {xs : List (List Int × Int)} {k : Nat} {p : List Int × Int} (h : xs[k]? = some p) : (heads xs)[k]? = some p.1 := by simp [heads, h]
theorem heads_length (xs : List (List Int × Int)) : (heads xs).length = xs.length := by simp [heads]

set_option maxRecDepth 100000 in
set_option maxHeartbeats 1600000 in
theorem szl_P (a : Option Addr) (n c : Nat) (xs : List (List Int × Int)) (left : Int) (w : World) (hr : RP w a xs) (hn : xs.length = n) (h0 : 0 ≤ left) (h1 : left ≤ 1048576) (hb : Wide_P n xs) :
    Calls Try.prog 51 #[.slice a n c, .int .i64 left] w fun e w' => e = .returned (.int .i64 (leftOf left (ms_P xs))) ∧ Below w.heap.size w w' := by
  obtain ⟨hb1, hbs⟩ := hb
  have Hbs := Lib.hid hbs; clear hbs
  have hms : ms_P xs = n + sz_II (heads xs) := by rw [ms_P, hn]
  have Hms := Lib.hid hms; clear hms
  have Hn := Lib.hid hn; clear hn
  by_cases h : left < n
  · have Hres := Lib.hid (show leftOf left (ms_P xs) = -1 from leftOf_lt (by rw [Hms.out]; omega))
    go_enter Try.func51, Try.ntmps51
    go_wp2
    go_ret
    exact ⟨ret_int Hres.out.symm, Below.refl _ _⟩
  · go_enter Try.func51, Try.ntmps51
    go_wp2
    go_loopw [1, 5] (fun l i wr => Hid (∃ j : Nat, j ≤ n ∧ i = .int .i64 j ∧ n + sz_II ((heads xs).take j) ≤ left ∧ l = .int .i64 (left - (n + sz_II ((heads xs).take j) : Nat))) ∧ Below w.heap.size w wr) (fun _ i _ => n - (intOf i).toNat)
    case atStart => exact ⟨⟨0, Nat.zero_le _, rfl, by simp [sz_II]; omega, by simp [sz_II]⟩, Below.refl _ _⟩
    case round =>
      obtain ⟨HV, hB⟩ := hrel
      obtain ⟨wo, rfl⟩ : ∃ wo : World, wo = wr := ⟨_, rfl⟩
      obtain ⟨j, hj, rfl, hle, rfl⟩ := HV.out
      clear HV
      by_cases hlt : j < n
      · obtain ⟨x, v, hx⟩ := part_at Hn.out hlt
        obtain ⟨b, off, rfl, hcell⟩ := (hr.below hB).at (k := j) (by rw [Hn.out]; exact hlt)
        obtain ⟨a', c', hc, hc2, _⟩ := hcell j _ hx
        have hxl : x.length ≤ 9223372036854775807 := Hbs.out (x, v) (List.mem_of_getElem? hx)
        have hs1 := sz_II_take (heads_at hx)
        have hs2 := sz_II_le (heads xs) (j + 1)
        obtain ⟨s, hs⟩ : ∃ s, sz_II ((heads xs).take j) = s := ⟨_, rfl⟩
        obtain ⟨l, hl⟩ : ∃ l, x.length = l := ⟨_, rfl⟩
        rw [hs] at hs1 hle ⊢
        simp only at hs1 hc hc2
        rw [hl] at hs1 hc hxl
        have hres : left < (n + s + l : Nat) → leftOf left (ms_P xs) = -1 := fun hh => leftOf_lt (by rw [Hms.out]; omega)
        have Hres := Lib.hid hres
        have Hs1 := Lib.hid hs1
        clear hs1 hs hl hcell hx hs2 hres
        have hbs := hB.size
        by_cases h2 : left - (n + s : Nat) < l
        · have hq := Lib.hid (leftOf_lt h2)
          go_wp2_with fail
          refine (isInt (szPart_any _ _ _ v (left - (n + s : Nat)) _ (by omega) (by omega) hxl) hq.out).mono ?_
          rintro e w1 ⟨rfl, hb1⟩
          have hB1 := hB.trans (hb1.mono hbs)
          go_wp2
          go_ret
          exact ⟨ret_int (Hres.out (by omega)).symm, hB1⟩
        · have hq := Lib.hid (leftOf_ge h2)
          go_wp2_with fail
          refine (isInt (szPart_any _ _ _ v (left - (n + s : Nat)) _ (by omega) (by omega) hxl) hq.out).mono ?_
          rintro e w1 ⟨rfl, hb1⟩
          have hB1 := hB.trans (hb1.mono hbs)
          have hnn : ¬ (left - ((n : Int) + (s : Int)) - (l : Int) < 0) := by omega
          go_wp2
          go_roundw
          case rel => exact ⟨⟨j + 1, by omega, by go_num, by rw [Hs1.out]; omega, by rw [Hs1.out]; go_num⟩, hB1⟩
          case measure => simp [intOf]; omega
      · obtain rfl : j = n := by omega
        rw [List.take_of_length_le (by rw [heads_length, Hn.out]; exact Nat.le_refl _)] at hle ⊢
        have Hres := Lib.hid (show leftOf left (ms_P xs) = left - (j + sz_II (heads xs) : Nat) by rw [Hms.out]; exact leftOf_ge (by omega))
        obtain ⟨Z, hZ⟩ : ∃ Z, sz_II (heads xs) = Z := ⟨_, rfl⟩
        rw [hZ] at hle Hres ⊢
        go_wp2
        go_ret
        exact ⟨ret_int (by rw [Hres.out]), hB⟩

theorem eqq_of_all {xs ys : List (List Int × Int)} (hl : xs.length = ys.length) (h : ∀ j, j < xs.length → xs[j]? = ys[j]?) : decide (xs = ys) = true := by
  rw [decide_eq_true_iff]
  apply List.ext_getElem?
  intro j
  rcases Nat.lt_or_ge j xs.length with h1 | h1
  · exact h j h1
  · rw [List.getElem?_eq_none h1, List.getElem?_eq_none (by omega)]
theorem neq_of_at {xs ys : List (List Int × Int)} {k : Nat} {x y : List Int × Int} (hx : xs[k]? = some x) (hy : ys[k]? = some y) (h : x ≠ y) : decide (xs = ys) = false := by
  rw [decide_eq_false_iff_not]
  rintro rfl
  rw [hx] at hy
  exact h (by simpa using hy)

set_option maxRecDepth 100000 in
set_option maxHeartbeats 1600000 in
theorem eq_P (a b : Option Addr) (n c m d : Nat) (xs ys : List (List Int × Int)) (w : World) (hr : RP w a xs) (hs : RP w b ys) (hn : xs.length = n) (hm : ys.length = m) (hb : n ≤ 17592186044416) (hsh : ∀ p ∈ xs, p.1.length ≤ 1048576) :
    Calls Try.prog 55 #[.slice a n c, .slice b m d] w fun e w' => e = .returned (.bool (decide (xs = ys))) ∧ Below w.heap.size w w' := by
  have Hn := Lib.hid hn; clear hn
  have Hm := Lib.hid hm; clear hm
  have HSh := Lib.hid hsh; clear hsh
  by_cases hnm : n = m
  · subst hnm
    go_enter Try.func55, Try.ntmps55
    go_wp2
    go_loopw [5] (fun i wr => ∃ k : Nat, k ≤ n ∧ i = .int .i64 k ∧ Hid (∀ j, j < k → xs[j]? = ys[j]?) ∧ Below w.heap.size w wr) (fun i _ => n - (intOf i).toNat)
    case atStart => exact ⟨0, Nat.zero_le _, rfl, by intro j hj; omega, Below.refl _ _⟩
    case round =>
      obtain ⟨k, hk, rfl, HA, hB⟩ := hrel
      by_cases hlt : k < n
      · obtain ⟨b1, off, rfl, hcell⟩ := (hr.below hB).at (k := k) (by rw [Hn.out]; exact hlt)
        obtain ⟨b2, off2, rfl, hcell2⟩ := (hs.below hB).at (k := k) (by rw [Hm.out]; exact hlt)
        obtain ⟨p, q, hx⟩ := part_at Hn.out hlt
        obtain ⟨u, v, hy⟩ := part_at Hm.out hlt
        obtain ⟨a1, c1, hc1, hc2, hr1, _⟩ := hcell k _ hx
        obtain ⟨a2, c2, hc3, hc4, hr2, _⟩ := hcell2 k _ hy
        have hpl : p.length ≤ 1048576 := HSh.out (p, q) (List.mem_of_getElem? hx)
        simp only at hc1 hc2 hc3 hc4 hr1 hr2
        have Hx := Lib.hid hx; clear hx
        have Hy := Lib.hid hy; clear hy
        obtain ⟨lp, hlp⟩ : ∃ l, p.length = l := ⟨_, rfl⟩
        obtain ⟨lu, hlu⟩ : ∃ l, u.length = l := ⟨_, rfl⟩
        rw [hlp] at hc1 hpl
        rw [hlu] at hc3
        have Hlp := Lib.hid hlp
        have Hlu := Lib.hid hlu
        clear hcell hcell2 hlp hlu
        have hltI : (k : Int) < (n : Int) := by omega
        cases h1 : decide ((p, q) = (u, v))
        · have hne : (p, q) ≠ (u, v) := by simpa using h1
          have Hne := Lib.hid hne
          have H1 := Lib.hid h1; clear h1 hne
          go_wp2
          go_still_tail 8, (by kernel_rfl)
          go_wp2_with fail
          refine (is (eqPart_any _ _ _ _ _ _ p u q v _ (hr1.drew ⟨1, rfl⟩) (hr2.drew ⟨1, rfl⟩) Hlp.out Hlu.out hpl) H1.out).mono ?_
          rintro e w2 ⟨rfl, hb2⟩
          have hB2 := hB.trans ((Drew.below ⟨1, rfl⟩ w.heap.size).trans (hb2.mono hB.size))
          go_wp2
          go_ret
          exact ⟨ret_bool (neq_of_at Hx.out Hy.out Hne.out).symm, hB2⟩
        · have heq : (p, q) = (u, v) := by simpa using h1
          have Heq := Lib.hid heq
          have H1 := Lib.hid h1; clear h1 heq
          go_wp2
          go_still_tail 8, (by kernel_rfl)
          go_wp2_with fail
          refine (is (eqPart_any _ _ _ _ _ _ p u q v _ (hr1.drew ⟨1, rfl⟩) (hr2.drew ⟨1, rfl⟩) Hlp.out Hlu.out hpl) H1.out).mono ?_
          rintro e w2 ⟨rfl, hb2⟩
          have hB2 := hB.trans ((Drew.below ⟨1, rfl⟩ w.heap.size).trans (hb2.mono hB.size))
          go_wp2
          go_roundw
          case rel => exact ⟨k + 1, by omega, by go_num, by
                intro j hj
                rcases Nat.lt_or_ge j k with h | h
                · exact HA.out j h
                · obtain rfl : j = k := by omega
                  rw [Hx.out, Hy.out, Heq.out], hB2⟩
          case measure => simp [intOf]; omega
      · obtain rfl : k = n := by omega
        go_wp2
        go_ret
        exact ⟨ret_bool (eqq_of_all (by rw [Hn.out, Hm.out]) (by rw [Hn.out]; exact HA.out)).symm, hB⟩
  · have hne : ((n : Int) != (m : Int)) = true := by simp; omega
    go_enter Try.func55, Try.ntmps55
    go_wp2
    go_ret
    exact ⟨ret_bool (by symm; rw [decide_eq_false_iff_not]; rintro rfl; exact hnm (by rw [← Hn.out, ← Hm.out])), Below.refl _ _⟩
end Go.Proofs.Ytiiiiolifpaehaa
