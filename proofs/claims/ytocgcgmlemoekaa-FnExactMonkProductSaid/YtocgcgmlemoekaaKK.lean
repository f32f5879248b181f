/-
  Slices of pairs of a slice of integers and an integer, for classes beside terms. Printed by a program of ours (clsgen.py) from KP .. KT4.
-/
import Derived.Test.YtocgcgmlemoekaaSzI
import Derived.StillTailTactics
import Derived.Laws.Rows
import Derived.Test.YtocgcgmlemoekaaOpen
import Derived.Deep.SlicePairs
import Derived.Test.YtocgcgmlemoekaaBuA
import Derived.Test.YtocgcgmlemoekaaBuH
import Derived.Test.YtocgcgmlemoekaaBuB
namespace Go.Proofs.Ytocgcgmlemoekaa
open Go.RowKit Go.ChangeShapes Go.ChangeAt

abbrev RK := RP
abbrev Wide_K := Wide_P
abbrev Wf_K := Wf_P
abbrev Short_K := Short_P
abbrev sz_K := sz_T
abbrev ms_K := ms_P
abbrev mk_K := mk_T
theorem ms_K_len (xs : List (List Int × Int)) : xs.length ≤ ms_K xs := ms_T_len xs
theorem ms_K_sz (xs : List (List Int × Int)) : sz_K xs ≤ ms_K xs := ms_T_sz xs
theorem ms_K_short (xs : List (List Int × Int)) (h : ms_K xs ≤ 1048576) : Short_K xs := ms_T_short xs h
set_option maxRecDepth 100000 in
set_option maxHeartbeats 800000 in
theorem eqPart_anyK (a b : Option Addr) (n c m d : Nat) (xs ys : List Int) (x y : Int) (w : World) (hr : RI w a xs) (hs : RI w b ys) (hn : xs.length = n) (hm : ys.length = m) (hb : n ≤ 1048576) :
    Calls Try.prog 95 #[.agg #[.slice a n c, .int .i64 x], .agg #[.slice b m d, .int .i64 y]] w fun e w' => e = .returned (.bool (decide ((xs, x) = (ys, y)))) ∧ Below w.heap.size w w' := by
  have hB := ((Below.refl w.heap.size w).alloc (Nat.le_refl _) (.cells #[.slice a n c, .int .i64 x] 101)).alloc (by simp only [World.alloc, Array.size_push]; omega) (.cells #[.slice b m d, .int .i64 y] 101)
  have hr1 := hr.below hB
  have hs1 := hs.below hB
  have HB := Lib.hid hB; clear hB
  by_cases h1 : xs = ys
  · have e0 := Lib.hid (show decide (xs = ys) = true by simp [h1])
    by_cases h2 : x = y
    · subst h2
      have e2 : (x != x) = false := by simp
      have Hres := Lib.hid (show decide ((xs, x) = (ys, x)) = true by simp [h1])
      clear h1
      go_enter Try.func95, Try.ntmps95
      go_wp2_with fail
      refine (is (eqIntS_any _ _ _ _ _ _ xs ys _ hr1 hs1 hn hm (by omega)) e0.out).mono ?_
      rintro e w1 ⟨rfl, ⟨q, rfl⟩⟩
      go_wp2
      go_ret
      exact ⟨ret_bool Hres.out.symm, HB.out.trans (Drew.below ⟨q, rfl⟩ _)⟩
    · have e2 : (x != y) = true := by simp [h2]
      have Hres := Lib.hid (show decide ((xs, x) = (ys, y)) = false by simp [h2])
      clear h1
      go_enter Try.func95, Try.ntmps95
      go_wp2_with fail
      refine (is (eqIntS_any _ _ _ _ _ _ xs ys _ hr1 hs1 hn hm (by omega)) e0.out).mono ?_
      rintro e w1 ⟨rfl, ⟨q, rfl⟩⟩
      go_wp2
      go_ret
      exact ⟨ret_bool Hres.out.symm, HB.out.trans (Drew.below ⟨q, rfl⟩ _)⟩
  · have e0 := Lib.hid (show decide (xs = ys) = false by simp [h1])
    have Hres := Lib.hid (show decide ((xs, x) = (ys, y)) = false by simp [h1])
    clear h1
    go_enter Try.func95, Try.ntmps95
    go_wp2_with fail
    refine (is (eqIntS_any _ _ _ _ _ _ xs ys _ hr1 hs1 hn hm (by omega)) e0.out).mono ?_
    rintro e w1 ⟨rfl, ⟨q, rfl⟩⟩
    go_wp2
    go_ret
    exact ⟨ret_bool Hres.out.symm, HB.out.trans (Drew.below ⟨q, rfl⟩ _)⟩

set_option maxRecDepth 100000 in
set_option maxHeartbeats 800000 in
theorem szPart_anyK (a : Option Addr) (n c : Nat) (x left : Int) (w : World) (h0 : 0 ≤ left) (h1 : left ≤ 1048576) (hb : n ≤ 9223372036854775807) :
    Calls Try.prog 89 #[.agg #[.slice a n c, .int .i64 x], .int .i64 left] w fun e w' => e = .returned (.int .i64 (leftOf left n)) ∧ Below w.heap.size w w' := by
  have hB := (Below.refl w.heap.size w).alloc (Nat.le_refl _) (.cells #[.slice a n c, .int .i64 x] 98)
  have HB := Lib.hid hB; clear hB
  by_cases h : left < n
  · have hq := Lib.hid (leftOf_lt h)
    go_enter Try.func89, Try.ntmps89
    go_wp2_with fail
    refine (isInt (szIntS_any _ _ _ left _ h0 h1 hb) hq.out).mono ?_
    rintro e w1 ⟨rfl, rfl⟩
    go_wp2
    go_ret
    exact ⟨ret_int hq.out.symm, HB.out⟩
  · have hq := Lib.hid (leftOf_ge h)
    have hn : ¬ (left - (n : Int) < 0) := by omega
    go_enter Try.func89, Try.ntmps89
    go_wp2_with fail
    refine (isInt (szIntS_any _ _ _ left _ h0 h1 hb) hq.out).mono ?_
    rintro e w1 ⟨rfl, rfl⟩
    go_wp2
    go_ret
    exact ⟨ret_int hq.out.symm, HB.out⟩

set_option maxRecDepth 100000 in
set_option maxHeartbeats 1600000 in
theorem szl_PK (a : Option Addr) (n c : Nat) (xs : List (List Int × Int)) (left : Int) (w : World) (hr : RP w a xs) (hn : xs.length = n) (h0 : 0 ≤ left) (h1 : left ≤ 1048576) (hb : Wide_P n xs) :
    Calls Try.prog 29 #[.slice a n c, .int .i64 left] w fun e w' => e = .returned (.int .i64 (leftOf left (ms_P xs))) ∧ Below w.heap.size w w' := by
  obtain ⟨hb1, hbs⟩ := hb
  have Hbs := Lib.hid hbs; clear hbs
  have hms : ms_P xs = n + sz_II (heads xs) := by rw [ms_P, hn]
  have Hms := Lib.hid hms; clear hms
  have Hn := Lib.hid hn; clear hn
  by_cases h : left < n
  · have Hres := Lib.hid (show leftOf left (ms_P xs) = -1 from leftOf_lt (by rw [Hms.out]; omega))
    go_enter Try.func29, Try.ntmps29
    go_wp2
    go_ret
    exact ⟨ret_int Hres.out.symm, Below.refl _ _⟩
  · go_enter Try.func29, Try.ntmps29
    go_wp2
    go_loopw [1, 5] (fun l i wr => Hid (∃ j : Nat, j ≤ n ∧ i = .int .i64 j ∧ n + sz_II ((heads xs).take j) ≤ left ∧ l = .int .i64 (left - (n + sz_II ((heads xs).take j) : Nat))) ∧ Below w.heap.size w wr) (fun _ i _ => n - (intOf i).toNat)
    case atStart => exact ⟨⟨0, Nat.zero_le _, rfl, by simp [sz_II]; omega, by simp [sz_II]⟩, Below.refl _ _⟩
    case round =>
      obtain ⟨HV, hB⟩ := hrel
      obtain ⟨wo, rfl⟩ : ∃ wo : World, wo = wr := ⟨_, rfl⟩
      obtain ⟨j, hj, rfl, hle, rfl⟩ := HV.out
      clear HV
      by_cases hlt : j < n
      · obtain ⟨x, v, hx⟩ := part_at Hn.out hlt
        obtain ⟨b, off, rfl, hcell⟩ := (hr.below hB).at (k := j) (by rw [Hn.out]; exact hlt)
        obtain ⟨a', c', hc, hc2, _⟩ := hcell j _ hx
        have hxl : x.length ≤ 9223372036854775807 := Hbs.out (x, v) (List.mem_of_getElem? hx)
        have hs1 := sz_II_take (heads_at hx)
        have hs2 := sz_II_le (heads xs) (j + 1)
        obtain ⟨s, hs⟩ : ∃ s, sz_II ((heads xs).take j) = s := ⟨_, rfl⟩
        obtain ⟨l, hl⟩ : ∃ l, x.length = l := ⟨_, rfl⟩
        rw [hs] at hs1 hle ⊢
        simp only at hs1 hc hc2
        rw [hl] at hs1 hc hxl
        have hres : left < (n + s + l : Nat) → leftOf left (ms_P xs) = -1 := fun hh => leftOf_lt (by rw [Hms.out]; omega)
        have Hres := Lib.hid hres
        have Hs1 := Lib.hid hs1
        clear hs1 hs hl hcell hx hs2 hres
        have hbs := hB.size
        by_cases h2 : left - (n + s : Nat) < l
        · have hq := Lib.hid (leftOf_lt h2)
          go_wp2_with fail
          refine (isInt (szPart_anyK _ _ _ v (left - (n + s : Nat)) _ (by omega) (by omega) hxl) hq.out).mono ?_
          rintro e w1 ⟨rfl, hb1⟩
          have hB1 := hB.trans (hb1.mono hbs)
          go_wp2
          go_ret
          exact ⟨ret_int (Hres.out (by omega)).symm, hB1⟩
        · have hq := Lib.hid (leftOf_ge h2)
          go_wp2_with fail
          refine (isInt (szPart_anyK _ _ _ v (left - (n + s : Nat)) _ (by omega) (by omega) hxl) hq.out).mono ?_
          rintro e w1 ⟨rfl, hb1⟩
          have hB1 := hB.trans (hb1.mono hbs)
          have hnn : ¬ (left - ((n : Int) + (s : Int)) - (l : Int) < 0) := by omega
          go_wp2
          go_roundw
          case rel => exact ⟨⟨j + 1, by omega, by go_num, by rw [Hs1.out]; omega, by rw [Hs1.out]; go_num⟩, hB1⟩
          case measure => simp [intOf]; omega
      · obtain rfl : j = n := by omega
        rw [List.take_of_length_le (by rw [heads_length, Hn.out]; exact Nat.le_refl _)] at hle ⊢
        have Hres := Lib.hid (show leftOf left (ms_P xs) = left - (j + sz_II (heads xs) : Nat) by rw [Hms.out]; exact leftOf_ge (by omega))
        obtain ⟨Z, hZ⟩ : ∃ Z, sz_II (heads xs) = Z := ⟨_, rfl⟩
        rw [hZ] at hle Hres ⊢
        go_wp2
        go_ret
        exact ⟨ret_int (by rw [Hres.out]), hB⟩

set_option maxRecDepth 100000 in
set_option maxHeartbeats 1600000 in
theorem eq_PK (a b : Option Addr) (n c m d : Nat) (xs ys : List (List Int × Int)) (w : World) (hr : RP w a xs) (hs : RP w b ys) (hn : xs.length = n) (hm : ys.length = m) (hb : n ≤ 17592186044416) (hsh : ∀ p ∈ xs, p.1.length ≤ 1048576) :
    Calls Try.prog 33 #[.slice a n c, .slice b m d] w fun e w' => e = .returned (.bool (decide (xs = ys))) ∧ Below w.heap.size w w' := by
  have Hn := Lib.hid hn; clear hn
  have Hm := Lib.hid hm; clear hm
  have HSh := Lib.hid hsh; clear hsh
  by_cases hnm : n = m
  · subst hnm
    go_enter Try.func33, Try.ntmps33
    go_wp2
    go_loopw [5] (fun i wr => ∃ k : Nat, k ≤ n ∧ i = .int .i64 k ∧ Hid (∀ j, j < k → xs[j]? = ys[j]?) ∧ Below w.heap.size w wr) (fun i _ => n - (intOf i).toNat)
    case atStart => exact ⟨0, Nat.zero_le _, rfl, by intro j hj; omega, Below.refl _ _⟩
    case round =>
      obtain ⟨k, hk, rfl, HA, hB⟩ := hrel
      by_cases hlt : k < n
      · obtain ⟨b1, off, rfl, hcell⟩ := (hr.below hB).at (k := k) (by rw [Hn.out]; exact hlt)
        obtain ⟨b2, off2, rfl, hcell2⟩ := (hs.below hB).at (k := k) (by rw [Hm.out]; exact hlt)
        obtain ⟨p, q, hx⟩ := part_at Hn.out hlt
        obtain ⟨u, v, hy⟩ := part_at Hm.out hlt
        obtain ⟨a1, c1, hc1, hc2, hr1, _⟩ := hcell k _ hx
        obtain ⟨a2, c2, hc3, hc4, hr2, _⟩ := hcell2 k _ hy
        have hpl : p.length ≤ 1048576 := HSh.out (p, q) (List.mem_of_getElem? hx)
        simp only at hc1 hc2 hc3 hc4 hr1 hr2
        have Hx := Lib.hid hx; clear hx
        have Hy := Lib.hid hy; clear hy
        obtain ⟨lp, hlp⟩ : ∃ l, p.length = l := ⟨_, rfl⟩
        obtain ⟨lu, hlu⟩ : ∃ l, u.length = l := ⟨_, rfl⟩
        rw [hlp] at hc1 hpl
        rw [hlu] at hc3
        have Hlp := Lib.hid hlp
        have Hlu := Lib.hid hlu
        clear hcell hcell2 hlp hlu
        have hltI : (k : Int) < (n : Int) := by omega
        cases h1 : decide ((p, q) = (u, v))
        · have hne : (p, q) ≠ (u, v) := by simpa using h1
          have Hne := Lib.hid hne
          have H1 := Lib.hid h1; clear h1 hne
          go_wp2
          go_still_tail 8, (by kernel_rfl)
          go_wp2_with fail
          refine (is (eqPart_anyK _ _ _ _ _ _ p u q v _ (hr1.drew ⟨1, rfl⟩) (hr2.drew ⟨1, rfl⟩) Hlp.out Hlu.out hpl) H1.out).mono ?_
          rintro e w2 ⟨rfl, hb2⟩
          have hB2 := hB.trans ((Drew.below ⟨1, rfl⟩ w.heap.size).trans (hb2.mono hB.size))
          go_wp2
          go_ret
          exact ⟨ret_bool (neq_of_at Hx.out Hy.out Hne.out).symm, hB2⟩
        · have heq : (p, q) = (u, v) := by simpa using h1
          have Heq := Lib.hid heq
          have H1 := Lib.hid h1; clear h1 heq
          go_wp2
          go_still_tail 8, (by kernel_rfl)
          go_wp2_with fail
          refine (is (eqPart_anyK _ _ _ _ _ _ p u q v _ (hr1.drew ⟨1, rfl⟩) (hr2.drew ⟨1, rfl⟩) Hlp.out Hlu.out hpl) H1.out).mono ?_
          rintro e w2 ⟨rfl, hb2⟩
          have hB2 := hB.trans ((Drew.below ⟨1, rfl⟩ w.heap.size).trans (hb2.mono hB.size))
          go_wp2
          go_roundw
          case rel => exact ⟨k + 1, by omega, by go_num, by
                intro j hj
                rcases Nat.lt_or_ge j k with h | h
                · exact HA.out j h
                · obtain rfl : j = k := by omega
                  rw [Hx.out, Hy.out, Heq.out], hB2⟩
          case measure => simp [intOf]; omega
      · obtain rfl : k = n := by omega
        go_wp2
        go_ret
        exact ⟨ret_bool (eqq_of_all (by rw [Hn.out, Hm.out]) (by rw [Hn.out]; exact HA.out)).symm, hB⟩
  · have hne : ((n : Int) != (m : Int)) = true := by simp; omega
    go_enter Try.func33, Try.ntmps33
    go_wp2
    go_ret
    exact ⟨ret_bool (by symm; rw [decide_eq_false_iff_not]; rintro rfl; exact hnm (by rw [← Hn.out, ← Hm.out])), Below.refl _ _⟩

theorem Try.sizePartK : (Try.prog.info? 101).map (·.size) = some 2 := by kernel_rfl

set_option maxRecDepth 100000 in
set_option maxHeartbeats 1600000 in
theorem toPart_anyK (a : Option Addr) (n c : Nat) (xs : List Int) (x : Int) (w : World) (hr : RI w a xs) (hn : xs.length = n) (hb : n ≤ 1048576) :
    Calls Try.prog 92 #[.agg #[.slice a n c, .int .i64 x]] w fun e w' => ∃ a' c', e = .returned (.agg #[.slice a' n c', .int .i64 x]) ∧ OwI w' w.heap.size w'.heap.size a' n c' xs ∧ Below w.heap.size w w' := by
  have Hn := Lib.hid hn; clear hn
  obtain ⟨W, hW⟩ : ∃ W, ((w.alloc (.cells #[.slice a n c, .int .i64 x] 98)).alloc (.cells #[.slice none 0 0, .int .i64 0] 101)).alloc (.cells #[.slice none 0 0, .int .i64 0] 101) = W := ⟨_, rfl⟩
  have hBW : Below w.heap.size w W := by
    rw [← hW]
    exact (((Below.refl w.heap.size w).alloc (Nat.le_refl _) _).alloc (by simp) _).alloc (by simp; omega) _
  have hsW : W.heap.size = w.heap.size + 3 := by rw [← hW]; simp
  have g0 : W.heap[w.heap.size]? = some (.cells #[.slice a n c, .int .i64 x] 98) := by
    rw [← hW]
    have h1 := heap_alloc_new w (.cells #[.slice a n c, .int .i64 x] 98)
    have hb : Below (w.heap.size + 1) (w.alloc (.cells #[.slice a n c, .int .i64 x] 98)) (((w.alloc (.cells #[.slice a n c, .int .i64 x] 98)).alloc (.cells #[.slice none 0 0, .int .i64 0] 101)).alloc (.cells #[.slice none 0 0, .int .i64 0] 101)) :=
      ((Below.refl _ _).alloc (by simp) _).alloc (by simp) _
    rw [hb.block _ (Nat.lt_succ_self _)]; exact h1
  have g1 : W.heap[w.heap.size + 1]? = some (.cells #[.slice none 0 0, .int .i64 0] 101) := by
    rw [← hW]
    have h1 := heap_alloc_new (w.alloc (.cells #[.slice a n c, .int .i64 x] 98)) (.cells #[.slice none 0 0, .int .i64 0] 101)
    have hs : (w.alloc (.cells #[.slice a n c, .int .i64 x] 98)).heap.size = w.heap.size + 1 := by simp
    rw [hs] at h1
    have hb : Below (w.heap.size + 2) ((w.alloc (.cells #[.slice a n c, .int .i64 x] 98)).alloc (.cells #[.slice none 0 0, .int .i64 0] 101)) (((w.alloc (.cells #[.slice a n c, .int .i64 x] 98)).alloc (.cells #[.slice none 0 0, .int .i64 0] 101)).alloc (.cells #[.slice none 0 0, .int .i64 0] 101)) :=
      (Below.refl _ _).alloc (by simp) _
    rw [hb.block _ (Nat.lt_succ_self _)]; exact h1
  have g2 : W.heap[w.heap.size + 1 + 1]? = some (.cells #[.slice none 0 0, .int .i64 0] 101) := by
    rw [← hW]
    have h1 := heap_alloc_new ((w.alloc (.cells #[.slice a n c, .int .i64 x] 98)).alloc (.cells #[.slice none 0 0, .int .i64 0] 101)) (.cells #[.slice none 0 0, .int .i64 0] 101)
    have hs : ((w.alloc (.cells #[.slice a n c, .int .i64 x] 98)).alloc (.cells #[.slice none 0 0, .int .i64 0] 101)).heap.size = w.heap.size + 1 + 1 := by simp
    rw [hs] at h1
    exact h1
  have k0 : W.cell? ⟨w.heap.size, 0, none⟩ = some (.slice a n c) := by rw [cell_of_row W _ 0 _ _ (0, 0) g0]; rfl
  have hrW := hr.below hBW
  have G0 := Lib.hid g0; clear g0
  have G1 := Lib.hid g1; clear g1
  have G2 := Lib.hid g2; clear g2
  go_enter Try.func92, Try.ntmps92
  go_wp2_with fail
  refine (conv_I _ _ _ xs _ hrW Hn.out (by omega)).mono ?_
  rintro e w1 ⟨a1, c1, rfl, ho, hB⟩
  have m0 : w1.heap[w.heap.size]? = some (.cells #[.slice a n c, .int .i64 x] 98) := by rw [hB.block _ (by omega)]; exact G0.out
  have m1 : w1.heap[w.heap.size + 1]? = some (.cells #[.slice none 0 0, .int .i64 0] 101) := by rw [hB.block _ (by omega)]; exact G1.out
  have m2 : w1.heap[w.heap.size + 1 + 1]? = some (.cells #[.slice none 0 0, .int .i64 0] 101) := by rw [hB.block _ (by omega)]; exact G2.out
  have c0 : w1.cell? ⟨w.heap.size, 1, none⟩ = some (.int .i64 x) := by rw [cell_of_row w1 _ 1 _ _ (0, 0) m0]; rfl
  have c2 : w1.cell? ⟨w.heap.size + 1 + 1, 0, none⟩ = some (.slice none 0 0) := by rw [cell_of_row w1 _ 0 _ _ (0, 0) m2]; rfl
  have c3 : w1.cell? ⟨w.heap.size + 1 + 1, 1, none⟩ = some (.int .i64 0) := by rw [cell_of_row w1 _ 1 _ _ (0, 0) m2]; rfl
  have c4 : w1.cell? ⟨w.heap.size + 1, 0, none⟩ = some (.slice none 0 0) := by rw [cell_of_row w1 _ 0 _ _ (0, 0) m1]; rfl
  have c5 : w1.cell? ⟨w.heap.size + 1, 1, none⟩ = some (.int .i64 0) := by rw [cell_of_row w1 _ 1 _ _ (0, 0) m1]; rfl
  have f2 := frozen_of_row w1 (w.heap.size + 1 + 1) 0 _ _ m2
  have f3 := frozen_of_row w1 (w.heap.size + 1 + 1) 1 _ _ m2
  have f4 := frozen_of_row w1 (w.heap.size + 1) 0 _ _ m1
  have f5 := frozen_of_row w1 (w.heap.size + 1) 1 _ _ m1
  have o4 : Only w.heap.size (w.heap.size + 3) w1 ((((w1.setCell ⟨w.heap.size + 1 + 1, 0, none⟩ (.slice a1 n c1)).setCell ⟨w.heap.size + 1 + 1, 1, none⟩ (.int .i64 x)).setCell ⟨w.heap.size + 1, 0, none⟩ (.slice a1 n c1)).setCell ⟨w.heap.size + 1, 1, none⟩ (.int .i64 x)) :=
    (((Only.setCell _ _ _ _ (by omega) (by omega)).trans (Only.setCell _ _ _ _ (by omega) (by omega))).trans (Only.setCell _ _ _ _ (by omega) (by omega))).trans (Only.setCell _ _ _ _ (by omega) (by omega))
  have hBf := o4.below (hBW.trans (hB.mono (by omega))) (Nat.le_refl _) (by have := hB.size; omega)
  have hrf := (ho.only o4 (.inr (by omega))).mono (B' := w.heap.size) (S' := ((((w1.setCell ⟨w.heap.size + 1 + 1, 0, none⟩ (.slice a1 n c1)).setCell ⟨w.heap.size + 1 + 1, 1, none⟩ (.int .i64 x)).setCell ⟨w.heap.size + 1, 0, none⟩ (.slice a1 n c1)).setCell ⟨w.heap.size + 1, 1, none⟩ (.int .i64 x)).heap.size) (by omega) (by simp)
  have hgf : ((((w1.setCell ⟨w.heap.size + 1 + 1, 0, none⟩ (.slice a1 n c1)).setCell ⟨w.heap.size + 1 + 1, 1, none⟩ (.int .i64 x)).setCell ⟨w.heap.size + 1, 0, none⟩ (.slice a1 n c1)).setCell ⟨w.heap.size + 1, 1, none⟩ (.int .i64 x)).heap[w.heap.size + 1]? = some (.cells #[.slice a1 n c1, .int .i64 x] 101 (0, 0)) := by
    have e1 := (heap_setCell_other w1 ⟨w.heap.size + 1 + 1, 0, none⟩ (w.heap.size + 1) (.slice a1 n c1) (by simp)).trans m1
    have e2 := (heap_setCell_other (w1.setCell ⟨w.heap.size + 1 + 1, 0, none⟩ (.slice a1 n c1)) ⟨w.heap.size + 1 + 1, 1, none⟩ (w.heap.size + 1) (.int .i64 x) (by simp)).trans e1
    have e3 := heap_setCell_same _ (w.heap.size + 1) 0 _ _ (.slice a1 n c1) e2
    exact heap_setCell_same _ (w.heap.size + 1) 1 _ _ (.int .i64 x) e3
  have HBf := Lib.hid hBf; clear hBf o4
  have Hrf := Lib.hid hrf; clear hrf
  have Hgf := Lib.hid hgf; clear hgf
  clear m0 m1 m2 k0
  go_wp2
  refine bodyPost_ret (results_cell_row rfl _ _ (w.heap.size + 1) _ _ (0, 0) _ rfl Hgf.out Try.underlying101 rfl Try.sizePartK) rfl ?_
  exact ⟨_, _, rfl, Hrf.out, HBf.out⟩

/-- the row in block B holds the pairs, their slices lie in blocks behind B and below S -/
def PRK (w : World) (B S n : Nat) (xs : List (List Int × Int)) : Prop :=
  ∃ vs, w.ownsRow B 101 2 (.slice (some ⟨B, 0, none⟩) n n) n vs ∧ xs.length = n ∧
    ∀ k p, xs[k]? = some p → ∃ a' c', vs[k * 2]? = some (.slice a' p.1.length c') ∧ vs[k * 2 + 1]? = some (.int .i64 p.2) ∧ OwI w (B + 1) S a' p.1.length c' p.1
theorem PRK.rd {w : World} {B S n : Nat} {xs : List (List Int × Int)} (h : PRK w B S n xs) : RP w (some ⟨B, 0, none⟩) xs := by
  obtain ⟨vs, h1, h2, h3⟩ := h
  refine .inr ⟨B, 0, rfl, fun k p hp => ?_⟩
  obtain ⟨a', c', e1, e2, e3⟩ := h3 k p hp
  have hk := (List.getElem?_eq_some_iff.1 hp).1
  exact ⟨a', c', by rw [Nat.zero_add, h1.cellAt _ (by omega)]; exact e1, by rw [Nat.zero_add, h1.cellAt _ (by omega)]; exact e2, e3.rd, e3.1.lt⟩
theorem PRK.below {w w' : World} {B S n : Nat} {xs : List (List Int × Int)} (h : PRK w B S n xs) (hb : Below w.heap.size w w') : PRK w' B S n xs := by
  obtain ⟨vs, h1, h2, h3⟩ := h
  refine ⟨vs, ⟨h1.1, ?_⟩, h2, fun k p hp => ?_⟩
  · rcases h1.2 with e | ⟨g, cap, cur, hv, hg, hh, r⟩
    · exact .inl e
    · exact .inr ⟨g, cap, cur, hv, hg, by rw [hb.block g (Array.getElem?_eq_some_iff.1 hh).1]; exact hh, r⟩
  · obtain ⟨a', c', e1, e2, e3⟩ := h3 k p hp
    exact ⟨a', c', e1, e2, e3.below hb⟩
theorem PRK.put {w : World} {B S n : Nat} {xs : List (List Int × Int)} (h : PRK w B S n xs) {k : Nat} (hk : k < n) {S1 S' : Nat} {a' : Option Addr} {l c' : Nat} {ys : List Int} (hy : OwI w S1 S' a' l c' ys) (hB : B + 1 ≤ S1) (hS : S ≤ S') (x : Int) :
    (∃ old, w.cell? ⟨B, k * 2, none⟩ = some old) ∧ w.frozen? ⟨B, k * 2, none⟩ = false ∧
    (∃ old, (w.setCell ⟨B, k * 2, none⟩ (.slice a' l c')).cell? ⟨B, k * 2 + 1, none⟩ = some old) ∧ (w.setCell ⟨B, k * 2, none⟩ (.slice a' l c')).frozen? ⟨B, k * 2 + 1, none⟩ = false ∧
    PRK ((w.setCell ⟨B, k * 2, none⟩ (.slice a' l c')).setCell ⟨B, k * 2 + 1, none⟩ (.int .i64 x)) B S' n (xs.set k (ys, x)) := by
  obtain ⟨vs, h1, h2, h3⟩ := h
  have hlv : vs.length = n * 2 := h1.1
  have s1 := h1.stored (k * 2) (.slice a' l c')
  have s2 := s1.1.stored (k * 2 + 1) (.int .i64 x)
  refine ⟨⟨vs[k * 2]'(by omega), by rw [h1.cellAt _ (by omega)]; exact List.getElem?_eq_getElem (by omega)⟩, h1.frozenAt _,
    ⟨(vs.set (k * 2) (.slice a' l c'))[k * 2 + 1]'(by rw [List.length_set]; omega), by rw [s1.1.cellAt _ (by omega)]; exact List.getElem?_eq_getElem _⟩, s1.1.frozenAt _, _, s2.1, by rw [List.length_set]; exact h2, fun j p hp => ?_⟩
  have hin : ∀ {b : Option Addr} {m d S2 S3 : Nat} {zs : List Int}, B + 1 ≤ S2 → OwI w S2 S3 b m d zs → OwI ((w.setCell ⟨B, k * 2, none⟩ (.slice a' l c')).setCell ⟨B, k * 2 + 1, none⟩ (.int .i64 x)) S2 S3 b m d zs := by
    intro b m d S2 S3 zs hb hz
    exact hz.only ((Only.setCell w B (k * 2) (.slice a' l c') (Nat.le_refl _) (Nat.lt_succ_self _)).trans (Only.setCell _ B (k * 2 + 1) (.int .i64 x) (Nat.le_refl _) (Nat.lt_succ_self _))) (.inr hb)
  rw [List.getElem?_set] at hp
  by_cases hj : k = j
  · subst hj
    rw [if_pos rfl, if_pos (by omega)] at hp
    obtain rfl := Option.some.inj hp
    obtain rfl := hy.len
    refine ⟨a', c', ?_, ?_, ?_⟩
    · rw [List.getElem?_set, if_neg (by omega), List.getElem?_set, if_pos rfl, if_pos (by omega)]
    · rw [List.getElem?_set, if_pos rfl, if_pos (by rw [List.length_set]; omega)]
    · exact (hin hB hy).mono hB (Nat.le_refl _)
  · rw [if_neg hj] at hp
    obtain ⟨a2, c2, e1, e2, e3⟩ := h3 j p hp
    refine ⟨a2, c2, ?_, ?_, (hin (Nat.le_refl _) e3).mono (Nat.le_refl _) hS⟩
    · rw [List.getElem?_set, if_neg (by omega), List.getElem?_set, if_neg (by omega)]; exact e1
    · rw [List.getElem?_set, if_neg (by omega), List.getElem?_set, if_neg (by omega)]; exact e2

theorem PRK.made {w : World} {B n : Nat} {vs : List Value} (h : w.ownsRow B 101 2 (.slice (some ⟨B, 0, none⟩) n n) n vs)
    (hv : ∀ k, k < n → vs[k * 2]? = some (.slice none 0 0) ∧ vs[k * 2 + 1]? = some (.int .i64 0)) : PRK w B w.heap.size n (List.replicate n ([], 0)) := by
  refine ⟨vs, h, by simp, fun k p hp => ?_⟩
  rw [List.getElem?_replicate] at hp
  split at hp
  · rename_i hk
    obtain rfl := Option.some.inj hp
    exact ⟨none, 0, (hv k hk).1, (hv k hk).2, ⟨rfl, World.ownsRow_nil _ _ _ _⟩, by simp [Value.ownBlock]⟩
  · cases hp

theorem open_K {H : Type} {enc : TypeId × Value → H} {W : World} {a : Option Addr} {len cap : Nat} {d : DataW H} {p : List MemPlace} (h : DataW.Trod enc Try.prog W 0 (fun _ => true) true 33 (.slice a len cap) d p) :
    ∃ xs, RP W a xs ∧ xs.length = len ∧ Wide_P len xs ∧ Wf_P xs := by
  obtain ⟨fuel, hf⟩ := h
  rcases Go.Deep.open_slice_pairs Try.underlying33 Try.underlying98 (by kernel_rfl) rfl rfl (by kernel_rfl) (by kernel_rfl) hf with ⟨hcs, _⟩ | ⟨x, l, c, m, n, V0, V1, D0, D1, P0, P1, hcs, _, hl, hm, hmm, _, hx⟩
  · simp [Value.cells] at hcs
    obtain ⟨rfl, rfl, rfl⟩ := hcs
    exact ⟨[], .inl rfl, rfl, ⟨by omega, by simp⟩, by simp [Wf_P]⟩
  · simp [Value.cells] at hcs
    obtain ⟨rfl, rfl, rfl⟩ := hcs
    unfold maxLen at hm
    have hmc : len ≤ m := by split at hmm <;> omega
    have each : ∀ r, r < m → ∃ q : List Int × Int, ∃ A C, W.cell? (x.add (r * 2)) = some (.slice A q.1.length C) ∧ W.cell? (x.add (r * 2 + 1)) = some (.int .i64 q.2) ∧ RI W A q.1 ∧ q.1.length ≤ 9223372036854775807 ∧ (∀ n ∈ q.1, (Lit.int .i64 n).wf = true) ∧ (Lit.int .i64 q.2).wf = true ∧ q.1.length ≤ C := by
      intro r hr
      obtain ⟨h1, h2, h3, h4⟩ := hx r hr
      obtain ⟨y, hy, _, hyw⟩ := DataW.trod_int Try.underlying3 h4
      simp only [List.cons.injEq, and_true] at hy
      rw [hy] at h2
      obtain ⟨A, L, C, hV, hLC⟩ : ∃ A L C, V0 r = .slice A L C ∧ L ≤ C := by
        rcases open_ints Try.underlying22 Try.underlying3 (by kernel_rfl) h3 with ⟨e, _⟩ | ⟨a, l, c, z, e, _, hl, _⟩
        · exact ⟨_, _, _, by simpa using e, Nat.le_refl _⟩
        · exact ⟨_, _, _, by simpa using e, hl⟩
      rw [hV] at h3 h1
      obtain ⟨xs, e1, e2, e3, e4⟩ := open_I (a := A) (len := L) (cap := C) ⟨n, by simpa [Value.cells] using h3⟩
      exact ⟨(xs, y), A, C, by rw [e2]; exact h1, h2, e1, by rw [e2]; exact e3, e4, hyw, by rw [e2]; exact hLC⟩
    obtain ⟨Z, hZ⟩ := Go.Deep.choose_lt each
    refine ⟨(List.range len).map Z, ?_, by simp, ⟨by omega, fun q hq => ?_⟩, fun q hq => ?_⟩
    · by_cases h0 : len = 0
      · left; simp [h0]
      · right
        obtain ⟨A, C, h1, _⟩ := hZ 0 (by omega)
        obtain ⟨b, off, rfl⟩ := plain_addr' (by rw [Nat.zero_mul] at h1; exact h1)
        refine ⟨b, off, rfl, fun k q hk => ?_⟩
        simp only [List.getElem?_map, Option.map_eq_some_iff] at hk
        obtain ⟨r, hr, rfl⟩ := hk
        have hkl := lt_of_some hr
        simp at hkl
        obtain rfl : k = r := by simpa [hkl] using hr
        obtain ⟨A, C, h1, h2, h3, _, _, _, h7⟩ := hZ k (by omega)
        rw [add_of'] at h1 h2
        exact ⟨A, C, h1, by rw [Nat.add_assoc]; exact h2, h3, h7⟩
    · simp only [List.mem_map, List.mem_range] at hq
      obtain ⟨r, hr, rfl⟩ := hq
      obtain ⟨A, C, h1, h2, h3, h4, h5, h6, _⟩ := hZ r (by omega)
      exact h4
    · simp only [List.mem_map, List.mem_range] at hq
      obtain ⟨r, hr, rfl⟩ := hq
      obtain ⟨A, C, h1, h2, h3, h4, h5, h6, _⟩ := hZ r (by omega)
      exact ⟨h5, h6⟩

theorem Try.info101 : (Try.prog.info? 101).map (fun i => (i.zero, i.size, i.bytes)) = some (some (.agg #[.slice none 0 0, .int .i64 0]), 2, 32) := by kernel_rfl
set_option maxRecDepth 100000 in
set_option maxHeartbeats 1600000 in
theorem conv_PK (a : Option Addr) (n c : Nat) (xs : List (List Int × Int)) (w : World) (hr : RP w a xs) (hn : xs.length = n) (hb : n ≤ 1048576) (hsh : Short_P xs) :
    Calls Try.prog 31 #[.slice a n c] w fun e w' => ∃ a' c', e = .returned (.slice a' n c') ∧ PO w' w.heap.size w'.heap.size a' n c' xs ∧ Below w.heap.size w w' := by
  have Hn := Lib.hid hn; clear hn
  have HSh := Lib.hid hsh; clear hsh
  obtain ⟨i0, hi, hz0, hz1, hz2⟩ := info_parts Try.info101
  go_enter Try.func31, Try.ntmps31
  go_wp2_with (first | (at_make; refine wpList_make_full _ rfl _ _ 36 rfl w.heap.size 101 i0 (.agg #[.slice none 0 0, .int .i64 0]) 2 Try.underlying36 hi hz0 hz1 .i64 .i64 _ _ n rfl rfl ?m1 ?m2 ?m3 ?m4 ?m5 ?_))
  case m1 => rfl
  case m2 => rfl
  case m3 => rw [hz2]; omega
  case m4 => unfold maxLen; omega
  case m5 => exact Nat.le_refl _
  intro w1 hown hg
  have hB : Below w.heap.size w w1 := (Below.refl _ _).grown hg (Nat.le_refl _) (by simp)
  have hrow : PRK w1 w.heap.size w1.heap.size n (fillP xs n 0) := by
    have h1 : fillP xs n 0 = List.replicate n ([], 0) := by simp [fillP]
    rw [h1]
    exact PRK.made hown fun k hk => madeP_at hk
  clear hown hg
  go_wp2
  go_loopw [4] (fun i wr => ∃ k : Nat, k ≤ n ∧ i = .int .i64 k ∧ PRK wr w.heap.size wr.heap.size n (fillP xs n k) ∧ Below w.heap.size w wr) (fun i _ => n - (intOf i).toNat)
  case atStart => exact ⟨0, Nat.zero_le _, rfl, hrow, hB⟩
  case round =>
    clear hrow hB
    obtain ⟨k, hk, rfl, ho, hbel⟩ := hrel
    obtain ⟨wo, rfl⟩ : ∃ wo : World, wo = wr := ⟨_, rfl⟩
    by_cases hlt : k < n
    · obtain ⟨b, off, rfl, hcell⟩ := (hr.below hbel).at (k := k) (by rw [Hn.out]; exact hlt)
      obtain ⟨x, y, hx⟩ := part_at Hn.out hlt
      obtain ⟨a1, c1, hc1, hc2, hri, _⟩ := hcell k _ hx
      have hxl : x.length ≤ 1048576 := HSh.out (x, y) (List.mem_of_getElem? hx)
      simp only at hc1 hc2 hri
      have Hx := Lib.hid hx; clear hx hcell
      obtain ⟨l, hl⟩ : ∃ l, x.length = l := ⟨_, rfl⟩
      rw [hl] at hc1 hxl
      have Hl := Lib.hid hl; clear hl
      have hs0 := hbel.size
      have hs1 : w.heap.size < wo.heap.size := by
        obtain ⟨vs, h1, _⟩ := ho
        exact (h1.lt _ rfl).2
      go_wp2_with fail
      refine (toPart_anyK _ _ _ x y _ hri Hl.out (by omega)).mono ?_
      rintro e w2 ⟨a2, c2, rfl, ho2, hb2⟩
      have ho1 := ho.below hb2
      obtain ⟨⟨old, hold⟩, hfz, ⟨old2, hold2⟩, hfz2, hput⟩ := ho1.put hlt ho2 (by omega) hb2.size y
      have hB2 := ((hbel.trans (hb2.mono hs0)).setCell (p := ⟨w.heap.size, k * 2, none⟩) (Nat.le_refl _) (.slice a2 l c2)).setCell (p := ⟨w.heap.size, k * 2 + 1, none⟩) (Nat.le_refl _) (.int .i64 y)
      rw [fillP_succ Hn.out hlt Hx.out] at hput
      have hput' : PRK ((w2.setCell ⟨w.heap.size, k * 2, none⟩ (.slice a2 l c2)).setCell ⟨w.heap.size, k * 2 + 1, none⟩ (.int .i64 y)) w.heap.size ((w2.setCell ⟨w.heap.size, k * 2, none⟩ (.slice a2 l c2)).setCell ⟨w.heap.size, k * 2 + 1, none⟩ (.int .i64 y)).heap.size n (fillP xs n (k + 1)) := by simpa using hput
      have HP := Lib.hid hput'
      have HB := Lib.hid hB2
      clear ho ho1 ho2 hput hput' hri hb2 hB2
      go_wp2
      go_roundw
      case rel => exact ⟨k + 1, by omega, by go_num, HP.out, HB.out⟩
      case measure => simp [intOf]; omega
    · obtain rfl : k = n := by omega
      go_wp2
      go_ret
      rw [fillP_all Hn.out] at ho
      exact ⟨_, _, rfl, ⟨Hn.out, ho.rd⟩, hbel⟩

def KO (w : World) (B S : Nat) (a : Option Addr) (n c : Nat) (xs : List (List Int × Int)) : Prop :=
  ∃ vs, w.ownsRow B 101 2 (.slice a n c) n vs ∧ (∀ k, (Value.slice a n c).ownBlock = some k → k < S) ∧ InT w B S vs xs
theorem KO.len {w : World} {B S : Nat} {a : Option Addr} {n c : Nat} {xs : List (List Int × Int)} (h : KO w B S a n c xs) : xs.length = n := by
  obtain ⟨vs, h1, _, h3⟩ := h
  have := h1.1
  have := h3.len
  omega
theorem KO.rd {w : World} {B S : Nat} {a : Option Addr} {n c : Nat} {xs : List (List Int × Int)} (h : KO w B S a n c xs) : RP w a xs := by
  obtain ⟨vs, h1, _, h3⟩ := h
  rcases row2_shape h1 with ⟨_, _, _, hv⟩ | ⟨g, rfl, _, _, _, hc, _⟩
  · left
    have := h3.len
    rw [hv] at this
    simp at this
    exact List.eq_nil_of_length_eq_zero (by omega)
  · refine .inr ⟨g, 0, rfl, fun k p hp => ?_⟩
    obtain ⟨a', c', e1, e2, ho⟩ := h3.each k p hp
    exact ⟨a', c', by rw [Nat.zero_add]; exact hc _ _ e1, by rw [Nat.zero_add]; exact hc _ _ e2, ho.rd, ho.1.lt⟩
theorem KO.only {w w' : World} {B S B' S' : Nat} {a : Option Addr} {n c : Nat} {xs : List (List Int × Int)} (h : KO w B S a n c xs) (ho : Only B' S' w w') (hd : S ≤ B' ∨ S' ≤ B) : KO w' B S a n c xs := by
  obtain ⟨vs, h1, h2, h3⟩ := h
  exact ⟨vs, row2_only h1 h2 ho hd, h2, h3.len, fun k p hp => by obtain ⟨a, c, e1, e2, e3⟩ := h3.each k p hp; exact ⟨a, c, e1, e2, e3.only ho hd⟩, h3.apart⟩
theorem KO.below {w w' : World} {B S : Nat} {a : Option Addr} {n c : Nat} {xs : List (List Int × Int)} (h : KO w B S a n c xs) (hb : Below w.heap.size w w') : KO w' B S a n c xs := h.only (Only.of_below hb) (.inr (Nat.zero_le _))
theorem KO.mono {w : World} {B S B' S' : Nat} {a : Option Addr} {n c : Nat} {xs : List (List Int × Int)} (h : KO w B S a n c xs) (hB : B' ≤ B) (hS : S ≤ S') : KO w B' S' a n c xs := by
  obtain ⟨vs, h1, h2, h3⟩ := h
  refine ⟨vs, ⟨h1.1, ?_⟩, fun k hk => Nat.lt_of_lt_of_le (h2 k hk) hS, h3.len, fun k p hp => by obtain ⟨a, c, e1, e2, e3⟩ := h3.each k p hp; exact ⟨a, c, e1, e2, e3.mono hB hS⟩, h3.apart⟩
  rcases h1.2 with h2 | ⟨g, cap, cur, hv, hg, r⟩
  · exact .inl h2
  · exact .inr ⟨g, cap, cur, hv, Nat.le_trans hB hg, r⟩
theorem KO.lo {w : World} {B S : Nat} {a : Option Addr} {n c : Nat} {xs : List (List Int × Int)} (h : KO w B S a n c xs) : ∀ k, (Value.slice a n c).ownBlock = some k → B ≤ k := by
  obtain ⟨vs, h1, _⟩ := h
  exact fun k hk => (h1.lt k hk).1
theorem KO.nil {w : World} {B S : Nat} : KO w B S none 0 0 [] := ⟨[], ⟨rfl, .inl ⟨rfl, rfl⟩⟩, fun k hk => by simp [Value.ownBlock] at hk, rfl, by simp, by simp⟩
theorem KO.made (w : World) : KO (w.alloc (.cells #[] 101)) w.heap.size (w.alloc (.cells #[] 101)).heap.size (some ⟨w.heap.size, 0, none⟩) 0 0 [] := by
  have h := World.ownsRow_made (base := w.heap.size) (e := 101) (size := 2) w #[] 0 (Nat.le_refl _) (Nat.zero_le _) rfl
  exact ⟨[], h, fun k hk => (h.lt k hk).2, rfl, by simp, by simp⟩
/-- a row of integers lies in another block than a row of terms -/
theorem ne_blockTK {w : World} {B S B' n l : Nat} {a a' : Option Addr} {c c' : Nat} {vs : List Value} {xs : List Int} (h : w.ownsRow B' 101 2 (.slice a n c) n vs) (hi : OwI w B S a' l c' xs) :
    ∀ k, (Value.slice a n c).ownBlock = some k → (Value.slice a' l c').ownBlock ≠ some k := by
  intro k hk hk'
  rcases row2_shape h with ⟨_, rfl, _⟩ | ⟨g, rfl, _, _, _, _, cur, hg⟩
  · cases hk
  · rcases ownsRow_shape hi.1.own with ⟨_, rfl, _⟩ | ⟨g', rfl, _, _, _, cur', hg'⟩
    · cases hk'
    · have e1 : g = k := by simpa [Value.ownBlock] using hk
      have e2 : g' = k := by simpa [Value.ownBlock] using hk'
      subst e1 e2
      rw [hg] at hg'
      simp at hg'
/-- append of one term whose list lies in a newer block than all that are there -/
theorem wpList_pushTK {w W : World} {b : Option Addr} {m d : Nat} {y : Int} (hW : W = w.alloc (.cells #[.slice b m d, .int .i64 y] 101)) {ops : Array Oper} {rest : List Oper} {o : Oper} {ac : Act} {Q : Exit → Act → World → Prop} (hgd : o.guard = none) (s x : Operand)
    (ho : o.op = .call { callee := .builtin .append, args := #[s, x], argTypes := #[36, 36] })
    {B S : Nat} {a : Option Addr} {n c : Nat} {xs : List (List Int × Int)} (hown : KO w B S a n c xs) (hs : ac.eval s = .slice a n c)
    {ys : List Int} {S' : Nat} (hr : OwI w S S' b m d ys) (hBS : B ≤ S) {z : Nat} (hx : ac.eval x = .slice (some ⟨z, 0, none⟩) 1 1) (hz : z = w.heap.size) (hn : n + 1 ≤ 1048576) (hbase : B ≤ w.heap.size) (hS : S ≤ w.heap.size) (hS' : S' ≤ w.heap.size)
    (h : ∀ a' c' w', KO w' B w'.heap.size a' (n + 1) c' (xs ++ [(ys, y)]) → w.grownBy w' (Value.slice a n c).ownBlock → wpList Try.prog ops Q rest (ac.put o.dst (.slice a' (n + 1) c')) w') :
    wpList Try.prog ops Q (o :: rest) ac W := by
  subst hW
  subst hz
  obtain ⟨i0, hi, hz0, hz1, hz2⟩ := info_parts Try.info101
  obtain ⟨vs, h1, h2, h3⟩ := hown
  have hlen := hr.len
  have hvl := h3.len
  have h10 := h1.1
  have h1a := h1.alloc (.cells #[.slice b m d, .int .i64 y] 101)
  refine wpList_append_own _ hgd s x 36 ho B 101 i0 (.agg #[.slice none 0 0, .int .i64 0]) 2 32 Try.underlying36 hi hz0 hz1 hz2 rfl (by decide) _ n vs hs h1a ⟨w.heap.size, 0, none⟩ 1 1 [.slice b m d, .int .i64 y] hx rfl ?_ ?_ (by unfold maxLen; omega) (by omega) (by simp; omega) ?_
  · intro j u hj
    match j, hj with
    | 0, hj => simp at hj; subst hj; simp [Addr.add]
    | 1, hj => simp at hj; subst hj; simp [Addr.add]
  · intro u hu
    simp at hu
    rcases hu with rfl | rfl <;> rfl
  · intro v' w' h4 h5 _
    obtain ⟨a', c', rfl⟩ := slice_ofT h4
    have hg := grownBy.trans (World.grownBy_alloc w (.cells #[.slice b m d, .int .i64 y] 101) (Value.slice a n c).ownBlock) h5
    have hsz := hg.size
    have keep : ∀ {B0 S0 : Nat} {a0 : Option Addr} {l0 c0 : Nat} {zs : List Int}, OwI w B0 S0 a0 l0 c0 zs → OwI w' B0 S0 a0 l0 c0 zs := fun hio => ⟨hio.1.kept hg (fun k hk e => ne_blockTK h1 hio k e hk), hio.2⟩
    have hold : ∀ i v, vs[i * 2]? = some v → ∀ g, v.ownBlock = some g → g < S := by
      intro i v hv g hvg
      have hi := lt_of_some hv
      obtain ⟨p, hp⟩ := some_of (show i < xs.length by omega)
      obtain ⟨a2, c2, e1, _, e3⟩ := h3.each i p hp
      rw [hv] at e1
      obtain rfl := Option.some.inj e1
      exact e3.2 g hvg
    have hnew : ∀ g, (Value.slice b m d).ownBlock = some g → S ≤ g := fun g hg => hr.1.lo g hg
    refine h a' c' w' ⟨vs ++ [.slice b m d, .int .i64 y], h4, fun k hk => (h4.lt k hk).2, by simp; omega, fun k p hp => ?_, ?_⟩ hg
    · rcases Nat.lt_or_ge k xs.length with hk | hk
      · rw [List.getElem?_append_left hk] at hp
        obtain ⟨a2, c2, e1, e2, e3⟩ := h3.each k p hp
        exact ⟨a2, c2, by rw [List.getElem?_append_left (by omega)]; exact e1, by rw [List.getElem?_append_left (by omega)]; exact e2, (keep e3).mono (Nat.le_refl _) (by omega)⟩
      · rw [List.getElem?_append_right hk] at hp
        have hk0 : k - xs.length = 0 := by have := lt_of_some hp; simp at this; omega
        rw [hk0] at hp
        obtain rfl : (ys, y) = p := by simpa using hp
        have hkx : k = xs.length := by omega
        refine ⟨b, d, ?_, ?_, ?_⟩
        · rw [List.getElem?_append_right (by omega), show k * 2 - vs.length = 0 by omega, hlen]; rfl
        · rw [List.getElem?_append_right (by omega), show k * 2 + 1 - vs.length = 1 by omega]; rfl
        · show OwI w' B w'.heap.size b ys.length d ys
          rw [hlen]
          exact (keep hr).mono hBS (by omega)
    · intro i j u v g hu hv hug hvg
      have split : ∀ i u, (vs ++ [Value.slice b m d, .int .i64 y])[i * 2]? = some u → (i * 2 < vs.length ∧ vs[i * 2]? = some u) ∨ (i * 2 = vs.length ∧ u = .slice b m d) := by
        intro i u hu
        rcases Nat.lt_or_ge (i * 2) vs.length with hi | hi
        · rw [List.getElem?_append_left hi] at hu
          exact .inl ⟨hi, hu⟩
        · rw [List.getElem?_append_right hi] at hu
          have hlt := lt_of_some hu
          simp at hlt
          have e0 : i * 2 - vs.length = 0 := by omega
          rw [e0] at hu
          simp at hu
          exact .inr ⟨by omega, hu.symm⟩
      rcases split i u hu with ⟨_, hu⟩ | ⟨e1, rfl⟩ <;> rcases split j v hv with ⟨_, hv⟩ | ⟨e2, rfl⟩
      · exact h3.apart i j u v g hu hv hug hvg
      · have := hold i u hu g hug
        have := hnew g hvg
        omega
      · have := hold j v hv g hvg
        have := hnew g hug
        omega
      · omega

theorem szl_K (a : Option Addr) (n c : Nat) (xs : List (List Int × Int)) (left : Int) (w : World) (hr : RP w a xs) (hn : xs.length = n) (h0 : 0 ≤ left) (h1 : left ≤ 1048576) (hb : Wide_P n xs) :
    Calls Try.prog 29 #[.slice a n c, .int .i64 left] w fun e w' => e = .returned (.int .i64 (leftOf left (ms_K xs))) ∧ Below w.heap.size w w' := szl_PK a n c xs left w hr hn h0 h1 hb
theorem eq_K (a b : Option Addr) (n c m d : Nat) (xs ys : List (List Int × Int)) (w : World) (hr : RP w a xs) (hs : RP w b ys) (hn : xs.length = n) (hm : ys.length = m) (hb : n ≤ 17592186044416) (hsh : ∀ p ∈ xs, p.1.length ≤ 1048576) :
    Calls Try.prog 33 #[.slice a n c, .slice b m d] w fun e w' => e = .returned (.bool (decide (xs = ys))) ∧ Below w.heap.size w w' := eq_PK a b n c m d xs ys w hr hs hn hm hb hsh
theorem KO.at {w : World} {B S : Nat} {a : Option Addr} {n c : Nat} {xs : List (List Int × Int)} (h : KO w B S a n c xs) (hn : 0 < n) : ∃ g, a = some ⟨g, 0, none⟩ ∧ B ≤ g ∧ g < S := by
  obtain ⟨vs, h1, h2, _⟩ := h
  rcases row2_shape h1 with ⟨h0, _⟩ | ⟨g, rfl, hB, _⟩
  · omega
  · exact ⟨g, rfl, hB, h2 g rfl⟩
/-- one term's parts, and both of them put anew -/
theorem KO.open {w : World} {B S g n c : Nat} {xs : List (List Int × Int)} (h : KO w B S (some ⟨g, 0, none⟩) n c xs) {i : Nat} {p : List Int × Int} (hi : xs[i]? = some p) :
    ∃ a' c', w.cell? ⟨g, i * 2, none⟩ = some (.slice a' p.1.length c') ∧ w.cell? ⟨g, i * 2 + 1, none⟩ = some (.int .i64 p.2) ∧ OwI w B S a' p.1.length c' p.1 ∧
      ∀ w' ys (v : Int), ys.length = p.1.length → OS w' B a' p.1.length c' ys → w.grownBy w' (Value.slice a' p.1.length c').ownBlock →
        w'.cell? ⟨g, i * 2 + 1, none⟩ = some (.int .i64 p.2) ∧ w'.frozen? ⟨g, i * 2 + 1, none⟩ = false ∧
        KO (w'.setCell ⟨g, i * 2 + 1, none⟩ (.int .i64 v)) B S (some ⟨g, 0, none⟩) n c (xs.set i (ys, v)) ∧ w'.grownBy (w'.setCell ⟨g, i * 2 + 1, none⟩ (.int .i64 v)) (some g) := by
  obtain ⟨vs, h1, h2, h3⟩ := h
  obtain ⟨a', c', e1, e2, ho⟩ := h3.each i p hi
  have hlv : vs.length = n * 2 := h1.1
  have hil := lt_of_some hi
  have hln := h3.len
  refine ⟨a', c', (row2_cell h1 e1).1, (row2_cell h1 e2).1, ho, fun w' ys v hl hos hg => ?_⟩
  have h1' := grown_keeps2 h1 hg (fun k hk e => ne_blockTK h1 ho k hk e)
  have s := h1'.stored (i * 2 + 1) (.int .i64 v)
  refine ⟨(row2_cell h1' e2).1, (row2_cell h1' e2).2, ⟨_, s.1, h2, ?_⟩, s.2⟩
  have fin : ∀ {b : Option Addr} {m d : Nat} {zs : List Int}, OwI w' B S b m d zs → OwI (w'.setCell ⟨g, i * 2 + 1, none⟩ (.int .i64 v)) B S b m d zs := fun hio => ⟨hio.1.kept s.2 (fun k hk e => ne_blockTK h1' hio g rfl (by rw [hk, ← Option.some.inj e])), hio.2⟩
  refine ⟨by rw [List.length_set, List.length_set]; exact h3.len, fun k q hq => ?_, ?_⟩
  · rw [List.getElem?_set] at hq
    by_cases hk : i = k
    · subst hk
      rw [if_pos rfl, if_pos hil] at hq
      obtain rfl := Option.some.inj hq
      refine ⟨a', c', ?_, ?_, ?_⟩
      · rw [List.getElem?_set, if_neg (by omega), hl]; exact e1
      · rw [List.getElem?_set, if_pos rfl, if_pos (by omega)]
      · rw [hl]; exact fin ⟨hos, ho.2⟩
    · rw [if_neg hk] at hq
      obtain ⟨a2, c2, e3, e4, ho2⟩ := h3.each k q hq
      refine ⟨a2, c2, ?_, ?_, fin ⟨ho2.1.kept hg (fun r hr e => hk (h3.apart i k _ _ r e1 e3 e hr)), ho2.2⟩⟩
      · rw [List.getElem?_set, if_neg (by omega)]; exact e3
      · rw [List.getElem?_set, if_neg (by omega)]; exact e4
  · intro k j u v' r hu hv
    rw [List.getElem?_set, if_neg (by omega)] at hu hv
    exact h3.apart k j u v' r hu hv

set_option maxRecDepth 100000 in
set_option maxHeartbeats 1600000 in
theorem mark_K (B S : Nat) (a : Option Addr) (n c : Nat) (xs : List (List Int × Int)) (k : Int) (w : World) {Z : Nat} (ho : KO w B S a n c xs) (hk0 : 0 ≤ k) (hk : k ≤ 4398046511104) (hb : Z ≤ 1099511627776) (hZ : sz_T xs = Z) (hbn : n ≤ 17592186044416) :
    Calls Try.prog 34 #[.slice a n c, .int .i64 k] w fun e w' => e = .returned (.int .i64 (k + Z)) ∧ KO w' B S a n c (mk_T xs k) ∧ Only B S w w' := by
  have hn := ho.len
  have Hn := Lib.hid hn; clear hn
  have HZ := Lib.hid hZ; clear hZ
  go_enter Try.func34, Try.ntmps34
  go_wp2
  go_loopw [1, 5] (fun kk i wr => ∃ j : Nat, j ≤ n ∧ i = .int .i64 j ∧ kk = .int .i64 (k + (sz_T (xs.take j) : Int)) ∧ KO wr B S a n c (markT xs k j) ∧ Only B S w wr) (fun _ i _ => n - (intOf i).toNat)
  case atStart => exact ⟨0, Nat.zero_le _, rfl, by simp [sz_T], by rw [markT_zero]; exact ho, Only.refl _ _ _⟩
  case round =>
    obtain ⟨j, hj, rfl, rfl, hr, hg⟩ := hrel
    obtain ⟨wo, rfl⟩ : ∃ wo : World, wo = wr := ⟨_, rfl⟩
    by_cases hlt : j < n
    · obtain ⟨x, hx⟩ := some_of (show j < xs.length by rw [Hn.out]; exact hlt)
      obtain ⟨g, rfl, hBg, hgS⟩ := hr.at (by omega)
      obtain ⟨a', c', hc, hc2, hio, hset⟩ := hr.open (markT_at hx k)
      have hs1 := sz_T_take hx
      have hs2 := sz_T_le xs j
      have hs3 := sz_T_le xs (j + 1)
      have hst := markT_succ hx k
      rw [HZ.out] at hs2 hs3
      obtain ⟨s, hs⟩ : ∃ s, sz_T (xs.take j) = s := ⟨_, rfl⟩
      obtain ⟨l, hl⟩ : ∃ l, x.1.length = l := ⟨_, rfl⟩
      rw [hs] at hs1 hs2 hst ⊢
      rw [hl] at hs1 hc hio hset hst
      have hsl : s + l + 1 ≤ 1099511627776 := by omega
      have Hs1 := Lib.hid hs1; clear hs1 hs3
      have Hs := Lib.hid hs; clear hs
      have Hl := Lib.hid hl; clear hl
      have Hst := Lib.hid hst; clear hst hx
      have Hset := Lib.hid hset; clear hset
      go_wp2_with fail
      refine (markIntS_any _ _ _ _ _ _ _ hio.1 (by omega) (by omega) (by omega)).mono ?_
      rintro e w1 ⟨rfl, hos, hgr⟩
      obtain ⟨f1, f2, hto, hg2⟩ := Hset.out w1 (iota (k + (s : Int)) l) (k + (s : Int) + (l : Int)) (by rw [iota_length]) hos hgr
      rw [Hst.out] at hto
      have Hto := Lib.hid hto
      have ho1 := Lib.hid ((hg.trans (Only.of_grown hgr hio.1.lo hio.2)).trans (Only.setCell w1 g (j * 2 + 1) (.int .i64 (k + (s : Int) + (l : Int))) hBg hgS))
      clear hos hgr hio hr hg hto hg2 hc hc2
      go_wp2
      go_roundw
      case rel => exact ⟨j + 1, by omega, by go_num, by rw [Hs1.out]; go_num, Hto.out, ho1.out⟩
      case measure => simp [intOf]; omega
    · obtain rfl : j = n := by omega
      go_wp2
      go_ret
      rw [markT_all Hn.out] at hr
      exact ⟨ret_int (by rw [List.take_of_length_le (by rw [Hn.out]; omega), HZ.out]), hr, hg⟩

set_option maxRecDepth 100000 in
set_option maxHeartbeats 1600000 in
theorem heldT_anyK (a : Option Addr) (n c : Nat) (xs : List (List Int × Int)) (k : Int) (w : World) {Z : Nat} (hr : RP w a (mk_T xs k)) (hn : xs.length = n) (hk0 : 0 ≤ k) (hk : k ≤ 4398046511104) (hb : Z ≤ 1099511627776) (hZ : sz_T xs = Z) (hbn : n ≤ 17592186044416) :
    Calls Try.prog 39 #[.slice a n c, .int .i64 k] w fun e w' => e = .returned (.int .i64 (k + Z)) ∧ Drew w w' := by
  have Hn := Lib.hid hn; clear hn
  have HZ := Lib.hid hZ; clear hZ
  go_enter Try.func39, Try.ntmps39
  go_wp2
  go_loopw [1, 5] (fun kk i wr => ∃ j : Nat, j ≤ n ∧ i = .int .i64 j ∧ kk = .int .i64 (k + (sz_T (xs.take j) : Int)) ∧ Drew w wr) (fun _ i _ => n - (intOf i).toNat)
  case atStart => exact ⟨0, Nat.zero_le _, rfl, by simp [sz_T], Drew.refl _⟩
  case round =>
    obtain ⟨j, hj, rfl, rfl, hd⟩ := hrel
    obtain ⟨wo, rfl⟩ : ∃ wo : World, wo = wr := ⟨_, rfl⟩
    by_cases hlt : j < n
    · obtain ⟨x, hx⟩ := some_of (show j < xs.length by rw [Hn.out]; exact hlt)
      have hrw := hr.below (hd.below _)
      obtain ⟨b, off, rfl, hcell⟩ := hrw.at (k := j) (by rw [mk_T_length, Hn.out]; exact hlt)
      obtain ⟨a', c', hc, hc2, hri, _⟩ := hcell j _ (mk_T_at hx k)
      simp only at hc hc2 hri
      rw [iota_length] at hc
      have hs1 := sz_T_take hx
      have hs2 := sz_T_le xs j
      have hs3 := sz_T_le xs (j + 1)
      rw [HZ.out] at hs2 hs3
      obtain ⟨s, hs⟩ : ∃ s, sz_T (xs.take j) = s := ⟨_, rfl⟩
      obtain ⟨l, hl⟩ : ∃ l, x.1.length = l := ⟨_, rfl⟩
      rw [hs] at hs1 hs2 hri hc2 ⊢
      rw [hl] at hs1 hc hri hc2
      have hsl : s + l + 1 ≤ 1099511627776 := by omega
      have Hs1 := Lib.hid hs1; clear hs1 hs3
      have Hs := Lib.hid hs; clear hs
      have Hl := Lib.hid hl; clear hl hx hcell hrw
      go_wp2_with fail
      refine (heldIntS_any _ _ _ _ _ hri (by omega) (by omega) (by omega)).mono ?_
      rintro e w1 ⟨rfl, hd1⟩
      have hd' := hd.trans hd1
      have hB1 := hd1.below wo.heap.size
      have hc3 : w1.cell? ⟨b, off + j * 2 + 1, none⟩ = some (.int .i64 (k + (s : Int) + (l : Int))) := by rw [hB1.cell (World.block_lt_of_cell? _ _ hc2)]; exact hc2
      have hne : ((k + (s : Int) + (l : Int)) != (k + (s : Int) + (l : Int))) = false := by simp
      have hn0 : ¬ k + (s : Int) + (l : Int) < 0 := by omega
      clear hc hc2 hri hd hd1 hB1
      go_wp2
      go_roundw
      case rel => exact ⟨j + 1, by omega, by go_num, by rw [Hs1.out]; go_num, hd'⟩
      case measure => simp [intOf]; omega
    · obtain rfl : j = n := by omega
      go_wp2
      go_ret
      exact ⟨ret_int (by rw [List.take_of_length_le (by rw [Hn.out]; omega), HZ.out]), hd⟩
theorem held_K {B S : Nat} (a : Option Addr) (n c : Nat) (xs : List (List Int × Int)) (k : Int) (w : World) {Z : Nat} (ho : KO w B S a n c (mk_T xs k)) (hk0 : 0 ≤ k) (hk : k ≤ 4398046511104) (hb : Z ≤ 1099511627776) (hZ : sz_T xs = Z) (hbn : n ≤ 17592186044416) :
    Calls Try.prog 39 #[.slice a n c, .int .i64 k] w fun e w' => e = .returned (.int .i64 (k + Z)) ∧ Drew w w' :=
  heldT_anyK a n c xs k w ho.rd (by rw [← ho.len, mk_T_length]) hk0 hk hb hZ hbn

theorem KO.zeros {w : World} {B n : Nat} {vs : List Value} (h : w.ownsRow B 101 2 (.slice (some ⟨B, 0, none⟩) n n) n vs)
    (hv : ∀ k, k < n → vs[k * 2]? = some (.slice none 0 0) ∧ vs[k * 2 + 1]? = some (.int .i64 0)) : KO w B w.heap.size (some ⟨B, 0, none⟩) n n (List.replicate n ([], 0)) := by
  have hl : vs.length = n * 2 := h.1
  refine ⟨vs, h, fun k hk => (h.lt k hk).2, by simp; omega, fun k p hp => ?_, fun i j u v g hu hv' hug _ => ?_⟩
  · rw [List.getElem?_replicate] at hp
    split at hp
    · rename_i hk
      obtain rfl := Option.some.inj hp
      exact ⟨none, 0, (hv k hk).1, (hv k hk).2, ⟨rfl, World.ownsRow_nil _ _ _ _⟩, by simp [Value.ownBlock]⟩
    · cases hp
  · have hi := lt_of_some hu
    rw [(hv i (by omega)).1] at hu
    obtain rfl := Option.some.inj hu
    cases hug
theorem KO.put {w : World} {B S g n c : Nat} {xs : List (List Int × Int)} (h : KO w B S (some ⟨g, 0, none⟩) n c xs) {i : Nat} {p : List Int × Int} (hi : xs[i]? = some p) {S1 S' : Nat} {a' : Option Addr} {l c' : Nat} {ys : List Int} (hy : OwI w S1 S' a' l c' ys) (hS1 : S ≤ S1) (hB : B ≤ S1) (hSS : S ≤ S') (v : Int) :
    (∃ old, w.cell? ⟨g, i * 2, none⟩ = some old) ∧ w.frozen? ⟨g, i * 2, none⟩ = false ∧
    (∃ old, (w.setCell ⟨g, i * 2, none⟩ (.slice a' l c')).cell? ⟨g, i * 2 + 1, none⟩ = some old) ∧ (w.setCell ⟨g, i * 2, none⟩ (.slice a' l c')).frozen? ⟨g, i * 2 + 1, none⟩ = false ∧
    KO ((w.setCell ⟨g, i * 2, none⟩ (.slice a' l c')).setCell ⟨g, i * 2 + 1, none⟩ (.int .i64 v)) B S' (some ⟨g, 0, none⟩) n c (xs.set i (ys, v)) := by
  obtain ⟨vs, h1, h2, h3⟩ := h
  obtain ⟨b0, d0, e1, e2, ho⟩ := h3.each i p hi
  have hlv : vs.length = n * 2 := h1.1
  have hil := lt_of_some hi
  have hln := h3.len
  have s1 := h1.stored (i * 2) (.slice a' l c')
  have s2 := s1.1.stored (i * 2 + 1) (.int .i64 v)
  have e3 : (vs.set (i * 2) (.slice a' l c'))[i * 2 + 1]? = some (.int .i64 p.2) := by rw [List.getElem?_set, if_neg (by omega)]; exact e2
  refine ⟨⟨_, (row2_cell h1 e1).1⟩, (row2_cell h1 e1).2, ⟨_, (row2_cell s1.1 e3).1⟩, (row2_cell s1.1 e3).2, _, s2.1, fun k hk => Nat.lt_of_lt_of_le (h2 k hk) hSS, ?_⟩
  have fin : ∀ {B0 S0 : Nat} {b : Option Addr} {m d : Nat} {zs : List Int}, OwI w B0 S0 b m d zs → OwI ((w.setCell ⟨g, i * 2, none⟩ (.slice a' l c')).setCell ⟨g, i * 2 + 1, none⟩ (.int .i64 v)) B0 S0 b m d zs := fun hio => by
    have i1 : OwI (w.setCell ⟨g, i * 2, none⟩ (.slice a' l c')) _ _ _ _ _ _ := ⟨hio.1.kept s1.2 (fun k hk e => ne_blockTK h1 hio g rfl (by rw [hk, ← Option.some.inj e])), hio.2⟩
    exact ⟨i1.1.kept s2.2 (fun k hk e => ne_blockTK s1.1 i1 g rfl (by rw [hk, ← Option.some.inj e])), i1.2⟩
  have hold : ∀ k u, vs[k * 2]? = some u → ∀ r, u.ownBlock = some r → r < S := by
    intro k u hu r hur
    have hk := lt_of_some hu
    obtain ⟨q, hq⟩ := some_of (show k < xs.length by omega)
    obtain ⟨a2, c2, f1, _, f3⟩ := h3.each k q hq
    rw [hu] at f1
    obtain rfl := Option.some.inj f1
    exact f3.2 r hur
  have hnew : ∀ r, (Value.slice a' l c').ownBlock = some r → S1 ≤ r := fun r hr => hy.1.lo r hr
  refine ⟨by rw [List.length_set, List.length_set, List.length_set]; exact h3.len, fun k q hq => ?_, ?_⟩
  · rw [List.getElem?_set] at hq
    by_cases hk : i = k
    · subst hk
      rw [if_pos rfl, if_pos hil] at hq
      obtain rfl := Option.some.inj hq
      obtain rfl := hy.len
      refine ⟨a', c', ?_, ?_, ?_⟩
      · rw [List.getElem?_set, if_neg (by omega), List.getElem?_set, if_pos rfl, if_pos (by omega)]
      · rw [List.getElem?_set, if_pos rfl, if_pos (by rw [List.length_set]; omega)]
      · exact (fin hy).mono hB (Nat.le_refl _)
    · rw [if_neg hk] at hq
      obtain ⟨a2, c2, f1, f2, ho2⟩ := h3.each k q hq
      refine ⟨a2, c2, ?_, ?_, (fin ho2).mono (Nat.le_refl _) hSS⟩
      · rw [List.getElem?_set, if_neg (by omega), List.getElem?_set, if_neg (by omega)]; exact f1
      · rw [List.getElem?_set, if_neg (by omega), List.getElem?_set, if_neg (by omega)]; exact f2
  · have split : ∀ k u, ((vs.set (i * 2) (.slice a' l c')).set (i * 2 + 1) (.int .i64 v))[k * 2]? = some u → (k ≠ i ∧ vs[k * 2]? = some u) ∨ (k = i ∧ u = .slice a' l c') := by
      intro k u hu
      rw [List.getElem?_set, if_neg (by omega), List.getElem?_set] at hu
      by_cases hk : i = k
      · subst hk
        rw [if_pos rfl, if_pos (by omega)] at hu
        exact .inr ⟨rfl, (Option.some.inj hu).symm⟩
      · rw [if_neg (by omega)] at hu
        exact .inl ⟨fun e => hk e.symm, hu⟩
    intro k j u v' r hu hv hur hvr
    rcases split k u hu with ⟨_, hu2⟩ | ⟨ei, eu⟩ <;> rcases split j v' hv with ⟨_, hv2⟩ | ⟨ej, ev⟩
    · exact h3.apart k j u v' r hu2 hv2 hur hvr
    · rw [ev] at hvr
      have := hold k u hu2 r hur
      have := hnew r hvr
      omega
    · rw [eu] at hur
      have := hold j v' hv2 r hvr
      have := hnew r hur
      omega
    · omega

set_option maxRecDepth 100000 in
set_option maxHeartbeats 1600000 in
theorem conv_K (a : Option Addr) (n c : Nat) (xs : List (List Int × Int)) (w : World) (hr : RP w a xs) (hn : xs.length = n) (hb : n ≤ 1048576) (hsh : Short_P xs) :
    Calls Try.prog 31 #[.slice a n c] w fun e w' => ∃ a' c', e = .returned (.slice a' n c') ∧ KO w' w.heap.size w'.heap.size a' n c' xs ∧ Below w.heap.size w w' := by
  have Hn := Lib.hid hn; clear hn
  have HSh := Lib.hid hsh; clear hsh
  obtain ⟨i0, hi, hz0, hz1, hz2⟩ := info_parts Try.info101
  go_enter Try.func31, Try.ntmps31
  go_wp2_with (first | (at_make; refine wpList_make_full _ rfl _ _ 36 rfl w.heap.size 101 i0 (.agg #[.slice none 0 0, .int .i64 0]) 2 Try.underlying36 hi hz0 hz1 .i64 .i64 _ _ n rfl rfl ?m1 ?m2 ?m3 ?m4 ?m5 ?_))
  case m1 => rfl
  case m2 => rfl
  case m3 => rw [hz2]; omega
  case m4 => unfold maxLen; omega
  case m5 => exact Nat.le_refl _
  intro w1 hown hg
  have hB : Below w.heap.size w w1 := (Below.refl _ _).grown hg (Nat.le_refl _) (by simp)
  have hrow : KO w1 w.heap.size w1.heap.size (some ⟨w.heap.size, 0, none⟩) n n (fillP xs n 0) := by
    have h1 : fillP xs n 0 = List.replicate n ([], 0) := by simp [fillP]
    rw [h1]
    exact KO.zeros hown fun k hk => madeP_at hk
  clear hown hg
  go_wp2
  go_loopw [4] (fun i wr => ∃ k : Nat, k ≤ n ∧ i = .int .i64 k ∧ KO wr w.heap.size wr.heap.size (some ⟨w.heap.size, 0, none⟩) n n (fillP xs n k) ∧ Below w.heap.size w wr) (fun i _ => n - (intOf i).toNat)
  case atStart => exact ⟨0, Nat.zero_le _, rfl, hrow, hB⟩
  case round =>
    clear hrow hB
    obtain ⟨k, hk, rfl, ho, hbel⟩ := hrel
    obtain ⟨wo, rfl⟩ : ∃ wo : World, wo = wr := ⟨_, rfl⟩
    by_cases hlt : k < n
    · obtain ⟨b, off, rfl, hcell⟩ := (hr.below hbel).at (k := k) (by rw [Hn.out]; exact hlt)
      obtain ⟨x, y, hx⟩ := part_at Hn.out hlt
      obtain ⟨a1, c1, hc1, hc2, hri, _⟩ := hcell k _ hx
      have hxl : x.length ≤ 1048576 := HSh.out (x, y) (List.mem_of_getElem? hx)
      simp only at hc1 hc2 hri
      have Hx := Lib.hid hx; clear hx hcell
      obtain ⟨l, hl⟩ : ∃ l, x.length = l := ⟨_, rfl⟩
      rw [hl] at hc1 hxl
      have Hl := Lib.hid hl; clear hl
      have hs0 := hbel.size
      have hs1 : w.heap.size < wo.heap.size := by
        obtain ⟨vs, h1, _⟩ := ho
        exact (h1.lt _ rfl).2
      obtain ⟨pold, hpold⟩ := some_of (show k < (fillP xs n k).length by rw [fillP_length Hn.out (by omega)]; exact hlt)
      go_wp2_with fail
      refine (toPart_anyK _ _ _ x y _ hri Hl.out (by omega)).mono ?_
      rintro e w2 ⟨a2, c2, rfl, ho2, hb2⟩
      have ho1 := ho.below hb2
      obtain ⟨⟨old, hold⟩, hfz, ⟨old2, hold2⟩, hfz2, hput⟩ := ho1.put hpold ho2 (Nat.le_refl _) hs0 hb2.size y
      have hB2 := ((hbel.trans (hb2.mono hs0)).setCell (p := ⟨w.heap.size, k * 2, none⟩) (Nat.le_refl _) (.slice a2 l c2)).setCell (p := ⟨w.heap.size, k * 2 + 1, none⟩) (Nat.le_refl _) (.int .i64 y)
      rw [fillP_succ Hn.out hlt Hx.out] at hput
      have hput' : KO ((w2.setCell ⟨w.heap.size, k * 2, none⟩ (.slice a2 l c2)).setCell ⟨w.heap.size, k * 2 + 1, none⟩ (.int .i64 y)) w.heap.size ((w2.setCell ⟨w.heap.size, k * 2, none⟩ (.slice a2 l c2)).setCell ⟨w.heap.size, k * 2 + 1, none⟩ (.int .i64 y)).heap.size (some ⟨w.heap.size, 0, none⟩) n n (fillP xs n (k + 1)) := by simpa using hput
      have HP := Lib.hid hput'
      have HB := Lib.hid hB2
      clear ho ho1 ho2 hput hput' hri hb2 hB2 hpold
      go_wp2
      go_roundw
      case rel => exact ⟨k + 1, by omega, by go_num, HP.out, HB.out⟩
      case measure => simp [intOf]; omega
    · obtain rfl : k = n := by omega
      go_wp2
      go_ret
      rw [fillP_all Hn.out] at ho
      exact ⟨_, _, rfl, ho, hbel⟩

end Go.Proofs.Ytocgcgmlemoekaa
