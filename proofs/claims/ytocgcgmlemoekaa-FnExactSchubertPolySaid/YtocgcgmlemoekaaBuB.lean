/-
  Slices of pairs of a slice of integers and an integer: what they read as; compared, measured.
  Slices of pairs of a slice of integers and an integer: measured, compared.
  Contract of toPart.
  Contract of toTermS; what came in, opened: a slice of pairs of a slice of integers and an integer.
  Contract of toTermS.
-/
import Derived.Test.YtocgcgmlemoekaaSzI
import Derived.StillTailTactics
import Derived.Laws.Rows
import Derived.Test.YtocgcgmlemoekaaOpen
import Derived.Deep.SlicePairs
namespace Go.Proofs.Ytocgcgmlemoekaa
open Go.RowKit

/-- the slice at address a reads as pairs -/
def RP (w : World) (a : Option Addr) (xs : List (List Int × Int)) : Prop :=
  xs = [] ∨ ∃ b off, a = some ⟨b, off, none⟩ ∧ ∀ k p, xs[k]? = some p → ∃ a' c', w.cell? ⟨b, off + k * 2, none⟩ = some (.slice a' p.1.length c') ∧ w.cell? ⟨b, off + k * 2 + 1, none⟩ = some (.int .i64 p.2) ∧ RI w a' p.1 ∧ p.1.length ≤ c'
theorem RP.at {w : World} {a : Option Addr} {xs : List (List Int × Int)} (h : RP w a xs) {k : Nat} (hk : k < xs.length) :
    ∃ b off, a = some ⟨b, off, none⟩ ∧ ∀ k p, xs[k]? = some p → ∃ a' c', w.cell? ⟨b, off + k * 2, none⟩ = some (.slice a' p.1.length c') ∧ w.cell? ⟨b, off + k * 2 + 1, none⟩ = some (.int .i64 p.2) ∧ RI w a' p.1 ∧ p.1.length ≤ c' := by
  rcases h with rfl | h
  · simp at hk
  · exact h
theorem RP.below {w w' : World} {a : Option Addr} {xs : List (List Int × Int)} (h : RP w a xs) (hb : Below w.heap.size w w') : RP w' a xs := by
  rcases h with h | ⟨b, off, ha, hc⟩
  · exact .inl h
  · exact .inr ⟨b, off, ha, fun k x hx => by
      obtain ⟨a', c', h1, h2, h3, h4⟩ := hc k x hx
      exact ⟨a', c', by rw [hb.cell (World.block_lt_of_cell? w _ h1)]; exact h1, by rw [hb.cell (World.block_lt_of_cell? w _ h2)]; exact h2, h3.below hb, h4⟩⟩
theorem part_at {xs : List (List Int × Int)} {n k : Nat} (h : xs.length = n) (hk : k < n) : ∃ p q, xs[k]? = some (p, q) := ⟨(xs[k]'(by omega)).1, (xs[k]'(by omega)).2, List.getElem?_eq_getElem (by omega)⟩

set_option maxRecDepth 100000 in
set_option maxHeartbeats 800000 in
theorem eqPart_any (a b : Option Addr) (n c m d : Nat) (xs ys : List Int) (x y : Int) (w : World) (hr : RI w a xs) (hs : RI w b ys) (hn : xs.length = n) (hm : ys.length = m) (hb : n ≤ 1048576) :
    Calls Try.prog 72 #[.agg #[.slice a n c, .int .i64 x], .agg #[.slice b m d, .int .i64 y]] w fun e w' => e = .returned (.bool (decide ((xs, x) = (ys, y)))) ∧ Below w.heap.size w w' := by
  have hB := ((Below.refl w.heap.size w).alloc (Nat.le_refl _) (.cells #[.slice a n c, .int .i64 x] 83)).alloc (by simp only [World.alloc, Array.size_push]; omega) (.cells #[.slice b m d, .int .i64 y] 83)
  have hr1 := hr.below hB
  have hs1 := hs.below hB
  have HB := Lib.hid hB; clear hB
  by_cases h1 : xs = ys
  · have e0 := Lib.hid (show decide (xs = ys) = true by simp [h1])
    by_cases h2 : x = y
    · subst h2
      have e2 : (x != x) = false := by simp
      have Hres := Lib.hid (show decide ((xs, x) = (ys, x)) = true by simp [h1])
      clear h1
      go_enter Try.func72, Try.ntmps72
      go_wp2_with fail
      refine (is (eqIntS_any _ _ _ _ _ _ xs ys _ hr1 hs1 hn hm (by omega)) e0.out).mono ?_
      rintro e w1 ⟨rfl, ⟨q, rfl⟩⟩
      go_wp2
      go_ret
      exact ⟨ret_bool Hres.out.symm, HB.out.trans (Drew.below ⟨q, rfl⟩ _)⟩
    · have e2 : (x != y) = true := by simp [h2]
      have Hres := Lib.hid (show decide ((xs, x) = (ys, y)) = false by simp [h2])
      clear h1
      go_enter Try.func72, Try.ntmps72
      go_wp2_with fail
      refine (is (eqIntS_any _ _ _ _ _ _ xs ys _ hr1 hs1 hn hm (by omega)) e0.out).mono ?_
      rintro e w1 ⟨rfl, ⟨q, rfl⟩⟩
      go_wp2
      go_ret
      exact ⟨ret_bool Hres.out.symm, HB.out.trans (Drew.below ⟨q, rfl⟩ _)⟩
  · have e0 := Lib.hid (show decide (xs = ys) = false by simp [h1])
    have Hres := Lib.hid (show decide ((xs, x) = (ys, y)) = false by simp [h1])
    clear h1
    go_enter Try.func72, Try.ntmps72
    go_wp2_with fail
    refine (is (eqIntS_any _ _ _ _ _ _ xs ys _ hr1 hs1 hn hm (by omega)) e0.out).mono ?_
    rintro e w1 ⟨rfl, ⟨q, rfl⟩⟩
    go_wp2
    go_ret
    exact ⟨ret_bool Hres.out.symm, HB.out.trans (Drew.below ⟨q, rfl⟩ _)⟩

set_option maxRecDepth 100000 in
set_option maxHeartbeats 800000 in
theorem szPart_any (a : Option Addr) (n c : Nat) (x left : Int) (w : World) (h0 : 0 ≤ left) (h1 : left ≤ 1048576) (hb : n ≤ 9223372036854775807) :
    Calls Try.prog 96 #[.agg #[.slice a n c, .int .i64 x], .int .i64 left] w fun e w' => e = .returned (.int .i64 (leftOf left n)) ∧ Below w.heap.size w w' := by
  have hB := (Below.refl w.heap.size w).alloc (Nat.le_refl _) (.cells #[.slice a n c, .int .i64 x] 106)
  have HB := Lib.hid hB; clear hB
  by_cases h : left < n
  · have hq := Lib.hid (leftOf_lt h)
    go_enter Try.func96, Try.ntmps96
    go_wp2_with fail
    refine (isInt (szIntS_any _ _ _ left _ h0 h1 hb) hq.out).mono ?_
    rintro e w1 ⟨rfl, rfl⟩
    go_wp2
    go_ret
    exact ⟨ret_int hq.out.symm, HB.out⟩
  · have hq := Lib.hid (leftOf_ge h)
    have hn : ¬ (left - (n : Int) < 0) := by omega
    go_enter Try.func96, Try.ntmps96
    go_wp2_with fail
    refine (isInt (szIntS_any _ _ _ left _ h0 h1 hb) hq.out).mono ?_
    rintro e w1 ⟨rfl, rfl⟩
    go_wp2
    go_ret
    exact ⟨ret_int hq.out.symm, HB.out⟩
end Go.Proofs.Ytocgcgmlemoekaa

namespace Go.Proofs.Ytocgcgmlemoekaa
open Go.RowKit

def heads (xs : List (List Int × Int)) : List (List Int) := xs.map fun p => p.1
def Wide_P (n : Nat) (xs : List (List Int × Int)) : Prop := n ≤ 9223372036854775807 ∧ ∀ p ∈ xs, p.1.length ≤ 9223372036854775807
def ms_P (xs : List (List Int × Int)) : Nat := xs.length + sz_II (heads xs)
theorem heads_at {xs : List (List Int × Int)} {k : Nat} {p : List Int × Int} (h : xs[k]? = some p) : (heads xs)[k]? = some p.1 := by simp [heads, h]
theorem heads_length (xs : List (List Int × Int)) : (heads xs).length = xs.length := by simp [heads]

set_option maxRecDepth 100000 in
set_option maxHeartbeats 1600000 in
theorem szl_P (a : Option Addr) (n c : Nat) (xs : List (List Int × Int)) (left : Int) (w : World) (hr : RP w a xs) (hn : xs.length = n) (h0 : 0 ≤ left) (h1 : left ≤ 1048576) (hb : Wide_P n xs) :
    Calls Try.prog 35 #[.slice a n c, .int .i64 left] w fun e w' => e = .returned (.int .i64 (leftOf left (ms_P xs))) ∧ Below w.heap.size w w' := by
  obtain ⟨hb1, hbs⟩ := hb
  have Hbs := Lib.hid hbs; clear hbs
  have hms : ms_P xs = n + sz_II (heads xs) := by rw [ms_P, hn]
  have Hms := Lib.hid hms; clear hms
  have Hn := Lib.hid hn; clear hn
  by_cases h : left < n
  · have Hres := Lib.hid (show leftOf left (ms_P xs) = -1 from leftOf_lt (by rw [Hms.out]; omega))
    go_enter Try.func35, Try.ntmps35
    go_wp2
    go_ret
    exact ⟨ret_int Hres.out.symm, Below.refl _ _⟩
  · go_enter Try.func35, Try.ntmps35
    go_wp2
    go_loopw [1, 5] (fun l i wr => Hid (∃ j : Nat, j ≤ n ∧ i = .int .i64 j ∧ n + sz_II ((heads xs).take j) ≤ left ∧ l = .int .i64 (left - (n + sz_II ((heads xs).take j) : Nat))) ∧ Below w.heap.size w wr) (fun _ i _ => n - (intOf i).toNat)
    case atStart => exact ⟨⟨0, Nat.zero_le _, rfl, by simp [sz_II]; omega, by simp [sz_II]⟩, Below.refl _ _⟩
    case round =>
      obtain ⟨HV, hB⟩ := hrel
      obtain ⟨wo, rfl⟩ : ∃ wo : World, wo = wr := ⟨_, rfl⟩
      obtain ⟨j, hj, rfl, hle, rfl⟩ := HV.out
      clear HV
      by_cases hlt : j < n
      · obtain ⟨x, v, hx⟩ := part_at Hn.out hlt
        obtain ⟨b, off, rfl, hcell⟩ := (hr.below hB).at (k := j) (by rw [Hn.out]; exact hlt)
        obtain ⟨a', c', hc, hc2, _⟩ := hcell j _ hx
        have hxl : x.length ≤ 9223372036854775807 := Hbs.out (x, v) (List.mem_of_getElem? hx)
        have hs1 := sz_II_take (heads_at hx)
        have hs2 := sz_II_le (heads xs) (j + 1)
        obtain ⟨s, hs⟩ : ∃ s, sz_II ((heads xs).take j) = s := ⟨_, rfl⟩
        obtain ⟨l, hl⟩ : ∃ l, x.length = l := ⟨_, rfl⟩
        rw [hs] at hs1 hle ⊢
        simp only at hs1 hc hc2
        rw [hl] at hs1 hc hxl
        have hres : left < (n + s + l : Nat) → leftOf left (ms_P xs) = -1 := fun hh => leftOf_lt (by rw [Hms.out]; omega)
        have Hres := Lib.hid hres
        have Hs1 := Lib.hid hs1
        clear hs1 hs hl hcell hx hs2 hres
        have hbs := hB.size
        by_cases h2 : left - (n + s : Nat) < l
        · have hq := Lib.hid (leftOf_lt h2)
          go_wp2_with fail
          refine (isInt (szPart_any _ _ _ v (left - (n + s : Nat)) _ (by omega) (by omega) hxl) hq.out).mono ?_
          rintro e w1 ⟨rfl, hb1⟩
          have hB1 := hB.trans (hb1.mono hbs)
          go_wp2
          go_ret
          exact ⟨ret_int (Hres.out (by omega)).symm, hB1⟩
        · have hq := Lib.hid (leftOf_ge h2)
          go_wp2_with fail
          refine (isInt (szPart_any _ _ _ v (left - (n + s : Nat)) _ (by omega) (by omega) hxl) hq.out).mono ?_
          rintro e w1 ⟨rfl, hb1⟩
          have hB1 := hB.trans (hb1.mono hbs)
          have hnn : ¬ (left - ((n : Int) + (s : Int)) - (l : Int) < 0) := by omega
          go_wp2
          go_roundw
          case rel => exact ⟨⟨j + 1, by omega, by go_num, by rw [Hs1.out]; omega, by rw [Hs1.out]; go_num⟩, hB1⟩
          case measure => simp [intOf]; omega
      · obtain rfl : j = n := by omega
        rw [List.take_of_length_le (by rw [heads_length, Hn.out]; exact Nat.le_refl _)] at hle ⊢
        have Hres := Lib.hid (show leftOf left (ms_P xs) = left - (j + sz_II (heads xs) : Nat) by rw [Hms.out]; exact leftOf_ge (by omega))
        obtain ⟨Z, hZ⟩ : ∃ Z, sz_II (heads xs) = Z := ⟨_, rfl⟩
        rw [hZ] at hle Hres ⊢
        go_wp2
        go_ret
        exact ⟨ret_int (by rw [Hres.out]), hB⟩

theorem eqq_of_all {xs ys : List (List Int × Int)} (hl : xs.length = ys.length) (h : ∀ j, j < xs.length → xs[j]? = ys[j]?) : decide (xs = ys) = true := by
  rw [decide_eq_true_iff]
  apply List.ext_getElem?
  intro j
  rcases Nat.lt_or_ge j xs.length with h1 | h1
  · exact h j h1
  · rw [List.getElem?_eq_none h1, List.getElem?_eq_none (by omega)]
theorem neq_of_at {xs ys : List (List Int × Int)} {k : Nat} {x y : List Int × Int} (hx : xs[k]? = some x) (hy : ys[k]? = some y) (h : x ≠ y) : decide (xs = ys) = false := by
  rw [decide_eq_false_iff_not]
  rintro rfl
  rw [hx] at hy
  exact h (by simpa using hy)

set_option maxRecDepth 100000 in
set_option maxHeartbeats 1600000 in
theorem eq_P (a b : Option Addr) (n c m d : Nat) (xs ys : List (List Int × Int)) (w : World) (hr : RP w a xs) (hs : RP w b ys) (hn : xs.length = n) (hm : ys.length = m) (hb : n ≤ 17592186044416) (hsh : ∀ p ∈ xs, p.1.length ≤ 1048576) :
    Calls Try.prog 18 #[.slice a n c, .slice b m d] w fun e w' => e = .returned (.bool (decide (xs = ys))) ∧ Below w.heap.size w w' := by
  have Hn := Lib.hid hn; clear hn
  have Hm := Lib.hid hm; clear hm
  have HSh := Lib.hid hsh; clear hsh
  by_cases hnm : n = m
  · subst hnm
    go_enter Try.func18, Try.ntmps18
    go_wp2
    go_loopw [5] (fun i wr => ∃ k : Nat, k ≤ n ∧ i = .int .i64 k ∧ Hid (∀ j, j < k → xs[j]? = ys[j]?) ∧ Below w.heap.size w wr) (fun i _ => n - (intOf i).toNat)
    case atStart => exact ⟨0, Nat.zero_le _, rfl, by intro j hj; omega, Below.refl _ _⟩
    case round =>
      obtain ⟨k, hk, rfl, HA, hB⟩ := hrel
      by_cases hlt : k < n
      · obtain ⟨b1, off, rfl, hcell⟩ := (hr.below hB).at (k := k) (by rw [Hn.out]; exact hlt)
        obtain ⟨b2, off2, rfl, hcell2⟩ := (hs.below hB).at (k := k) (by rw [Hm.out]; exact hlt)
        obtain ⟨p, q, hx⟩ := part_at Hn.out hlt
        obtain ⟨u, v, hy⟩ := part_at Hm.out hlt
        obtain ⟨a1, c1, hc1, hc2, hr1, _⟩ := hcell k _ hx
        obtain ⟨a2, c2, hc3, hc4, hr2, _⟩ := hcell2 k _ hy
        have hpl : p.length ≤ 1048576 := HSh.out (p, q) (List.mem_of_getElem? hx)
        simp only at hc1 hc2 hc3 hc4 hr1 hr2
        have Hx := Lib.hid hx; clear hx
        have Hy := Lib.hid hy; clear hy
        obtain ⟨lp, hlp⟩ : ∃ l, p.length = l := ⟨_, rfl⟩
        obtain ⟨lu, hlu⟩ : ∃ l, u.length = l := ⟨_, rfl⟩
        rw [hlp] at hc1 hpl
        rw [hlu] at hc3
        have Hlp := Lib.hid hlp
        have Hlu := Lib.hid hlu
        clear hcell hcell2 hlp hlu
        have hltI : (k : Int) < (n : Int) := by omega
        cases h1 : decide ((p, q) = (u, v))
        · have hne : (p, q) ≠ (u, v) := by simpa using h1
          have Hne := Lib.hid hne
          have H1 := Lib.hid h1; clear h1 hne
          go_wp2
          go_still_tail 8, (by kernel_rfl)
          go_wp2_with fail
          refine (is (eqPart_any _ _ _ _ _ _ p u q v _ (hr1.drew ⟨1, rfl⟩) (hr2.drew ⟨1, rfl⟩) Hlp.out Hlu.out hpl) H1.out).mono ?_
          rintro e w2 ⟨rfl, hb2⟩
          have hB2 := hB.trans ((Drew.below ⟨1, rfl⟩ w.heap.size).trans (hb2.mono hB.size))
          go_wp2
          go_ret
          exact ⟨ret_bool (neq_of_at Hx.out Hy.out Hne.out).symm, hB2⟩
        · have heq : (p, q) = (u, v) := by simpa using h1
          have Heq := Lib.hid heq
          have H1 := Lib.hid h1; clear h1 heq
          go_wp2
          go_still_tail 8, (by kernel_rfl)
          go_wp2_with fail
          refine (is (eqPart_any _ _ _ _ _ _ p u q v _ (hr1.drew ⟨1, rfl⟩) (hr2.drew ⟨1, rfl⟩) Hlp.out Hlu.out hpl) H1.out).mono ?_
          rintro e w2 ⟨rfl, hb2⟩
          have hB2 := hB.trans ((Drew.below ⟨1, rfl⟩ w.heap.size).trans (hb2.mono hB.size))
          go_wp2
          go_roundw
          case rel => exact ⟨k + 1, by omega, by go_num, by
                intro j hj
                rcases Nat.lt_or_ge j k with h | h
                · exact HA.out j h
                · obtain rfl : j = k := by omega
                  rw [Hx.out, Hy.out, Heq.out], hB2⟩
          case measure => simp [intOf]; omega
      · obtain rfl : k = n := by omega
        go_wp2
        go_ret
        exact ⟨ret_bool (eqq_of_all (by rw [Hn.out, Hm.out]) (by rw [Hn.out]; exact HA.out)).symm, hB⟩
  · have hne : ((n : Int) != (m : Int)) = true := by simp; omega
    go_enter Try.func18, Try.ntmps18
    go_wp2
    go_ret
    exact ⟨ret_bool (by symm; rw [decide_eq_false_iff_not]; rintro rfl; exact hnm (by rw [← Hn.out, ← Hm.out])), Below.refl _ _⟩
end Go.Proofs.Ytocgcgmlemoekaa

namespace Go.Proofs.Ytocgcgmlemoekaa
open Go.RowKit

theorem Only.setCell {B S : Nat} (w : World) (g j : Nat) (v : Value) (h1 : B ≤ g) (h2 : g < S) : Only B S w (w.setCell ⟨g, j, none⟩ v) :=
  ⟨rfl, rfl, rfl, by simp, fun k _ hk => heap_setCell_other w ⟨g, j, none⟩ k v (fun e => hk (by simp at e; omega))⟩
theorem Try.sizePart : (Try.prog.info? 83).map (·.size) = some 2 := by kernel_rfl

set_option maxRecDepth 100000 in
set_option maxHeartbeats 1600000 in
theorem toPart_any (a : Option Addr) (n c : Nat) (xs : List Int) (x : Int) (w : World) (hr : RI w a xs) (hn : xs.length = n) (hb : n ≤ 1048576) :
    Calls Try.prog 100 #[.agg #[.slice a n c, .int .i64 x]] w fun e w' => ∃ a' c', e = .returned (.agg #[.slice a' n c', .int .i64 x]) ∧ OwI w' w.heap.size w'.heap.size a' n c' xs ∧ Below w.heap.size w w' := by
  have Hn := Lib.hid hn; clear hn
  obtain ⟨W, hW⟩ : ∃ W, ((w.alloc (.cells #[.slice a n c, .int .i64 x] 106)).alloc (.cells #[.slice none 0 0, .int .i64 0] 83)).alloc (.cells #[.slice none 0 0, .int .i64 0] 83) = W := ⟨_, rfl⟩
  have hBW : Below w.heap.size w W := by
    rw [← hW]
    exact (((Below.refl w.heap.size w).alloc (Nat.le_refl _) _).alloc (by simp) _).alloc (by simp; omega) _
  have hsW : W.heap.size = w.heap.size + 3 := by rw [← hW]; simp
  have g0 : W.heap[w.heap.size]? = some (.cells #[.slice a n c, .int .i64 x] 106) := by
    rw [← hW]
    have h1 := heap_alloc_new w (.cells #[.slice a n c, .int .i64 x] 106)
    have hb : Below (w.heap.size + 1) (w.alloc (.cells #[.slice a n c, .int .i64 x] 106)) (((w.alloc (.cells #[.slice a n c, .int .i64 x] 106)).alloc (.cells #[.slice none 0 0, .int .i64 0] 83)).alloc (.cells #[.slice none 0 0, .int .i64 0] 83)) :=
      ((Below.refl _ _).alloc (by simp) _).alloc (by simp) _
    rw [hb.block _ (Nat.lt_succ_self _)]; exact h1
  have g1 : W.heap[w.heap.size + 1]? = some (.cells #[.slice none 0 0, .int .i64 0] 83) := by
    rw [← hW]
    have h1 := heap_alloc_new (w.alloc (.cells #[.slice a n c, .int .i64 x] 106)) (.cells #[.slice none 0 0, .int .i64 0] 83)
    have hs : (w.alloc (.cells #[.slice a n c, .int .i64 x] 106)).heap.size = w.heap.size + 1 := by simp
    rw [hs] at h1
    have hb : Below (w.heap.size + 2) ((w.alloc (.cells #[.slice a n c, .int .i64 x] 106)).alloc (.cells #[.slice none 0 0, .int .i64 0] 83)) (((w.alloc (.cells #[.slice a n c, .int .i64 x] 106)).alloc (.cells #[.slice none 0 0, .int .i64 0] 83)).alloc (.cells #[.slice none 0 0, .int .i64 0] 83)) :=
      (Below.refl _ _).alloc (by simp) _
    rw [hb.block _ (Nat.lt_succ_self _)]; exact h1
  have g2 : W.heap[w.heap.size + 1 + 1]? = some (.cells #[.slice none 0 0, .int .i64 0] 83) := by
    rw [← hW]
    have h1 := heap_alloc_new ((w.alloc (.cells #[.slice a n c, .int .i64 x] 106)).alloc (.cells #[.slice none 0 0, .int .i64 0] 83)) (.cells #[.slice none 0 0, .int .i64 0] 83)
    have hs : ((w.alloc (.cells #[.slice a n c, .int .i64 x] 106)).alloc (.cells #[.slice none 0 0, .int .i64 0] 83)).heap.size = w.heap.size + 1 + 1 := by simp
    rw [hs] at h1
    exact h1
  have k0 : W.cell? ⟨w.heap.size, 0, none⟩ = some (.slice a n c) := by rw [cell_of_row W _ 0 _ _ (0, 0) g0]; rfl
  have hrW := hr.below hBW
  have G0 := Lib.hid g0; clear g0
  have G1 := Lib.hid g1; clear g1
  have G2 := Lib.hid g2; clear g2
  go_enter Try.func100, Try.ntmps100
  go_wp2_with fail
  refine (conv_I _ _ _ xs _ hrW Hn.out (by omega)).mono ?_
  rintro e w1 ⟨a1, c1, rfl, ho, hB⟩
  have m0 : w1.heap[w.heap.size]? = some (.cells #[.slice a n c, .int .i64 x] 106) := by rw [hB.block _ (by omega)]; exact G0.out
  have m1 : w1.heap[w.heap.size + 1]? = some (.cells #[.slice none 0 0, .int .i64 0] 83) := by rw [hB.block _ (by omega)]; exact G1.out
  have m2 : w1.heap[w.heap.size + 1 + 1]? = some (.cells #[.slice none 0 0, .int .i64 0] 83) := by rw [hB.block _ (by omega)]; exact G2.out
  have c0 : w1.cell? ⟨w.heap.size, 1, none⟩ = some (.int .i64 x) := by rw [cell_of_row w1 _ 1 _ _ (0, 0) m0]; rfl
  have c2 : w1.cell? ⟨w.heap.size + 1 + 1, 0, none⟩ = some (.slice none 0 0) := by rw [cell_of_row w1 _ 0 _ _ (0, 0) m2]; rfl
  have c3 : w1.cell? ⟨w.heap.size + 1 + 1, 1, none⟩ = some (.int .i64 0) := by rw [cell_of_row w1 _ 1 _ _ (0, 0) m2]; rfl
  have c4 : w1.cell? ⟨w.heap.size + 1, 0, none⟩ = some (.slice none 0 0) := by rw [cell_of_row w1 _ 0 _ _ (0, 0) m1]; rfl
  have c5 : w1.cell? ⟨w.heap.size + 1, 1, none⟩ = some (.int .i64 0) := by rw [cell_of_row w1 _ 1 _ _ (0, 0) m1]; rfl
  have f2 := frozen_of_row w1 (w.heap.size + 1 + 1) 0 _ _ m2
  have f3 := frozen_of_row w1 (w.heap.size + 1 + 1) 1 _ _ m2
  have f4 := frozen_of_row w1 (w.heap.size + 1) 0 _ _ m1
  have f5 := frozen_of_row w1 (w.heap.size + 1) 1 _ _ m1
  have o4 : Only w.heap.size (w.heap.size + 3) w1 ((((w1.setCell ⟨w.heap.size + 1 + 1, 0, none⟩ (.slice a1 n c1)).setCell ⟨w.heap.size + 1 + 1, 1, none⟩ (.int .i64 x)).setCell ⟨w.heap.size + 1, 0, none⟩ (.slice a1 n c1)).setCell ⟨w.heap.size + 1, 1, none⟩ (.int .i64 x)) :=
    (((Only.setCell _ _ _ _ (by omega) (by omega)).trans (Only.setCell _ _ _ _ (by omega) (by omega))).trans (Only.setCell _ _ _ _ (by omega) (by omega))).trans (Only.setCell _ _ _ _ (by omega) (by omega))
  have hBf := o4.below (hBW.trans (hB.mono (by omega))) (Nat.le_refl _) (by have := hB.size; omega)
  have hrf := (ho.only o4 (.inr (by omega))).mono (B' := w.heap.size) (S' := ((((w1.setCell ⟨w.heap.size + 1 + 1, 0, none⟩ (.slice a1 n c1)).setCell ⟨w.heap.size + 1 + 1, 1, none⟩ (.int .i64 x)).setCell ⟨w.heap.size + 1, 0, none⟩ (.slice a1 n c1)).setCell ⟨w.heap.size + 1, 1, none⟩ (.int .i64 x)).heap.size) (by omega) (by simp)
  have hgf : ((((w1.setCell ⟨w.heap.size + 1 + 1, 0, none⟩ (.slice a1 n c1)).setCell ⟨w.heap.size + 1 + 1, 1, none⟩ (.int .i64 x)).setCell ⟨w.heap.size + 1, 0, none⟩ (.slice a1 n c1)).setCell ⟨w.heap.size + 1, 1, none⟩ (.int .i64 x)).heap[w.heap.size + 1]? = some (.cells #[.slice a1 n c1, .int .i64 x] 83 (0, 0)) := by
    have e1 := (heap_setCell_other w1 ⟨w.heap.size + 1 + 1, 0, none⟩ (w.heap.size + 1) (.slice a1 n c1) (by simp)).trans m1
    have e2 := (heap_setCell_other (w1.setCell ⟨w.heap.size + 1 + 1, 0, none⟩ (.slice a1 n c1)) ⟨w.heap.size + 1 + 1, 1, none⟩ (w.heap.size + 1) (.int .i64 x) (by simp)).trans e1
    have e3 := heap_setCell_same _ (w.heap.size + 1) 0 _ _ (.slice a1 n c1) e2
    exact heap_setCell_same _ (w.heap.size + 1) 1 _ _ (.int .i64 x) e3
  have HBf := Lib.hid hBf; clear hBf o4
  have Hrf := Lib.hid hrf; clear hrf
  have Hgf := Lib.hid hgf; clear hgf
  clear m0 m1 m2 k0
  go_wp2
  refine bodyPost_ret (results_cell_row rfl _ _ (w.heap.size + 1) _ _ (0, 0) _ rfl Hgf.out Try.underlying83 rfl Try.sizePart) rfl ?_
  exact ⟨_, _, rfl, Hrf.out, HBf.out⟩
end Go.Proofs.Ytocgcgmlemoekaa

namespace Go.Proofs.Ytocgcgmlemoekaa
open Go.RowKit Go.ChangeShapes

/-- the row in block B holds the pairs, their slices lie in blocks behind B and below S -/
def PR (w : World) (B S n : Nat) (xs : List (List Int × Int)) : Prop :=
  ∃ vs, w.ownsRow B 83 2 (.slice (some ⟨B, 0, none⟩) n n) n vs ∧ xs.length = n ∧
    ∀ k p, xs[k]? = some p → ∃ a' c', vs[k * 2]? = some (.slice a' p.1.length c') ∧ vs[k * 2 + 1]? = some (.int .i64 p.2) ∧ OwI w (B + 1) S a' p.1.length c' p.1
theorem PR.rd {w : World} {B S n : Nat} {xs : List (List Int × Int)} (h : PR w B S n xs) : RP w (some ⟨B, 0, none⟩) xs := by
  obtain ⟨vs, h1, h2, h3⟩ := h
  refine .inr ⟨B, 0, rfl, fun k p hp => ?_⟩
  obtain ⟨a', c', e1, e2, e3⟩ := h3 k p hp
  have hk := (List.getElem?_eq_some_iff.1 hp).1
  exact ⟨a', c', by rw [Nat.zero_add, h1.cellAt _ (by omega)]; exact e1, by rw [Nat.zero_add, h1.cellAt _ (by omega)]; exact e2, e3.rd, e3.1.lt⟩
theorem PR.below {w w' : World} {B S n : Nat} {xs : List (List Int × Int)} (h : PR w B S n xs) (hb : Below w.heap.size w w') : PR w' B S n xs := by
  obtain ⟨vs, h1, h2, h3⟩ := h
  refine ⟨vs, ⟨h1.1, ?_⟩, h2, fun k p hp => ?_⟩
  · rcases h1.2 with e | ⟨g, cap, cur, hv, hg, hh, r⟩
    · exact .inl e
    · exact .inr ⟨g, cap, cur, hv, hg, by rw [hb.block g (Array.getElem?_eq_some_iff.1 hh).1]; exact hh, r⟩
  · obtain ⟨a', c', e1, e2, e3⟩ := h3 k p hp
    exact ⟨a', c', e1, e2, e3.below hb⟩
theorem PR.put {w : World} {B S n : Nat} {xs : List (List Int × Int)} (h : PR w B S n xs) {k : Nat} (hk : k < n) {S1 S' : Nat} {a' : Option Addr} {l c' : Nat} {ys : List Int} (hy : OwI w S1 S' a' l c' ys) (hB : B + 1 ≤ S1) (hS : S ≤ S') (x : Int) :
    (∃ old, w.cell? ⟨B, k * 2, none⟩ = some old) ∧ w.frozen? ⟨B, k * 2, none⟩ = false ∧
    (∃ old, (w.setCell ⟨B, k * 2, none⟩ (.slice a' l c')).cell? ⟨B, k * 2 + 1, none⟩ = some old) ∧ (w.setCell ⟨B, k * 2, none⟩ (.slice a' l c')).frozen? ⟨B, k * 2 + 1, none⟩ = false ∧
    PR ((w.setCell ⟨B, k * 2, none⟩ (.slice a' l c')).setCell ⟨B, k * 2 + 1, none⟩ (.int .i64 x)) B S' n (xs.set k (ys, x)) := by
  obtain ⟨vs, h1, h2, h3⟩ := h
  have hlv : vs.length = n * 2 := h1.1
  have s1 := h1.stored (k * 2) (.slice a' l c')
  have s2 := s1.1.stored (k * 2 + 1) (.int .i64 x)
  refine ⟨⟨vs[k * 2]'(by omega), by rw [h1.cellAt _ (by omega)]; exact List.getElem?_eq_getElem (by omega)⟩, h1.frozenAt _,
    ⟨(vs.set (k * 2) (.slice a' l c'))[k * 2 + 1]'(by rw [List.length_set]; omega), by rw [s1.1.cellAt _ (by omega)]; exact List.getElem?_eq_getElem _⟩, s1.1.frozenAt _, _, s2.1, by rw [List.length_set]; exact h2, fun j p hp => ?_⟩
  have hin : ∀ {b : Option Addr} {m d S2 S3 : Nat} {zs : List Int}, B + 1 ≤ S2 → OwI w S2 S3 b m d zs → OwI ((w.setCell ⟨B, k * 2, none⟩ (.slice a' l c')).setCell ⟨B, k * 2 + 1, none⟩ (.int .i64 x)) S2 S3 b m d zs := by
    intro b m d S2 S3 zs hb hz
    exact hz.only ((Only.setCell w B (k * 2) (.slice a' l c') (Nat.le_refl _) (Nat.lt_succ_self _)).trans (Only.setCell _ B (k * 2 + 1) (.int .i64 x) (Nat.le_refl _) (Nat.lt_succ_self _))) (.inr hb)
  rw [List.getElem?_set] at hp
  by_cases hj : k = j
  · subst hj
    rw [if_pos rfl, if_pos (by omega)] at hp
    obtain rfl := Option.some.inj hp
    obtain rfl := hy.len
    refine ⟨a', c', ?_, ?_, ?_⟩
    · rw [List.getElem?_set, if_neg (by omega), List.getElem?_set, if_pos rfl, if_pos (by omega)]
    · rw [List.getElem?_set, if_pos rfl, if_pos (by rw [List.length_set]; omega)]
    · exact (hin hB hy).mono hB (Nat.le_refl _)
  · rw [if_neg hj] at hp
    obtain ⟨a2, c2, e1, e2, e3⟩ := h3 j p hp
    refine ⟨a2, c2, ?_, ?_, (hin (Nat.le_refl _) e3).mono (Nat.le_refl _) hS⟩
    · rw [List.getElem?_set, if_neg (by omega), List.getElem?_set, if_neg (by omega)]; exact e1
    · rw [List.getElem?_set, if_neg (by omega), List.getElem?_set, if_neg (by omega)]; exact e2

def fillP (xs : List (List Int × Int)) (n k : Nat) : List (List Int × Int) := xs.take k ++ List.replicate (n - k) ([], 0)
theorem fillP_length {xs : List (List Int × Int)} {n k : Nat} (h : xs.length = n) (hk : k ≤ n) : (fillP xs n k).length = n := by simp [fillP]; omega
theorem fillP_all {xs : List (List Int × Int)} {n : Nat} (h : xs.length = n) : fillP xs n n = xs := by simp [fillP, ← h]
theorem fillP_succ {xs : List (List Int × Int)} {n k : Nat} {x : List Int × Int} (h : xs.length = n) (hk : k < n) (hx : xs[k]? = some x) : (fillP xs n k).set k x = fillP xs n (k + 1) := by
  subst h
  apply List.ext_getElem?
  intro j
  obtain ⟨_, rfl⟩ := List.getElem?_eq_some_iff.1 hx
  rw [List.getElem?_set]
  by_cases hj : k = j
  · subst hj
    rw [if_pos rfl, if_pos (by rw [fillP_length rfl (by omega)]; exact hk)]
    unfold fillP
    rw [List.getElem?_append_left (by simp; omega), List.getElem?_take, if_pos (by omega), List.getElem?_eq_getElem hk]
  · simp only [if_neg hj, fillP]
    rw [List.getElem?_append, List.getElem?_append]
    simp only [List.length_take, List.getElem?_take, List.getElem?_replicate]
    repeat' split
    all_goals first | rfl | omega
theorem PR.made {w : World} {B n : Nat} {vs : List Value} (h : w.ownsRow B 83 2 (.slice (some ⟨B, 0, none⟩) n n) n vs)
    (hv : ∀ k, k < n → vs[k * 2]? = some (.slice none 0 0) ∧ vs[k * 2 + 1]? = some (.int .i64 0)) : PR w B w.heap.size n (List.replicate n ([], 0)) := by
  refine ⟨vs, h, by simp, fun k p hp => ?_⟩
  rw [List.getElem?_replicate] at hp
  split at hp
  · rename_i hk
    obtain rfl := Option.some.inj hp
    exact ⟨none, 0, (hv k hk).1, (hv k hk).2, ⟨rfl, World.ownsRow_nil _ _ _ _⟩, by simp [Value.ownBlock]⟩
  · cases hp

def Wf_P (xs : List (List Int × Int)) : Prop := ∀ p ∈ xs, (∀ n ∈ p.1, (Lit.int .i64 n).wf = true) ∧ (Lit.int .i64 p.2).wf = true
def sz_P (xs : List (List Int × Int)) : Nat := xs.length + sz_II (heads xs)
def Short_P (xs : List (List Int × Int)) : Prop := ∀ p ∈ xs, p.1.length ≤ 1048576
theorem ms_P_len (xs : List (List Int × Int)) : xs.length ≤ ms_P xs := Nat.le_add_right _ _
theorem ms_P_sz (xs : List (List Int × Int)) : sz_P xs ≤ ms_P xs := Nat.le_refl _
theorem ms_P_short (xs : List (List Int × Int)) (h : ms_P xs ≤ 1048576) : Short_P xs := by
  intro p hp
  have h1 : p.1 ∈ heads xs := List.mem_map_of_mem hp
  have := sz_II_each h1
  unfold ms_P at h
  omega
theorem add_of' (b off k : Nat) : (⟨b, off, none⟩ : Addr).add k = ⟨b, off + k, none⟩ := by
  unfold Addr.add; split <;> simp_all
theorem plain_addr' {w : World} {x : Addr} {v : Value} (h : w.cell? (x.add 0) = some v) : ∃ b off, x = ⟨b, off, none⟩ := by
  obtain ⟨b, off, spot⟩ := x
  have : spot = none := by simpa [Addr.add] using World.cell?_spot h
  exact ⟨b, off, by rw [this]⟩
theorem open_P {H : Type} {enc : TypeId × Value → H} {W : World} {a : Option Addr} {len cap : Nat} {d : DataW H} {p : List MemPlace} (h : DataW.Trod enc Try.prog W 0 (fun _ => true) true 41 (.slice a len cap) d p) :
    ∃ xs, RP W a xs ∧ xs.length = len ∧ Wide_P len xs ∧ Wf_P xs := by
  obtain ⟨fuel, hf⟩ := h
  rcases Go.Deep.open_slice_pairs Try.underlying41 Try.underlying106 (by kernel_rfl) rfl rfl (by kernel_rfl) (by kernel_rfl) hf with ⟨hcs, _⟩ | ⟨x, l, c, m, n, V0, V1, D0, D1, P0, P1, hcs, _, hl, hm, hmm, _, hx⟩
  · simp [Value.cells] at hcs
    obtain ⟨rfl, rfl, rfl⟩ := hcs
    exact ⟨[], .inl rfl, rfl, ⟨by omega, by simp⟩, by simp [Wf_P]⟩
  · simp [Value.cells] at hcs
    obtain ⟨rfl, rfl, rfl⟩ := hcs
    unfold maxLen at hm
    have hmc : len ≤ m := by split at hmm <;> omega
    have each : ∀ r, r < m → ∃ q : List Int × Int, ∃ A C, W.cell? (x.add (r * 2)) = some (.slice A q.1.length C) ∧ W.cell? (x.add (r * 2 + 1)) = some (.int .i64 q.2) ∧ RI W A q.1 ∧ q.1.length ≤ 9223372036854775807 ∧ (∀ n ∈ q.1, (Lit.int .i64 n).wf = true) ∧ (Lit.int .i64 q.2).wf = true ∧ q.1.length ≤ C := by
      intro r hr
      obtain ⟨h1, h2, h3, h4⟩ := hx r hr
      obtain ⟨y, hy, _, hyw⟩ := DataW.trod_int Try.underlying3 h4
      simp only [List.cons.injEq, and_true] at hy
      rw [hy] at h2
      obtain ⟨A, L, C, hV, hLC⟩ : ∃ A L C, V0 r = .slice A L C ∧ L ≤ C := by
        rcases open_ints Try.underlying22 Try.underlying3 (by kernel_rfl) h3 with ⟨e, _⟩ | ⟨a, l, c, z, e, _, hl, _⟩
        · exact ⟨_, _, _, by simpa using e, Nat.le_refl _⟩
        · exact ⟨_, _, _, by simpa using e, hl⟩
      rw [hV] at h3 h1
      obtain ⟨xs, e1, e2, e3, e4⟩ := open_I (a := A) (len := L) (cap := C) ⟨n, by simpa [Value.cells] using h3⟩
      exact ⟨(xs, y), A, C, by rw [e2]; exact h1, h2, e1, by rw [e2]; exact e3, e4, hyw, by rw [e2]; exact hLC⟩
    obtain ⟨Z, hZ⟩ := Go.Deep.choose_lt each
    refine ⟨(List.range len).map Z, ?_, by simp, ⟨by omega, fun q hq => ?_⟩, fun q hq => ?_⟩
    · by_cases h0 : len = 0
      · left; simp [h0]
      · right
        obtain ⟨A, C, h1, _⟩ := hZ 0 (by omega)
        obtain ⟨b, off, rfl⟩ := plain_addr' (by rw [Nat.zero_mul] at h1; exact h1)
        refine ⟨b, off, rfl, fun k q hk => ?_⟩
        simp only [List.getElem?_map, Option.map_eq_some_iff] at hk
        obtain ⟨r, hr, rfl⟩ := hk
        have hkl := lt_of_some hr
        simp at hkl
        obtain rfl : k = r := by simpa [hkl] using hr
        obtain ⟨A, C, h1, h2, h3, _, _, _, h7⟩ := hZ k (by omega)
        rw [add_of'] at h1 h2
        exact ⟨A, C, h1, by rw [Nat.add_assoc]; exact h2, h3, h7⟩
    · simp only [List.mem_map, List.mem_range] at hq
      obtain ⟨r, hr, rfl⟩ := hq
      obtain ⟨A, C, h1, h2, h3, h4, h5, h6, _⟩ := hZ r (by omega)
      exact h4
    · simp only [List.mem_map, List.mem_range] at hq
      obtain ⟨r, hr, rfl⟩ := hq
      obtain ⟨A, C, h1, h2, h3, h4, h5, h6, _⟩ := hZ r (by omega)
      exact ⟨h5, h6⟩
end Go.Proofs.Ytocgcgmlemoekaa

namespace Go.Proofs.Ytocgcgmlemoekaa
open Go.RowKit

/-- a slice of pairs, as a call has made it -/
def PO (w : World) (_B _S : Nat) (a : Option Addr) (n _c : Nat) (xs : List (List Int × Int)) : Prop := xs.length = n ∧ RP w a xs
theorem PO.rd {w : World} {B S : Nat} {a : Option Addr} {n c : Nat} {xs : List (List Int × Int)} (h : PO w B S a n c xs) : RP w a xs := h.2
theorem PO.len {w : World} {B S : Nat} {a : Option Addr} {n c : Nat} {xs : List (List Int × Int)} (h : PO w B S a n c xs) : xs.length = n := h.1
theorem PO.below {w w' : World} {B S : Nat} {a : Option Addr} {n c : Nat} {xs : List (List Int × Int)} (h : PO w B S a n c xs) (hb : Below w.heap.size w w') : PO w' B S a n c xs := ⟨h.1, h.2.below hb⟩
theorem Try.info83 : (Try.prog.info? 83).map (fun i => (i.zero, i.size, i.bytes)) = some (some (.agg #[.slice none 0 0, .int .i64 0]), 2, 32) := by kernel_rfl
theorem madeP_at {n k : Nat} (h : k < n) : (madeCells (Value.agg #[.slice none 0 0, .int .i64 0]).cells (n * 2)).toList[k * 2]? = some (.slice none 0 0) ∧ (madeCells (Value.agg #[.slice none 0 0, .int .i64 0]).cells (n * 2)).toList[k * 2 + 1]? = some (.int .i64 0) := by
  have e1 : k * 2 < n * 2 := by omega
  have e2 : k * 2 + 1 < n * 2 := by omega
  have m1 : (k * 2) % 2 = 0 := by omega
  have m2 : (k * 2 + 1) % 2 = 1 := by omega
  have e : (Value.agg #[.slice none 0 0, .int .i64 0]).cells = #[.slice none 0 0, .int .i64 0] := rfl
  rw [e]
  constructor
  · simp [madeCells, e1]
  · simp [madeCells, e2, m2]

set_option maxRecDepth 100000 in
set_option maxHeartbeats 1600000 in
theorem conv_P (a : Option Addr) (n c : Nat) (xs : List (List Int × Int)) (w : World) (hr : RP w a xs) (hn : xs.length = n) (hb : n ≤ 1048576) (hsh : Short_P xs) :
    Calls Try.prog 37 #[.slice a n c] w fun e w' => ∃ a' c', e = .returned (.slice a' n c') ∧ PO w' w.heap.size w'.heap.size a' n c' xs ∧ Below w.heap.size w w' := by
  have Hn := Lib.hid hn; clear hn
  have HSh := Lib.hid hsh; clear hsh
  obtain ⟨i0, hi, hz0, hz1, hz2⟩ := info_parts Try.info83
  go_enter Try.func37, Try.ntmps37
  go_wp2_with (first | (at_make; refine wpList_make_full _ rfl _ _ 23 rfl w.heap.size 83 i0 (.agg #[.slice none 0 0, .int .i64 0]) 2 Try.underlying23 hi hz0 hz1 .i64 .i64 _ _ n rfl rfl ?m1 ?m2 ?m3 ?m4 ?m5 ?_))
  case m1 => rfl
  case m2 => rfl
  case m3 => rw [hz2]; omega
  case m4 => unfold maxLen; omega
  case m5 => exact Nat.le_refl _
  intro w1 hown hg
  have hB : Below w.heap.size w w1 := (Below.refl _ _).grown hg (Nat.le_refl _) (by simp)
  have hrow : PR w1 w.heap.size w1.heap.size n (fillP xs n 0) := by
    have h1 : fillP xs n 0 = List.replicate n ([], 0) := by simp [fillP]
    rw [h1]
    exact PR.made hown fun k hk => madeP_at hk
  clear hown hg
  go_wp2
  go_loopw [4] (fun i wr => ∃ k : Nat, k ≤ n ∧ i = .int .i64 k ∧ PR wr w.heap.size wr.heap.size n (fillP xs n k) ∧ Below w.heap.size w wr) (fun i _ => n - (intOf i).toNat)
  case atStart => exact ⟨0, Nat.zero_le _, rfl, hrow, hB⟩
  case round =>
    clear hrow hB
    obtain ⟨k, hk, rfl, ho, hbel⟩ := hrel
    obtain ⟨wo, rfl⟩ : ∃ wo : World, wo = wr := ⟨_, rfl⟩
    by_cases hlt : k < n
    · obtain ⟨b, off, rfl, hcell⟩ := (hr.below hbel).at (k := k) (by rw [Hn.out]; exact hlt)
      obtain ⟨x, y, hx⟩ := part_at Hn.out hlt
      obtain ⟨a1, c1, hc1, hc2, hri, _⟩ := hcell k _ hx
      have hxl : x.length ≤ 1048576 := HSh.out (x, y) (List.mem_of_getElem? hx)
      simp only at hc1 hc2 hri
      have Hx := Lib.hid hx; clear hx hcell
      obtain ⟨l, hl⟩ : ∃ l, x.length = l := ⟨_, rfl⟩
      rw [hl] at hc1 hxl
      have Hl := Lib.hid hl; clear hl
      have hs0 := hbel.size
      have hs1 : w.heap.size < wo.heap.size := by
        obtain ⟨vs, h1, _⟩ := ho
        exact (h1.lt _ rfl).2
      go_wp2_with fail
      refine (toPart_any _ _ _ x y _ hri Hl.out (by omega)).mono ?_
      rintro e w2 ⟨a2, c2, rfl, ho2, hb2⟩
      have ho1 := ho.below hb2
      obtain ⟨⟨old, hold⟩, hfz, ⟨old2, hold2⟩, hfz2, hput⟩ := ho1.put hlt ho2 (by omega) hb2.size y
      have hB2 := ((hbel.trans (hb2.mono hs0)).setCell (p := ⟨w.heap.size, k * 2, none⟩) (Nat.le_refl _) (.slice a2 l c2)).setCell (p := ⟨w.heap.size, k * 2 + 1, none⟩) (Nat.le_refl _) (.int .i64 y)
      rw [fillP_succ Hn.out hlt Hx.out] at hput
      have hput' : PR ((w2.setCell ⟨w.heap.size, k * 2, none⟩ (.slice a2 l c2)).setCell ⟨w.heap.size, k * 2 + 1, none⟩ (.int .i64 y)) w.heap.size ((w2.setCell ⟨w.heap.size, k * 2, none⟩ (.slice a2 l c2)).setCell ⟨w.heap.size, k * 2 + 1, none⟩ (.int .i64 y)).heap.size n (fillP xs n (k + 1)) := by simpa using hput
      have HP := Lib.hid hput'
      have HB := Lib.hid hB2
      clear ho ho1 ho2 hput hput' hri hb2 hB2
      go_wp2
      go_roundw
      case rel => exact ⟨k + 1, by omega, by go_num, HP.out, HB.out⟩
      case measure => simp [intOf]; omega
    · obtain rfl : k = n := by omega
      go_wp2
      go_ret
      rw [fillP_all Hn.out] at ho
      exact ⟨_, _, rfl, ⟨Hn.out, ho.rd⟩, hbel⟩
end Go.Proofs.Ytocgcgmlemoekaa
