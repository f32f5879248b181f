/-
  Contracts of l1Same and slices.Equal: two lists of integers compared.
  Two lists of terms compared: l2SameTerms, samePoly.
-/
import Derived.Test.YtblhndkaikelaaaBuA
import Derived.Test.YtblhndkaikelaaaBuB
import Derived.StillTailTactics
namespace Go.Proofs.Ytblhndkaikelaaa
open Go.RowKit

set_option maxHeartbeats 400000 in
theorem slEqual_any (a b : Option Addr) (n c m d : Nat) (xs ys : List Int) (w : World) (hr : RI w a xs) (hs : RI w b ys) (hn : xs.length = n) (hm : ys.length = m) (hb : n ≤ 17592186044416) :
    Calls Try.prog 68 #[.slice a n c, .slice b m d] w fun e w' => e = .returned (.bool (decide (xs = ys))) ∧ Drew w w' := by
  have Hn := Lib.hid hn; clear hn
  have Hm := Lib.hid hm; clear hm
  by_cases hnm : n = m
  · subst hnm
    go_enter Try.func68, Try.ntmps68
    go_wp2
    go_loopw [13] (fun i wr => ∃ k : Nat, k ≤ n ∧ i = .int .i64 k ∧ Hid (∀ j, j < k → xs[j]? = ys[j]?) ∧ Drew w wr) (fun i _ => n - (intOf i).toNat)
    case atStart => exact ⟨0, Nat.zero_le _, rfl, by intro j hj; omega, Drew.refl _⟩
    case round =>
      obtain ⟨k, hk, rfl, HA, hd⟩ := hrel
      by_cases hlt : k < n
      · obtain ⟨b, off, rfl, hcell⟩ := (hr.drew hd).at (k := k) (by rw [Hn.out]; exact hlt)
        obtain ⟨b2, off2, rfl, hcell2⟩ := (hs.drew hd).at (k := k) (by rw [Hm.out]; exact hlt)
        obtain ⟨x, hx⟩ : ∃ x, xs[k]? = some x := ⟨xs[k]'(by rw [Hn.out]; exact hlt), by simp⟩
        obtain ⟨y, hy⟩ : ∃ y, ys[k]? = some y := ⟨ys[k]'(by rw [Hm.out]; exact hlt), by simp⟩
        have hc := hcell k x hx
        have hc2 := hcell2 k y hy
        have Hx := Lib.hid hx; clear hx
        have Hy := Lib.hid hy; clear hy
        clear hcell hcell2
        have hltI : (k : Int) < (n : Int) := by omega
        by_cases h1 : x = y
        · subst h1
          go_wp2
          go_quiet (fail)
          go_wp2
          go_roundw
          case rel => exact ⟨k + 1, by omega, by go_num, by
                intro j hj
                rcases Nat.lt_or_ge j k with h | h
                · exact HA.out j h
                · obtain rfl : j = k := by omega
                  rw [Hx.out, Hy.out], hd.trans (Drew.drewN _ _)⟩
          case measure => simp [intOf]; omega
        · have hne : (x != y) = true := by simpa using h1
          have H1 := Lib.hid h1; clear h1
          go_wp2
          go_quiet (fail)
          go_wp2
          go_ret
          exact ⟨ret_bool (ne_of_at Hx.out Hy.out H1.out).symm, hd.trans (Drew.drewN _ _)⟩
      · go_wp2
        go_ret
        exact ⟨ret_bool (eq_of_all (Hn.out.trans Hm.out.symm) (by intro j hj; exact HA.out j (by rw [Hn.out] at hj; omega))).symm, hd⟩
  · go_enter Try.func68, Try.ntmps68
    have hne : ((n : Int) != (m : Int)) = true := by rw [bne_iff_ne]; omega
    go_wp2
    go_ret
    exact ⟨ret_bool (by symm; rw [decide_eq_false_iff_not]; rintro rfl; exact hnm (Hn.out.symm.trans Hm.out)), Drew.refl _⟩
end Go.Proofs.Ytblhndkaikelaaa

namespace Go.Proofs.Ytblhndkaikelaaa
open Go.RowKit

theorem eqp_of_all {xs ys : List (List Int × Int)} (hl : xs.length = ys.length) (h : ∀ j, j < xs.length → xs[j]? = ys[j]?) : decide (xs = ys) = true := by
  rw [decide_eq_true_iff]
  apply List.ext_getElem?
  intro j
  rcases Nat.lt_or_ge j xs.length with h1 | h1
  · exact h j h1
  · rw [List.getElem?_eq_none h1, List.getElem?_eq_none (by omega)]
theorem nep_of_at {xs ys : List (List Int × Int)} {k : Nat} {x y : List Int × Int} (hx : xs[k]? = some x) (hy : ys[k]? = some y) (h : x ≠ y) : decide (xs = ys) = false := by
  rw [decide_eq_false_iff_not]
  rintro rfl
  rw [hx] at hy
  exact h (by simpa using hy)

theorem two_alloc (w : World) (o1 o2 : Obj) : ((w.alloc o1).alloc o2).heap[w.heap.size]? = some o1 ∧ ((w.alloc o1).alloc o2).heap[w.heap.size + 1]? = some o2 := by
  have h1 := heap_alloc_new w o1
  have hb : Below (w.heap.size + 1) (w.alloc o1) ((w.alloc o1).alloc o2) := (Below.refl _ _).alloc (by simp) _
  have h2 := heap_alloc_new (w.alloc o1) o2
  have hs : (w.alloc o1).heap.size = w.heap.size + 1 := by simp
  rw [hs] at h2
  exact ⟨by rw [hb.block _ (Nat.lt_succ_self _)]; exact h1, h2⟩
theorem two_below (w : World) (o1 o2 : Obj) : Below w.heap.size w ((w.alloc o1).alloc o2) := ((Below.refl _ _).alloc (Nat.le_refl _) _).alloc (by simp) _
theorem two_parts {w W : World} {v1 v2 v3 v4 : Value} {e : TypeId} (hW : (w.alloc (.cells #[v1, v2] e)).alloc (.cells #[v3, v4] e) = W) :
    W.cell? ⟨w.heap.size, 0, none⟩ = some v1 ∧ W.cell? ⟨w.heap.size, 1, none⟩ = some v2 ∧ W.cell? ⟨w.heap.size + 1, 0, none⟩ = some v3 ∧ W.cell? ⟨w.heap.size + 1, 1, none⟩ = some v4 := by
  obtain ⟨g0, g1⟩ := two_alloc w (.cells #[v1, v2] e) (.cells #[v3, v4] e)
  rw [hW] at g0 g1
  exact ⟨by rw [cell_of_row W _ 0 _ _ (0, 0) g0]; rfl, by rw [cell_of_row W _ 1 _ _ (0, 0) g0]; rfl, by rw [cell_of_row W _ 0 _ _ (0, 0) g1]; rfl, by rw [cell_of_row W _ 1 _ _ (0, 0) g1]; rfl⟩
/-- the closure of samePoly -/
theorem samePart_any (a b : Option Addr) (n c m d : Nat) (s t : List Int) (x y : Int) (w : World) (hr : RI w a s) (hs : RI w b t) (hn : s.length = n) (hm : t.length = m) (hb : n ≤ 1048576) :
    Calls Try.prog 67 #[.agg #[.slice a n c, .int .i64 x], .agg #[.slice b m d, .int .i64 y]] w fun e w' => e = .returned (.bool (decide (s = t) && decide (x = y))) ∧ Below w.heap.size w w' := by
  have Hn := Lib.hid hn; clear hn
  have Hm := Lib.hid hm; clear hm
  by_cases h1 : x = y
  · subst h1
    obtain ⟨W, hW⟩ : ∃ W, (w.alloc (.cells #[.slice a n c, .int .i64 x] 56)).alloc (.cells #[.slice b m d, .int .i64 x] 56) = W := ⟨_, rfl⟩
    have hBW : Below w.heap.size w W := by rw [← hW]; exact two_below _ _ _
    obtain ⟨p0, p1, p2, p3⟩ := two_parts hW
    have hr1 := hr.below hBW
    have hs1 := hs.below hBW
    have he : (x == x) = true := by simp
    go_enter Try.func67, Try.ntmps67
    go_wp2_with fail
    refine (slEqual_any _ _ _ _ _ _ s t _ hr1 hs1 Hn.out Hm.out (by omega)).mono ?_
    rintro e w2 ⟨rfl, hd⟩
    have hB2 := hBW.trans ((hd.below W.heap.size).mono hBW.size)
    go_wp2
    go_ret
    exact ⟨ret_bool (by simp), hB2⟩
  · have he : (x == y) = false := by simpa using h1
    have H1 := Lib.hid h1; clear h1
    obtain ⟨W, hW⟩ : ∃ W, (w.alloc (.cells #[.slice a n c, .int .i64 x] 56)).alloc (.cells #[.slice b m d, .int .i64 y] 56) = W := ⟨_, rfl⟩
    have hBW : Below w.heap.size w W := by rw [← hW]; exact two_below _ _ _
    obtain ⟨p0, p1, p2, p3⟩ := two_parts hW
    go_enter Try.func67, Try.ntmps67
    go_wp2
    go_ret
    exact ⟨ret_bool (by simp [H1.out]), hBW⟩

set_option maxRecDepth 100000 in
set_option maxHeartbeats 3200000 in
theorem equalFunc_any (a b : Option Addr) (n c m d : Nat) (xs ys : List (List Int × Int)) (w : World) (hr : RP w a xs) (hs : RP w b ys) (hn : xs.length = n) (hm : ys.length = m) (hb : n ≤ 1048576) (hsh : ∀ p ∈ xs, p.1.length ≤ 1048576) :
    Calls Try.prog 66 #[.slice a n c, .slice b m d, .func (.func 67) #[] #[]] w fun e w' => e = .returned (.bool (decide (xs = ys))) ∧ Below w.heap.size w w' := by
  have Hn := Lib.hid hn; clear hn
  have Hm := Lib.hid hm; clear hm
  have Hsh := Lib.hid hsh; clear hsh
  by_cases hnm : n = m
  case neg =>
    have hne : ((n : Int) != (m : Int)) = true := by rw [bne_iff_ne]; omega
    go_enter Try.func66, Try.ntmps66
    go_wp2
    go_ret
    exact ⟨ret_bool (by symm; rw [decide_eq_false_iff_not]; rintro rfl; exact hnm (Hn.out.symm.trans Hm.out)), Below.refl _ _⟩
  subst hnm
  go_enter Try.func66, Try.ntmps66
  go_wp2
  go_loopw [17] (fun i wr => ∃ k : Nat, k ≤ n ∧ i = .int .i64 k ∧ Hid (∀ j, j < k → xs[j]? = ys[j]?) ∧ Below w.heap.size w wr) (fun i _ => n - (intOf i).toNat)
  case atStart => exact ⟨0, Nat.zero_le _, rfl, by intro j hj; omega, Below.refl _ _⟩
  case round =>
    obtain ⟨k, hk, rfl, HA, hd⟩ := hrel
    obtain ⟨wo, rfl⟩ : ∃ wo : World, wo = wr := ⟨_, rfl⟩
    by_cases hlt : k < n
    · obtain ⟨b1, off1, rfl, hcell⟩ := (hr.below hd).at (k := k) (by rw [Hn.out]; exact hlt)
      obtain ⟨b2, off2, rfl, hcell2⟩ := (hs.below hd).at (k := k) (by rw [Hm.out]; exact hlt)
      obtain ⟨s, x, hx⟩ := part_at Hn.out hlt
      obtain ⟨t, y, hy⟩ := part_at Hm.out hlt
      obtain ⟨a1, c1, p1, p2, hri, _⟩ := hcell k _ hx
      obtain ⟨a2, c2, p3, p4, hri2, _⟩ := hcell2 k _ hy
      simp only at p1 p2 hri p3 p4 hri2
      have hsl := Hsh.out _ (List.mem_of_getElem? hx)
      simp only at hsl
      have Hx := Lib.hid hx; clear hx
      have Hy := Lib.hid hy; clear hy
      obtain ⟨l, hl⟩ : ∃ l, s.length = l := ⟨_, rfl⟩
      obtain ⟨l2, hl2⟩ : ∃ l, t.length = l := ⟨_, rfl⟩
      rw [hl] at p1 hsl
      rw [hl2] at p3
      have Hl := Lib.hid hl; clear hl
      have Hl2 := Lib.hid hl2; clear hl2
      clear hcell hcell2
      have hltI : (k : Int) < (n : Int) := by omega
      obtain ⟨U, hU⟩ : ∃ U, wo.alloc (.cells #[.slice a1 l c1, .int .i64 x] 56) = U := ⟨_, rfl⟩
      obtain ⟨W, hW⟩ : ∃ W, U.alloc (.cells #[.slice a2 l2 c2, .int .i64 y] 56) = W := ⟨_, rfl⟩
      have hWU : (wo.alloc (.cells #[.slice a1 l c1, .int .i64 x] 56)).alloc (.cells #[.slice a2 l2 c2, .int .i64 y] 56) = W := by rw [hU, hW]
      have hBU : Below wo.heap.size wo U := by rw [← hU]; exact (Below.refl _ _).alloc (Nat.le_refl _) _
      have hUz : U.heap.size = wo.heap.size + 1 := by rw [← hU]; simp
      have hBW : Below wo.heap.size wo W := by rw [← hWU]; exact two_below _ _ _
      obtain ⟨r0, r1, r2, r3⟩ := two_parts hWU
      have p5 : U.cell? ⟨b2, off2 + k * 2, none⟩ = some (.slice a2 l2 c2) := by rw [hBU.cell (World.block_lt_of_cell? _ _ p3)]; exact p3
      have p6 : U.cell? ⟨b2, off2 + k * 2 + 1, none⟩ = some (.int .i64 y) := by rw [hBU.cell (World.block_lt_of_cell? _ _ p4)]; exact p4
      have hri3 := hri.below hBW
      have hri4 := hri2.below hBW
      have hB1 := hd.trans (hBW.mono hd.size)
      clear hWU hBU hBW hri hri2
      by_cases hst : (s, x) = (t, y)
      · have HE := Lib.hid (show (decide (s = t) && decide (x = y)) = true by cases hst; simp)
        have HN := Lib.hid (show xs[k]? = ys[k]? by rw [Hx.out, Hy.out, hst])
        clear hst
        go_wp2_with fail
        refine (is (samePart_any _ _ _ _ _ _ s t x y _ hri3 hri4 Hl.out Hl2.out (by omega)) HE.out).mono ?_
        rintro e w2 ⟨rfl, hb2⟩
        have hB2 := hB1.trans (hb2.mono hB1.size)
        go_wp2
        go_roundw
        case rel => exact ⟨k + 1, by omega, by go_num, by
              intro j hj
              rcases Nat.lt_or_ge j k with h | h
              · exact HA.out j h
              · obtain rfl : j = k := by omega
                exact HN.out, hB2⟩
        case measure => simp [intOf]; omega
      · have HE := Lib.hid (show (decide (s = t) && decide (x = y)) = false by
          rw [Bool.and_eq_false_iff, decide_eq_false_iff_not, decide_eq_false_iff_not]
          by_cases h : s = t
          · exact .inr (fun e => hst (by rw [h, e]))
          · exact .inl h)
        have HN := Lib.hid (nep_of_at Hx.out Hy.out hst)
        clear hst
        go_wp2_with fail
        refine (is (samePart_any _ _ _ _ _ _ s t x y _ hri3 hri4 Hl.out Hl2.out (by omega)) HE.out).mono ?_
        rintro e w2 ⟨rfl, hb2⟩
        have hB2 := hB1.trans (hb2.mono hB1.size)
        go_wp2
        go_ret
        exact ⟨ret_bool HN.out.symm, hB2⟩
    · go_wp2
      go_ret
      exact ⟨ret_bool (eqp_of_all (Hn.out.trans Hm.out.symm) (by intro j hj; exact HA.out j (by rw [Hn.out] at hj; omega))).symm, hd⟩
theorem samePoly_any (a b : Option Addr) (n c m d : Nat) (xs ys : List (List Int × Int)) (w : World) (hr : RP w a xs) (hs : RP w b ys) (hn : xs.length = n) (hm : ys.length = m) (hb : n ≤ 1048576) (hsh : ∀ p ∈ xs, p.1.length ≤ 1048576) :
    Calls Try.prog 47 #[.slice a n c, .slice b m d] w fun e w' => e = .returned (.bool (decide (xs = ys))) ∧ Below w.heap.size w w' := by
  have HC := Lib.hid (equalFunc_any a b n c m d xs ys w hr hs hn hm hb hsh)
  clear hn hm hsh
  go_enter Try.func47, Try.ntmps47
  go_wp2_with fail
  refine HC.out.mono ?_
  rintro e w2 ⟨rfl, hb2⟩
  go_wp2
  go_ret
  exact ⟨rfl, hb2⟩
end Go.Proofs.Ytblhndkaikelaaa
