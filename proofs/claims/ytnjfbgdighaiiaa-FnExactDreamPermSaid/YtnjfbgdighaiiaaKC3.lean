/-
  Contracts of szCellS, toCell, toCellS; what came in, opened: a slice of cells.
-/
import Derived.Test.YtnjfbgdighaiiaaBottom
import Derived.Test.YtnjfbgdighaiiaaSzI
import Derived.Test.YtnjfbgdighaiiaaOpen
import Derived.Deep.SlicePairs
import Derived.Laws.Rows
namespace Go.Proofs.Ytnjfbgdighaiiaa
open Go.RowKit Go.ChangeShapes

def Wide_C (n : Nat) (_xs : List (Int × Int)) : Prop := n ≤ 9223372036854775807
def Wf_C (xs : List (Int × Int)) : Prop := ∀ p ∈ xs, (Lit.int .i64 p.1).wf = true ∧ (Lit.int .i64 p.2).wf = true
def ms_C (xs : List (Int × Int)) : Nat := xs.length
def Short_C (_xs : List (Int × Int)) : Prop := True
theorem ms_C_len (xs : List (Int × Int)) : xs.length ≤ ms_C xs := Nat.le_refl _
theorem ms_C_short (xs : List (Int × Int)) (_h : ms_C xs ≤ 1048576) : Short_C xs := trivial
set_option maxHeartbeats 400000 in
theorem szl_C (a : Option Addr) (n c : Nat) (xs : List (Int × Int)) (left : Int) (w : World) (_hr : RC w a xs) (hn : xs.length = n) (h0 : 0 ≤ left) (h1 : left ≤ 1048576) (hb : Wide_C n xs) :
    Calls Try.prog 38 #[.slice a n c, .int .i64 left] w fun e w' => e = .returned (.int .i64 (leftOf left (ms_C xs))) ∧ w = w' := by
  have hms : ms_C xs = n := hn
  rw [hms]
  unfold Wide_C at hb
  clear hn hms
  by_cases h : left < n
  · go_enter Try.func38, Try.ntmps38
    go_wp2
    go_ret
    exact ⟨ret_int (leftOf_lt h).symm, rfl⟩
  · go_enter Try.func38, Try.ntmps38
    go_wp2
    go_ret
    exact ⟨ret_int (leftOf_ge (by omega)).symm, rfl⟩
theorem Try.sizeCell : (Try.prog.info? 44).map (·.size) = some 2 := by kernel_rfl
set_option maxRecDepth 100000 in
set_option maxHeartbeats 1600000 in
theorem toCell_any (x y : Int) (w : World) :
    Calls Try.prog 93 #[.agg #[.int .i64 x, .int .i64 y]] w fun e w' => e = .returned (.agg #[.int .i64 x, .int .i64 y]) ∧ Below w.heap.size w w' := by
  have hg : (((w.alloc (.cells #[.int .i64 x, .int .i64 y] 96)).alloc (.cells #[.int .i64 x, .int .i64 y] 44)).alloc (.cells #[.int .i64 x, .int .i64 y] 44)).heap[w.heap.size + 1]? = some (.cells #[.int .i64 x, .int .i64 y] 44 (0, 0)) := by
    have h1 := heap_alloc_new (w.alloc (.cells #[.int .i64 x, .int .i64 y] 96)) (.cells #[.int .i64 x, .int .i64 y] 44)
    have hs : (w.alloc (.cells #[.int .i64 x, .int .i64 y] 96)).heap.size = w.heap.size + 1 := by simp
    rw [hs] at h1
    have hb : Below (w.heap.size + 2) ((w.alloc (.cells #[.int .i64 x, .int .i64 y] 96)).alloc (.cells #[.int .i64 x, .int .i64 y] 44)) (((w.alloc (.cells #[.int .i64 x, .int .i64 y] 96)).alloc (.cells #[.int .i64 x, .int .i64 y] 44)).alloc (.cells #[.int .i64 x, .int .i64 y] 44)) :=
      (Below.refl _ _).alloc (by simp) _
    rw [hb.block _ (Nat.lt_succ_self _)]; exact h1
  have hB : Below w.heap.size w (((w.alloc (.cells #[.int .i64 x, .int .i64 y] 96)).alloc (.cells #[.int .i64 x, .int .i64 y] 44)).alloc (.cells #[.int .i64 x, .int .i64 y] 44)) :=
    (((Below.refl w.heap.size w).alloc (Nat.le_refl _) _).alloc (by simp) _).alloc (by simp; omega) _
  have HG := Lib.hid hg; clear hg
  have HB := Lib.hid hB; clear hB
  go_enter Try.func93, Try.ntmps93
  go_wp2
  refine bodyPost_ret (results_cell_row rfl _ _ (w.heap.size + 1) _ _ (0, 0) _ rfl HG.out Try.underlying44 rfl Try.sizeCell) rfl ?_
  exact ⟨rfl, HB.out⟩

def fillC (xs : List (Int × Int)) (n k : Nat) : List (Int × Int) := xs.take k ++ List.replicate (n - k) (0, 0)
theorem fillC_length {xs : List (Int × Int)} {n k : Nat} (h : xs.length = n) (hk : k ≤ n) : (fillC xs n k).length = n := by simp [fillC]; omega
theorem fillC_all {xs : List (Int × Int)} {n : Nat} (h : xs.length = n) : fillC xs n n = xs := by simp [fillC, ← h]
theorem fillC_succ {xs : List (Int × Int)} {n k : Nat} {x : Int × Int} (h : xs.length = n) (hk : k < n) (hx : xs[k]? = some x) : (fillC xs n k).set k x = fillC xs n (k + 1) := by
  subst h
  apply List.ext_getElem?
  intro j
  obtain ⟨_, rfl⟩ := List.getElem?_eq_some_iff.1 hx
  rw [List.getElem?_set]
  by_cases hj : k = j
  · subst hj
    rw [if_pos rfl, if_pos (by rw [fillC_length rfl (by omega)]; exact hk)]
    unfold fillC
    rw [List.getElem?_append_left (by simp; omega), List.getElem?_take, if_pos (by omega), List.getElem?_eq_getElem hk]
  · simp only [if_neg hj, fillC]
    rw [List.getElem?_append, List.getElem?_append]
    simp only [List.length_take, List.getElem?_take, List.getElem?_replicate]
    repeat' split
    all_goals first | rfl | omega
theorem fillC_at {xs : List (Int × Int)} {n k : Nat} (h : xs.length = n) (hk : k < n) : ∃ p, (fillC xs n k)[k]? = some p := ⟨_, List.getElem?_eq_getElem (by rw [fillC_length h (by omega)]; exact hk)⟩
theorem prs_replicate (n : Nat) : prs (List.replicate n (0, 0)) = (madeCells (Value.agg #[.int .i64 0, .int .i64 0]).cells (n * 2)).toList := by
  apply List.ext_getElem?
  intro j
  have e : (Value.agg #[.int .i64 0, .int .i64 0]).cells = #[.int .i64 0, .int .i64 0] := rfl
  rw [e]
  by_cases hj : j < n * 2
  · have h1 : (prs (List.replicate n ((0 : Int), (0 : Int))))[j]? = some (.int .i64 0) := by
      have hp : (List.replicate n ((0 : Int), (0 : Int)))[j / 2]? = some (0, 0) := by rw [List.getElem?_replicate, if_pos (by omega)]
      obtain ⟨e1, e2⟩ := prs_at hp
      rcases Nat.mod_two_eq_zero_or_one j with h | h
      · have : j = j / 2 * 2 := by omega
        rw [this]; exact e1
      · have : j = j / 2 * 2 + 1 := by omega
        rw [this]; exact e2
    rw [h1]
    rcases Nat.mod_two_eq_zero_or_one j with h | h <;> simp [madeCells, hj, h]
  · rw [List.getElem?_eq_none (by rw [prs_length, List.length_replicate]; omega)]
    simp [madeCells, hj]

set_option maxRecDepth 100000 in
set_option maxHeartbeats 1600000 in
theorem conv_C (a : Option Addr) (n c : Nat) (xs : List (Int × Int)) (w : World) (hr : RC w a xs) (hn : xs.length = n) (hb : n ≤ 1048576) (_hsh : Short_C xs) :
    Calls Try.prog 40 #[.slice a n c] w fun e w' => ∃ a' c', e = .returned (.slice a' n c') ∧ CO w' w.heap.size w'.heap.size a' n c' xs ∧ Below w.heap.size w w' := by
  have Hn := Lib.hid hn; clear hn
  obtain ⟨i0, hi, hz0, hz1, hz2⟩ := info_parts Try.infoCell
  go_enter Try.func40, Try.ntmps40
  go_wp2_with (first | (at_make; refine wpList_make_full _ rfl _ _ 23 rfl w.heap.size 44 i0 (.agg #[.int .i64 0, .int .i64 0]) 2 Try.underlying23 hi hz0 hz1 .i64 .i64 _ _ n rfl rfl ?m1 ?m2 ?m3 ?m4 ?m5 ?_))
  case m1 => rfl
  case m2 => rfl
  case m3 => rw [hz2]; omega
  case m4 => unfold maxLen; omega
  case m5 => exact Nat.le_refl _
  intro w1 hown hg
  have hB : Below w.heap.size w w1 := (Below.refl _ _).grown hg (Nat.le_refl _) (by simp)
  have hrow : CO w1 w.heap.size w1.heap.size (some ⟨w.heap.size, 0, none⟩) n n (fillC xs n 0) := by
    have h1 : fillC xs n 0 = List.replicate n (0, 0) := by simp [fillC]
    rw [h1]
    exact CO.mk (by rw [prs_replicate]; exact hown)
  clear hown hg
  go_wp2
  go_loopw [4] (fun i wr => ∃ k : Nat, k ≤ n ∧ i = .int .i64 k ∧ CO wr w.heap.size wr.heap.size (some ⟨w.heap.size, 0, none⟩) n n (fillC xs n k) ∧ Below w.heap.size w wr) (fun i _ => n - (intOf i).toNat)
  case atStart => exact ⟨0, Nat.zero_le _, rfl, hrow, hB⟩
  case round =>
    clear hrow hB
    obtain ⟨k, hk, rfl, ho, hbel⟩ := hrel
    obtain ⟨wo, rfl⟩ : ∃ wo : World, wo = wr := ⟨_, rfl⟩
    by_cases hlt : k < n
    · obtain ⟨b, off, rfl, hcell⟩ := (hr.below hbel).at (k := k) (by rw [Hn.out]; exact hlt)
      obtain ⟨x, y, hx⟩ := pair_at Hn.out hlt
      obtain ⟨hc1, hc2⟩ := hcell k _ hx
      simp only at hc1 hc2
      have Hsucc := Lib.hid (fillC_succ Hn.out hlt hx)
      obtain ⟨p, hp⟩ := fillC_at (k := k) Hn.out hlt
      have Hp := Lib.hid hp
      clear hcell hx hp
      have hs0 := hbel.size
      go_wp2_with fail
      refine (toCell_any x y _).mono ?_
      rintro e w2 ⟨rfl, hb2⟩
      have ho1 := (ho.below hb2).mono (B' := w.heap.size) (S' := w2.heap.size) (Nat.le_refl _) hb2.size
      obtain ⟨g, eg, _, hd1, hd2, hf1, hf2⟩ := ho1.cons Hp.out
      obtain rfl : w.heap.size = g := by simpa using eg
      have s1 := (ho1.store Hp.out x).1
      have hp2 : ((fillC xs n k).set k (x, p.2))[k]? = some (x, p.2) := by
        rw [List.getElem?_set, if_pos rfl, if_pos (List.getElem?_eq_some_iff.1 Hp.out).1]
      obtain ⟨g', e', _, _, hd3, _, hf3⟩ := s1.1.cons hp2
      obtain rfl : w.heap.size = g' := by simpa using e'
      have s2 := (s1.1.store hp2 y).2
      rw [List.set_set, Hsucc.out] at s2
      have hB2 := ((hbel.trans (hb2.mono hs0)).setCell (p := ⟨w.heap.size, k * 2, none⟩) (Nat.le_refl _) (.int .i64 x)).setCell (p := ⟨w.heap.size, k * 2 + 1, none⟩) (Nat.le_refl _) (.int .i64 y)
      have Hs := Lib.hid (s2.1.mono (B' := w.heap.size) (S' := (((w2.setCell ⟨w.heap.size, k * 2, none⟩ (.int .i64 x)).setCell ⟨w.heap.size, k * 2 + 1, none⟩ (.int .i64 y))).heap.size) (Nat.le_refl _) (by simp))
      have HB := Lib.hid hB2
      clear s1 s2 hB2 hp2 ho ho1 hb2 eg e'
      go_wp2
      go_roundw
      case rel => exact ⟨k + 1, by omega, by go_num, Hs.out, HB.out⟩
      case measure => simp [intOf]; omega
    · obtain rfl : k = n := by omega
      rw [fillC_all Hn.out] at ho
      have HO := Lib.hid ho; clear ho
      go_wp2
      go_ret
      exact ⟨_, _, rfl, HO.out, hbel⟩
theorem open_C {H : Type} {enc : TypeId × Value → H} {W : World} {a : Option Addr} {len cap : Nat} {d : DataW H} {p : List MemPlace} (h : DataW.Trod enc Try.prog W 0 (fun _ => true) true 46 (.slice a len cap) d p) :
    ∃ xs, RC W a xs ∧ xs.length = len ∧ Wide_C len xs ∧ Wf_C xs := by
  obtain ⟨fuel, hf⟩ := h
  rcases Go.Deep.open_slice_pairs Try.underlying46 Try.underlying96 (by kernel_rfl) rfl rfl (by kernel_rfl) (by kernel_rfl) hf with ⟨hcs, _⟩ | ⟨x, l, c, m, n, V0, V1, D0, D1, P0, P1, hcs, _, hl, hm, hmm, _, hx⟩
  · simp [Value.cells] at hcs
    obtain ⟨rfl, rfl, rfl⟩ := hcs
    exact ⟨[], .inl rfl, rfl, by unfold Wide_C; omega, by simp [Wf_C]⟩
  · simp [Value.cells] at hcs
    obtain ⟨rfl, rfl, rfl⟩ := hcs
    unfold maxLen at hm
    have hmc : len ≤ m := by split at hmm <;> omega
    have each : ∀ r, r < m → ∃ q : Int × Int, W.cell? (x.add (r * 2)) = some (.int .i64 q.1) ∧ W.cell? (x.add (r * 2 + 1)) = some (.int .i64 q.2) ∧ (Lit.int .i64 q.1).wf = true ∧ (Lit.int .i64 q.2).wf = true := by
      intro r hr
      obtain ⟨h1, h2, h3, h4⟩ := hx r hr
      obtain ⟨y, hy, _, hyw⟩ := DataW.trod_int Try.underlying3 h3
      obtain ⟨z, hz, _, hzw⟩ := DataW.trod_int Try.underlying3 h4
      simp only [List.cons.injEq, and_true] at hy hz
      rw [hy] at h1
      rw [hz] at h2
      exact ⟨(y, z), h1, h2, hyw, hzw⟩
    obtain ⟨Z, hZ⟩ := Go.Deep.choose_lt each
    refine ⟨(List.range len).map Z, ?_, by simp, by unfold Wide_C; omega, fun q hq => ?_⟩
    · by_cases h0 : len = 0
      · left; simp [h0]
      · right
        obtain ⟨h1, _⟩ := hZ 0 (by omega)
        have hpl : ∃ b off, x = ⟨b, off, none⟩ := by
          rw [Nat.zero_mul] at h1
          obtain ⟨b, off, spot⟩ := x
          have : spot = none := by simpa [Addr.add] using World.cell?_spot h1
          exact ⟨b, off, by rw [this]⟩
        obtain ⟨b, off, rfl⟩ := hpl
        refine ⟨b, off, rfl, fun k q hk => ?_⟩
        simp only [List.getElem?_map, Option.map_eq_some_iff] at hk
        obtain ⟨r, hr, rfl⟩ := hk
        have hkl := lt_of_some hr
        simp at hkl
        obtain rfl : k = r := by simpa [hkl] using hr
        obtain ⟨h1, h2, _, _⟩ := hZ k (by omega)
        have ea : ∀ j, (⟨b, off, none⟩ : Addr).add j = ⟨b, off + j, none⟩ := by intro j; unfold Addr.add; split <;> simp_all
        rw [ea] at h1 h2
        exact ⟨h1, by rw [Nat.add_assoc]; exact h2⟩
    · simp only [List.mem_map, List.mem_range] at hq
      obtain ⟨r, hr, rfl⟩ := hq
      obtain ⟨_, _, h3, h4⟩ := hZ r (by omega)
      exact ⟨h3, h4⟩
end Go.Proofs.Ytnjfbgdighaiiaa
