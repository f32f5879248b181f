/-
  Contracts of szCellS, toCell, toCellS; what came in, opened: a slice of cells.
  Contract of slices.Clone of cells.
  append of cells to cells, as a step of a region that draws its order; parts of a row of cells.
-/
import Derived.Test.YtageojkepoejiaaBuP6
import Derived.Deep.SlicePairs
import Derived.Laws.Rows
import Derived.Deep.RegionHeld3
namespace Go.Proofs.Ytageojkepoejiaa
open Go.RowKit Go.ChangeShapes

def Wide_C (n : Nat) (_xs : List (Int × Int)) : Prop := n ≤ 9223372036854775807
def Wf_C (xs : List (Int × Int)) : Prop := ∀ p ∈ xs, (Lit.int .i64 p.1).wf = true ∧ (Lit.int .i64 p.2).wf = true
def ms_C (xs : List (Int × Int)) : Nat := xs.length
def Short_C (_xs : List (Int × Int)) : Prop := True
theorem ms_C_len (xs : List (Int × Int)) : xs.length ≤ ms_C xs := Nat.le_refl _
theorem ms_C_short (xs : List (Int × Int)) (_h : ms_C xs ≤ 1048576) : Short_C xs := trivial
set_option maxHeartbeats 400000 in
theorem szl_C (a : Option Addr) (n c : Nat) (xs : List (Int × Int)) (left : Int) (w : World) (_hr : RC w a xs) (hn : xs.length = n) (h0 : 0 ≤ left) (h1 : left ≤ 1048576) (hb : Wide_C n xs) :
    Calls Try.prog 17 #[.slice a n c, .int .i64 left] w fun e w' => e = .returned (.int .i64 (leftOf left (ms_C xs))) ∧ w = w' := by
  have hms : ms_C xs = n := hn
  rw [hms]
  unfold Wide_C at hb
  clear hn hms
  by_cases h : left < n
  · go_enter Try.func17, Try.ntmps17
    go_wp2
    go_ret
    exact ⟨ret_int (leftOf_lt h).symm, rfl⟩
  · go_enter Try.func17, Try.ntmps17
    go_wp2
    go_ret
    exact ⟨ret_int (leftOf_ge (by omega)).symm, rfl⟩
theorem Try.sizeCell : (Try.prog.info? 60).map (·.size) = some 2 := by kernel_rfl
set_option maxRecDepth 100000 in
set_option maxHeartbeats 1600000 in
theorem toCell_any (x y : Int) (w : World) :
    Calls Try.prog 48 #[.agg #[.int .i64 x, .int .i64 y]] w fun e w' => e = .returned (.agg #[.int .i64 x, .int .i64 y]) ∧ Below w.heap.size w w' := by
  have hg : (((w.alloc (.cells #[.int .i64 x, .int .i64 y] 65)).alloc (.cells #[.int .i64 x, .int .i64 y] 60)).alloc (.cells #[.int .i64 x, .int .i64 y] 60)).heap[w.heap.size + 1]? = some (.cells #[.int .i64 x, .int .i64 y] 60 (0, 0)) := by
    have h1 := heap_alloc_new (w.alloc (.cells #[.int .i64 x, .int .i64 y] 65)) (.cells #[.int .i64 x, .int .i64 y] 60)
    have hs : (w.alloc (.cells #[.int .i64 x, .int .i64 y] 65)).heap.size = w.heap.size + 1 := by simp
    rw [hs] at h1
    have hb : Below (w.heap.size + 2) ((w.alloc (.cells #[.int .i64 x, .int .i64 y] 65)).alloc (.cells #[.int .i64 x, .int .i64 y] 60)) (((w.alloc (.cells #[.int .i64 x, .int .i64 y] 65)).alloc (.cells #[.int .i64 x, .int .i64 y] 60)).alloc (.cells #[.int .i64 x, .int .i64 y] 60)) :=
      (Below.refl _ _).alloc (by simp) _
    rw [hb.block _ (Nat.lt_succ_self _)]; exact h1
  have hB : Below w.heap.size w (((w.alloc (.cells #[.int .i64 x, .int .i64 y] 65)).alloc (.cells #[.int .i64 x, .int .i64 y] 60)).alloc (.cells #[.int .i64 x, .int .i64 y] 60)) :=
    (((Below.refl w.heap.size w).alloc (Nat.le_refl _) _).alloc (by simp) _).alloc (by simp; omega) _
  have HG := Lib.hid hg; clear hg
  have HB := Lib.hid hB; clear hB
  go_enter Try.func48, Try.ntmps48
  go_wp2
  refine bodyPost_ret (results_cell_row rfl _ _ (w.heap.size + 1) _ _ (0, 0) _ rfl HG.out Try.underlying60 rfl Try.sizeCell) rfl ?_
  exact ⟨rfl, HB.out⟩

def fillC (xs : List (Int × Int)) (n k : Nat) : List (Int × Int) := xs.take k ++ List.replicate (n - k) (0, 0)
theorem fillC_length {xs : List (Int × Int)} {n k : Nat} (h : xs.length = n) (hk : k ≤ n) : (fillC xs n k).length = n := by simp [fillC]; omega
theorem fillC_all {xs : List (Int × Int)} {n : Nat} (h : xs.length = n) : fillC xs n n = xs := by simp [fillC, ← h]
theorem fillC_succ {xs : List (Int × Int)} {n k : Nat} {x : Int × Int} (h : xs.length = n) (hk : k < n) (hx : xs[k]? = some x) : (fillC xs n k).set k x = fillC xs n (k + 1) := by
  subst h
  apply List.ext_getElem?
  intro j
  obtain ⟨_, rfl⟩ := List.getElem?_eq_some_iff.1 hx
  rw [List.getElem?_set]
  by_cases hj : k = j
  · subst hj
    rw [if_pos rfl, if_pos (by rw [fillC_length rfl (by omega)]; exact hk)]
    unfold fillC
    rw [List.getElem?_append_left (by simp; omega), List.getElem?_take, if_pos (by omega), List.getElem?_eq_getElem hk]
  · simp only [if_neg hj, fillC]
    rw [List.getElem?_append, List.getElem?_append]
    simp only [List.length_take, List.getElem?_take, List.getElem?_replicate]
    repeat' split
    all_goals first | rfl | omega
theorem fillC_at {xs : List (Int × Int)} {n k : Nat} (h : xs.length = n) (hk : k < n) : ∃ p, (fillC xs n k)[k]? = some p := ⟨_, List.getElem?_eq_getElem (by rw [fillC_length h (by omega)]; exact hk)⟩
theorem prs_replicate (n : Nat) : prs (List.replicate n (0, 0)) = (madeCells (Value.agg #[.int .i64 0, .int .i64 0]).cells (n * 2)).toList := by
  apply List.ext_getElem?
  intro j
  have e : (Value.agg #[.int .i64 0, .int .i64 0]).cells = #[.int .i64 0, .int .i64 0] := rfl
  rw [e]
  by_cases hj : j < n * 2
  · have h1 : (prs (List.replicate n ((0 : Int), (0 : Int))))[j]? = some (.int .i64 0) := by
      have hp : (List.replicate n ((0 : Int), (0 : Int)))[j / 2]? = some (0, 0) := by rw [List.getElem?_replicate, if_pos (by omega)]
      obtain ⟨e1, e2⟩ := prs_at hp
      rcases Nat.mod_two_eq_zero_or_one j with h | h
      · have : j = j / 2 * 2 := by omega
        rw [this]; exact e1
      · have : j = j / 2 * 2 + 1 := by omega
        rw [this]; exact e2
    rw [h1]
    rcases Nat.mod_two_eq_zero_or_one j with h | h <;> simp [madeCells, hj, h]
  · rw [List.getElem?_eq_none (by rw [prs_length, List.length_replicate]; omega)]
    simp [madeCells, hj]

set_option maxRecDepth 100000 in
set_option maxHeartbeats 1600000 in
theorem conv_C (a : Option Addr) (n c : Nat) (xs : List (Int × Int)) (w : World) (hr : RC w a xs) (hn : xs.length = n) (hb : n ≤ 1048576) (_hsh : Short_C xs) :
    Calls Try.prog 19 #[.slice a n c] w fun e w' => ∃ a' c', e = .returned (.slice a' n c') ∧ CO w' w.heap.size w'.heap.size a' n c' xs ∧ Below w.heap.size w w' := by
  have Hn := Lib.hid hn; clear hn
  obtain ⟨i0, hi, hz0, hz1, hz2⟩ := info_parts Try.infoCell
  go_enter Try.func19, Try.ntmps19
  go_wp2_with (first | (at_make; refine wpList_make_full _ rfl _ _ 36 rfl w.heap.size 60 i0 (.agg #[.int .i64 0, .int .i64 0]) 2 Try.underlying36 hi hz0 hz1 .i64 .i64 _ _ n rfl rfl ?m1 ?m2 ?m3 ?m4 ?m5 ?_))
  case m1 => rfl
  case m2 => rfl
  case m3 => rw [hz2]; omega
  case m4 => unfold maxLen; omega
  case m5 => exact Nat.le_refl _
  intro w1 hown hg
  have hB : Below w.heap.size w w1 := (Below.refl _ _).grown hg (Nat.le_refl _) (by simp)
  have hrow : CO w1 w.heap.size w1.heap.size (some ⟨w.heap.size, 0, none⟩) n n (fillC xs n 0) := by
    have h1 : fillC xs n 0 = List.replicate n (0, 0) := by simp [fillC]
    rw [h1]
    exact CO.mk (by rw [prs_replicate]; exact hown)
  clear hown hg
  go_wp2
  go_loopw [4] (fun i wr => ∃ k : Nat, k ≤ n ∧ i = .int .i64 k ∧ CO wr w.heap.size wr.heap.size (some ⟨w.heap.size, 0, none⟩) n n (fillC xs n k) ∧ Below w.heap.size w wr) (fun i _ => n - (intOf i).toNat)
  case atStart => exact ⟨0, Nat.zero_le _, rfl, hrow, hB⟩
  case round =>
    clear hrow hB
    obtain ⟨k, hk, rfl, ho, hbel⟩ := hrel
    obtain ⟨wo, rfl⟩ : ∃ wo : World, wo = wr := ⟨_, rfl⟩
    by_cases hlt : k < n
    · obtain ⟨b, off, rfl, hcell⟩ := (hr.below hbel).at (k := k) (by rw [Hn.out]; exact hlt)
      obtain ⟨x, y, hx⟩ := pair_at Hn.out hlt
      obtain ⟨hc1, hc2⟩ := hcell k _ hx
      simp only at hc1 hc2
      have Hsucc := Lib.hid (fillC_succ Hn.out hlt hx)
      obtain ⟨p, hp⟩ := fillC_at (k := k) Hn.out hlt
      have Hp := Lib.hid hp
      clear hcell hx hp
      have hs0 := hbel.size
      go_wp2_with fail
      refine (toCell_any x y _).mono ?_
      rintro e w2 ⟨rfl, hb2⟩
      have ho1 := (ho.below hb2).mono (B' := w.heap.size) (S' := w2.heap.size) (Nat.le_refl _) hb2.size
      obtain ⟨g, eg, _, hd1, hd2, hf1, hf2⟩ := ho1.cons Hp.out
      obtain rfl : w.heap.size = g := by simpa using eg
      have s1 := (ho1.store Hp.out x).1
      have hp2 : ((fillC xs n k).set k (x, p.2))[k]? = some (x, p.2) := by
        rw [List.getElem?_set, if_pos rfl, if_pos (List.getElem?_eq_some_iff.1 Hp.out).1]
      obtain ⟨g', e', _, _, hd3, _, hf3⟩ := s1.1.cons hp2
      obtain rfl : w.heap.size = g' := by simpa using e'
      have s2 := (s1.1.store hp2 y).2
      rw [List.set_set, Hsucc.out] at s2
      have hB2 := ((hbel.trans (hb2.mono hs0)).setCell (p := ⟨w.heap.size, k * 2, none⟩) (Nat.le_refl _) (.int .i64 x)).setCell (p := ⟨w.heap.size, k * 2 + 1, none⟩) (Nat.le_refl _) (.int .i64 y)
      have Hs := Lib.hid (s2.1.mono (B' := w.heap.size) (S' := (((w2.setCell ⟨w.heap.size, k * 2, none⟩ (.int .i64 x)).setCell ⟨w.heap.size, k * 2 + 1, none⟩ (.int .i64 y))).heap.size) (Nat.le_refl _) (by simp))
      have HB := Lib.hid hB2
      clear s1 s2 hB2 hp2 ho ho1 hb2 eg e'
      go_wp2
      go_roundw
      case rel => exact ⟨k + 1, by omega, by go_num, Hs.out, HB.out⟩
      case measure => simp [intOf]; omega
    · obtain rfl : k = n := by omega
      rw [fillC_all Hn.out] at ho
      have HO := Lib.hid ho; clear ho
      go_wp2
      go_ret
      exact ⟨_, _, rfl, HO.out, hbel⟩
theorem open_C {H : Type} {enc : TypeId × Value → H} {W : World} {a : Option Addr} {len cap : Nat} {d : DataW H} {p : List MemPlace} (h : DataW.Trod enc Try.prog W 0 (fun _ => true) true 32 (.slice a len cap) d p) :
    ∃ xs, RC W a xs ∧ xs.length = len ∧ Wide_C len xs ∧ Wf_C xs := by
  obtain ⟨fuel, hf⟩ := h
  rcases Go.Deep.open_slice_pairs Try.underlying32 Try.underlying65 (by kernel_rfl) rfl rfl (by kernel_rfl) (by kernel_rfl) hf with ⟨hcs, _⟩ | ⟨x, l, c, m, n, V0, V1, D0, D1, P0, P1, hcs, _, hl, hm, hmm, _, hx⟩
  · simp [Value.cells] at hcs
    obtain ⟨rfl, rfl, rfl⟩ := hcs
    exact ⟨[], .inl rfl, rfl, by unfold Wide_C; omega, by simp [Wf_C]⟩
  · simp [Value.cells] at hcs
    obtain ⟨rfl, rfl, rfl⟩ := hcs
    unfold maxLen at hm
    have hmc : len ≤ m := by split at hmm <;> omega
    have each : ∀ r, r < m → ∃ q : Int × Int, W.cell? (x.add (r * 2)) = some (.int .i64 q.1) ∧ W.cell? (x.add (r * 2 + 1)) = some (.int .i64 q.2) ∧ (Lit.int .i64 q.1).wf = true ∧ (Lit.int .i64 q.2).wf = true := by
      intro r hr
      obtain ⟨h1, h2, h3, h4⟩ := hx r hr
      obtain ⟨y, hy, _, hyw⟩ := DataW.trod_int Try.underlying3 h3
      obtain ⟨z, hz, _, hzw⟩ := DataW.trod_int Try.underlying3 h4
      simp only [List.cons.injEq, and_true] at hy hz
      rw [hy] at h1
      rw [hz] at h2
      exact ⟨(y, z), h1, h2, hyw, hzw⟩
    obtain ⟨Z, hZ⟩ := Go.Deep.choose_lt each
    refine ⟨(List.range len).map Z, ?_, by simp, by unfold Wide_C; omega, fun q hq => ?_⟩
    · by_cases h0 : len = 0
      · left; simp [h0]
      · right
        obtain ⟨h1, _⟩ := hZ 0 (by omega)
        have hpl : ∃ b off, x = ⟨b, off, none⟩ := by
          rw [Nat.zero_mul] at h1
          obtain ⟨b, off, spot⟩ := x
          have : spot = none := by simpa [Addr.add] using World.cell?_spot h1
          exact ⟨b, off, by rw [this]⟩
        obtain ⟨b, off, rfl⟩ := hpl
        refine ⟨b, off, rfl, fun k q hk => ?_⟩
        simp only [List.getElem?_map, Option.map_eq_some_iff] at hk
        obtain ⟨r, hr, rfl⟩ := hk
        have hkl := lt_of_some hr
        simp at hkl
        obtain rfl : k = r := by simpa [hkl] using hr
        obtain ⟨h1, h2, _, _⟩ := hZ k (by omega)
        have ea : ∀ j, (⟨b, off, none⟩ : Addr).add j = ⟨b, off + j, none⟩ := by intro j; unfold Addr.add; split <;> simp_all
        rw [ea] at h1 h2
        exact ⟨h1, by rw [Nat.add_assoc]; exact h2⟩
    · simp only [List.mem_map, List.mem_range] at hq
      obtain ⟨r, hr, rfl⟩ := hq
      obtain ⟨_, _, h3, h4⟩ := hZ r (by omega)
      exact ⟨h3, h4⟩
end Go.Proofs.Ytageojkepoejiaa

namespace Go.Proofs.Ytageojkepoejiaa
open Go.RowKit

theorem ms_C_sz (xs : List (Int × Int)) : sz_C xs ≤ 2 * ms_C xs := by unfold sz_C ms_C; omega
theorem prs_one (xs : List (Int × Int)) : ∀ u ∈ prs xs, u.oneCell' = true := by
  induction xs with
  | nil => intro u hu; simp [prs] at hu
  | cons p xs ih =>
    intro u hu
    simp only [prs, List.mem_cons] at hu
    rcases hu with rfl | rfl | hu
    · rfl
    · rfl
    · exact ih u hu
theorem prs_cells {w : World} {b : Nat} {off : Nat} {xs : List (Int × Int)} (h : ∀ k p, xs[k]? = some p → w.cell? ⟨b, off + k * 2, none⟩ = some (.int .i64 p.1) ∧ w.cell? ⟨b, off + k * 2 + 1, none⟩ = some (.int .i64 p.2)) :
    ∀ j u, (prs xs)[j]? = some u → w.cell? ((⟨b, off, none⟩ : Addr).add j) = some u := by
  intro j u hu
  have hj := (List.getElem?_eq_some_iff.1 hu).1
  rw [prs_length] at hj
  obtain ⟨p, q, hp⟩ := pair_at (k := j / 2) rfl (show j / 2 < xs.length by omega)
  obtain ⟨h1, h2⟩ := h _ _ hp
  obtain ⟨e1, e2⟩ := prs_at hp
  have ea : (⟨b, off, none⟩ : Addr).add j = ⟨b, off + j, none⟩ := by unfold Addr.add; split <;> simp_all
  rw [ea]
  rcases Nat.mod_two_eq_zero_or_one j with h | h
  · have e : j = j / 2 * 2 := by omega
    rw [e] at hu
    rw [e1] at hu
    rw [← hu, e]
    simpa using h1
  · have e : j = j / 2 * 2 + 1 := by omega
    rw [e] at hu
    rw [e2] at hu
    rw [← hu, e]
    rw [← Nat.add_assoc]
    exact h2
theorem RC.cells {w : World} {ad : Addr} {xs : List (Int × Int)} (h : RC w (some ad) xs) : ∀ j u, (prs xs)[j]? = some u → w.cell? (ad.add j) = some u := by
  rcases h with rfl | ⟨b, off, e, hc⟩
  · intro j u hu; simp [prs] at hu
  · obtain rfl := Option.some.inj e
    exact prs_cells hc
theorem wpList_appC {w : World} {ops : Array Oper} {rest : List Oper} {o : Oper} {ac : Act} {Q : Exit → Act → World → Prop} (hgd : o.guard = none) (s x : Operand)
    (ho : o.op = .call { callee := .builtin .append, args := #[s, x], argTypes := #[36, 36] })
    {B S : Nat} {a : Option Addr} {n c : Nat} {xs : List (Int × Int)} (hown : CO w B S a n c xs) (hs : ac.eval s = .slice a n c)
    {ad : Addr} {m d : Nat} {ys : List (Int × Int)} (hr : RC w (some ad) ys) (hm : ys.length = m) (hx : ac.eval x = .slice (some ad) m d) (hn : n + m ≤ 2097152) (hbase : B ≤ w.heap.size)
    (h : ∀ a' c' w', CO w' B w'.heap.size a' (n + m) c' (xs ++ ys) → w.grownBy w' (Value.slice a n c).ownBlock → wpList Try.prog ops Q rest (ac.put o.dst (.slice a' (n + m) c')) w') :
    wpList Try.prog ops Q (o :: rest) ac w := by
  obtain ⟨i0, hi, hz0, hz1, hz2⟩ := info_parts Try.infoCell
  refine wpList_append_own _ hgd s x 36 ho B 60 i0 (.agg #[.int .i64 0, .int .i64 0]) 2 16 Try.underlying36 hi hz0 hz1 hz2 rfl (by decide) _ n (prs xs) hs hown.1 ad m d (prs ys) hx (by rw [prs_length, hm]) hr.cells (prs_one ys) (by unfold maxLen; omega) (by omega) hbase ?_
  intro v' w' h2 h3 _
  obtain ⟨a', c', rfl⟩ := slice_of2 h2
  exact h a' c' w' (CO.mk (by rw [prs_append]; exact h2)) h3

set_option maxRecDepth 100000 in
set_option maxHeartbeats 400000 in
theorem cloneC_any (a : Option Addr) (n c : Nat) (xs : List (Int × Int)) (w : World) (hr : RC w a xs) (hn : xs.length = n) (hb : n ≤ 1048576) :
    Calls Try.prog 52 #[.slice a n c] w fun e w' => ∃ a' c', e = .returned (.slice a' n c') ∧ CO w' w.heap.size w'.heap.size a' n c' xs ∧ Below w.heap.size w w' := by
  have q22 : ∀ (w : World) (a : Option Addr) (n c n' c' : Nat), (binOp .eql 36 (.slice a n c) (.slice none n' c')).run Try.prog w = .ok (.bool a.isNone) w := fun w a n c n' c' => Lib.run_eql_slice_nil w _ _ a n c n' c' Try.underlying36
  rcases a with _ | ad
  · have hx : xs = [] := by
      rcases hr with h | ⟨b, off, h, _⟩
      · exact h
      · cases h
    subst hx
    simp only [List.length_nil] at hn
    subst hn
    go_enter Try.func52, Try.ntmps52
    go_wp2
    go_ret
    exact ⟨_, _, rfl, CO.nil, Below.refl _ _⟩
  · have h1 : CO (w.alloc (.cells #[] 60)) w.heap.size (w.alloc (.cells #[] 60)).heap.size (some ⟨w.heap.size, 0, none⟩) 0 0 [] := CO.made w
    have hB0 : Below w.heap.size w (w.alloc (.cells #[] 60)) := (Below.refl _ _).alloc (Nat.le_refl _) _
    have Hn := Lib.hid hn; clear hn
    have H1 := Lib.hid h1; clear h1
    have hr0 := hr.below hB0
    go_enter Try.func52, Try.ntmps52
    go_wp2_with (first | (at_builtin; go_loud (refine wpList_appC (by rfl) _ _ (by rfl) H1.out (by rfl) hr0 Hn.out (by rfl) (by omega) (by simp) ?_)))
    intro a2 c2 w2 ho2 hg2
    have hB2 : Below w.heap.size w w2 := hB0.grown hg2 (by simp) (fun k hk => by simp [Value.ownBlock] at hk; omega)
    go_wp2
    go_ret
    exact ⟨a2, c2, by simp, by simpa using ho2, hB2⟩
end Go.Proofs.Ytageojkepoejiaa

namespace Go.Proofs.Ytageojkepoejiaa
open Go.RowKit

theorem step_appC {w : World} {ops : Array Oper} {o : Oper} {ac : Act} {K : Act → World → Prop} {Q : Exit → Act → World → Prop} (hwant : Region.wanted o (yielded ops ac.tmps) = true) (s x : Operand)
    (ho : o.op = .call { callee := .builtin .append, args := #[s, x], argTypes := #[36, 36] })
    {B S : Nat} {a : Option Addr} {n c : Nat} {xs : List (Int × Int)} (hown : CO w B S a n c xs) (hs : ac.eval s = .slice a n c)
    {ad : Addr} {m d : Nat} {ys : List (Int × Int)} (hx : ac.eval x = .slice (some ad) m d) (hr : RC w (some ad) ys) (hm : ys.length = m) {N : Nat} (hN : n + m = N) (hn : N ≤ 1048576) (hbase : B ≤ w.heap.size)
    (h : ∀ a' c' w', CO w' B w'.heap.size a' N c' (xs ++ ys) → w.grownBy w' (Value.slice a n c).ownBlock → K (ac.put o.dst (.slice a' N c')) w') :
    if Region.wanted o (yielded ops ac.tmps) = true then Oper.wp Try.prog o ac w K Q else K (ac.put o.dst undef) w := by
  subst hN
  rw [if_pos hwant]
  obtain ⟨i0, hi, hz0, hz1, hz2⟩ := info_parts Try.infoCell
  obtain ⟨v', w', hrun, h2, h3, _⟩ := run_append_own (P := Try.prog) (w := w) B 36 o.type 60 i0 (.agg #[.int .i64 0, .int .i64 0]) 2 16 Try.underlying36 hi hz0 hz1 hz2 rfl (by decide) (.slice a n c) n (prs xs) hown.1 ad m d (prs ys) (by rw [prs_length, hm]) hr.cells (prs_one ys) (by unfold maxLen; omega) (by omega) hbase
  obtain ⟨a', c', rfl⟩ := slice_of2 h2
  unfold Oper.wp execOp
  simp only [ho, resolve, invoke, builtin, Sem.run_bind, Sem.run_pure, Result.andThen_ok, List.map_toArray, List.map_cons, List.map_nil, hs, hx, hrun]
  exact h a' c' w' (CO.mk (by rw [prs_append]; exact h2)) h3
theorem RC.take {w : World} {g o : Nat} {xs : List (Int × Int)} (h : RC w (some ⟨g, o, none⟩) xs) (k : Nat) : RC w (some ⟨g, o, none⟩) (xs.take k) := by
  rcases h with rfl | ⟨b, off, e, hc⟩
  · left; simp
  · simp only [Option.some.injEq, Addr.mk.injEq] at e
    obtain ⟨rfl, rfl, _⟩ := e
    refine .inr ⟨g, o, rfl, fun j p hp => ?_⟩
    have hj : j < k := by have := (List.getElem?_eq_some_iff.1 hp).1; rw [List.length_take] at this; omega
    rw [List.getElem?_take_of_lt hj] at hp
    exact hc j p hp
theorem RC.drop {w : World} {g o : Nat} {xs : List (Int × Int)} (h : RC w (some ⟨g, o, none⟩) xs) (k : Nat) : RC w (some ⟨g, o + k * 2, none⟩) (xs.drop k) := by
  rcases h with rfl | ⟨b, off, e, hc⟩
  · left; simp
  · simp only [Option.some.injEq, Addr.mk.injEq] at e
    obtain ⟨rfl, rfl, _⟩ := e
    refine .inr ⟨g, o + k * 2, rfl, fun j p hp => ?_⟩
    rw [List.getElem?_drop] at hp
    have := hc _ p hp
    rw [show o + (k + j) * 2 = o + k * 2 + j * 2 by omega] at this
    exact this
theorem RC.one (w : World) (p q : Int) : RC (w.alloc (.cells #[.int .i64 p, .int .i64 q] 60)) (some ⟨w.heap.size, 0, none⟩) [(p, q)] := by
  have g0 := heap_alloc_new w (.cells #[.int .i64 p, .int .i64 q] 60)
  refine .inr ⟨w.heap.size, 0, rfl, fun k u hu => ?_⟩
  match k, hu with
  | 0, hu =>
    simp at hu
    subst hu
    exact ⟨by rw [cell_of_row _ _ 0 _ _ (0, 0) g0]; rfl, by rw [cell_of_row _ _ 1 _ _ (0, 0) g0]; rfl⟩
end Go.Proofs.Ytageojkepoejiaa
