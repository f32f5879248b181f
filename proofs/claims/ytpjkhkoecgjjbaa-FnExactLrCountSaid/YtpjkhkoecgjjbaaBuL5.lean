/-
  Contract of slices.Insert of one pair (a slice of integers, a count) into a row that a call owns.
  The order of lists of numbers: plain.
  Contracts of slices.Clone of integers and l1Ints.
  Contract of l1In.
-/
import Derived.Test.YtpjkhkoecgjjbaaBuL4
import Derived.Shelf.Spec.SlicesInsertGrow
import Derived.Laws.CopyRow
import Derived.Test.YtpjkhkoecgjjbaaBuL2
import Derived.Test.YtpjkhkoecgjjbaaBase
namespace Go.Proofs.Ytpjkhkoecgjjbaa
open Go.RowKit Go.Lib

theorem run_copy_row2 {P : Program} (w : World) (dT sT ty elem : TypeId) (g o dLen dCap : Nat) (a : Addr) (sLen sCap : Nat) (cur : Array Value) (t : TypeId) (cs : List Value)
    (hu : P.underlying dT = some (.slice elem)) (hs : (P.info? elem).map (·.size) = some 2)
    (hg : w.heap[g]? = some (.cells cur t (0, 0))) (hn : cs.length = Nat.min sLen dLen * 2)
    (hsrc : ∀ j v, cs[j]? = some v → w.cell? (a.add j) = some v) (hfit : o + cs.length ≤ cur.size) (h1 : ∀ v ∈ cs, v.oneCell' = true) :
    (Builtin.copy_ #[dT, sT] ty #[.slice (some ⟨g, o, none⟩) dLen dCap, .slice (some a) sLen sCap]).run P w =
      .ok (goInt (Nat.min sLen dLen)) (w.setRow g (cur.toList.take o ++ cs ++ cur.toList.drop (o + cs.length)).toArray) := by
  have hl := run_loadCells_list (P := P) w a cs hsrc
  have hst := run_storeCells_at P g o t cs 0 cur w hg (by simpa using hfit) h1
  rw [hn] at hl
  cases hq : P.info? elem with
  | none => simp [hq] at hs
  | some i =>
    have hi : i.size = 2 := by simpa [hq] using hs
    simp [Builtin.copy_, run_underlying hu, Builtin.lenOf, Builtin.firstCells, sizeOf, typeInfo, hq, hi, hl, hst]
theorem undInt : Try.prog.underlying 3 = some (.int .i64) := by kernel_rfl
theorem size2P : (Try.prog.info? 50).map (·.size) = some 2 := by
  obtain ⟨i0, hi, hz0, hz1, hz2⟩ := info_parts Try.info50
  rw [hi]
  simp [hz1]
/-- what comes out -/
def InsPost (w : World) (B : Nat) (a : Option Addr) (n c i : Nat) (vs : List Value) (x0 x1 : Value) (e : Ending) (w' : World) : Prop :=
  ∃ a' c', e = .returned (.slice a' (n + 1) c') ∧ w'.ownsRow B 50 2 (.slice a' (n + 1) c') (n + 1) (vs.take (i * 2) ++ [x0, x1] ++ vs.drop (i * 2)) ∧ Grows w w' (.slice a n c) (.slice a' (n + 1) c')

theorem run_app2 (w : World) (B : Nat) (a : Option Addr) (n c vb : Nat) (vs : List Value) (x0 x1 : Value) (hown : w.ownsRow B 50 2 (.slice a n c) n vs)
    (hv : w.heap[vb]? = some (.cells #[x0, x1] 50 (0, 0))) (h0 : x0.oneCell' = true) (h1 : x1.oneCell' = true) (hn : n + 1 ≤ 4398046511104) (hB : B ≤ w.heap.size) :
    ∃ a' c' w', (Builtin.append_ #[44, 44] 44 #[.slice a n c, .slice (some ⟨vb, 0, none⟩) 1 1]).run Try.prog w = .ok (.slice a' (n + 1) c') w' ∧ w'.ownsRow B 50 2 (.slice a' (n + 1) c') (n + 1) (vs ++ [x0, x1]) ∧ Grows w w' (.slice a n c) (.slice a' (n + 1) c') := by
  obtain ⟨i0, hi, hz0, hz1, hz2⟩ := info_parts Try.info50
  have hbytes : (n + 1) * 32 ≤ 140737488355328 := by omega
  have h63 : n + 1 ≤ maxLen := by unfold maxLen; omega
  have hnew : ∀ j u, [x0, x1][j]? = some u → w.cell? ((⟨vb, 0, none⟩ : Addr).add j) = some u := fun j u hj => by
    match j, hj with
    | 0, hj => simp at hj; subst hj; simp [Addr.add, World.cell?, hv]
    | 1, hj => simp at hj; subst hj; simp [Addr.add, World.cell?, hv]
  have h1c : ∀ u ∈ [x0, x1], u.oneCell' = true := by
    intro u hu
    simp at hu
    rcases hu with rfl | rfl <;> assumption
  rcases hown.2 with ⟨hv0, hn0⟩ | ⟨g, cap, cur, hv0, hbg, hg, hnc, hcm, hcs, htake⟩
  · simp only [Value.slice.injEq] at hv0
    obtain ⟨rfl, _, rfl⟩ := hv0
    subst hn0
    have hx : vs = [] := List.eq_nil_of_length_eq_zero (by simpa using hown.1)
    subst hx
    obtain ⟨v', w', hr, ho, hgr, _⟩ := run_append_own (P := Try.prog) w w.heap.size 44 44 50 i0 (.agg #[.slice none 0 0, .int .i64 0]) 2 32 Try.underlying44 hi hz0 hz1 hz2 rfl (by decide) (.slice none 0 0) 0 [] (World.ownsRow_nil _ _ _ _) ⟨vb, 0, none⟩ 1 1 [x0, x1] rfl hnew h1c h63 (by omega) (Nat.le_refl _)
    obtain ⟨a', c', rfl⟩ := slice_ofT ho
    refine ⟨a', c', w', hr, ⟨ho.1, ?_⟩, hgr, .inr (fun k hk => (ho.lt k hk).1)⟩
    rcases ho.2 with h2 | ⟨g, cap, cur, hv2, hg2, r⟩
    · exact .inl h2
    · exact .inr ⟨g, cap, cur, hv2, Nat.le_trans hB hg2, r⟩
  · simp only [Value.slice.injEq] at hv0
    obtain ⟨rfl, _, rfl⟩ := hv0
    obtain ⟨v', w', hr, ho, hgr, _⟩ := run_append_own (P := Try.prog) w B 44 44 50 i0 (.agg #[.slice none 0 0, .int .i64 0]) 2 32 Try.underlying44 hi hz0 hz1 hz2 rfl (by decide) (.slice (some ⟨g, 0, none⟩) n c) n vs hown ⟨vb, 0, none⟩ 1 1 [x0, x1] rfl hnew h1c h63 (by omega) hB
    obtain ⟨a', c', rfl⟩ := slice_ofT ho
    refine ⟨a', c', w', hr, ho, hgr, ?_⟩
    by_cases hroom : n + 1 ≤ c
    · obtain ⟨w2, hr2, _⟩ := run_append_fits (P := Try.prog) w B 44 44 50 i0 2 Try.underlying44 hi hz1 g n c vs hown ⟨vb, 0, none⟩ 1 1 [x0, x1] rfl hnew h1c hroom
      rw [hr] at hr2
      left
      simp only [Result.ok.injEq] at hr2
      rw [hr2.1]
      rfl
    · have holds : ∀ j u, vs[j]? = some u → w.cell? ((⟨g, 0, none⟩ : Addr).add j) = some u := hown.cells (g := g) rfl
      have hr2 := run_append_grow (P := Try.prog) (ty := 44) w 44 50 i0 (.agg #[.slice none 0 0, .int .i64 0]) Try.underlying44 hi hz0 ⟨g, 0, none⟩ n c vs (by rw [hz1]; exact hown.1) holds ⟨vb, 0, none⟩ 1 1 [x0, x1] (by rw [hz1]; rfl) hnew (by omega) (by omega) (growslice_fits (by omega) (by rw [hz2]; omega))
      rw [hr] at hr2
      right
      simp only [Result.ok.injEq] at hr2
      rw [hr2.1]
      intro k hk
      simp [Value.ownBlock] at hk
      omega

set_option maxRecDepth 100000 in
set_option maxHeartbeats 3200000 in
theorem insert_end (B : Nat) (a : Option Addr) (n c vb : Nat) (vs : List Value) (x0 x1 : Value) (w : World) (hown : w.ownsRow B 50 2 (.slice a n c) n vs)
    (hv : w.heap[vb]? = some (.cells #[x0, x1] 50 (0, 0))) (h0 : x0.oneCell' = true) (h1 : x1.oneCell' = true) (hn : n + 1 ≤ 4398046511104) (hB : B ≤ w.heap.size) :
    Calls Try.prog 48 #[.slice a n c, .int .i64 n, .slice (some ⟨vb, 0, none⟩) 1 1] w (InsPost w B a n c n vs x0 x1) := by
  obtain ⟨a', c', w', hr, ho, hg⟩ := run_app2 w B a n c vb vs x0 x1 hown hv h0 h1 hn hB
  have hl := hown.1
  have HO := Lib.hid (show w'.ownsRow B 50 2 (.slice a' (n + 1) c') (n + 1) (vs.take (n * 2) ++ [x0, x1] ++ vs.drop (n * 2)) by
    rw [List.take_of_length_le (by omega), List.drop_of_length_le (by omega), List.append_nil]; exact ho)
  have HG := Lib.hid hg
  have Hr := Lib.hid hr
  rcases row2_shape hown with ⟨rfl, rfl, rfl, _⟩ | ⟨g, rfl, _, _, hnc, _, _⟩
  · clear hown hv hl ho hg hr
    go_enter Try.func48, Try.ntmps48
    go_wp2_with (at_builtin; refine Lib.wpList_append_run _ rfl _ _ _ _ rfl _ _ rfl rfl _ _ Hr.out ?_)
    go_ret
    exact ⟨a', c', rfl, HO.out, HG.out⟩
  · clear hown hv hl ho hg hr
    by_cases hc : c = n
    · go_enter Try.func48, Try.ntmps48
      go_wp2_with (at_builtin; refine Lib.wpList_append_run _ rfl _ _ _ _ rfl _ _ rfl rfl _ _ Hr.out ?_)
      go_ret
      exact ⟨a', c', rfl, HO.out, HG.out⟩
    · go_enter Try.func48, Try.ntmps48
      go_wp2_with (at_builtin; refine Lib.wpList_append_run _ rfl _ _ _ _ rfl _ _ rfl rfl _ _ Hr.out ?_)
      go_ret
      exact ⟨a', c', rfl, HO.out, HG.out⟩

theorem overlapsP (w : World) (vb g o lb cb : Nat) (cx cur : Array Value) (hv : w.heap[vb]? = some (.cells cx 50 (0, 0))) (hg : w.heap[g]? = some (.cells cur 50 (0, 0))) (hvg : vb ≠ g) (hcur : cur.size ≠ 0) :
    (callFunc 55 #[.slice (some ⟨vb, 0, none⟩) 1 1, .slice (some ⟨g, o, none⟩) lb cb]).run Try.prog w = .ok (.value (.bool false)) w := by
  obtain ⟨i0, hi, hz0, hz1, hz2⟩ := info_parts Try.info50
  rw [run_callFunc_extern Try.func55 (by kernel_rfl) (by kernel_rfl) (by kernel_rfl) (e := Extern.SlicesOverlaps.overlaps #[44, 44] #[4]) (by kernel_rfl),
    Lib.run_overlaps_apart w 44 4 50 Try.underlying44 2 (fun w => by simp [sizeOf, typeInfo, hi, hz1]) ⟨vb, 0, none⟩ ⟨g, o, none⟩ 1 1 lb cb hvg 50 50 cx.size cur.size (by simp [World.shape?, hv]) (by simp [World.shape?, hg]) hcur (by simp [World.frozen?, hv]) (by simp [World.frozen?, hv])]
  rfl
theorem row_cur {w : World} {B g n c : Nat} {vs : List Value} (h : w.ownsRow B 50 2 (.slice (some ⟨g, 0, none⟩) n c) n vs) : ∃ cur : Array Value, w.heap[g]? = some (.cells cur 50 (0, 0)) ∧ B ≤ g ∧ c ≤ maxLen ∧ cur.size = c * 2 ∧ cur.toList.take (n * 2) = vs ∧ vs.length = n * 2 ∧ n ≤ c := by
  rcases h.2 with ⟨h2, _⟩ | ⟨g', cap, cur, hv, hb, hg, hnc, hcm, hcs, ht⟩
  · cases h2
  · simp only [Value.slice.injEq, Option.some.injEq, Addr.mk.injEq] at hv
    obtain ⟨⟨rfl, _⟩, _, rfl⟩ := hv
    exact ⟨cur, hg, hb, hcm, hcs, ht, h.1, hnc⟩
theorem cell_of_row2 {w : World} {g : Nat} {cur : Array Value} {ty : TypeId} (h : w.heap[g]? = some (.cells cur ty (0, 0))) (j : Nat) : w.cell? ⟨g, j, none⟩ = cur[j]? := by
  simp [World.cell?, h]
theorem drop_cells {w : World} {g n i : Nat} {cur : Array Value} {ty : TypeId} {vs : List Value} (h : w.heap[g]? = some (.cells cur ty (0, 0))) (ht : cur.toList.take n = vs) : ∀ j v, (vs.drop i)[j]? = some v → w.cell? ((⟨g, i, none⟩ : Addr).add j) = some v := fun j v hj => by
  rw [show (⟨g, i, none⟩ : Addr).add j = ⟨g, i + j, none⟩ by unfold Addr.add; split <;> simp_all, cell_of_row2 h]
  rw [List.getElem?_drop, ← ht, List.getElem?_take] at hj
  split at hj
  · simpa using hj
  · cases hj

set_option maxRecDepth 100000 in
set_option maxHeartbeats 3200000 in
theorem insert_shift (B g n c i vb : Nat) (vs : List Value) (x0 x1 : Value) (w : World) (hown : w.ownsRow B 50 2 (.slice (some ⟨g, 0, none⟩) n c) n vs) (hi : i < n) (hroom : n + 1 ≤ c)
    (hv : w.heap[vb]? = some (.cells #[x0, x1] 50 (0, 0))) (hvg : vb ≠ g) (h0 : x0.oneCell' = true) (h1 : x1.oneCell' = true) (hvs : ∀ v ∈ vs, v.oneCell' = true) (hn : n + 1 ≤ 4398046511104) :
    Calls Try.prog 48 #[.slice (some ⟨g, 0, none⟩) n c, .int .i64 i, .slice (some ⟨vb, 0, none⟩) 1 1] w (InsPost w B (some ⟨g, 0, none⟩) n c i vs x0 x1) := by
  obtain ⟨cur, hg, hB, hcm, hcs, ht, hvl, hnc⟩ := row_cur hown
  have hov := fun lb cb => overlapsP w vb g ((i + 1) * 2) lb cb _ cur hv hg hvg (by omega)
  have hdl : (vs.drop (i * 2)).length = (n - i) * 2 := by rw [List.length_drop, hvl]; omega
  obtain ⟨cur1, hc1⟩ : ∃ cur1, (cur.toList.take ((i + 1) * 2) ++ vs.drop (i * 2) ++ cur.toList.drop ((i + 1) * 2 + (vs.drop (i * 2)).length)).toArray = cur1 := ⟨_, rfl⟩
  have hcl : cur.toList.length = c * 2 := by rw [Array.length_toList, hcs]
  have hc1l : cur1.size = c * 2 := by
    rw [← hc1]
    simp only [List.size_toArray, List.length_append, List.length_take, List.length_drop, hcl, hvl]
    omega
  have hcp1 : ∀ ty dc sc, (Builtin.copy_ #[44, 44] ty #[.slice (some ⟨g, (i + 1) * 2, none⟩) (n - i) dc, .slice (some ⟨g, i * 2, none⟩) (n + 1 - i) sc]).run Try.prog w.drew = .ok (goInt (Nat.min (n + 1 - i) (n - i))) (w.drew.setRow g cur1) := fun ty dc sc => by
    rw [← hc1]
    exact run_copy_row2 w.drew 44 44 ty 50 g ((i + 1) * 2) (n - i) dc ⟨g, i * 2, none⟩ (n + 1 - i) sc cur 50 (vs.drop (i * 2)) Try.underlying44 size2P hg (by rw [hdl]; congr 1; simp only [Nat.min_def]; split <;> omega) (drop_cells (w := w.drew) hg ht) (by rw [hdl, hcs]; omega) (fun v hv => hvs v (List.mem_of_mem_drop hv))
  obtain ⟨W1, hW1⟩ : ∃ W1, w.drew.setRow g cur1 = W1 := ⟨_, rfl⟩
  have hg1 : W1.heap[g]? = some (.cells cur1 50 (0, 0)) := by rw [← hW1]; exact setRow_heap w.drew g cur cur1 50 _ hg
  have hv1 : W1.heap[vb]? = some (.cells #[x0, x1] 50 (0, 0)) := by rw [← hW1, setRow_other _ _ _ _ hvg]; exact hv
  rw [hW1] at hcp1
  obtain ⟨cur2, hc2⟩ : ∃ cur2, (cur1.toList.take (i * 2) ++ [x0, x1] ++ cur1.toList.drop (i * 2 + 2)).toArray = cur2 := ⟨_, rfl⟩
  have hcp2 : ∀ ty dc, (Builtin.copy_ #[44, 44] ty #[.slice (some ⟨g, i * 2, none⟩) (n + 1 - i) dc, .slice (some ⟨vb, 0, none⟩) 1 1]).run Try.prog W1 = .ok (goInt (Nat.min 1 (n + 1 - i))) (W1.setRow g cur2) := fun ty dc => by
    rw [← hc2]
    exact run_copy_row2 W1 44 44 ty 50 g (i * 2) (n + 1 - i) dc ⟨vb, 0, none⟩ 1 1 cur1 50 [x0, x1] Try.underlying44 size2P hg1 (by simp only [Nat.min_def]; rw [if_pos (by omega)]; rfl) (fun j u hj => by
      match j, hj with
      | 0, hj => simp at hj; subst hj; simp [Addr.add, World.cell?, hv1]
      | 1, hj => simp at hj; subst hj; simp [Addr.add, World.cell?, hv1]) (by rw [hc1l]; simp; omega) (by
      intro u hu
      simp at hu
      rcases hu with rfl | rfl <;> assumption)
  have hfin : (W1.setRow g cur2).ownsRow B 50 2 (.slice (some ⟨g, 0, none⟩) (n + 1) c) (n + 1) (vs.take (i * 2) ++ [x0, x1] ++ vs.drop (i * 2)) := by
    have hl2 : cur2.size = c * 2 := by
      rw [← hc2]
      simp only [List.size_toArray, List.length_append, List.length_take, List.length_drop, Array.length_toList, hc1l, List.length_cons, List.length_nil]
      omega
    refine ⟨by simp only [List.length_append, List.length_take, List.length_drop, hvl, List.length_cons, List.length_nil]; omega, .inr ⟨g, c, cur2, rfl, hB, setRow_heap W1 g cur1 cur2 50 _ hg1, hroom, hcm, hl2, ?_⟩⟩
    have e1 : cur1.toList = cur.toList.take ((i + 1) * 2) ++ vs.drop (i * 2) ++ cur.toList.drop ((i + 1) * 2 + (vs.drop (i * 2)).length) := by rw [← hc1]
    have e2 : cur1.toList.take (i * 2) = vs.take (i * 2) := by
      rw [e1, List.append_assoc, List.take_append_of_le_length (by rw [List.length_take, hcl]; omega), List.take_take, ← ht, List.take_take, Nat.min_eq_left (by omega), Nat.min_eq_left (by omega)]
    have e3 : cur1.toList.drop (i * 2 + 2) = vs.drop (i * 2) ++ cur.toList.drop ((i + 1) * 2 + (vs.drop (i * 2)).length) := by
      rw [e1, List.append_assoc, show i * 2 + 2 = (i + 1) * 2 by omega, List.drop_left' (by rw [List.length_take, hcl]; omega)]
    rw [← hc2]
    simp only [e2, e3]
    rw [← List.append_assoc, List.take_left' (by simp only [List.length_append, List.length_take, List.length_drop, hvl, List.length_cons, List.length_nil]; omega)]
  have hgr : Grows w (W1.setRow g cur2) (.slice (some ⟨g, 0, none⟩) n c) (.slice (some ⟨g, 0, none⟩) (n + 1) c) := by
    refine ⟨⟨?_, ?_, ?_, ?_, fun k hk hne => ?_⟩, .inl rfl⟩
    · rw [← hW1]; rfl
    · rw [← hW1]; rfl
    · rw [← hW1]; rfl
    · rw [← hW1, setRow_size, setRow_size]; exact Nat.le_refl _
    · have hkg : k ≠ g := fun e => hne (by rw [e]; rfl)
      rw [setRow_other _ _ _ _ hkg, ← hW1, setRow_other _ _ _ _ hkg]
      rfl
  have HF := Lib.hid hfin
  have HG := Lib.hid hgr
  have hz2 : ¬ ((i : Int) = (n : Int)) := by omega
  have hz3 : ((i : Int) == (n : Int)) = false := by rw [beq_eq_false_iff_ne]; exact hz2
  have hz4 : ¬ (c : Int) < (n : Int) + 1 := by omega
  have hw1 : IntKind.i64.wrap ((i : Int) + 1) = (i : Int) + 1 := IntWalk.i64_in _ (by omega)
  have hw2 : IntKind.i64.wrap ((n : Int) + 1) = (n : Int) + 1 := IntWalk.i64_in _ (by omega)
  have hb1 : (0 : Int) ≤ (i : Int) + 1 := by omega
  have hb2 : ¬ (c = i + 1) := by omega
  have hb3 : (i : Int) ≤ (n : Int) + 1 := by omega
  have hb4 : ¬ (c = i) := by omega
  have hin : i ≤ n := by omega
  have hb5 : (i : Int) + 1 ≤ (n : Int) + 1 := by omega
  have hb6 : (n : Int) + 1 ≤ (c : Int) := by omega
  have htn : ((i : Int) + 1).toNat = i + 1 := by omega
  have htn2 : ((n : Int) + 1).toNat = n + 1 := by omega
  have mixed : Try.prog.follows .mixedOrders = true := by kernel_rfl
  have Hcp2 := Lib.hid hcp2
  have Hcp1 := Lib.hid hcp1
  clear hfin hgr hcp1 hcp2 hc1 hc2 hW1 hown hg hv hg1 hv1 hvs ht hdl hcl hc1l hcs hcm hvl
  go_enter Try.func48, Try.ntmps48
  go_wp2_with (simp only [hov])
  have hcp1u := Hcp1.out
  go_region
  have hcp2u := Hcp2.out
  go_wp2
  go_ret
  exact ⟨_, _, rfl, HF.out, HG.out⟩

theorem new_heap (w : World) (o : Obj) : (w.drew.alloc o).heap[w.heap.size]? = some o := heap_alloc_new w.drew o
theorem new_other (w : World) (o : Obj) {k : Nat} (h : k < w.heap.size) : (w.drew.alloc o).heap[k]? = w.heap[k]? := by
  have hb : Below w.drew.heap.size w.drew (w.drew.alloc o) := (Below.refl _ _).alloc (Nat.le_refl _) _
  exact hb.block k (show k < w.drew.heap.size from h)
set_option maxRecDepth 100000 in
set_option maxHeartbeats 3200000 in
theorem insert_grow (B g n c i vb : Nat) (vs : List Value) (x0 x1 : Value) (w : World) (hown : w.ownsRow B 50 2 (.slice (some ⟨g, 0, none⟩) n c) n vs) (hi : i < n) (hroom : ¬ n + 1 ≤ c)
    (hv : w.heap[vb]? = some (.cells #[x0, x1] 50 (0, 0))) (h0 : x0.oneCell' = true) (h1 : x1.oneCell' = true) (hvs : ∀ v ∈ vs, v.oneCell' = true) (hn : n + 1 ≤ 4398046511104) (hBw : B ≤ w.heap.size) :
    Calls Try.prog 48 #[.slice (some ⟨g, 0, none⟩) n c, .int .i64 i, .slice (some ⟨vb, 0, none⟩) 1 1] w (InsPost w B (some ⟨g, 0, none⟩) n c i vs x0 x1) := by
  obtain ⟨cur, hg, hB, hcm, hcs, ht, hvl, hnc⟩ := row_cur hown
  obtain rfl : c = n := by omega
  obtain ⟨i0, hi0, hz0, hz1, hz2⟩ := info_parts Try.info50
  have hcl : cur.toList.length = c * 2 := by rw [Array.length_toList, hcs]
  have hgs : g < w.heap.size := (Array.getElem?_eq_some_iff.1 hg).1
  have hvbs : vb < w.heap.size := (Array.getElem?_eq_some_iff.1 hv).1
  have hvl2 : (vs.take (i * 2)).length = i * 2 := by rw [List.length_take, hvl]; omega
  have hold : (Builtin.firstCells i0.size i (.slice (some ⟨g, 0, none⟩) i c)).run Try.prog w.drew = .ok (vs.take (i * 2)).toArray w.drew := by
    rw [hz1]
    exact run_firstCells_some w.drew 2 i ⟨g, 0, none⟩ i c (vs.take (i * 2)) hvl2 (fun j v hj => by
      rw [List.getElem?_take] at hj
      split at hj
      · exact drop_cells (w := w.drew) (i := 0) hg ht j v (by simpa using hj)
      · cases hj)
  obtain ⟨G, hG⟩ : ∃ G, grownCap w (c + 1) c 50 = G := ⟨_, rfl⟩
  have hGn : c + 1 ≤ G := by rw [← hG]; exact grownCap_ge w _ _ _
  have hGm : G ≤ maxLen := by rw [← hG]; exact grownCap_le_maxLen w (c + 1) c 50 (by unfold maxLen; omega)
  have hik : i + (c + 1 - i) = c + 1 := by omega
  obtain ⟨ROW, hROW⟩ : ∃ ROW : Array Value, (vs.take (i * 2)).toArray ++ Builtin.zeroCells (Value.agg #[.slice none 0 0, .int .i64 0]).cells (c + 1 - i) ++ Builtin.zeroCells (Value.agg #[.slice none 0 0, .int .i64 0]).cells (G - (c + 1)) = ROW := ⟨_, rfl⟩
  have hRl : ROW.size = G * 2 := by
    rw [← hROW]
    simp only [Array.size_append, List.size_toArray, size_zeroCells, hvl2]
    have : (Value.agg #[.slice none 0 0, .int .i64 0]).cells.size = 2 := by rfl
    rw [this]
    omega
  have hRt : ROW.toList.take (i * 2) = vs.take (i * 2) := by
    rw [← hROW]
    simp only [Array.toList_append]
    rw [List.append_assoc, List.take_left' hvl2]
  obtain ⟨W1, hW1⟩ : ∃ W1, w.drew.alloc (.cells ROW 50) = W1 := ⟨_, rfl⟩
  have hrz : ∀ ty, (Builtin.append_ #[44, 3] ty #[.slice (some ⟨g, 0, none⟩) i c, .int .i64 ((c : Int) + 1 - (i : Int))]).run Try.prog w = .ok (.slice (some ⟨w.heap.size, 0, none⟩) (c + 1) G) W1 := fun ty => by
    have h := Lib.run_append_grow_zeros w 44 3 ty 50 i0 _ .i64 .i64 Try.underlying44 undInt hi0 hz0 (some ⟨g, 0, none⟩) i c (vs.take (i * 2)) hold (c + 1 - i) (by omega) (by omega) (by omega) (by omega) (by rw [hz2]; omega) (by rw [hz2, hik]; exact growslice_fits (by omega) (by omega))
    rw [hik, hG, hROW, hW1, show ((c + 1 - i : Nat) : Int) = (c : Int) + 1 - (i : Int) by omega] at h
    exact h
  have hN1 : W1.heap[w.heap.size]? = some (.cells ROW 50 (0, 0)) := by rw [← hW1]; exact new_heap w _
  have hv1 : W1.heap[vb]? = some (.cells #[x0, x1] 50 (0, 0)) := by rw [← hW1, new_other w _ hvbs]; exact hv
  have hg1 : W1.heap[g]? = some (.cells cur 50 (0, 0)) := by rw [← hW1, new_other w _ hgs]; exact hg
  obtain ⟨cur2, hc2⟩ : ∃ cur2, (ROW.toList.take (i * 2) ++ [x0, x1] ++ ROW.toList.drop (i * 2 + 2)).toArray = cur2 := ⟨_, rfl⟩
  have hc2l : cur2.size = G * 2 := by
    rw [← hc2]
    simp only [List.size_toArray, List.length_append, List.length_take, List.length_drop, Array.length_toList, hRl, List.length_cons, List.length_nil]
    omega
  obtain ⟨W2, hW2⟩ : ∃ W2, W1.setRow w.heap.size cur2 = W2 := ⟨_, rfl⟩
  have hcp1 : ∀ ty dc, (Builtin.copy_ #[44, 44] ty #[.slice (some ⟨w.heap.size, i * 2, none⟩) (c + 1 - i) dc, .slice (some ⟨vb, 0, none⟩) 1 1]).run Try.prog W1 = .ok (goInt (Nat.min 1 (c + 1 - i))) W2 := fun ty dc => by
    rw [← hW2, ← hc2]
    exact run_copy_row2 W1 44 44 ty 50 w.heap.size (i * 2) (c + 1 - i) dc ⟨vb, 0, none⟩ 1 1 ROW 50 [x0, x1] Try.underlying44 size2P hN1 (by simp only [Nat.min_def]; rw [if_pos (by omega)]; rfl) (fun j u hj => by
      match j, hj with
      | 0, hj => simp at hj; subst hj; simp [Addr.add, World.cell?, hv1]
      | 1, hj => simp at hj; subst hj; simp [Addr.add, World.cell?, hv1]) (by rw [hRl]; simp; omega) (by
      intro u hu
      simp at hu
      rcases hu with rfl | rfl <;> assumption)
  have hN2 : W2.heap[w.heap.size]? = some (.cells cur2 50 (0, 0)) := by rw [← hW2]; exact setRow_heap W1 w.heap.size ROW cur2 50 _ hN1
  have hg2 : W2.heap[g]? = some (.cells cur 50 (0, 0)) := by rw [← hW2, setRow_other _ _ _ _ (by omega)]; exact hg1
  have hdl : (vs.drop (i * 2)).length = (c - i) * 2 := by rw [List.length_drop, hvl]; omega
  obtain ⟨cur3, hc3⟩ : ∃ cur3, (cur2.toList.take ((i + 1) * 2) ++ vs.drop (i * 2) ++ cur2.toList.drop ((i + 1) * 2 + (vs.drop (i * 2)).length)).toArray = cur3 := ⟨_, rfl⟩
  obtain ⟨W3, hW3⟩ : ∃ W3, W2.drew.setRow w.heap.size cur3 = W3 := ⟨_, rfl⟩
  have hcp2 : ∀ ty dc sc, (Builtin.copy_ #[44, 44] ty #[.slice (some ⟨w.heap.size, (i + 1) * 2, none⟩) (c - i) dc, .slice (some ⟨g, i * 2, none⟩) (c - i) sc]).run Try.prog W2.drew = .ok (goInt (Nat.min (c - i) (c - i))) W3 := fun ty dc sc => by
    rw [← hW3, ← hc3]
    exact run_copy_row2 W2.drew 44 44 ty 50 w.heap.size ((i + 1) * 2) (c - i) dc ⟨g, i * 2, none⟩ (c - i) sc cur2 50 (vs.drop (i * 2)) Try.underlying44 size2P hN2 (by rw [hdl, show Nat.min (c - i) (c - i) = c - i from Nat.min_self _]) (drop_cells (w := W2.drew) hg2 ht) (by rw [hdl, hc2l]; omega) (fun v hv => hvs v (List.mem_of_mem_drop hv))
  have hN3 : W3.heap[w.heap.size]? = some (.cells cur3 50 (0, 0)) := by rw [← hW3]; exact setRow_heap W2.drew w.heap.size cur2 cur3 50 _ hN2
  have hfin : W3.ownsRow B 50 2 (.slice (some ⟨w.heap.size, 0, none⟩) (c + 1) G) (c + 1) (vs.take (i * 2) ++ [x0, x1] ++ vs.drop (i * 2)) := by
    have hl3 : cur3.size = G * 2 := by
      rw [← hc3]
      simp only [List.size_toArray, List.length_append, List.length_take, List.length_drop, Array.length_toList, hc2l, hvl]
      omega
    refine ⟨by simp only [List.length_append, List.length_take, List.length_drop, hvl, List.length_cons, List.length_nil]; omega, .inr ⟨w.heap.size, G, cur3, rfl, hBw, hN3, hGn, hGm, hl3, ?_⟩⟩
    have e2 : cur2.toList.take ((i + 1) * 2) = vs.take (i * 2) ++ [x0, x1] := by
      rw [← hc2]
      simp only [hRt]
      rw [List.take_left' (by rw [List.length_append, hvl2]; simp; omega)]
    rw [← hc3]
    simp only [e2]
    rw [List.take_left' (by simp only [List.length_append, List.length_take, List.length_drop, hvl, List.length_cons, List.length_nil]; omega)]
  have hgr : Grows w W3 (.slice (some ⟨g, 0, none⟩) c c) (.slice (some ⟨w.heap.size, 0, none⟩) (c + 1) G) := by
    have hsz1 : W1.heap.size = w.heap.size + 1 := by rw [← hW1]; simp
    have hsz3 : W3.heap.size = w.heap.size + 1 := by rw [← hW3, setRow_size]; show W2.heap.size = _; rw [← hW2, setRow_size, hsz1]
    refine ⟨⟨?_, ?_, ?_, by omega, fun k hk hne => ?_⟩, .inr fun k hk => ?_⟩
    · rw [← hW3, ← hW2, ← hW1]; rfl
    · rw [← hW3, ← hW2, ← hW1]; rfl
    · rw [← hW3, ← hW2, ← hW1]; rfl
    · rw [← hW3, setRow_other _ _ _ _ (by omega)]
      show W2.heap[k]? = _
      rw [← hW2, setRow_other _ _ _ _ (by omega), ← hW1, new_other w _ hk]
    · simp [Value.ownBlock] at hk; omega
  have HF := Lib.hid hfin
  have HG := Lib.hid hgr
  have hz3 : ((i : Int) == (c : Int)) = false := by rw [beq_eq_false_iff_ne]; omega
  have hz2' : ¬ ((i : Int) = (c : Int)) := by omega
  have hz4 : (c : Int) < (c : Int) + 1 := by omega
  have hw1 : IntKind.i64.wrap ((i : Int) + 1) = (i : Int) + 1 := IntWalk.i64_in _ (by omega)
  have hw2 : IntKind.i64.wrap ((c : Int) + 1) = (c : Int) + 1 := IntWalk.i64_in _ (by omega)
  have hw3 : IntKind.i64.wrap ((c : Int) + 1 - (i : Int)) = (c : Int) + 1 - (i : Int) := IntWalk.i64_in _ (by omega)
  have hb1 : (0 : Int) ≤ (i : Int) + 1 := by omega
  have hb2 : ¬ (G = i + 1) := by omega
  have hb3 : (i : Int) ≤ (c : Int) + 1 := by omega
  have hb4 : ¬ (c = i) := by omega
  have hb7 : ¬ (G = i) := by omega
  have hin : i ≤ c := by omega
  have hb5 : (i : Int) + 1 ≤ (c : Int) + 1 := by omega
  have htn : ((i : Int) + 1).toNat = i + 1 := by omega
  have htn2 : ((c : Int) + 1).toNat = c + 1 := by omega
  have mixed : Try.prog.follows .mixedOrders = true := by kernel_rfl
  have Hcp2 := Lib.hid hcp2
  have Hcp1 := Lib.hid hcp1
  have Hrz := Lib.hid hrz
  clear hfin hgr hcp1 hcp2 hc2 hc3 hW1 hW2 hW3 hown hg hv hg1 hv1 hvs ht hdl hcl hcs hcm hvl hrz hROW hRl hRt hG hik hold hvl2 hN1 hN2 hN3 hg2 hc2l hgs hvbs hi0 hz0 hz1 hz2 hroom
  go_enter Try.func48, Try.ntmps48
  have hcp1u := Hcp1.out
  go_wp2_with (at_builtin; refine Lib.wpList_append_run _ rfl _ _ _ _ rfl _ _ rfl rfl _ _ (Hrz.out _) ?_)
  have hcp2u := Hcp2.out
  go_region
  go_wp2
  go_ret
  exact ⟨_, _, rfl, HF.out, HG.out⟩
theorem insertP_any (B : Nat) (a : Option Addr) (n c i vb : Nat) (vs : List Value) (x0 x1 : Value) (w : World) (hown : w.ownsRow B 50 2 (.slice a n c) n vs) (hi : i ≤ n)
    (hv : w.heap[vb]? = some (.cells #[x0, x1] 50 (0, 0))) (hvg : (Value.slice a n c).ownBlock ≠ some vb) (h0 : x0.oneCell' = true) (h1 : x1.oneCell' = true) (hvs : ∀ v ∈ vs, v.oneCell' = true) (hn : n + 1 ≤ 4398046511104) (hBw : B ≤ w.heap.size) :
    Calls Try.prog 48 #[.slice a n c, .int .i64 i, .slice (some ⟨vb, 0, none⟩) 1 1] w (InsPost w B a n c i vs x0 x1) := by
  rcases Nat.eq_or_lt_of_le hi with rfl | hlt
  · exact insert_end B a i c vb vs x0 x1 w hown hv h0 h1 hn hBw
  · rcases row2_shape hown with ⟨e, _⟩ | ⟨g, rfl, _⟩
    · omega
    · by_cases hroom : n + 1 ≤ c
      · exact insert_shift B g n c i vb vs x0 x1 w hown hlt hroom hv (fun e => hvg (by rw [e]; rfl)) h0 h1 hvs hn
      · exact insert_grow B g n c i vb vs x0 x1 w hown hlt hroom hv h0 h1 hvs hn hBw
end Go.Proofs.Ytpjkhkoecgjjbaa

namespace Go.Proofs.Ytpjkhkoecgjjbaa

theorem less_irrefl (a : List Int) : less a a = false := by
  induction a with
  | nil => rfl
  | cons x a ih => rw [less, if_pos rfl]; exact ih
theorem less_trans {a : List Int} : ∀ {b c : List Int}, less a b = true → less b c = true → less a c = true := by
  induction a with
  | nil =>
    intro b c h1 h2
    cases c with
    | nil => cases b <;> simp [less] at h2
    | cons z c => rfl
  | cons x a ih =>
    intro b c h1 h2
    cases b with
    | nil => simp [less] at h1
    | cons y b =>
      cases c with
      | nil => simp [less] at h2
      | cons z c =>
        rw [less] at h1 h2 ⊢
        split at h1
        · split at h2
          · rw [if_pos (by omega)]; exact ih h1 h2
          · rename_i e1 e2
            subst e1
            rw [if_neg e2]; exact h2
        · rename_i e1
          simp only [decide_eq_true_eq] at h1
          split at h2
          · rename_i e2
            subst e2
            rw [if_neg e1]; simpa using h1
          · simp only [decide_eq_true_eq] at h2
            rw [if_neg (by omega)]
            simp
            omega
theorem less_total {a : List Int} : ∀ {b : List Int}, less a b = false → less b a = false → a = b := by
  induction a with
  | nil =>
    intro b h1 h2
    cases b with
    | nil => rfl
    | cons y b => simp [less] at h1
  | cons x a ih =>
    intro b h1 h2
    cases b with
    | nil => simp [less] at h2
    | cons y b =>
      rw [less] at h1 h2
      split at h1
      · rename_i e
        subst e
        rw [if_pos rfl] at h2
        rw [ih h1 h2]
      · rename_i e
        rw [if_neg (fun h => e h.symm)] at h2
        simp at h1 h2
        omega
theorem less_neg {a b c : List Int} (h1 : less a b = false) (h2 : less b c = false) : less a c = false := by
  cases h : less a c with
  | false => rfl
  | true =>
    exfalso
    cases h3 : less b a with
    | true =>
      have := less_trans h3 h
      rw [this] at h2
      cases h2
    | false =>
      have := less_total h1 h3
      subst this
      rw [h] at h2
      cases h2
end Go.Proofs.Ytpjkhkoecgjjbaa

namespace Go.Proofs.Ytpjkhkoecgjjbaa
open Go.RowKit

theorem OwI.nil {w : World} {B S : Nat} : OwI w B S none 0 0 [] := ⟨OS.of ⟨rfl, .inl ⟨rfl, rfl⟩⟩, fun k hk => by simp [Value.ownBlock] at hk⟩

set_option maxRecDepth 100000 in
set_option maxHeartbeats 400000 in
theorem cloneI_any (a : Option Addr) (n c : Nat) (xs : List Int) (w : World) (hr : RI w a xs) (hn : xs.length = n) (hb : n ≤ 1048576) :
    Calls Try.prog 34 #[.slice a n c] w fun e w' => ∃ a' c', e = .returned (.slice a' n c') ∧ OwI w' w.heap.size w'.heap.size a' n c' xs ∧ Below w.heap.size w w' := by
  have q22 : ∀ (w : World) (a : Option Addr) (n c n' c' : Nat), (binOp .eql 22 (.slice a n c) (.slice none n' c')).run Try.prog w = .ok (.bool a.isNone) w := fun w a n c n' c' => Lib.run_eql_slice_nil w _ _ a n c n' c' Try.underlying22
  rcases a with _ | ad
  · have hx : xs = [] := by
      rcases hr with h | ⟨b, off, h, _⟩
      · exact h
      · cases h
    subst hx
    simp only [List.length_nil] at hn
    subst hn
    go_enter Try.func34, Try.ntmps34
    go_wp2
    go_ret
    exact ⟨_, _, rfl, OwI.nil, Below.refl _ _⟩
  · have h1 : OwI (w.alloc (.cells #[] 3)) w.heap.size (w.alloc (.cells #[] 3)).heap.size (some ⟨w.heap.size, 0, none⟩) 0 0 [] := OwI.mk (World.ownsRow_made _ #[] 0 (Nat.le_refl _) (Nat.zero_le _) rfl)
    have hB0 : Below w.heap.size w (w.alloc (.cells #[] 3)) := (Below.refl _ _).alloc (Nat.le_refl _) _
    have hr0 := hr.below hB0
    have Hn := Lib.hid hn; clear hn
    have H1 := Lib.hid h1; clear h1
    go_enter Try.func34, Try.ntmps34
    go_wp2_with (first | (at_builtin; go_loud (refine wpList_appI (by rfl) _ _ (by rfl) H1.out (by rfl) hr0 Hn.out (by rfl) (by omega) (by simp) ?_)))
    intro a2 c2 w2 ho2 hg2
    have hB2 : Below w.heap.size w w2 := hg2.below hB0 (by simp) (fun k hk => by simp [Value.ownBlock] at hk; omega)
    go_wp2
    go_ret
    exact ⟨a2, c2, by simp, by simpa using ho2, hB2⟩
set_option maxHeartbeats 400000 in
theorem l1Ints_any (a : Option Addr) (n c : Nat) (xs : List Int) (w : World) (hr : RI w a xs) (hn : xs.length = n) (hb : n ≤ 1048576) :
    Calls Try.prog 41 #[.slice a n c] w fun e w' => ∃ a' c', e = .returned (.slice a' n c') ∧ OwI w' w.heap.size w'.heap.size a' n c' xs ∧ Below w.heap.size w w' := by
  have Hn := Lib.hid hn; clear hn
  have hemp : (w.alloc (.cells #[] 3)).ownsRow w.heap.size 3 1 (.slice (some ⟨w.heap.size, 0, none⟩) 0 0) 0 [] := World.ownsRow_made _ #[] 0 (Nat.le_refl _) (Nat.zero_le _) rfl
  have h1 : OwI (w.alloc (.cells #[] 3)) w.heap.size (w.alloc (.cells #[] 3)).heap.size (some ⟨w.heap.size, 0, none⟩) 0 0 [] := OwI.mk hemp
  have hB0 : Below w.heap.size w (w.alloc (.cells #[] 3)) := (Below.refl _ _).alloc (Nat.le_refl _) _
  have hr0 := hr.below hB0
  have H1 := Lib.hid h1; clear h1 hemp
  go_enter Try.func41, Try.ntmps41
  go_wp2_with (first | (at_builtin; go_loud (refine wpList_appI (by rfl) _ _ (by rfl) H1.out (by rfl) hr0 Hn.out (by rfl) (by omega) (by simp) ?_)))
  intro a2 c2 w2 ho2 hg2
  have hB2 : Below w.heap.size w w2 := hg2.below hB0 (by simp) (fun k hk => by simp [Value.ownBlock] at hk; omega)
  go_wp2
  go_ret
  exact ⟨a2, c2, by simp, by simpa using ho2, hB2⟩
end Go.Proofs.Ytpjkhkoecgjjbaa

namespace Go.Proofs.Ytpjkhkoecgjjbaa
open Go.RowKit

set_option maxHeartbeats 400000 in
theorem l1In_any (n lo hi : Int) (w : World) :
    Calls Try.prog 17 #[.int .i64 n, .int .i64 lo, .int .i64 hi] w fun e w' => e = .returned (.bool (decide (lo ≤ n) && decide (n ≤ hi))) ∧ Drew w w' := by
  by_cases h1 : lo ≤ n <;> by_cases h2 : n ≤ hi
  all_goals
    go_enter Try.func17, Try.ntmps17
    go_wp2
    go_ret
    exact ⟨by simp [h1, h2], Drew.refl _⟩

theorem l1In_no (n lo hi : Int) (w : World) (h : n < lo ∨ hi < n) :
    Calls Try.prog 17 #[.int .i64 n, .int .i64 lo, .int .i64 hi] w fun e w' => e = .returned (.bool false) ∧ Drew w w' :=
  (l1In_any n lo hi w).mono fun _ _ ⟨he, hw⟩ => ⟨by rw [he]; exact ret_bool (by simp; omega), hw⟩
theorem l1In_yes (n lo hi : Int) (w : World) (h : lo ≤ n ∧ n ≤ hi) :
    Calls Try.prog 17 #[.int .i64 n, .int .i64 lo, .int .i64 hi] w fun e w' => e = .returned (.bool true) ∧ Drew w w' :=
  (l1In_any n lo hi w).mono fun _ _ ⟨he, hw⟩ => ⟨by rw [he]; exact ret_bool (by simp; omega), hw⟩

end Go.Proofs.Ytpjkhkoecgjjbaa
