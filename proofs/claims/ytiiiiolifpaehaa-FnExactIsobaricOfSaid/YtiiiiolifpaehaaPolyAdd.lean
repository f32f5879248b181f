/-
  'm[k] += c': the entry laid first, then its value stored; contract of (poly).add.
-/
import Derived.Test.YtiiiiolifpaehaaPolyOps
import Derived.RegionTactic
import Derived.ChangeAlike
import Derived.WideKeyEntry
import Derived.Laws.Rows
namespace Go.Proofs.Ytiiiiolifpaehaa
open Go.RowKit Go.MapKept Go.ChangeMaps

theorem less1_append (l m : Mons) (k : Int) : less1 (l ++ m) k = less1 l k ++ less1 m k := by unfold less1; rw [List.filter_append]
/-- the entry at a key, laid if there is none; then its value -/
theorem PM.entry {w : World} {b : Nat} {l : Mons} (h : PM w b l) {k : Int} (hk : inK k) :
    ∃ v0 st w1 l1, (Instr.mapEntry 134 (.map (some b)) (kV k)).run Try.prog w = .ok (.tuple #[v0, goInt (st : Nat)]) w1 ∧ PM w1 b l1 ∧ (∀ j, Go.Proofs.Ytiiiiolifpaehaa.coef l1 j = Go.Proofs.Ytiiiiolifpaehaa.coef l j) ∧ w.grownBy w1 (some b) ∧ w1.heap.size = w.heap.size ∧
      ∀ c, in64 c → ∃ w2 l2, (Instr.entryStore 134 (.map (some b)) (goInt st) (.int .i64 c)).run Try.prog w1 = .ok () w2 ∧ PM w2 b l2 ∧ l2.Perm ((k, c) :: less1 l k) ∧ w1.grownBy w2 (some b) ∧ w2.heap.size = w1.heap.size := by
  have hn := h.nodup
  have hsz := h.size
  obtain ⟨es, clock, hb, hs, he, hr⟩ := h
  have hlen : es.size = l.length := by
    have := congrArg List.length he
    simpa using this
  obtain ⟨q, hq⟩ := keyOf_kV k
  have hgrow : ∀ (w : World) (x : Array MapEntry) (t : Nat), w.heap[b]? = some (.map x t) → ∀ o, w.grownBy (setBlock w b o) (some b) := fun w x t hb o => ⟨rfl, rfl, rfl, by simp [setBlock], fun i _ hi => heap_setBlock_other hb _ (fun e => hi (by rw [e]))⟩
  rcases PM.find hb he hr hk with ⟨h1, h2, h3⟩ | ⟨j, e, d, h1, h2, h3, h4, h5⟩
  · have hless : less1 l k = l := by
      unfold less1
      rw [List.filter_eq_self]
      intro p hp
      simpa using h3 p hp
    have hb1 : (setBlock w b (.map (es.push ⟨kV k, .int .i64 0, clock⟩) (clock + 1))).heap[b]? = some (.map (es.push ⟨kV k, .int .i64 0, clock⟩) (clock + 1)) := heap_setBlock_same hb _
    refine ⟨.int .i64 0, clock, setBlock w b (.map (es.push ⟨kV k, .int .i64 0, clock⟩) (clock + 1)), l ++ [(k, 0)], ?_, ⟨_, _, hb1, stamped_push hs h2, ?_, ?_⟩, ?_, hgrow _ _ _ hb _, by simp [setBlock], fun c hc => ⟨setBlock (setBlock w b (.map (es.push ⟨kV k, .int .i64 0, clock⟩) (clock + 1))) b (.map (es.push ⟨kV k, .int .i64 c, clock⟩) (clock + 1)), l ++ [(k, c)], ?_, ⟨_, _, heap_setBlock_same hb1 _, stamped_push hs h2, ?_, ?_⟩, ?_, hgrow _ _ _ hb1 _, by simp [setBlock]⟩⟩
    · simp [Instr.mapEntry, run_underlying undM, MapKept.run_getObj_map hb, keyed.check w false hq, h1, MapKept.run_setObj_map _ hb, Result.andThen, setBlock]
    · rw [Array.toList_push, List.map_append, List.map_append, he]
      rfl
    · intro p hp
      rcases List.mem_append.1 hp with hp | hp
      · exact hr p hp
      · rw [List.mem_singleton] at hp
        subst hp
        exact ⟨hk, by unfold in64; omega⟩
    · intro j
      unfold Go.Proofs.Ytiiiiolifpaehaa.coef raw
      rw [wsum_append]
      simp [wsum]
    · have hidx : (es.push ⟨kV k, .int .i64 0, clock⟩).findIdx? (fun e => ((e.born : Nat) : Int) == ((clock : Nat) : Int)) = some es.size := by
        have hn1 := ((stamped_iff _ _).1 (stamped_push (val := .int .i64 0) hs h2)).2.1
        have := Go.WideElems.findIdx_born (l := (es.push ⟨kV k, .int .i64 0, clock⟩).toList) (j := es.size) (e0 := ⟨kV k, .int .i64 0, clock⟩) hn1 (by simp)
        rw [Go.WideElems.findIdx_arr]
        exact this
      have hmod : (es.push ⟨kV k, .int .i64 0, clock⟩).modify es.size (fun e => { e with val := .int .i64 c }) = es.push ⟨kV k, .int .i64 c, clock⟩ := by
        apply Array.toList_inj.1
        rw [Array.toList_modify, Array.toList_push, Array.toList_push]
        have := Go.WideElems.modify_last (fun e : MapEntry => { e with val := .int .i64 c }) ⟨kV k, .int .i64 0, clock⟩ es.toList
        simpa using this
      have key : ∀ W1 : World, W1.heap[b]? = some (.map (es.push ⟨kV k, .int .i64 0, clock⟩) (clock + 1)) → (Instr.entryStore 134 (.map (some b)) (goInt clock) (.int .i64 c)).run Try.prog W1 = .ok () (setBlock W1 b (.map (es.push ⟨kV k, .int .i64 c, clock⟩) (clock + 1))) := by
        intro W1 hW1
        simp [Instr.entryStore, MapKept.run_getObj_map hW1, goInt, asInt, asIntOf, hidx, hmod, MapKept.run_setObj_map _ hW1, Result.andThen, setBlock]
      exact key _ hb1
    · rw [Array.toList_push, List.map_append, List.map_append, he]
      rfl
    · intro p hp
      rcases List.mem_append.1 hp with hp | hp
      · exact hr p hp
      · rw [List.mem_singleton] at hp
        subst hp
        exact ⟨hk, hc⟩
    · rw [hless]
      exact List.perm_append_singleton _ _
  · have hj : es[j]? = some e := by simpa using h2
    have hkeep : es.modify j (fun e' => { e' with key := kV k }) = es := by
      apply Array.toList_inj.1
      rw [Array.toList_modify, modify_eq_set _ _ _ _ h2]
      have : ({ e with key := kV k } : MapEntry) = e := by rw [← h3]
      rw [this]
      exact Go.WideElems.set_self _ _ _ h2
    have hsame : setBlock w b (.map es clock) = w := by
      unfold setBlock
      have : w.heap.setIfInBounds b (.map es clock) = w.heap := by
        apply Array.ext_getElem?
        intro i
        by_cases hi : i = b
        · subst hi
          rw [Array.getElem?_setIfInBounds, if_pos rfl]
          obtain ⟨h6, h7⟩ := Array.getElem?_eq_some_iff.1 hb
          simp only [h6, if_true]
          rw [hb]
        · rw [Array.getElem?_setIfInBounds, if_neg (fun e => hi e.symm)]
      rw [this]
    refine ⟨e.val, e.born, w, l, ?_, ⟨es, clock, hb, hs, he, hr⟩, fun _ => rfl, ⟨rfl, rfl, rfl, Nat.le_refl _, fun _ _ _ => rfl⟩, rfl, fun c hc => ?_⟩
    · have e1 : (es.modify j fun e => { e with key := kV k }) = es := hkeep
      have : (Instr.mapEntry 134 (.map (some b)) (kV k)).run Try.prog w = .ok (.tuple #[e.val, goInt e.born]) (setBlock w b (.map es clock)) := by
        simp [Instr.mapEntry, run_underlying undM, MapKept.run_getObj_map hb, keyed.check w false hq, h1, hj, h3, keyed.stays w hq, MapKept.run_setObj_map _ hb, Result.andThen, setBlock, e1]
      rw [this, hsame]
    · have hidx : es.findIdx? (fun x => ((x.born : Nat) : Int) == ((e.born : Nat) : Int)) = some j := by
        rw [Go.WideElems.findIdx_arr]
        exact Go.WideElems.findIdx_born ((stamped_iff _ _).1 hs).2.1 h2
      have hlist : (es.modify j (fun e' => { e' with val := .int .i64 c })).toList = es.toList.set j { e with val := .int .i64 c } := by rw [Array.toList_modify, modify_eq_set _ _ _ _ h2]
      refine ⟨setBlock w b (.map (es.modify j (fun e' => { e' with val := .int .i64 c })) clock), l.set j (k, c), ?_, ⟨_, _, heap_setBlock_same hb _, stamped_modify hs _ _ (fun _ _ => rfl) (fun _ _ _ => rfl), ?_, ?_⟩, ?_, hgrow _ _ _ hb _, by simp [setBlock]⟩
      · simp [Instr.entryStore, MapKept.run_getObj_map hb, goInt, asInt, asIntOf, hidx, MapKept.run_setObj_map _ hb, Result.andThen, setBlock]
      · have e1 : ent { e with val := .int .i64 c } = kv (k, c) := by
          show (e.key, Value.int .i64 c) = (kV k, .int .i64 c)
          rw [h3]
        rw [hlist, List.map_set, List.map_set, he, e1]
      · intro p hp
        rcases List.mem_or_eq_of_mem_set hp with hp | rfl
        · exact hr p hp
        · exact ⟨hk, hc⟩
      · rw [less1_at hn h5]
        exact set_perm _ _ (List.getElem?_eq_some_iff.1 h5).1 _

/-- the seven cells of a key -/
def cells7 (k : Int) : Array Value := #[.int .i64 (dig k 0), .int .i64 (dig k 1), .int .i64 (dig k 2), .int .i64 (dig k 3), .int .i64 (dig k 4), .int .i64 (dig k 5), .int .i64 (dig k 6)]
theorem grownBy_trans {a b c : World} {r : Option Nat} (h : a.grownBy b r) (h' : b.grownBy c r) : a.grownBy c r :=
  ⟨h'.os.trans h.os, h'.tape.trans h.tape, h'.output.trans h.output, Nat.le_trans h.size h'.size, fun i hi hn => (h'.block i (Nat.lt_of_lt_of_le hi h.size) hn).trans (h.block i hi hn)⟩
theorem grownBy_of_below {w w' : World} (r : Option Nat) (h : Below w.heap.size w w') : w.grownBy w' r := ⟨h.os, h.tape, h.output, h.size, fun k hk _ => h.block k hk⟩
theorem in64_wrap (a : Int) : in64 (wrap64 a) := wrap_range a
theorem undA : Try.prog.underlying 150 = some (.array 7 3) := arrK.hu

theorem cells7_at {w : World} {g : Nat} {k : Int} (h : w.heap[g]? = some (.cells (cells7 k) 150)) :
    w.cell? ⟨g, 0, none⟩ = some (.int .i64 (dig k 0)) ∧ w.cell? ⟨g, 1, none⟩ = some (.int .i64 (dig k 1)) ∧ w.cell? ⟨g, 2, none⟩ = some (.int .i64 (dig k 2)) ∧ w.cell? ⟨g, 3, none⟩ = some (.int .i64 (dig k 3)) ∧
    w.cell? ⟨g, 4, none⟩ = some (.int .i64 (dig k 4)) ∧ w.cell? ⟨g, 5, none⟩ = some (.int .i64 (dig k 5)) ∧ w.cell? ⟨g, 6, none⟩ = some (.int .i64 (dig k 6)) := by
  refine ⟨?_, ?_, ?_, ?_, ?_, ?_, ?_⟩ <;> (rw [cell_of_row w _ _ _ _ (0, 0) h]; rfl)
set_option maxRecDepth 100000 in
set_option maxHeartbeats 3200000 in
theorem add_any (b : Nat) (k c : Int) (F : Mons) (w : World) (h : PF w b F) (hk : inK k) (_hc : in64 c) :
    Calls Try.prog 207 #[.map (some b), kV k, .int .i64 c] w fun e w' => e = .returned (.tuple #[]) ∧ PF w' b ((k, c) :: F) ∧ w.grownBy w' (some b) := by
  obtain ⟨l, hl, hp⟩ := h
  have hbz := hl.lt
  obtain ⟨W, hW⟩ : ∃ W, w.alloc (.cells (cells7 k) 150) = W := ⟨_, rfl⟩
  have hBW : Below w.heap.size w W := by rw [← hW]; exact (Below.refl _ _).alloc (Nat.le_refl _) _
  have g0 : W.heap[w.heap.size]? = some (.cells (cells7 k) 150) := by rw [← hW]; exact heap_alloc_new w _
  have hBV : Below w.heap.size w W.drew := hBW.trans (Drew.below ⟨1, rfl⟩ _)
  have hlV : PM W.drew b l := hl.below hBV
  have e0 := hlV.look hk
  have hc0 : coef l k = coef F k := by rw [coef_perm hp, coef_canon]
  rw [hc0] at e0
  obtain ⟨v0, st, w1, l1, e1, hl1, hcc, hg1, hz1, hst⟩ := hlV.entry hk
  have e2 := hl1.look hk
  rw [hcc, hc0] at e2
  obtain ⟨w2, l2, e3, hl2, hp2, hg2, hz2⟩ := hst (wrap64 (coef F k + c)) (in64_wrap _)
  have g1 : w1.heap[w.heap.size]? = some (.cells (cells7 k) 150) := by rw [hg1.block _ (by have := (Array.getElem?_eq_some_iff.1 g0).1; exact this) (by simp; omega)]; exact g0
  have g2 : w2.heap[w.heap.size]? = some (.cells (cells7 k) 150) := by rw [hg2.block _ (by have := (Array.getElem?_eq_some_iff.1 g1).1; exact this) (by simp; omega)]; exact g1
  have e4 := hl2.look hk
  have hz : coef l2 k = wrap64 (coef F k + c) := by rw [coef_perm hp2, coef_cons, if_pos rfl, coef_miss (by intro p hp; have := (List.mem_filter.1 hp).2; simpa using this)]; unfold wrap64; omega
  rw [hz] at e4
  obtain ⟨s, hs⟩ : ∃ s, wrap64 (coef F k + c) = s := ⟨_, rfl⟩
  rw [hs] at e3 e4 hp2
  have hgw : w.grownBy w2 (some b) := grownBy_trans (grownBy_of_below _ hBV) (grownBy_trans hg1 hg2)
  have hqw : IntKind.i64.wrap (coef F k + c) = s := by rw [← hs]; exact IntWalk.i64_left _
  obtain ⟨a0, a1, a2, a3, a4, a5, a6⟩ := cells7_at g0
  obtain ⟨b0, b1, b2, b3, b4, b5, b6⟩ := cells7_at g1
  obtain ⟨c0, c1, c2, c3, c4, c5, c6⟩ := cells7_at g2
  have Hlast : s ≠ 0 → PF w2 b ((k, c) :: F) := fun h0 => ⟨l2, hl2, by
    have := canon_cons k c F
    rw [hs, if_neg h0] at this
    exact hp2.trans ((((hp.filter _).cons _)).trans this.symm)⟩
  have Hgw := Lib.hid hgw
  have Hlast' := Lib.hid Hlast
  have Hp2 := Lib.hid hp2
  have hpl : (less1 l k).Perm (less1 (canon F) k) := hp.filter _
  by_cases h0 : s = 0
  · obtain ⟨w3, l3, e5, hl3, hl3e, hg3, hz3⟩ := hl2.drop hk 0
    have hfin : PF w3 b ((k, c) :: F) := ⟨l3, hl3, by
      have h1 := canon_cons k c F
      rw [hs, if_pos h0] at h1
      have h2 : (less1 l2 k).Perm (less1 ((k, s) :: less1 l k) k) := Hp2.out.filter _
      have h3 : less1 ((k, s) :: less1 l k) k = less1 l k := by
        unfold less1
        rw [List.filter_cons_of_neg (by simp), List.filter_filter]
        simp
      rw [hl3e]
      rw [h3] at h2
      exact h2.trans (hpl.trans h1.symm)⟩
    have Hfin := Lib.hid hfin
    have Hgw3 := Lib.hid (grownBy_trans hgw hg3)
    unfold kV at e0 e1 e2 e4 e5
    unfold goInt at e1 e3
    unfold cells7 at hW
    generalize coef F k = c0 at *
    clear hp2 hgw hg1 hg2 hz hst hcc hl1 hlV hBV hBW hc0 hz1 hz2 g0 g1 g2 Hlast hs hfin hg3 hz3 hl3e hl3
    subst h0
    unfold kV
    go_enter Try.func207, Try.ntmps207
    go_wp2
    go_region
    go_wp2
    go_end0
    exact ⟨rfl, Hfin.out, Hgw3.out⟩
  · have q0 : (s == 0) = false := by simp [h0]
    have Hfin := Lib.hid (Hlast h0)
    unfold kV at e0 e1 e2 e4
    unfold goInt at e1 e3
    unfold cells7 at hW
    generalize coef F k = c0 at *
    clear hp2 hgw hg1 hg2 hz hst hcc hl1 hlV hBV hBW hc0 hz1 hz2 g0 g1 g2 Hlast hs
    unfold kV
    go_enter Try.func207, Try.ntmps207
    go_wp2
    go_region
    go_wp2
    go_end0
    exact ⟨rfl, Hfin.out, Hgw.out⟩
end Go.Proofs.Ytiiiiolifpaehaa
