/-
  Maps from exponents (seven numbers, written as one key) to coefficients in memory: what they hold, up to order; looked up, stored, deleted, ranged over.
-/
import Derived.Test.YtiiiiolifpaehaaPolyLaw
import Derived.Maps.RangeWalk
import Derived.WideKeyPair
namespace Go.Proofs.Ytiiiiolifpaehaa
open Go.RowKit Go.MapKept Go.ChangeMaps

/-! keys -/
def dig (k : Int) (i : Nat) : Int := k / 128 ^ i % 128
def kV (k : Int) : Value := .agg #[.int .i64 (dig k 0), .int .i64 (dig k 1), .int .i64 (dig k 2), .int .i64 (dig k 3), .int .i64 (dig k 4), .int .i64 (dig k 5), .int .i64 (dig k 6)]
def inK (k : Int) : Prop := 0 ≤ k ∧ k < 562949953421312
def in64 (c : Int) : Prop := -9223372036854775808 ≤ c ∧ c ≤ 9223372036854775807
theorem dig_range (k : Int) (i : Nat) : 0 ≤ dig k i ∧ dig k i < 128 := ⟨Int.emod_nonneg _ (by omega), Int.emod_lt_of_pos _ (by omega)⟩
theorem dig_wf (k : Int) (i : Nat) : (Lit.int .i64 (dig k i)).wf = true := by
  have := dig_range k i
  simp [Lit.wf, IntKind.min, IntKind.max, IntKind.signed, IntKind.bits]
  omega
theorem digs_key {k : Int} (h : inK k) : k = dig k 0 + 128 * dig k 1 + 16384 * dig k 2 + 2097152 * dig k 3 + 268435456 * dig k 4 + 34359738368 * dig k 5 + 4398046511104 * dig k 6 := by
  unfold inK at h
  unfold dig
  simp only [show (128 : Int) ^ 0 = 1 by decide, show (128 : Int) ^ 1 = 128 by decide, show (128 : Int) ^ 2 = 16384 by decide, show (128 : Int) ^ 3 = 2097152 by decide, show (128 : Int) ^ 4 = 268435456 by decide, show (128 : Int) ^ 5 = 34359738368 by decide, show (128 : Int) ^ 6 = 4398046511104 by decide]
  omega
theorem kV_inj {j k : Int} (hj : inK j) (hk : inK k) (h : kV j = kV k) : j = k := by
  unfold kV at h
  simp only [Value.agg.injEq, Array.mk.injEq, List.cons.injEq, Value.int.injEq, true_and, and_true] at h
  rw [digs_key hj, digs_key hk]
  omega
theorem arrK : WideMaps.ArrKey Try.prog 150 3 7 := ⟨by kernel_rfl, by kernel_rfl, by kernel_rfl, by kernel_rfl⟩
theorem undInt : Try.prog.underlying 3 = some (.int .i64) := by kernel_rfl
theorem typesSome : ∃ m, Try.prog.types.size = m + 1 := ⟨Try.prog.types.size - 1, by kernel_rfl⟩
theorem keyed : Go.Maps.Keyed Try.prog 150 := Go.Maps.Keyed.of_law arrK.law
theorem keyOf_kV (k : Int) : ∃ l, keyOf Try.prog 150 (kV k) = some l := by
  have hkt := arrK.keyType typesSome
  obtain ⟨m, hm⟩ := typesSome
  refine ⟨.string (keyBytes [.int .i64 (dig k 0), .int .i64 (dig k 1), .int .i64 (dig k 2), .int .i64 (dig k 3), .int .i64 (dig k 4), .int .i64 (dig k 5), .int .i64 (dig k 6)]), ?_⟩
  unfold keyOf kV
  simp only [arrK.hu]
  rw [if_pos (by simp [hkt, Value.formed, arrK.hu, arrK.size]), hm]
  unfold Program.keyLits
  simp only [arrK.hu, Value.cells]
  rw [if_pos (by rw [arrK.size]; rfl), show List.range 7 = [0, 1, 2, 3, 4, 5, 6] from rfl]
  simp [List.mapM_cons, arrK.one, Program.keyLits, dig_wf]
theorem undM : Try.prog.underlying 134 = some (.map 150 3) := by kernel_rfl
theorem zeroInt (w : World) : (zeroValue 3).run Try.prog w = .ok (.int .i64 0) w := by kernel_rfl

/-! a map's block -/
def kv (p : Int × Int) : Value × Value := (kV p.1, .int .i64 p.2)
def ent (e : MapEntry) : Value × Value := (e.key, e.val)
/-- block b is a map with just these entries -/
def PM (w : World) (b : Nat) (l : Mons) : Prop :=
  ∃ es clock, w.heap[b]? = some (.map es clock) ∧ Stamped es clock ∧ es.toList.map ent = l.map kv ∧ ∀ p ∈ l, inK p.1 ∧ in64 p.2
theorem PM.lt {w : World} {b : Nat} {l : Mons} (h : PM w b l) : b < w.heap.size := by
  obtain ⟨es, clock, hb, _⟩ := h
  exact (Array.getElem?_eq_some_iff.1 hb).1
theorem PM.kept {w w' : World} {b : Nat} {l : Mons} {row : Option Nat} (h : PM w b l) (hg : w.grownBy w' row) (hne : some b ≠ row) : PM w' b l := by
  have hlt := h.lt
  obtain ⟨es, clock, hb, hs⟩ := h
  exact ⟨es, clock, (hg.block b hlt hne).trans hb, hs⟩
theorem PM.same {w w' : World} {b : Nat} {l : Mons} (h : PM w b l) (hg : w'.heap[b]? = w.heap[b]?) : PM w' b l := by
  obtain ⟨es, clock, hb, hs⟩ := h
  exact ⟨es, clock, hg.trans hb, hs⟩
theorem PM.below {w w' : World} {b : Nat} {l : Mons} (h : PM w b l) (hb : Below w.heap.size w w') : PM w' b l := h.same (hb.block b h.lt)
theorem PM.made (w : World) : PM (w.alloc (.map #[] 0)) w.heap.size [] := ⟨#[], 0, (heap_alloc w _).1, stamped_empty 0, rfl, by simp⟩
theorem keys_nodup {es : List MapEntry} {l : Mons} (hs : es.Pairwise fun x y => x.key ≠ y.key) (he : es.map ent = l.map kv) : (l.map fun p => p.1).Nodup := by
  have h1 : (es.map ent).Pairwise fun x y => x.1 ≠ y.1 := by rw [List.pairwise_map]; exact hs
  rw [he, List.pairwise_map] at h1
  rw [List.Nodup, List.pairwise_map]
  exact h1.imp fun h e => h (by unfold kv; rw [e])
theorem PM.nodup {w : World} {b : Nat} {l : Mons} (h : PM w b l) : (l.map fun p => p.1).Nodup := by
  obtain ⟨es, clock, _, hs, he, _⟩ := h
  exact keys_nodup ((stamped_iff es clock).1 hs).2.2 he
theorem nodup_le {ks : List Int} {n : Nat} (hn : ks.Nodup) (h : ∀ k ∈ ks, 0 ≤ k ∧ k < n) : ks.length ≤ n := by
  have h1 : (ks.map Int.toNat).Nodup := by
    rw [List.Nodup, List.pairwise_map]
    refine List.Pairwise.imp_of_mem ?_ hn
    intro a b ha hb hne e
    have := h a ha
    have := h b hb
    exact hne (by omega)
  have h2 : ∀ k ∈ ks.map Int.toNat, k ∈ List.range n := by
    intro k hk
    obtain ⟨a, ha, rfl⟩ := List.mem_map.1 hk
    have := h a ha
    rw [List.mem_range]
    omega
  have h3 := h1.length_le_of_subset h2
  simpa using h3
theorem PM.size {w : World} {b : Nat} {l : Mons} (h : PM w b l) : l.length ≤ 562949953421312 := by
  have h1 := h.nodup
  obtain ⟨es, clock, _, hs, he, hr⟩ := h
  have := nodup_le (n := 562949953421312) h1 (by
    intro k hk
    obtain ⟨p, hp, rfl⟩ := List.mem_map.1 hk
    have := (hr p hp).1
    unfold inK at this
    omega)
  simpa using this

/-! the entry at a key -/
theorem mem_ent {es : List MapEntry} {l : Mons} (he : es.map ent = l.map kv) {e : MapEntry} (h : e ∈ es) : ∃ p ∈ l, e.key = kV p.1 ∧ e.val = .int .i64 p.2 := by
  have : ent e ∈ l.map kv := by rw [← he]; exact List.mem_map.2 ⟨e, h, rfl⟩
  obtain ⟨p, hp, hk⟩ := List.mem_map.1 this
  unfold kv ent at hk
  simp only [Prod.mk.injEq] at hk
  exact ⟨p, hp, hk.1.symm, hk.2.symm⟩
theorem ent_keys {es : List MapEntry} {l : Mons} (he : es.map ent = l.map kv) : ∀ e ∈ es, ∃ q, keyOf Try.prog 150 e.key = some q := by
  intro e h
  obtain ⟨p, _, hk, _⟩ := mem_ent he h
  rw [hk]
  exact keyOf_kV p.1
theorem raw_at {l : Mons} (hn : (l.map fun p => p.1).Nodup) {p : Int × Int} (hp : p ∈ l) : raw l p.1 = p.2 := by
  induction l with
  | nil => cases hp
  | cons q l ih =>
    rw [List.map_cons, List.nodup_cons] at hn
    unfold raw
    rw [wsum, hit]
    rcases List.mem_cons.1 hp with rfl | hp'
    · rw [if_pos rfl]
      have : wsum l (hit p.1) = 0 := raw_miss fun q hq e => hn.1 (List.mem_map.2 ⟨q, hq, e⟩)
      rw [this, Int.mul_one, Int.add_zero]
    · rw [if_neg (fun e => hn.1 (List.mem_map.2 ⟨p, hp', e.symm⟩))]
      have := ih hn.2 hp'
      unfold raw at this
      simpa using this
theorem PM.coef {w : World} {b : Nat} {l : Mons} (h : PM w b l) {p : Int × Int} (hp : p ∈ l) : coef l p.1 = p.2 := by
  have h1 := h.nodup
  obtain ⟨_, _, _, _, _, hr⟩ := h
  unfold Go.Proofs.Ytiiiiolifpaehaa.coef
  rw [raw_at h1 hp]
  exact wrap_self (hr p hp).2
theorem PM.find {w : World} {b : Nat} {es : Array MapEntry} {clock : Nat} {l : Mons} (_hb : w.heap[b]? = some (.map es clock)) (he : es.toList.map ent = l.map kv) (hr : ∀ p ∈ l, inK p.1 ∧ in64 p.2) {k : Int} (hk : inK k) :
    ((Instr.findKey 150 (kV k) es.toList).run Try.prog w = .ok none w ∧ (∀ e ∈ es.toList, e.key ≠ kV k) ∧ ∀ p ∈ l, p.1 ≠ k) ∨
    ∃ j e c, (Instr.findKey 150 (kV k) es.toList).run Try.prog w = .ok (some (j, e.val)) w ∧ es.toList[j]? = some e ∧ e.key = kV k ∧ e.val = .int .i64 c ∧ l[j]? = some (k, c) := by
  obtain ⟨q, hq⟩ := keyOf_kV k
  rcases keyed.find w hq es.toList (ent_keys he) with ⟨h1, h2⟩ | ⟨j, e, h1, h2, h3⟩
  · refine .inl ⟨h1, h2, fun p hp e => ?_⟩
    have : kv p ∈ es.toList.map ent := by rw [he]; exact List.mem_map.2 ⟨p, hp, rfl⟩
    obtain ⟨x, hx, hxe⟩ := List.mem_map.1 this
    refine h2 x hx ?_
    unfold kv ent at hxe
    simp only [Prod.mk.injEq] at hxe
    rw [hxe.1, e]
  · have h4 : (l.map kv)[j]? = some (ent e) := by rw [← he, List.getElem?_map, h2]; rfl
    rw [List.getElem?_map] at h4
    obtain ⟨p, hp, hpe⟩ := Option.map_eq_some_iff.1 h4
    unfold kv ent at hpe
    simp only [Prod.mk.injEq] at hpe
    have hpk : p.1 = k := kV_inj (hr p (List.mem_of_getElem? hp)).1 hk (hpe.1.trans h3)
    exact .inr ⟨j, e, p.2, h1, h2, h3, hpe.2.symm, by rw [hp, ← hpk]⟩

/-- what is looked up -/
theorem PM.look {w : World} {b : Nat} {l : Mons} (h : PM w b l) {k : Int} (hk : inK k) :
    (Instr.lookup 134 (.map (some b)) (kV k) false).run Try.prog w = .ok (.int .i64 (Go.Proofs.Ytiiiiolifpaehaa.coef l k)) w := by
  have hc := fun p hp => h.coef (p := p) hp
  obtain ⟨es, clock, hb, hs, he, hr⟩ := h
  obtain ⟨q, hq⟩ := keyOf_kV k
  rcases PM.find hb he hr hk with ⟨h1, _, h2⟩ | ⟨j, e, c, h1, _, _, h4, h5⟩
  · rw [coef_miss h2]
    simp [Instr.lookup, run_underlying undM, MapKept.run_getObj_map hb, keyed.check w _ hq, h1, Result.andThen]
  · rw [hc (k, c) (List.mem_of_getElem? h5)]
    simp [Instr.lookup, run_underlying undM, MapKept.run_getObj_map hb, keyed.check w _ hq, h1, h4, Result.andThen]
theorem PM.length {w : World} {b : Nat} {l : Mons} (h : PM w b l) (ty : TypeId) : (Builtin.len_ #[134] ty #[.map (some b)]).run Try.prog w = .ok (.int .i64 l.length) w := by
  obtain ⟨es, clock, hb, hs, he, hr⟩ := h
  have e1 : es.size = l.length := by
    have := congrArg List.length he
    simpa using this
  simp [Builtin.len_, run_underlying undM, MapKept.run_getObj_map hb, goInt, Result.andThen, e1]

theorem less1_at {l : Mons} (hn : (l.map fun p => p.1).Nodup) : ∀ {j : Nat} {k c : Int}, l[j]? = some (k, c) → less1 l k = l.eraseIdx j := by
  induction l with
  | nil => intro j k c h; simp at h
  | cons q l ih =>
    intro j k c h
    rw [List.map_cons, List.nodup_cons] at hn
    rcases j with _ | j
    · simp only [List.getElem?_cons_zero, Option.some.injEq] at h
      subst h
      have : less1 l k = l := by
        unfold less1
        rw [List.filter_eq_self]
        intro p hp
        simp only [decide_eq_true_eq]
        exact fun e => hn.1 (List.mem_map.2 ⟨p, hp, e⟩)
      simp only [less1, List.filter_cons, decide_not, List.eraseIdx_cons_zero]
      simpa [less1] using this
    · simp only [List.getElem?_cons_succ] at h
      have h2 := ih hn.2 h
      have hq : q.1 ≠ k := fun e => hn.1 (List.mem_map.2 ⟨(k, c), List.mem_of_getElem? h, e.symm⟩)
      rw [List.eraseIdx_cons_succ, ← h2]
      simp [less1, hq]

/-- 'm[k] = c' -/
theorem PM.store {w : World} {b : Nat} {l : Mons} (h : PM w b l) {k c : Int} (hk : inK k) (hc : in64 c) :
    ∃ w' l', (Instr.mapUpdate 134 (.map (some b)) (kV k) (.int .i64 c)).run Try.prog w = .ok () w' ∧ PM w' b l' ∧ l'.Perm ((k, c) :: less1 l k) ∧ w.grownBy w' (some b) ∧ w'.heap.size = w.heap.size := by
  have hn := h.nodup
  have hsz := h.size
  obtain ⟨es, clock, hb, hs, he, hr⟩ := h
  have hlen : es.size = l.length := by
    have := congrArg List.length he
    simpa using this
  obtain ⟨q, hq⟩ := keyOf_kV k
  have hgrow : ∀ o, w.grownBy (setBlock w b o) (some b) := fun o => ⟨rfl, rfl, rfl, by simp [setBlock], fun i _ hi => heap_setBlock_other hb _ (fun e => hi (by rw [e]))⟩
  rcases PM.find hb he hr hk with ⟨h1, h2, h3⟩ | ⟨j, e, d, h1, h2, h3, h4, h5⟩
  · refine ⟨setBlock w b (.map (es.push ⟨kV k, .int .i64 c, clock⟩) (clock + 1)), l ++ [(k, c)], ?_, ⟨_, _, heap_setBlock_same hb _, stamped_push hs h2, ?_, ?_⟩, ?_, hgrow _, by simp [setBlock]⟩
    · have hroom : ¬ maxLen ≤ es.size := by rw [hlen]; unfold maxLen; omega
      simp [Instr.mapUpdate, run_underlying undM, MapKept.run_getObj_map hb, keyed.check w false hq, h1, MapKept.run_setObj_map _ hb, Result.andThen, setBlock]
    · rw [Array.toList_push, List.map_append, List.map_append, he]
      rfl
    · intro p hp
      rcases List.mem_append.1 hp with hp | hp
      · exact hr p hp
      · rw [List.mem_singleton] at hp
        subst hp
        exact ⟨hk, hc⟩
    · have : less1 l k = l := by
        unfold less1
        rw [List.filter_eq_self]
        intro p hp
        simpa using h3 p hp
      rw [this]
      exact List.perm_append_singleton _ _
  · have hj : es[j]? = some e := by simpa using h2
    have hkeyf : ∀ e', es[j]? = some e' → ({ e' with key := kV k, val := .int .i64 c } : MapEntry).key = e'.key := fun e' he' => by rw [hj] at he'; cases he'; exact h3.symm
    have hlist : (es.modify j (fun e' => { e' with key := kV k, val := .int .i64 c })).toList = es.toList.set j { e with key := kV k, val := .int .i64 c } := by rw [Array.toList_modify, modify_eq_set _ _ _ _ h2]
    refine ⟨setBlock w b (.map (es.modify j (fun e' => { e' with key := kV k, val := .int .i64 c })) clock), l.set j (k, c), ?_, ⟨_, _, heap_setBlock_same hb _, stamped_modify hs _ _ (fun _ _ => rfl) (fun e' _ he' => hkeyf e' he'), ?_, ?_⟩, ?_, hgrow _, by simp [setBlock]⟩
    · simp [Instr.mapUpdate, run_underlying undM, MapKept.run_getObj_map hb, keyed.check w false hq, h1, hj, h3, keyed.stays w hq, MapKept.run_setObj_map _ hb, Result.andThen, setBlock]
    · rw [hlist, List.map_set, List.map_set, he]
      rfl
    · intro p hp
      rcases List.mem_or_eq_of_mem_set hp with hp | rfl
      · exact hr p hp
      · exact ⟨hk, hc⟩
    · rw [less1_at hn h5]
      exact set_perm _ _ (List.getElem?_eq_some_iff.1 h5).1 _
/-- 'delete(m, k)' -/
theorem PM.drop {w : World} {b : Nat} {l : Mons} (h : PM w b l) {k : Int} (hk : inK k) (ty : TypeId) :
    ∃ w' l', (Builtin.delete_ #[134, 150] ty #[.map (some b), kV k]).run Try.prog w = .ok (.tuple #[]) w' ∧ PM w' b l' ∧ l' = less1 l k ∧ w.grownBy w' (some b) ∧ w'.heap.size = w.heap.size := by
  have hn := h.nodup
  obtain ⟨es, clock, hb, hs, he, hr⟩ := h
  obtain ⟨q, hq⟩ := keyOf_kV k
  have hgrow : ∀ o, w.grownBy (setBlock w b o) (some b) := fun o => ⟨rfl, rfl, rfl, by simp [setBlock], fun i _ hi => heap_setBlock_other hb _ (fun e => hi (by rw [e]))⟩
  have hr' : ∀ p ∈ less1 l k, inK p.1 ∧ in64 p.2 := fun p hp => hr p (List.mem_filter.1 hp).1
  rcases PM.find hb he hr hk with ⟨h1, h2, h3⟩ | ⟨j, e, d, h1, h2, h3, h4, h5⟩
  · have e1 : less1 l k = l := by
      unfold less1
      rw [List.filter_eq_self]
      intro p hp
      simpa using h3 p hp
    refine ⟨setBlock w b (.map es clock), less1 l k, ?_, ⟨_, _, heap_setBlock_same hb _, hs, by rw [e1]; exact he, hr'⟩, rfl, hgrow _, by simp [setBlock]⟩
    simp [Builtin.delete_, run_underlying undM, MapKept.run_getObj_map hb, keyed.check w _ hq, h1, MapKept.run_setObj_map _ hb, Result.andThen, setBlock]
  · have hj : es[j]? = some e := by simpa using h2
    have hjs : j < es.size := (Array.getElem?_eq_some_iff.1 hj).1
    have hsub : (es.eraseIdxIfInBounds j).toList = es.toList.eraseIdx j := by
      unfold Array.eraseIdxIfInBounds
      rw [dif_pos hjs]
      simp
    refine ⟨setBlock w b (.map (es.eraseIdxIfInBounds j) clock), less1 l k, ?_, ⟨_, _, heap_setBlock_same hb _, stamped_erase hs j, ?_, hr'⟩, rfl, hgrow _, by simp [setBlock]⟩
    · simp [Builtin.delete_, run_underlying undM, MapKept.run_getObj_map hb, keyed.check w _ hq, h1, MapKept.run_setObj_map _ hb, Result.andThen, setBlock]
    · rw [hsub, less1_at hn h5, map_eraseIdx, map_eraseIdx, he]

/-! ranged over -/
/-- block r is an iterator over the map in block b; these entries are still to come -/
def PRg (w : World) (b r : Nat) (l left : Mons) : Prop :=
  ∃ es clock since seen c0, w.heap[b]? = some (.map es clock) ∧ Stamped es clock ∧ es.toList.map ent = l.map kv ∧ (∀ p ∈ l, inK p.1 ∧ in64 p.2) ∧
    w.heap[r]? = some (.mapIter (some b) since seen c0) ∧ (∀ x ∈ es.toList, x.born < since) ∧ since ≤ c0 ∧ since ≤ clock ∧ (leftOf es seen).toList.map ent = left.map kv
theorem PRg.pm {w : World} {b r : Nat} {l left : Mons} (h : PRg w b r l left) : PM w b l := by
  obtain ⟨es, clock, since, seen, c0, hb, hs, he, hr, _⟩ := h
  exact ⟨es, clock, hb, hs, he, hr⟩
theorem PRg.lt {w : World} {b r : Nat} {l left : Mons} (h : PRg w b r l left) : r < w.heap.size := by
  obtain ⟨es, clock, since, seen, c0, _, _, _, _, hr, _⟩ := h
  exact (Array.getElem?_eq_some_iff.1 hr).1
theorem PRg.ne {w : World} {b r : Nat} {l left : Mons} (h : PRg w b r l left) : r ≠ b := by
  obtain ⟨es, clock, since, seen, c0, hb, _, _, _, hr, _⟩ := h
  intro e
  rw [e, hb] at hr
  cases hr
theorem PRg.left_eq {w : World} {b r : Nat} {l left : Mons} (h : PRg w b r l left) : w.rangeLeft b r = left.length := by
  obtain ⟨es, clock, since, seen, c0, hb, _, _, _, hr, _, _, _, hl⟩ := h
  simp only [World.rangeLeft, hb, hr]
  have := congrArg List.length hl
  simpa using this
theorem PRg.same {w w' : World} {b r : Nat} {l left : Mons} (h : PRg w b r l left) (h1 : w'.heap[b]? = w.heap[b]?) (h2 : w'.heap[r]? = w.heap[r]?) : PRg w' b r l left := by
  obtain ⟨es, clock, since, seen, c0, hb, hs, he, hr, hi, hh⟩ := h
  exact ⟨es, clock, since, seen, c0, h1.trans hb, hs, he, hr, h2.trans hi, hh⟩
theorem PRg.below {w w' : World} {b r : Nat} {l left : Mons} (h : PRg w b r l left) (hb : Below w.heap.size w w') : PRg w' b r l left := h.same (hb.block b h.pm.lt) (hb.block r h.lt)
theorem PRg.kept {w w' : World} {b r : Nat} {l left : Mons} {row : Option Nat} (h : PRg w b r l left) (hg : w.grownBy w' row) (hb : some b ≠ row) (hr : some r ≠ row) : PRg w' b r l left := h.same (hg.block b h.pm.lt hb) (hg.block r h.lt hr)
/-- 'range m' -/
theorem PM.range {w : World} {b : Nat} {l : Mons} (h : PM w b l) :
    ∃ o, (Instr.range 134 (.map (some b))).run Try.prog w = .ok (.pointer (some ⟨w.heap.size, 0, none⟩)) (w.alloc o) ∧ PRg (w.alloc o) b w.heap.size l l := by
  have hlt := h.lt
  obtain ⟨es, clock, hb, hs, he, hr⟩ := h
  refine ⟨_, run_range_map w _ _ _ b es clock undM hb, es, clock, clock, #[], clock, ((heap_alloc w _).2 b hlt).trans hb, hs, he, hr, (heap_alloc w _).1, hs.1, Nat.le_refl _, Nat.le_refl _, ?_⟩
  have : leftOf es #[] = es := by unfold leftOf; simp
  rw [this, he]
theorem perm_filter_one {α : Type} {l : List α} {f : α → Nat} (hn : (l.map f).Nodup) {x : α} (hx : x ∈ l) : l.Perm (x :: l.filter fun y => !(f y == f x)) := by
  induction l with
  | nil => cases hx
  | cons a l ih =>
    rw [List.map_cons, List.nodup_cons] at hn
    rcases List.mem_cons.1 hx with rfl | hx'
    · have : (l.filter fun y => !(f y == f x)) = l := by
        rw [List.filter_eq_self]
        intro y hy
        simp only [Bool.not_eq_true', beq_eq_false_iff_ne]
        exact fun e => hn.1 (List.mem_map.2 ⟨y, hy, e⟩)
      simp [this]
    · have hne : f a ≠ f x := fun e => hn.1 (List.mem_map.2 ⟨x, hx', e.symm⟩)
      have : ((a :: l).filter fun y => !(f y == f x)) = a :: l.filter fun y => !(f y == f x) := by simp [hne]
      rw [this]
      exact ((ih hn.2 hx').cons a).trans (List.Perm.swap ..)
theorem perm_of_map {es : List MapEntry} {l : Mons} (he : es.map ent = l.map kv) {x : MapEntry} {es' : List MapEntry} (hp : es.Perm (x :: es')) :
    ∃ p l', ent x = kv p ∧ es'.map ent = l'.map kv ∧ l.Perm (p :: l') := by
  have h1 : (l.map kv).Perm (ent x :: es'.map ent) := by rw [← he, ← List.map_cons]; exact hp.map _
  have key : ∀ (m : List (Value × Value)), m.Perm (l.map kv) → ∃ l' : Mons, m = l'.map kv ∧ l'.Perm l := by
    intro m hm
    have : ∀ (m' : List (Value × Value)) (l : Mons), m'.Perm (l.map kv) → ∃ l' : Mons, m' = l'.map kv ∧ l'.Perm l := by
      intro m' l h
      generalize hg : l.map kv = g at h
      induction h generalizing l with
      | nil => exact ⟨[], rfl, by rw [List.map_eq_nil_iff] at hg; rw [hg]⟩
      | cons y _ ih =>
        rw [List.map_eq_cons_iff] at hg
        obtain ⟨p, l2, rfl, rfl, h2⟩ := hg
        obtain ⟨l', h3, h4⟩ := ih l2 h2
        exact ⟨p :: l', by rw [List.map_cons, h3], h4.cons p⟩
      | swap y z g2 =>
        rw [List.map_eq_cons_iff] at hg
        obtain ⟨p, l2, rfl, rfl, h2⟩ := hg
        rw [List.map_eq_cons_iff] at h2
        obtain ⟨p2, l3, rfl, rfl, rfl⟩ := h2
        exact ⟨p2 :: p :: l3, rfl, List.Perm.swap ..⟩
      | trans _ _ ih1 ih2 =>
        obtain ⟨l1, h1, h2⟩ := ih2 l hg
        obtain ⟨l2, h3, h4⟩ := ih1 l1 h1.symm
        exact ⟨l2, h3, h4.trans h2⟩
    exact this m l hm
  obtain ⟨l', h2, h3⟩ := key _ h1.symm
  cases l' with
  | nil => simp at h2
  | cons p l' =>
    simp only [List.map_cons, List.cons.injEq] at h2
    exact ⟨p, l', h2.1, h2.2, h3.symm⟩
/-- one step -/
theorem PRg.next {w : World} {b r : Nat} {l left : Mons} (h : PRg w b r l left) (ty : TypeId) :
    (left = [] ∧ (Instr.next (.pointer (some ⟨r, 0, none⟩)) false ty).run Try.prog w = .ok (.tuple #[.bool false]) w) ∨
    ∃ p left' w', left.Perm (p :: left') ∧ (Instr.next (.pointer (some ⟨r, 0, none⟩)) false ty).run Try.prog w = .ok (.tuple #[.bool true, kV p.1, .int .i64 p.2]) w' ∧ PRg w' b r l left' ∧ w.grownBy w' (some r) ∧ w'.heap.size = w.heap.size ∧
      (Instr.entry (.pointer (some ⟨r, 0, none⟩))).run Try.prog w' = .ok (.tuple #[kV p.1, .int .i64 p.2]) w' := by
  have hne := h.ne
  obtain ⟨es, clock, since, seen, c0, hb, hs, he, hrr, hr, hold, hsc, hsk, hl⟩ := h
  rcases run_next_at (P := Try.prog) w ty r b since c0 seen es clock hr hb hold hsc with ⟨h0, hrun⟩ | ⟨e, hel, w1, hal, hrun⟩
  · refine .inl ⟨?_, hrun⟩
    have := congrArg List.length hl
    rw [List.length_map, List.length_map, Array.length_toList, h0] at this
    exact List.eq_nil_of_length_eq_zero this.symm
  · obtain ⟨hem, hes⟩ := mem_left hel
    have hr1 : w1.heap[r]? = some (.mapIter (some b) since seen c0) := by rcases hal with rfl | rfl <;> exact hr
    have hb1 : w1.heap[b]? = some (.map es clock) := by rcases hal with rfl | rfl <;> exact hb
    have hset := heap_set (o' := .mapIter (some b) since (seen.push e.born) clock) hr1
    have hb' : (setBlock w1 r (.mapIter (some b) since (seen.push e.born) clock)).heap[b]? = some (.map es clock) := (hset.2 b (fun e1 => hne e1.symm)).trans hb1
    have hnb : ((leftOf es seen).toList.map (·.born)).Nodup := by
      have h2 := ((stamped_iff es clock).1 hs).2.1
      have : (leftOf es seen).toList = es.toList.filter fun e => !seen.contains e.born := by unfold leftOf; rw [← Array.toList_filter]
      rw [this]
      exact ((List.filter_sublist (p := fun e => !seen.contains e.born) (l := es.toList)).map _).nodup h2
    have hleft : (leftOf es (seen.push e.born)).toList = (leftOf es seen).toList.filter fun y => !(y.born == e.born) := by
      unfold leftOf
      simp only [Array.toList_filter, List.filter_filter]
      congr 1
      funext y
      rw [contains_push]
      cases seen.contains y.born <;> cases (y.born == e.born) <;> rfl
    obtain ⟨p, left', hp1, hp2, hp3⟩ := perm_of_map hl (perm_filter_one hnb hel)
    rw [← hleft] at hp2
    unfold ent kv at hp1
    simp only [Prod.mk.injEq] at hp1
    refine .inr ⟨p, left', _, hp3, by rw [← hp1.1, ← hp1.2]; exact hrun, ⟨es, clock, since, seen.push e.born, clock, hb', hs, he, hrr, hset.1, hold, hsk, hsk, hp2⟩, ?_, ?_, by
      rw [← hp1.1, ← hp1.2]
      exact run_entry_at _ r b since seen es clock e hset.1 hb' hem ((stamped_iff es clock).1 hs).2.1⟩
    · rcases hal with rfl | rfl <;> exact ⟨rfl, rfl, rfl, by simp [setBlock], fun i _ hi => hset.2 i (fun e1 => hi (by rw [e1]))⟩
    · rcases hal with rfl | rfl <;> simp [setBlock]

/-! up to order: a polynomial -/
/-- block b is the map of a polynomial -/
def PF (w : World) (b : Nat) (F : Mons) : Prop := ∃ l, PM w b l ∧ l.Perm (canon F)
theorem PF.below {w w' : World} {b : Nat} {F : Mons} (h : PF w b F) (hb : Below w.heap.size w w') : PF w' b F := by
  obtain ⟨l, h1, h2⟩ := h
  exact ⟨l, h1.below hb, h2⟩
theorem PF.kept {w w' : World} {b : Nat} {F : Mons} {row : Option Nat} (h : PF w b F) (hg : w.grownBy w' row) (hne : some b ≠ row) : PF w' b F := by
  obtain ⟨l, h1, h2⟩ := h
  exact ⟨l, h1.kept hg hne, h2⟩
theorem PF.eqv {w : World} {b : Nat} {F G : Mons} (h : PF w b F) (he : Eqv F G) : PF w b G := by
  obtain ⟨l, h1, h2⟩ := h
  exact ⟨l, h1, by rw [← canon_eqv he]; exact h2⟩
theorem PF.lt {w : World} {b : Nat} {F : Mons} (h : PF w b F) : b < w.heap.size := by
  obtain ⟨l, h1, _⟩ := h
  exact h1.lt
theorem canon_nil : canon [] = [] := by unfold canon keysOf; simp [uniq]
theorem PF.made (w : World) : PF (w.alloc (.map #[] 0)) w.heap.size [] := ⟨[], PM.made w, by rw [canon_nil]⟩
theorem PF.keys {w : World} {b : Nat} {F : Mons} (h : PF w b F) : ∀ p ∈ canon F, inK p.1 := by
  obtain ⟨l, ⟨_, _, _, _, _, hr⟩, h2⟩ := h
  exact fun p hp => (hr p (h2.mem_iff.2 hp)).1
theorem coef_perm {l m : Mons} (h : l.Perm m) (k : Int) : coef l k = coef m k := Eqv.of_perm h k
theorem PF.look {w : World} {b : Nat} {F : Mons} (h : PF w b F) {k : Int} (hk : inK k) :
    (Instr.lookup 134 (.map (some b)) (kV k) false).run Try.prog w = .ok (.int .i64 (coef F k)) w := by
  obtain ⟨l, h1, h2⟩ := h
  rw [h1.look hk, coef_perm h2, coef_canon]
theorem PF.length {w : World} {b : Nat} {F : Mons} (h : PF w b F) (ty : TypeId) : (Builtin.len_ #[134] ty #[.map (some b)]).run Try.prog w = .ok (.int .i64 (canon F).length) w := by
  obtain ⟨l, h1, h2⟩ := h
  rw [h1.length, h2.length_eq]
theorem coef_cons (k c : Int) (F : Mons) (j : Int) : coef ((k, c) :: F) j = if k = j then wrap64 (coef F j + c) else coef F j := by
  unfold coef raw
  rw [wsum]
  unfold hit
  by_cases h : k = j
  · simp only [if_pos h, Int.mul_one]
    unfold wrap64
    omega
  · simp only [if_neg h, Int.mul_zero, Int.zero_add]
theorem canon_nodup (F : Mons) : ((canon F).map fun p => p.1).Nodup := by
  rw [List.Nodup, List.pairwise_map]
  exact (canon_sorted F).imp fun h => by omega
theorem canon_list_nodup (F : Mons) : (canon F).Nodup := (canon_sorted F).imp fun h e => by rw [e] at h; omega
theorem nodup_of_keys {l : Mons} (h : (l.map fun p => p.1).Nodup) : l.Nodup := by
  rw [List.Nodup, List.pairwise_map] at h
  exact h.imp fun hne e => hne (by rw [e])
theorem canon_cons (k c : Int) (F : Mons) : (canon ((k, c) :: F)).Perm (if wrap64 (coef F k + c) = 0 then less1 (canon F) k else (k, wrap64 (coef F k + c)) :: less1 (canon F) k) := by
  have hless : ∀ p, p ∈ less1 (canon F) k ↔ p ∈ canon F ∧ p.1 ≠ k := by
    intro p
    unfold less1
    rw [List.mem_filter]
    simp
  have hnl : (less1 (canon F) k).Nodup := List.Pairwise.filter _ (canon_list_nodup F)
  refine (List.perm_ext_iff_of_nodup (canon_list_nodup _) ?_).2 fun p => ?_
  · split
    · exact hnl
    · rw [List.nodup_cons]
      exact ⟨fun h => ((hless _).1 h).2 rfl, hnl⟩
  · rw [canon_mem, coef_cons]
    by_cases hk : k = p.1
    · rw [if_pos hk]
      subst hk
      split
      · rename_i h0
        rw [hless, h0]
        constructor
        · rintro ⟨h1, h2⟩; exact absurd h2 h1
        · rintro ⟨_, h2⟩; exact absurd rfl h2
      · rename_i h0
        rw [List.mem_cons, hless]
        constructor
        · rintro ⟨h1, h2⟩; exact .inl (by rw [← h2])
        · rintro (h | ⟨_, h2⟩)
          · have : p.2 = wrap64 (coef F p.1 + c) := by rw [h]
            exact ⟨by rw [this]; exact h0, this⟩
          · exact absurd rfl h2
    · rw [if_neg hk]
      have e : (p.2 ≠ 0 ∧ p.2 = coef F p.1) ↔ p ∈ canon F := canon_mem.symm
      rw [e]
      split
      · rw [hless]
        exact ⟨fun h => ⟨h, fun e => hk e.symm⟩, fun h => h.1⟩
      · rw [List.mem_cons, hless]
        constructor
        · exact fun h => .inr ⟨h, fun e => hk e.symm⟩
        · rintro (h | h)
          · exact absurd (by rw [h]) hk
          · exact h.1
end Go.Proofs.Ytiiiiolifpaehaa
