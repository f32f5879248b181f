/-
  Contract of the closure of the program's TableauxOf: it appends a copy of a tableau to the list in a box.
-/
import Derived.Test.YtpjkhkoecgjjbaaTabP
import Derived.Deep.RegionLaw
namespace Go.Proofs.Ytpjkhkoecgjjbaa
open Go.RowKit

/-- the list of the closure: in blocks from B on; or still the empty one that was made ahead of the box A -/
def LB (w : World) (A B T : Nat) (al : Option Addr) (k cl : Nat) (L : List (List (List Int))) : Prop :=
  IIIO w B T al k cl L ∨ (L = [] ∧ k = 0 ∧ cl = 0 ∧ 0 < A ∧ al = some ⟨A - 1, 0, none⟩ ∧ IIIO w (A - 1) T al k cl L)
theorem LB.weak {w : World} {A B T : Nat} {al : Option Addr} {k cl : Nat} {L : List (List (List Int))} (h : LB w A B T al k cl L) (hA : A < B) : IIIO w (A - 1) T al k cl L := by
  rcases h with h | h
  · exact h.mono (by omega) (Nat.le_refl _)
  · exact h.2.2.2.2.2
theorem LB.len {w : World} {A B T : Nat} {al : Option Addr} {k cl : Nat} {L : List (List (List Int))} (h : LB w A B T al k cl L) : L.length = k := by
  rcases h with h | ⟨rfl, rfl, _⟩
  · exact h.len
  · rfl
theorem LB.ne {w : World} {A B T : Nat} {al : Option Addr} {k cl : Nat} {L : List (List (List Int))} (h : LB w A B T al k cl L) (hA : A < B) : ∀ q, (Value.slice al k cl).ownBlock = some q → A - 1 ≤ q ∧ q ≠ A := fun q hq => by
  refine ⟨(h.weak hA).lo q hq, ?_⟩
  rcases h with h | ⟨_, _, _, h0, rfl, _⟩
  · have := h.lo q hq; omega
  · simp [Value.ownBlock] at hq; omega
theorem LB.map {w w' : World} {A B T T' : Nat} {al : Option Addr} {k cl : Nat} {L : List (List (List Int))} (h : LB w A B T al k cl L) (hf : ∀ B', IIIO w B' T al k cl L → IIIO w' B' T' al k cl L) : LB w' A B T' al k cl L := by
  rcases h with h | ⟨a1, a2, a3, a4, a5, h⟩
  · exact .inl (hf _ h)
  · exact .inr ⟨a1, a2, a3, a4, a5, hf _ h⟩
theorem LB.below {w w' : World} {A B T : Nat} {al : Option Addr} {k cl : Nat} {L : List (List (List Int))} (h : LB w A B T al k cl L) (hb : Below w.heap.size w w') : LB w' A B T al k cl L := h.map fun _ hh => hh.below hb
theorem LB.mono {w : World} {A B T T' : Nat} {al : Option Addr} {k cl : Nat} {L : List (List (List Int))} (h : LB w A B T al k cl L) (hT : T ≤ T') : LB w A B T' al k cl L := h.map fun _ hh => hh.mono (Nat.le_refl _) hT
theorem LB.past {w w' : World} {A B T : Nat} {al at' : Option Addr} {k cl m ct : Nat} {L : List (List (List Int))} {v' : Value} (h : LB w A B T al k cl L) (hg : Grows w w' (.slice at' m ct) v') (hT : ∀ q, (Value.slice at' m ct).ownBlock = some q → T ≤ q) (hw : ∀ q, (Value.slice at' m ct).ownBlock = some q → q < w.heap.size) : LB w' A B T al k cl L :=
  h.map fun _ hh => hh.only (B' := T) (S' := w.heap.size) (Only.of_grown hg.grown hT hw) (.inl (Nat.le_refl _))

/-- append of a tableau, as a step of a region that draws its order -/
theorem step_push3 {w : World} {W : World} {b : Option Addr} {m d : Nat} (hW : W = w.alloc (.cells #[.slice b m d] 38)) {ops : Array Oper} {o : Oper} {ac : Act} {K : Act → World → Prop} {Q : Exit → Act → World → Prop} (hwant : Region.wanted o (yielded ops ac.tmps) = true) (s x : Operand)
    (ho : o.op = .call { callee := .builtin .append, args := #[s, x], argTypes := #[23, 23] })
    {B S : Nat} {a : Option Addr} {n c : Nat} {xsss : List (List (List Int))} (hown : IIIO w B S a n c xsss) (hs : ac.eval s = .slice a n c)
    {yss : List (List Int)} {S' : Nat} (hr : IIO w S S' b m d yss) (hBS : B ≤ S) (hSS : S ≤ S') (hx : ac.eval x = .slice (some ⟨w.heap.size, 0, none⟩) 1 1) (hn : n + 1 ≤ 16777216) (hbase : B ≤ w.heap.size) (hS : S ≤ w.heap.size) (hS' : S' ≤ w.heap.size)
    (h : ∀ a' c' w', IIIO w' B w'.heap.size a' (n + 1) c' (xsss ++ [yss]) → Grows w w' (.slice a n c) (.slice a' (n + 1) c') → K (ac.put o.dst (.slice a' (n + 1) c')) w') :
    if Region.wanted o (yielded ops ac.tmps) = true then Oper.wp Try.prog o ac W K Q else K (ac.put o.dst undef) W := by
  rw [if_pos hwant]
  subst hW
  obtain ⟨i0, hi, hz0, hz1, hz2⟩ := info_parts Try.info38
  have hlen := hown.len
  obtain ⟨vs, lo, hg0, h1, h2, h3⟩ := hown
  obtain ⟨v', w', hrun, h4, h5⟩ := run_app (P := Try.prog) (w.alloc (.cells #[.slice b m d] 38)) B 23 o.type 38 i0 (.slice none 0 0) 24 Try.underlying23 hi hz0 hz1 hz2 rfl (.slice a n c) n vs (h1.alloc _) (some ⟨w.heap.size, 0, none⟩) 1 1 [.slice b m d] rfl (by simp)
    (by
      intro ad had j u hu
      obtain rfl := Option.some.inj had
      match j, hu with
      | 0, hu => simp at hu; subst hu; simp [Addr.add])
    (by intro u hu; simp at hu; subst hu; rfl) hn (by omega) (by simp; omega)
  obtain ⟨a', c', rfl, _⟩ := slice_of h4
  unfold Oper.wp execOp
  simp only [ho, resolve, invoke, builtin, Sem.run_bind, Sem.run_pure, Result.andThen_ok, List.map_toArray, List.map_cons, List.map_nil, hs, hx, hrun]
  have hb0 : Below w.heap.size w (w.alloc (.cells #[.slice b m d] 38)) := (Below.refl _ _).alloc (Nat.le_refl _) _
  have hg := (Grows.of_below (.slice a n c) hb0).trans h5
  exact h a' c' w' (IIIO.push h2 h3 hlen hr hBS hS hS' hSS h4 hg) hg

/-- append to an empty slice without room is append to nil -/
theorem run_append_zero {P : Program} {w : World} (t ty e : TypeId) (i : TypeInfo) (z : Value) (ht : P.underlying t = some (.slice e)) (hi : P.info? e = some i) (hz : i.zero = some z) (b a : Addr) (n c : Nat) (news : List Value) (hl : news.length = n * i.size) (hnews : ∀ j v, news[j]? = some v → w.cell? (a.add j) = some v)
    (h0 : 0 < n) (h63 : (n : Int) ≤ 9223372036854775807) (h48 : n * i.bytes ≤ 140737488355328) :
    (Builtin.append_ #[t, t] ty #[.slice (some b) 0 0, .slice (some a) n c]).run P w = (Builtin.append_ #[t, t] ty #[.slice none 0 0, .slice (some a) n c]).run P w := by
  rw [run_append_nil w t ty e i z ht hi hz a n c news hl hnews h0 h63 (by omega), run_append_grow w t ty e i z ht hi hz b 0 0 [] (by simp) (by simp) a n c news hl hnews (by omega) (by simpa using h63) (growslice_fits (by omega) (by simpa using h48))]
  simp

/-- append of the first tableau, to an empty list without room -/
theorem step_push3_new {w : World} {W : World} {b : Option Addr} {m d : Nat} (hW : W = w.alloc (.cells #[.slice b m d] 38)) {ops : Array Oper} {o : Oper} {ac : Act} {K : Act → World → Prop} {Q : Exit → Act → World → Prop} (hwant : Region.wanted o (yielded ops ac.tmps) = true) (s x : Operand)
    (ho : o.op = .call { callee := .builtin .append, args := #[s, x], argTypes := #[23, 23] })
    {B S : Nat} {ad : Addr} {k cl : Nat} (hk0 : k = 0) (hc0 : cl = 0) (hs : ac.eval s = .slice (some ad) k cl)
    {yss : List (List Int)} {S' : Nat} (hr : IIO w S S' b m d yss) (hBS : B ≤ S) (hSS : S ≤ S') (hx : ac.eval x = .slice (some ⟨w.heap.size, 0, none⟩) 1 1) (hbase : B ≤ w.heap.size) (hS : S ≤ w.heap.size) (hS' : S' ≤ w.heap.size)
    (h : ∀ a' c' w', IIIO w' B w'.heap.size a' (k + 1) c' [yss] → Below w.heap.size w w' → (∀ q, (Value.slice a' (k + 1) c').ownBlock = some q → w.heap.size ≤ q) → K (ac.put o.dst (.slice a' (k + 1) c')) w') :
    if Region.wanted o (yielded ops ac.tmps) = true then Oper.wp Try.prog o ac W K Q else K (ac.put o.dst undef) W := by
  rw [if_pos hwant]
  subst hW hk0 hc0
  obtain ⟨i0, hi, hz0, hz1, hz2⟩ := info_parts Try.info38
  have hown : IIIO w B S none 0 0 [] := IIIO.nil
  obtain ⟨vs, lo, hg0, h1, h2, h3⟩ := hown
  have hvs : vs = [] := List.eq_nil_of_length_eq_zero h3.len
  subst hvs
  have hcell : ∀ ad', (some ⟨w.heap.size, 0, none⟩ : Option Addr) = some ad' → ∀ j u, [Value.slice b m d][j]? = some u → (w.alloc (.cells #[.slice b m d] 38)).cell? (ad'.add j) = some u := by
    intro ad' had j u hu
    obtain rfl := Option.some.inj had
    match j, hu with
    | 0, hu => simp at hu; subst hu; simp [Addr.add]
  obtain ⟨v', w', hrun, h4, h5⟩ := run_app (P := Try.prog) (w.alloc (.cells #[.slice b m d] 38)) w.heap.size 23 o.type 38 i0 (.slice none 0 0) 24 Try.underlying23 hi hz0 hz1 hz2 rfl (.slice none 0 0) 0 [] (World.ownsRow_nil _ _ _ _) (some ⟨w.heap.size, 0, none⟩) 1 1 [.slice b m d] rfl (by simp) hcell
    (by intro u hu; simp at hu; subst hu; rfl) (by omega) (by omega) (by simp)
  rw [← run_append_zero 23 o.type 38 i0 (.slice none 0 0) Try.underlying23 hi hz0 ad ⟨w.heap.size, 0, none⟩ 1 1 [.slice b m d] (by rw [hz1]; rfl) (hcell _ rfl) (by omega) (by omega) (by rw [hz2]; omega)] at hrun
  obtain ⟨a', c', rfl, _⟩ := slice_of h4
  unfold Oper.wp execOp
  simp only [ho, resolve, invoke, builtin, Sem.run_bind, Sem.run_pure, Result.andThen_ok, List.map_toArray, List.map_cons, List.map_nil, hs, hx, hrun]
  have hb0 : Below w.heap.size w (w.alloc (.cells #[.slice b m d] 38)) := (Below.refl _ _).alloc (Nat.le_refl _) _
  have hg := (Grows.of_below (.slice none 0 0) hb0).trans h5
  exact h a' c' w' (IIIO.push h2 h3 rfl hr hBS hS hS' hSS (ownsRow_base h4 hbase) hg) (hg.below (Below.refl _ _) (Nat.le_refl _) (by simp [Value.ownBlock])) fun q hq => (h4.lt q hq).1

/-- a call of copyRows, as a step of a region that draws its order -/
theorem step_copyRows {w : World} {ops : Array Oper} {o : Oper} {ac : Act} {K : Act → World → Prop} {Q : Exit → Act → World → Prop} (hwant : Region.wanted o (yielded ops ac.tmps) = true) (x : Operand)
    (ho : o.op = .call { callee := .value (.func 22), args := #[x], argTypes := #[38] })
    {a : Option Addr} {n c : Nat} {xss : List (List Int)} (hx : ac.eval x = .slice a n c) (hr : RII w a xss) (hn : xss.length = n) (hb : n ≤ 1048576) (hsh : ShortII xss)
    (h : ∀ a' c' w', IIO w' w.heap.size w'.heap.size a' n c' xss → Below w.heap.size w w' → K (ac.put o.dst (.slice a' n c')) w') :
    if Region.wanted o (yielded ops ac.tmps) = true then Oper.wp Try.prog o ac w K Q else K (ac.put o.dst undef) w := by
  rw [if_pos hwant]
  have hf : ac.eval (.func 22) = .func (.func 22) #[] #[] := rfl
  unfold Oper.wp execOp
  simp only [ho, resolve, hf, hx, Deferred.ofValue, Sem.run_bind, Sem.run_pure, Result.andThen_ok, List.map_toArray, List.map_cons, List.map_nil]
  go_simp
  refine (copyRows_any a n c xss w hr hn hb hsh).mono ?_
  rintro e w1 ⟨a1, c1, rfl, ho1, hB1⟩
  exact h _ _ _ ho1 hB1

set_option maxRecDepth 100000 in
set_option maxHeartbeats 3200000 in
theorem tabClo_any (A B T : Nat) (at' : Option Addr) (m ct : Nat) (t : List (List Int)) (al : Option Addr) (k cl : Nat) (L : List (List (List Int))) (w : World)
    (ht : RII w at' t) (hm : t.length = m) (hm2 : m ≤ 16) (hsh : ShortII t) (hA : A < B) (hbox : w.cell? ⟨A, 0, none⟩ = some (.slice al k cl)) (hfz : w.frozen? ⟨A, 0, none⟩ = false) (hl : IIIO w B T al k cl L) (hB : B ≤ w.heap.size) (hT : T ≤ w.heap.size) (hk : k ≤ 400) :
    Calls Try.prog 21 #[.slice at' m ct, .pointer (some ⟨A, 0, none⟩)] w fun e w' => ∃ a' c', e = .returned (.bool (decide ((k : Int) + 1 ≤ 400))) ∧ w'.cell? ⟨A, 0, none⟩ = some (.slice a' (k + 1) c') ∧ w'.frozen? ⟨A, 0, none⟩ = false ∧ IIIO w' B w'.heap.size a' (k + 1) c' (L ++ [t]) ∧ But (fun q => q = A ∨ (Value.slice al k cl).ownBlock = some q) w w' ∧ ((Value.slice a' (k + 1) c').ownBlock = (Value.slice al k cl).ownBlock ∨ ∀ q, (Value.slice a' (k + 1) c').ownBlock = some q → w.heap.size ≤ q) := by
  have Hm := Lib.hid hm
  have Hsh := Lib.hid hsh
  have Hl := Lib.hid hl
  have Hlo := Lib.hid hl.lo
  have S_of : ∀ w2, Below B w w2 → w2.cell? ⟨A, 0, none⟩ = some (.slice al k cl) ∧ w2.frozen? ⟨A, 0, none⟩ = false := fun w2 hb => ⟨by rw [hb.cell (p := ⟨A, 0, none⟩) hA]; exact hbox, by rw [hb.frozen (p := ⟨A, 0, none⟩) hA]; exact hfz⟩
  have d0 : Below B w w := Below.refl _ _
  have d1 : Below B w w.drew := Drew.below ⟨1, rfl⟩ _
  have hz1 : w.drew.heap.size = w.heap.size := rfl
  have hl1 : IIIO w.drew B w.heap.size al k cl L := (hl.below (Drew.below (Drew.drewN w 1) _)).mono (Nat.le_refl _) hT
  have Hl1 := Lib.hid hl1
  have Ht : Hid (RII w.drew at' t) := Lib.hid (ht.drew (Drew.drewN w 1))
  have hz2 : ∀ w2, Below B w w2 → w.heap.size ≤ w2.heap.size := fun w2 h => h.size
  have hA0 : Below A w w := Below.refl _ _
  have p1 := (S_of _ d1).1
  have f1 := (S_of _ d1).2
  clear hm hsh hl ht hl1 hbox hfz
  go_enter Try.func21, Try.ntmps21
  go_wp2_with fail
  go_region_law ((first
      | (refine step_push3 (by rfl) (by rfl) _ _ (by rfl) HO4.out (by rfl) Hcl.out (by omega) (by omega) (by rfl) (by omega) (by omega) (by omega) (Nat.le_refl _) ?_; intro a5 c5 w5 ho5 hg5; have d5 := hg5.below d2 (by omega) Hlo.out; have p5 := (S_of _ d5).1; have f5 := (S_of _ d5).2)
      | (refine step_copyRows (by rfl) _ (by rfl) (by rfl) Ht.out Hm.out (by omega) Hsh.out ?_; intro a4 c4 w4 ho4 hb4; have d2 := d1.trans (hb4.mono (show B ≤ w.drew.heap.size by rw [hz1]; exact hB)); have HO4 := Lib.hid (Hl1.out.below hb4); have Hcl := Lib.hid ho4; have hs4 := hb4.size; have p4 := (S_of _ d2).1; have f4 := (S_of _ d2).2; have d3 := Below.alloc d2 (Nat.le_trans hB (hz2 _ d2)) (.cells #[.slice a4 m c4] 38); have p6 := (S_of _ d3).1; have f6 := (S_of _ d3).2; clear ho4)))
  all_goals
    have hw4 : Below w.heap.size w w4 := ((Drew.drewN w 1).below _).trans hb4
    have hs5 := hg5.grown.size
    have q1 : (w5.setCell ⟨A, 0, none⟩ (.slice a5 (k + 1) c5)).cell? ⟨A, 0, none⟩ = some (.slice a5 (k + 1) c5) := World.cell?_setCell_same _ _ _ p5
    have q2 : (w5.setCell ⟨A, 0, none⟩ (.slice a5 (k + 1) c5)).frozen? ⟨A, 0, none⟩ = false := (World.frozen?_setCell _ _ _ _).trans f5
    have q3 : IIIO (w5.setCell ⟨A, 0, none⟩ (.slice a5 (k + 1) c5)) B (w5.setCell ⟨A, 0, none⟩ (.slice a5 (k + 1) c5)).heap.size a5 (k + 1) c5 (L ++ [t]) := (ho5.only (onlyCell w5 A 0 _ (Nat.le_refl A) (Nat.lt_succ_self A)) (.inr hA)).mono (Nat.le_refl _) (by simp)
    have q4 : But (fun q => q = A ∨ (Value.slice al k cl).ownBlock = some q) w (w5.setCell ⟨A, 0, none⟩ (.slice a5 (k + 1) c5)) :=
      ((But.of_below hw4).trans (But.of_grown (p := fun q => q = A ∨ (Value.slice al k cl).ownBlock = some q) hg5.grown fun _ h => .inr h) fun _ _ h => h).trans
        ⟨rfl, rfl, rfl, by simp, fun j _ hj => heap_setCell_other w5 ⟨A, 0, none⟩ j _ (fun e => hj (.inl e))⟩ fun _ _ h => h
    have q5 : (Value.slice a5 (k + 1) c5).ownBlock = (Value.slice al k cl).ownBlock ∨ ∀ q, (Value.slice a5 (k + 1) c5).ownBlock = some q → w.heap.size ≤ q := by
      rcases hg5.home with h | h
      · exact .inl h
      · exact .inr fun q hq => Nat.le_trans hw4.size (h q hq)
    have Q3 := Lib.hid q3
    have Q4 := Lib.hid q4
    have Q5 := Lib.hid q5
    clear hg5 ho5 q3 q4 q5 d5 p5 f5 d3 p6 f6 p4 f4 hb4 d2 HO4 Hcl S_of p1 f1
    go_wp2
    go_ret
    exact ⟨_, _, by simp, q1, q2, Q3.out, Q4.out, Q5.out⟩
set_option maxRecDepth 100000 in
set_option maxHeartbeats 3200000 in
theorem tabClo_first (A B : Nat) (at' : Option Addr) (m ct : Nat) (t : List (List Int)) (g0 : Addr) (k cl : Nat) (w : World)
    (ht : RII w at' t) (hm : t.length = m) (hm2 : m ≤ 16) (hsh : ShortII t) (hA : A < B) (hbox : w.cell? ⟨A, 0, none⟩ = some (.slice (some g0) k cl)) (hfz : w.frozen? ⟨A, 0, none⟩ = false) (hB : B ≤ w.heap.size) (hk0 : k = 0) (hc0 : cl = 0) :
    Calls Try.prog 21 #[.slice at' m ct, .pointer (some ⟨A, 0, none⟩)] w fun e w' => ∃ a' c', e = .returned (.bool (decide ((k : Int) + 1 ≤ 400))) ∧ w'.cell? ⟨A, 0, none⟩ = some (.slice a' (k + 1) c') ∧ w'.frozen? ⟨A, 0, none⟩ = false ∧ IIIO w' B w'.heap.size a' (k + 1) c' [t] ∧ But (fun q => q = A) w w' ∧ (∀ q, (Value.slice a' (k + 1) c').ownBlock = some q → w.heap.size ≤ q) := by
  have Hk0 := Lib.hid hk0
  have Hc0 := Lib.hid hc0
  have hk : k ≤ 400 := by omega
  have Hm := Lib.hid hm
  have Hsh := Lib.hid hsh
  have S_of : ∀ w2, Below B w w2 → w2.cell? ⟨A, 0, none⟩ = some (.slice (some g0) k cl) ∧ w2.frozen? ⟨A, 0, none⟩ = false := fun w2 hb => ⟨by rw [hb.cell (p := ⟨A, 0, none⟩) hA]; exact hbox, by rw [hb.frozen (p := ⟨A, 0, none⟩) hA]; exact hfz⟩
  have d0 : Below B w w := Below.refl _ _
  have d1 : Below B w w.drew := Drew.below ⟨1, rfl⟩ _
  have hz1 : w.drew.heap.size = w.heap.size := rfl
  have Ht : Hid (RII w.drew at' t) := Lib.hid (ht.drew (Drew.drewN w 1))
  have hz2 : ∀ w2, Below B w w2 → w.heap.size ≤ w2.heap.size := fun w2 h => h.size
  have hA0 : Below A w w := Below.refl _ _
  have p1 := (S_of _ d1).1
  have f1 := (S_of _ d1).2
  clear hm hsh ht hbox hfz hk0 hc0
  go_enter Try.func21, Try.ntmps21
  go_wp2_with fail
  go_region_law ((first
      | (refine step_push3_new (B := B) (by rfl) (by rfl) _ _ (by rfl) Hk0.out Hc0.out (by rfl) Hcl.out (by omega) (by omega) (by rfl) (by omega) (by omega) (Nat.le_refl _) ?_; intro a5 c5 w5 ho5 hb5 hn5; have d5 := d2.trans (hb5.mono (show B ≤ w4.heap.size from Nat.le_trans hB (hz2 _ d2))); have p5 := (S_of _ d5).1; have f5 := (S_of _ d5).2)
      | (refine step_copyRows (by rfl) _ (by rfl) (by rfl) Ht.out Hm.out (by omega) Hsh.out ?_; intro a4 c4 w4 ho4 hb4; have d2 := d1.trans (hb4.mono (show B ≤ w.drew.heap.size by rw [hz1]; exact hB)); have Hcl := Lib.hid ho4; have hs4 := hb4.size; have p4 := (S_of _ d2).1; have f4 := (S_of _ d2).2; have d3 := Below.alloc d2 (Nat.le_trans hB (hz2 _ d2)) (.cells #[.slice a4 m c4] 38); have p6 := (S_of _ d3).1; have f6 := (S_of _ d3).2; clear ho4)))
  all_goals
    have hw4 : Below w.heap.size w w4 := ((Drew.drewN w 1).below _).trans hb4
    have hs5 := hb5.size
    have q1 : (w5.setCell ⟨A, 0, none⟩ (.slice a5 (k + 1) c5)).cell? ⟨A, 0, none⟩ = some (.slice a5 (k + 1) c5) := World.cell?_setCell_same _ _ _ p5
    have q2 : (w5.setCell ⟨A, 0, none⟩ (.slice a5 (k + 1) c5)).frozen? ⟨A, 0, none⟩ = false := (World.frozen?_setCell _ _ _ _).trans f5
    have q3 : IIIO (w5.setCell ⟨A, 0, none⟩ (.slice a5 (k + 1) c5)) B (w5.setCell ⟨A, 0, none⟩ (.slice a5 (k + 1) c5)).heap.size a5 (k + 1) c5 [t] := (ho5.only (onlyCell w5 A 0 _ (Nat.le_refl A) (Nat.lt_succ_self A)) (.inr hA)).mono (Nat.le_refl _) (by simp)
    have q4 : But (fun q => q = A) w (w5.setCell ⟨A, 0, none⟩ (.slice a5 (k + 1) c5)) :=
      ((But.of_below hw4).trans (But.of_below (p := fun q => q = A) hb5) fun _ _ h => h).trans
        ⟨rfl, rfl, rfl, by simp, fun j _ hj => heap_setCell_other w5 ⟨A, 0, none⟩ j _ (fun e => hj e)⟩ fun _ _ h => h
    have q5 : ∀ q, (Value.slice a5 (k + 1) c5).ownBlock = some q → w.heap.size ≤ q := fun q hq => Nat.le_trans hw4.size (hn5 q hq)
    have Q3 := Lib.hid q3
    have Q4 := Lib.hid q4
    have Q5 := Lib.hid q5
    clear hb5 hn5 ho5 q3 q4 q5 d5 p5 f5 d3 p6 f6 p4 f4 hb4 d2 Hcl S_of p1 f1
    go_wp2
    go_ret
    exact ⟨_, _, by simp, q1, q2, Q3.out, Q4.out, Q5.out⟩
/-- in both cases -/
theorem tabClo_both (A B T : Nat) (at' : Option Addr) (m ct : Nat) (t : List (List Int)) (al : Option Addr) (k cl : Nat) (L : List (List (List Int))) (w : World)
    (ht : RII w at' t) (hm : t.length = m) (hm2 : m ≤ 16) (hsh : ShortII t) (hA : A < B) (hbox : w.cell? ⟨A, 0, none⟩ = some (.slice al k cl)) (hfz : w.frozen? ⟨A, 0, none⟩ = false) (hl : LB w A B T al k cl L) (hB : B ≤ w.heap.size) (hT : T ≤ w.heap.size) (hk : k ≤ 400) :
    Calls Try.prog 21 #[.slice at' m ct, .pointer (some ⟨A, 0, none⟩)] w fun e w' => ∃ a' c', e = .returned (.bool (decide ((k : Int) + 1 ≤ 400))) ∧ w'.cell? ⟨A, 0, none⟩ = some (.slice a' (k + 1) c') ∧ w'.frozen? ⟨A, 0, none⟩ = false ∧ LB w' A B w'.heap.size a' (k + 1) c' (L ++ [t]) ∧ But (fun q => q = A ∨ (Value.slice al k cl).ownBlock = some q) w w' ∧ ((Value.slice a' (k + 1) c').ownBlock = (Value.slice al k cl).ownBlock ∨ ∀ q, (Value.slice a' (k + 1) c').ownBlock = some q → w.heap.size ≤ q) := by
  rcases hl with hl | ⟨rfl, rfl, rfl, _, rfl, _⟩
  · refine (tabClo_any A B T at' m ct t al k cl L w ht hm hm2 hsh hA hbox hfz hl hB hT hk).mono ?_
    rintro e w1 ⟨a1, c1, rfl, h2, h3, h4, h5, h6⟩
    exact ⟨a1, c1, rfl, h2, h3, .inl h4, h5, h6⟩
  · refine (tabClo_first A B at' m ct t ⟨A - 1, 0, none⟩ 0 0 w ht hm hm2 hsh hA hbox hfz hB rfl rfl).mono ?_
    rintro e w1 ⟨a1, c1, rfl, h2, h3, h4, h5, h6⟩
    exact ⟨a1, c1, rfl, h2, h3, .inl h4, ⟨h5.os, h5.tape, h5.output, h5.size, fun q hq hn => h5.block q hq fun h => hn (.inl h)⟩, .inr h6⟩
end Go.Proofs.Ytpjkhkoecgjjbaa
