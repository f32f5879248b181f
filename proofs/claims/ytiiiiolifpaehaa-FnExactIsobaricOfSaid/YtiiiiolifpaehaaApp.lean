/-
  Appending: one law for every append of the program to a row that the call owns; which block the result lies in.
-/
import Derived.Test.YtiiiiolifpaehaaKII2
namespace Go.Proofs.Ytiiiiolifpaehaa
open Go.RowKit

/-- a slice that was appended to: writes went to its own block or to new ones, and so does the slice that came of it lie -/
structure Grows (w w' : World) (v v' : Value) : Prop where
  grown : w.grownBy w' v.ownBlock
  home : v'.ownBlock = v.ownBlock ∨ ∀ k, v'.ownBlock = some k → w.heap.size ≤ k
theorem Grows.refl (w : World) (v : Value) : Grows w w v v := ⟨⟨rfl, rfl, rfl, Nat.le_refl _, fun _ _ _ => rfl⟩, .inl rfl⟩
theorem Grows.trans {w w1 w2 : World} {v v1 v2 : Value} (h : Grows w w1 v v1) (k : Grows w1 w2 v1 v2) : Grows w w2 v v2 := by
  refine ⟨⟨k.grown.os.trans h.grown.os, k.grown.tape.trans h.grown.tape, k.grown.output.trans h.grown.output, Nat.le_trans h.grown.size k.grown.size, fun i hi hn => ?_⟩, ?_⟩
  · refine (k.grown.block i (Nat.lt_of_lt_of_le hi h.grown.size) ?_).trans (h.grown.block i hi hn)
    rcases h.home with e | e
    · rw [e]; exact hn
    · intro e1; have := e i e1.symm; omega
  · rcases k.home with e | e
    · rw [e]; exact h.home
    · right; intro i hi; exact Nat.le_trans h.grown.size (e i hi)
theorem Grows.of_below {w w1 : World} (v : Value) (h : Below w.heap.size w w1) : Grows w w1 v v := ⟨⟨h.os, h.tape, h.output, h.size, fun k hk _ => h.block k hk⟩, .inl rfl⟩
theorem Grows.below {A : Nat} {wS w w' : World} {v v' : Value} (h : Grows w w' v v') (hb : Below A wS w) (hA : A ≤ w.heap.size) (hv : ∀ k, v.ownBlock = some k → A ≤ k) : Below A wS w' := below_grown hb h.grown hA hv
theorem Grows.only {w w' : World} {v v' : Value} {B S : Nat} (h : Grows w w' v v') (hl : ∀ k, v.ownBlock = some k → B ≤ k) (hh : ∀ k, v.ownBlock = some k → k < S) : Only B S w w' := Only.of_grown h.grown hl hh

theorem ownsRow_base {w : World} {B B' e n : Nat} {v : Value} {vs : List Value} (h : w.ownsRow B e 1 v n vs) (hB : B' ≤ B) : w.ownsRow B' e 1 v n vs := by
  refine ⟨h.1, ?_⟩
  rcases h.2 with h2 | ⟨g, cap, cur, hv, hg, r⟩
  · exact .inl h2
  · exact .inr ⟨g, cap, cur, hv, Nat.le_trans hB hg, r⟩

section
variable {P : Program} (w : World)
theorem run_app (B : Nat) (t ty e : TypeId) (i : TypeInfo) (z : Value) (bytes : Nat) (ht : P.underlying t = some (.slice e)) (hi : P.info? e = some i) (hz : i.zero = some z)
    (hsize : i.size = 1) (hby : i.bytes = bytes) (hzs : z.cells.size = 1)
    (v : Value) (n : Nat) (xs : List Value) (hown : w.ownsRow B e 1 v n xs)
    (a : Option Addr) (m c : Nat) (news : List Value) (hl : news.length = m) (hna : a = none → m = 0) (hnews : ∀ ad, a = some ad → ∀ j u, news[j]? = some u → w.cell? (ad.add j) = some u) (h1 : ∀ u ∈ news, u.oneCell' = true)
    (hn : n + m ≤ 16777216) (hb2 : bytes ≤ 1048576) (hbase : B ≤ w.heap.size) :
    ∃ v' w', (Builtin.append_ #[t, t] ty #[v, .slice a m c]).run P w = .ok v' w' ∧ w'.ownsRow B e 1 v' (n + m) (xs ++ news) ∧ Grows w w' v v' := by
  have hbytes : (n + m) * bytes ≤ 140737488355328 := by have := Nat.mul_le_mul hn hb2; omega
  have h63 : n + m ≤ maxLen := by unfold maxLen; omega
  cases a with
  | none =>
    have hm := hna rfl
    subst hm
    have hne : news = [] := List.eq_nil_of_length_eq_zero hl
    subst hne
    refine ⟨v, w, ?_, by simpa using hown, Grows.refl _ _⟩
    rcases hown.2 with ⟨rfl, rfl⟩ | ⟨g, cap, cur, rfl, _, _, hnc, _⟩
    · simp [Builtin.append_, run_underlying ht, sizeOf, typeInfo, hi, Builtin.lenOf, Builtin.firstCells]
    · simp [Builtin.append_, run_underlying ht, sizeOf, typeInfo, hi, Builtin.lenOf, Builtin.firstCells, hnc, storeCells]
  | some ad =>
    have hnw := hnews ad rfl
    have hl' : news.length = m * 1 := by omega
    rcases hown.2 with ⟨rfl, rfl⟩ | ⟨g, cap, cur, rfl, hbg, hg, hnc, hcm, hcs, htake⟩
    · have hx : xs = [] := List.eq_nil_of_length_eq_zero (by simpa using hown.1)
      subst hx
      obtain ⟨v', w', hr, ho, hgr, _⟩ := run_append_own (P := P) w w.heap.size t ty e i z 1 bytes ht hi hz hsize hby hzs (by decide) (.slice none 0 0) 0 [] (World.ownsRow_nil _ _ _ _) ad m c news hl' hnw h1 h63 hbytes (Nat.le_refl _)
      exact ⟨v', w', hr, ownsRow_base ho hbase, hgr, .inr (fun k hk => (ho.lt k hk).1)⟩
    · obtain ⟨v', w', hr, ho, hgr, _⟩ := run_append_own (P := P) w B t ty e i z 1 bytes ht hi hz hsize hby hzs (by decide) (.slice (some ⟨g, 0, none⟩) n cap) n xs hown ad m c news hl' hnw h1 h63 hbytes hbase
      refine ⟨v', w', hr, ho, hgr, ?_⟩
      by_cases hroom : n + m ≤ cap
      · obtain ⟨w2, hr2, _⟩ := run_append_fits (P := P) w B t ty e i 1 ht hi hsize g n cap xs hown ad m c news hl' hnw h1 hroom
        rw [hr] at hr2
        left
        simp only [Result.ok.injEq] at hr2
        rw [hr2.1]; rfl
      · have holds : ∀ j u, xs[j]? = some u → w.cell? ((⟨g, 0, none⟩ : Addr).add j) = some u := hown.cells (g := g) rfl
        have hr2 := run_append_grow (P := P) (ty := ty) w t e i z ht hi hz ⟨g, 0, none⟩ n cap xs (by rw [hsize]; exact hown.1) holds ad m c news (by rw [hsize]; exact hl') hnw (by omega) (by omega) (growslice_fits (by omega) (by rw [hby]; exact hbytes))
        rw [hr] at hr2
        right
        simp only [Result.ok.injEq] at hr2
        rw [hr2.1]
        intro k hk
        simp [Value.ownBlock] at hk
        omega
end
theorem wpList_app {P : Program} (w : World) {ops : Array Oper} {rest : List Oper} {o : Oper} {ac : Act} {Q : Exit → Act → World → Prop} (hgd : o.guard = none) (s x : Operand) (t : TypeId)
    (ho : o.op = .call { callee := .builtin .append, args := #[s, x], argTypes := #[t, t] })
    (B : Nat) (e : TypeId) (i : TypeInfo) (z : Value) (bytes : Nat) (ht : P.underlying t = some (.slice e)) (hi : P.info? e = some i) (hz : i.zero = some z)
    (hsize : i.size = 1) (hby : i.bytes = bytes) (hzs : z.cells.size = 1)
    (v : Value) (n : Nat) (xs : List Value) (hs : ac.eval s = v) (hown : w.ownsRow B e 1 v n xs)
    (a : Option Addr) (m c : Nat) (news : List Value) (hx : ac.eval x = .slice a m c) (hl : news.length = m) (hna : a = none → m = 0) (hnews : ∀ ad, a = some ad → ∀ j u, news[j]? = some u → w.cell? (ad.add j) = some u) (h1 : ∀ u ∈ news, u.oneCell' = true)
    (hn : n + m ≤ 16777216) (hb2 : bytes ≤ 1048576) (hbase : B ≤ w.heap.size)
    (h : ∀ a' c' w', w'.ownsRow B e 1 (.slice a' (n + m) c') (n + m) (xs ++ news) → Grows w w' v (.slice a' (n + m) c') → wpList P ops Q rest (ac.put o.dst (.slice a' (n + m) c')) w') :
    wpList P ops Q (o :: rest) ac w :=
  wpList_plain hgd fun _ hK => by
    obtain ⟨v', w', hr, h2, h3⟩ := run_app (P := P) w B t o.type e i z bytes ht hi hz hsize hby hzs v n xs hown a m c news hl hna hnews h1 hn hb2 hbase
    obtain ⟨a', c', rfl, _⟩ := slice_of h2
    unfold Oper.wp execOp
    simp only [ho, resolve, invoke, builtin, Sem.run_bind, Sem.run_pure, Result.andThen_ok, List.map_toArray, List.map_cons, List.map_nil, hs, hx, hr]
    exact hK _ _ (h a' c' w' h2 h3)

theorem ints_one (xs : List Int) : ∀ u ∈ ints xs, u.oneCell' = true := by
  intro u hu; simp [ints] at hu; obtain ⟨x, _, rfl⟩ := hu; rfl
theorem RI.cells {w : World} {a : Option Addr} {xs : List Int} (h : RI w a xs) : ∀ ad, a = some ad → ∀ j u, (ints xs)[j]? = some u → w.cell? (ad.add j) = some u := by
  intro ad had j u hu
  simp only [ints, List.getElem?_map, Option.map_eq_some_iff] at hu
  obtain ⟨x, hx, rfl⟩ := hu
  obtain ⟨b, off, ha, hc⟩ := h.at (lt_of_some hx)
  rw [had] at ha
  obtain rfl := Option.some.inj ha
  have := hc j x hx
  rw [show (⟨b, off, none⟩ : Addr).add j = ⟨b, off + j, none⟩ from by unfold Addr.add; split <;> simp_all]
  exact this
theorem OwI.mk {w : World} {B : Nat} {a : Option Addr} {n c : Nat} {xs : List Int} (h : w.ownsRow B 3 1 (.slice a n c) n (ints xs)) : OwI w B w.heap.size a n c xs := OwI.of (OS.of h)
theorem OwI.own {w : World} {B S : Nat} {a : Option Addr} {n c : Nat} {xs : List Int} (h : OwI w B S a n c xs) : w.ownsRow B 3 1 (.slice a n c) n (ints xs) := h.1.own

/-- append of one number: 'append(out, x)' -/
theorem wpList_pushI {w : World} {W : World} {x0 : Int} (hW : W = w.alloc (.cells #[.int .i64 x0] 3)) {ops : Array Oper} {rest : List Oper} {o : Oper} {ac : Act} {Q : Exit → Act → World → Prop} (hgd : o.guard = none) (s x : Operand)
    (ho : o.op = .call { callee := .builtin .append, args := #[s, x], argTypes := #[22, 22] })
    {B S : Nat} {a : Option Addr} {n c : Nat} {xs : List Int} (hown : OwI w B S a n c xs) (hs : ac.eval s = .slice a n c)
    (hx : ac.eval x = .slice (some ⟨w.heap.size, 0, none⟩) 1 1) (hn : n + 1 ≤ 16777216) (hbase : B ≤ w.heap.size)
    (h : ∀ a' c' w', OwI w' B w'.heap.size a' (n + 1) c' (xs ++ [x0]) → Grows w w' (.slice a n c) (.slice a' (n + 1) c') → wpList Try.prog ops Q rest (ac.put o.dst (.slice a' (n + 1) c')) w') :
    wpList Try.prog ops Q (o :: rest) ac W := by
  subst hW
  obtain ⟨i0, hi, hz0, hz1, hz2⟩ := info_parts Try.info3
  refine wpList_app _ hgd s x 22 ho B 3 i0 (.int .i64 0) 8 Try.underlying22 hi hz0 hz1 hz2 rfl _ n (ints xs) hs (hown.own.alloc _) _ 1 1 [.int .i64 x0] hx rfl (by simp) ?_ ?_ hn (by omega) (by simp; omega) ?_
  · intro ad had j u hu
    obtain rfl := Option.some.inj had
    match j, hu with
    | 0, hu => simp at hu; subst hu; simp [Addr.add]
  · intro u hu; simp at hu; subst hu; rfl
  · intro a' c' w' h2 h3
    refine h a' c' w' (OwI.mk (by simpa [ints] using h2)) ((Grows.of_below _ ((Below.refl _ _).alloc (Nat.le_refl _) _)).trans h3)
/-- append of a list: 'append(out, l...)' -/
theorem wpList_appI {w : World} {ops : Array Oper} {rest : List Oper} {o : Oper} {ac : Act} {Q : Exit → Act → World → Prop} (hgd : o.guard = none) (s x : Operand)
    (ho : o.op = .call { callee := .builtin .append, args := #[s, x], argTypes := #[22, 22] })
    {B S : Nat} {a : Option Addr} {n c : Nat} {xs : List Int} (hown : OwI w B S a n c xs) (hs : ac.eval s = .slice a n c)
    {b : Option Addr} {m d : Nat} {ys : List Int} (hr : RI w b ys) (hm : ys.length = m) (hx : ac.eval x = .slice b m d) (hn : n + m ≤ 16777216) (hbase : B ≤ w.heap.size)
    (h : ∀ a' c' w', OwI w' B w'.heap.size a' (n + m) c' (xs ++ ys) → Grows w w' (.slice a n c) (.slice a' (n + m) c') → wpList Try.prog ops Q rest (ac.put o.dst (.slice a' (n + m) c')) w') :
    wpList Try.prog ops Q (o :: rest) ac w := by
  obtain ⟨i0, hi, hz0, hz1, hz2⟩ := info_parts Try.info3
  refine wpList_app _ hgd s x 22 ho B 3 i0 (.int .i64 0) 8 Try.underlying22 hi hz0 hz1 hz2 rfl _ n (ints xs) hs hown.own b m d (ints ys) hx (by simp [ints, hm]) ?_ hr.cells (ints_one _) hn (by omega) hbase ?_
  · intro hb
    rcases hr with rfl | ⟨_, _, hb', _⟩
    · simpa using hm.symm
    · rw [hb] at hb'; cases hb'
  · intro a' c' w' h2 h3
    refine h a' c' w' (OwI.mk (by simpa [ints] using h2)) h3

/-- rows of integers, each in a block of the call's own (two may share one) -/
structure InnerS (w : World) (B S : Nat) (vs : List Value) (xss : List (List Int)) : Prop where
  len : vs.length = xss.length
  each : ∀ (k : Nat) (xs : List Int), xss[k]? = some xs → ∃ (a : Option Addr) (c : Nat), vs[k]? = some (Value.slice a xs.length c) ∧ OwI w B S a xs.length c xs
def IIS (w : World) (B S : Nat) (a : Option Addr) (n c : Nat) (xss : List (List Int)) : Prop :=
  ∃ vs, w.ownsRow B 22 1 (.slice a n c) n vs ∧ (∀ k, (Value.slice a n c).ownBlock = some k → k < S) ∧ InnerS w B S vs xss
theorem IIO.toS {w : World} {B S : Nat} {a : Option Addr} {n c : Nat} {xss : List (List Int)} (h : IIO w B S a n c xss) : IIS w B S a n c xss := by
  obtain ⟨vs, h1, h2, h3⟩ := h
  exact ⟨vs, h1, h2, h3.len, h3.each⟩
theorem IIS.len {w : World} {B S : Nat} {a : Option Addr} {n c : Nat} {xss : List (List Int)} (h : IIS w B S a n c xss) : xss.length = n := by
  obtain ⟨vs, h1, _, h3⟩ := h
  rw [← h3.len]; have := h1.1; omega
theorem IIS.rd {w : World} {B S : Nat} {a : Option Addr} {n c : Nat} {xss : List (List Int)} (h : IIS w B S a n c xss) : RII w a xss := by
  obtain ⟨vs, h1, _, h3⟩ := h
  rcases ownsRow_shape h1 with ⟨_, _, _, hv⟩ | ⟨g, rfl, _, _, hc, _⟩
  · left
    have := h3.len
    rw [hv] at this
    exact List.eq_nil_of_length_eq_zero this.symm
  · refine .inr ⟨g, 0, rfl, fun k xs hx => ?_⟩
    obtain ⟨a', c', hk, ho⟩ := h3.each k xs hx
    exact ⟨a', c', by rw [Nat.zero_add]; exact hc k _ hk, ho.rd⟩
theorem IIS.only {w w' : World} {B S B' S' : Nat} {a : Option Addr} {n c : Nat} {xss : List (List Int)} (h : IIS w B S a n c xss) (ho : Only B' S' w w') (hd : S ≤ B' ∨ S' ≤ B) : IIS w' B S a n c xss := by
  obtain ⟨vs, h1, h2, h3⟩ := h
  exact ⟨vs, ownsRow_only h1 h2 ho hd, h2, h3.len, fun k xs hx => by obtain ⟨a, c, h1, h2⟩ := h3.each k xs hx; exact ⟨a, c, h1, h2.only ho hd⟩⟩
theorem IIS.below {w w' : World} {B S : Nat} {a : Option Addr} {n c : Nat} {xss : List (List Int)} (h : IIS w B S a n c xss) (hb : Below w.heap.size w w') : IIS w' B S a n c xss := h.only (Only.of_below hb) (.inr (Nat.zero_le _))
theorem IIS.mono {w : World} {B S S' : Nat} {a : Option Addr} {n c : Nat} {xss : List (List Int)} (h : IIS w B S a n c xss) (hS : S ≤ S') : IIS w B S' a n c xss := by
  obtain ⟨vs, h1, h2, h3⟩ := h
  exact ⟨vs, h1, fun k hk => Nat.lt_of_lt_of_le (h2 k hk) hS, h3.len, fun k xs hx => by obtain ⟨a, c, h1, h2⟩ := h3.each k xs hx; exact ⟨a, c, h1, h2.1, fun k hk => Nat.lt_of_lt_of_le (h2.2 k hk) hS⟩⟩
theorem OwI.mono {w : World} {B S B' S' : Nat} {a : Option Addr} {n c : Nat} {xs : List Int} (h : OwI w B S a n c xs) (hB : B' ≤ B) (hS : S ≤ S') : OwI w B' S' a n c xs :=
  ⟨OS.of (ownsRow_base h.own hB), fun k hk => Nat.lt_of_lt_of_le (h.2 k hk) hS⟩
theorem IIO.mono {w : World} {B S S' : Nat} {a : Option Addr} {n c : Nat} {xss : List (List Int)} (h : IIO w B S a n c xss) (hS : S ≤ S') : IIO w B S' a n c xss := by
  obtain ⟨vs, h1, h2, h3⟩ := h
  exact ⟨vs, h1, fun k hk => Nat.lt_of_lt_of_le (h2 k hk) hS, h3.len, fun k xs hx => by obtain ⟨a, c, h1, h2⟩ := h3.each k xs hx; exact ⟨a, c, h1, h2.mono (Nat.le_refl _) hS⟩, h3.apart⟩
theorem OwI.grows {w w' : World} {B S B' n m : Nat} {a b : Option Addr} {c d : Nat} {xs : List Int} {vs : List Value} {v' : Value} (h : OwI w B S a n c xs) (hg : Grows w w' (.slice b m d) v') (ho : w.ownsRow B' 22 1 (.slice b m d) m vs) : OwI w' B S a n c xs :=
  ⟨h.1.kept hg.grown (fun k hk e => ne_block ho h k e hk), h.2⟩

/-- append of a row of integers: 'append(out, l)' -/
theorem wpList_pushIIS {w : World} {W : World} {b : Option Addr} {m d : Nat} (hW : W = w.alloc (.cells #[.slice b m d] 22)) {ops : Array Oper} {rest : List Oper} {o : Oper} {ac : Act} {Q : Exit → Act → World → Prop} (hgd : o.guard = none) (s x : Operand)
    (ho : o.op = .call { callee := .builtin .append, args := #[s, x], argTypes := #[45, 45] })
    {B S : Nat} {a : Option Addr} {n c : Nat} {xss : List (List Int)} (hown : IIS w B S a n c xss) (hs : ac.eval s = .slice a n c)
    {ys : List Int} {S' : Nat} (hr : OwI w B S' b m d ys) (hx : ac.eval x = .slice (some ⟨w.heap.size, 0, none⟩) 1 1) (hn : n + 1 ≤ 16777216) (hbase : B ≤ w.heap.size) (hS : S ≤ w.heap.size) (hS' : S' ≤ w.heap.size)
    (h : ∀ a' c' w', IIS w' B w'.heap.size a' (n + 1) c' (xss ++ [ys]) → Grows w w' (.slice a n c) (.slice a' (n + 1) c') → wpList Try.prog ops Q rest (ac.put o.dst (.slice a' (n + 1) c')) w') :
    wpList Try.prog ops Q (o :: rest) ac W := by
  subst hW
  obtain ⟨i0, hi, hz0, hz1, hz2⟩ := info_parts Try.info22
  obtain ⟨vs, h1, h2, h3⟩ := hown
  have hlen := hr.len
  refine wpList_app _ hgd s x 45 ho B 22 i0 (.slice none 0 0) 24 Try.underlying45 hi hz0 hz1 hz2 rfl _ n vs hs (h1.alloc _) _ 1 1 [.slice b m d] hx rfl (by simp) ?_ ?_ hn (by omega) (by simp; omega) ?_
  · intro ad had j u hu
    obtain rfl := Option.some.inj had
    match j, hu with
    | 0, hu => simp at hu; subst hu; simp [Addr.add]
  · intro u hu; simp at hu; subst hu; rfl
  · intro a' c' w' h4 h5
    have hb0 : Below w.heap.size w (w.alloc (.cells #[.slice b m d] 22)) := (Below.refl _ _).alloc (Nat.le_refl _) _
    have hg := (Grows.of_below (.slice a n c) hb0).trans h5
    have hsz := hg.grown.size
    refine h a' c' w' ⟨vs ++ [.slice b m d], h4, fun k hk => (h4.lt k hk).2, by simp [h3.len], fun k zs hz => ?_⟩ hg
    rcases Nat.lt_or_ge k xss.length with hk | hk
    · rw [List.getElem?_append_left hk] at hz
      obtain ⟨a2, c2, e1, e2⟩ := h3.each k zs hz
      exact ⟨a2, c2, by rw [List.getElem?_append_left (by rw [h3.len]; exact hk)]; exact e1, (e2.grows hg h1).mono (Nat.le_refl _) (by omega)⟩
    · rw [List.getElem?_append_right hk] at hz
      have hk0 : k - xss.length = 0 := by have := lt_of_some hz; simp at this; omega
      rw [hk0] at hz
      obtain rfl : ys = zs := by simpa using hz
      refine ⟨b, d, by rw [List.getElem?_append_right (by rw [h3.len]; exact hk), h3.len, hk0, hlen]; rfl, ?_⟩
      rw [hlen]
      exact (hr.grows hg h1).mono (Nat.le_refl _) (by omega)
/-- the same where the row that is appended lies in a newer block than all that are there -/
theorem wpList_pushII {w : World} {W : World} {b : Option Addr} {m d : Nat} (hW : W = w.alloc (.cells #[.slice b m d] 22)) {ops : Array Oper} {rest : List Oper} {o : Oper} {ac : Act} {Q : Exit → Act → World → Prop} (hgd : o.guard = none) (s x : Operand)
    (ho : o.op = .call { callee := .builtin .append, args := #[s, x], argTypes := #[45, 45] })
    {B S : Nat} {a : Option Addr} {n c : Nat} {xss : List (List Int)} (hown : IIO w B S a n c xss) (hs : ac.eval s = .slice a n c)
    {ys : List Int} {S' : Nat} (hr : OwI w S S' b m d ys) (hBS : B ≤ S) (hx : ac.eval x = .slice (some ⟨w.heap.size, 0, none⟩) 1 1) (hn : n + 1 ≤ 16777216) (hbase : B ≤ w.heap.size) (hS : S ≤ w.heap.size) (hS' : S' ≤ w.heap.size)
    (h : ∀ a' c' w', IIO w' B w'.heap.size a' (n + 1) c' (xss ++ [ys]) → Grows w w' (.slice a n c) (.slice a' (n + 1) c') → wpList Try.prog ops Q rest (ac.put o.dst (.slice a' (n + 1) c')) w') :
    wpList Try.prog ops Q (o :: rest) ac W := by
  subst hW
  obtain ⟨i0, hi, hz0, hz1, hz2⟩ := info_parts Try.info22
  obtain ⟨vs, h1, h2, h3⟩ := hown
  have hlen := hr.len
  refine wpList_app _ hgd s x 45 ho B 22 i0 (.slice none 0 0) 24 Try.underlying45 hi hz0 hz1 hz2 rfl _ n vs hs (h1.alloc _) _ 1 1 [.slice b m d] hx rfl (by simp) ?_ ?_ hn (by omega) (by simp; omega) ?_
  · intro ad had j u hu
    obtain rfl := Option.some.inj had
    match j, hu with
    | 0, hu => simp at hu; subst hu; simp [Addr.add]
  · intro u hu; simp at hu; subst hu; rfl
  · intro a' c' w' h4 h5
    have hb0 : Below w.heap.size w (w.alloc (.cells #[.slice b m d] 22)) := (Below.refl _ _).alloc (Nat.le_refl _) _
    have hg := (Grows.of_below (.slice a n c) hb0).trans h5
    have hsz := hg.grown.size
    have hold : ∀ (k : Nat) (v : Value), vs[k]? = some v → ∀ q, v.ownBlock = some q → q < S := by
      intro k v hv q hq
      have hk : k < xss.length := by rw [← h3.len]; exact lt_of_some hv
      obtain ⟨zs, hz⟩ := some_of hk
      obtain ⟨a2, c2, e1, e2⟩ := h3.each k zs hz
      rw [hv] at e1
      obtain rfl := Option.some.inj e1
      exact e2.2 q hq
    have hnew : ∀ q, (Value.slice b m d).ownBlock = some q → S ≤ q := hr.1.lo
    refine h a' c' w' ⟨vs ++ [.slice b m d], h4, fun k hk => (h4.lt k hk).2, by simp [h3.len], fun k zs hz => ?_, ?_⟩ hg
    · rcases Nat.lt_or_ge k xss.length with hk | hk
      · rw [List.getElem?_append_left hk] at hz
        obtain ⟨a2, c2, e1, e2⟩ := h3.each k zs hz
        exact ⟨a2, c2, by rw [List.getElem?_append_left (by rw [h3.len]; exact hk)]; exact e1, (e2.grows hg h1).mono (Nat.le_refl _) (by omega)⟩
      · rw [List.getElem?_append_right hk] at hz
        have hk0 : k - xss.length = 0 := by have := lt_of_some hz; simp at this; omega
        rw [hk0] at hz
        obtain rfl : ys = zs := by simpa using hz
        refine ⟨b, d, by rw [List.getElem?_append_right (by rw [h3.len]; exact hk), h3.len, hk0, hlen]; rfl, ?_⟩
        rw [hlen]
        exact (hr.grows hg h1).mono hBS (by omega)
    · intro i j u v g hu hv hug hvg
      rcases Nat.lt_or_ge i vs.length with hi | hi <;> rcases Nat.lt_or_ge j vs.length with hj | hj
      · rw [List.getElem?_append_left hi] at hu
        rw [List.getElem?_append_left hj] at hv
        exact h3.apart i j u v g hu hv hug hvg
      · rw [List.getElem?_append_left hi] at hu
        rw [List.getElem?_append_right hj] at hv
        have hj0 : j - vs.length = 0 := by have := lt_of_some hv; simp at this; omega
        rw [hj0] at hv
        obtain rfl : Value.slice b m d = v := by simpa using hv
        have := hold i u hu g hug
        have := hnew g hvg
        omega
      · rw [List.getElem?_append_right hi] at hu
        rw [List.getElem?_append_left hj] at hv
        have hi0 : i - vs.length = 0 := by have := lt_of_some hu; simp at this; omega
        rw [hi0] at hu
        obtain rfl : Value.slice b m d = u := by simpa using hu
        have := hold j v hv g hvg
        have := hnew g hug
        omega
      · rw [List.getElem?_append_right hi] at hu
        rw [List.getElem?_append_right hj] at hv
        have := lt_of_some hu
        have := lt_of_some hv
        simp at *
        omega
theorem IIO.nil {w : World} {B S : Nat} : IIO w B S none 0 0 [] := ⟨[], World.ownsRow_nil _ _ _ _, by simp [Value.ownBlock], rfl, by simp, by simp⟩
end Go.Proofs.Ytiiiiolifpaehaa
