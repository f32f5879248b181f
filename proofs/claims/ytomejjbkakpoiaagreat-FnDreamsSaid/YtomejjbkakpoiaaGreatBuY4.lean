/-
  Slices of slices of cells whose rows may share a block; append of a row.
  Contracts of l1Less, slices.Compare and cmp.Compare: the order of lists of integers.
  The order of lists of numbers: plain.
  Contract of l1In.
-/
import Derived.Test.YtomejjbkakpoiaaGreatKCC2
import Derived.Test.YtomejjbkakpoiaaGreatApp
import Derived.Test.YtomejjbkakpoiaaGreatBase
namespace Go.Proofs.YtomejjbkakpoiaaGreat
open Go.RowKit

/-- rows of integers, each in a block of the call's own (two may share one) -/
structure InnerCS (w : World) (B S : Nat) (vs : List Value) (xss : List (List (Int × Int))) : Prop where
  len : vs.length = xss.length
  each : ∀ (k : Nat) (xs : List (Int × Int)), xss[k]? = some xs → ∃ (a : Option Addr) (c : Nat), vs[k]? = some (Value.slice a xs.length c) ∧ CO w B S a xs.length c xs
def CCS (w : World) (B S : Nat) (a : Option Addr) (n c : Nat) (xss : List (List (Int × Int))) : Prop :=
  ∃ vs, w.ownsRow B 33 1 (.slice a n c) n vs ∧ (∀ k, (Value.slice a n c).ownBlock = some k → k < S) ∧ InnerCS w B S vs xss
theorem CCO.toS {w : World} {B S : Nat} {a : Option Addr} {n c : Nat} {xss : List (List (Int × Int))} (h : CCO w B S a n c xss) : CCS w B S a n c xss := by
  obtain ⟨vs, h1, h2, h3⟩ := h
  exact ⟨vs, h1, h2, h3.len, h3.each⟩
theorem CCS.len {w : World} {B S : Nat} {a : Option Addr} {n c : Nat} {xss : List (List (Int × Int))} (h : CCS w B S a n c xss) : xss.length = n := by
  obtain ⟨vs, h1, _, h3⟩ := h
  rw [← h3.len]; have := h1.1; omega
theorem CCS.rd {w : World} {B S : Nat} {a : Option Addr} {n c : Nat} {xss : List (List (Int × Int))} (h : CCS w B S a n c xss) : RCC w a xss := by
  obtain ⟨vs, h1, _, h3⟩ := h
  rcases ownsRow_shape h1 with ⟨_, _, _, hv⟩ | ⟨g, rfl, _, _, hc, _⟩
  · left
    have := h3.len
    rw [hv] at this
    exact List.eq_nil_of_length_eq_zero this.symm
  · refine .inr ⟨g, 0, rfl, fun k xs hx => ?_⟩
    obtain ⟨a', c', hk, ho⟩ := h3.each k xs hx
    exact ⟨a', c', by rw [Nat.zero_add]; exact hc k _ hk, ho.rd⟩
theorem CCS.only {w w' : World} {B S B' S' : Nat} {a : Option Addr} {n c : Nat} {xss : List (List (Int × Int))} (h : CCS w B S a n c xss) (ho : Only B' S' w w') (hd : S ≤ B' ∨ S' ≤ B) : CCS w' B S a n c xss := by
  obtain ⟨vs, h1, h2, h3⟩ := h
  exact ⟨vs, ownsRow_only h1 h2 ho hd, h2, h3.len, fun k xs hx => by obtain ⟨a, c, h1, h2⟩ := h3.each k xs hx; exact ⟨a, c, h1, h2.only ho hd⟩⟩
theorem CCS.below {w w' : World} {B S : Nat} {a : Option Addr} {n c : Nat} {xss : List (List (Int × Int))} (h : CCS w B S a n c xss) (hb : Below w.heap.size w w') : CCS w' B S a n c xss := h.only (Only.of_below hb) (.inr (Nat.zero_le _))
theorem CCS.mono {w : World} {B S S' : Nat} {a : Option Addr} {n c : Nat} {xss : List (List (Int × Int))} (h : CCS w B S a n c xss) (hS : S ≤ S') : CCS w B S' a n c xss := by
  obtain ⟨vs, h1, h2, h3⟩ := h
  exact ⟨vs, h1, fun k hk => Nat.lt_of_lt_of_le (h2 k hk) hS, h3.len, fun k xs hx => by obtain ⟨a, c, h1, h2⟩ := h3.each k xs hx; exact ⟨a, c, h1, h2.1, fun k hk => Nat.lt_of_lt_of_le (h2.2 k hk) hS⟩⟩
theorem CCO.mono {w : World} {B S S' : Nat} {a : Option Addr} {n c : Nat} {xss : List (List (Int × Int))} (h : CCO w B S a n c xss) (hS : S ≤ S') : CCO w B S' a n c xss := by
  obtain ⟨vs, h1, h2, h3⟩ := h
  exact ⟨vs, h1, fun k hk => Nat.lt_of_lt_of_le (h2 k hk) hS, h3.len, fun k xs hx => by obtain ⟨a, c, h1, h2⟩ := h3.each k xs hx; exact ⟨a, c, h1, h2.mono (Nat.le_refl _) hS⟩, h3.apart⟩
theorem CO.grows {w w' : World} {B S B' n m : Nat} {a b : Option Addr} {c d : Nat} {xs : List (Int × Int)} {vs : List Value} {v' : Value} (h : CO w B S a n c xs) (hg : Grows w w' (.slice b m d) v') (ho : w.ownsRow B' 33 1 (.slice b m d) m vs) : CO w' B S a n c xs :=
  h.kept hg.grown (fun k hk e => neC_block ho h k e hk)

/-- append of a row of integers: 'append(out, l)' -/
theorem wpList_pushCCS {w : World} {W : World} {b : Option Addr} {m d : Nat} (hW : W = w.alloc (.cells #[.slice b m d] 33)) {ops : Array Oper} {rest : List Oper} {o : Oper} {ac : Act} {Q : Exit → Act → World → Prop} (hgd : o.guard = none) (s x : Operand)
    (ho : o.op = .call { callee := .builtin .append, args := #[s, x], argTypes := #[27, 27] })
    {B S : Nat} {a : Option Addr} {n c : Nat} {xss : List (List (Int × Int))} (hown : CCS w B S a n c xss) (hs : ac.eval s = .slice a n c)
    {ys : List (Int × Int)} {S' : Nat} (hr : CO w B S' b m d ys) (hx : ac.eval x = .slice (some ⟨w.heap.size, 0, none⟩) 1 1) (hn : n + 1 ≤ 16777216) (hbase : B ≤ w.heap.size) (hS : S ≤ w.heap.size) (hS' : S' ≤ w.heap.size)
    (h : ∀ a' c' w', CCS w' B w'.heap.size a' (n + 1) c' (xss ++ [ys]) → Grows w w' (.slice a n c) (.slice a' (n + 1) c') → wpList Tryz.prog ops Q rest (ac.put o.dst (.slice a' (n + 1) c')) w') :
    wpList Tryz.prog ops Q (o :: rest) ac W := by
  subst hW
  obtain ⟨i0, hi, hz0, hz1, hz2⟩ := info_parts Tryz.info33
  obtain ⟨vs, h1, h2, h3⟩ := hown
  have hlen := hr.len
  refine wpList_app _ hgd s x 27 ho B 33 i0 (.slice none 0 0) 24 Tryz.underlying27 hi hz0 hz1 hz2 rfl _ n vs hs (h1.alloc _) _ 1 1 [.slice b m d] hx rfl (by simp) ?_ ?_ hn (by omega) (by simp; omega) ?_
  · intro ad had j u hu
    obtain rfl := Option.some.inj had
    match j, hu with
    | 0, hu => simp at hu; subst hu; simp [Addr.add]
  · intro u hu; simp at hu; subst hu; rfl
  · intro a' c' w' h4 h5
    have hb0 : Below w.heap.size w (w.alloc (.cells #[.slice b m d] 33)) := (Below.refl _ _).alloc (Nat.le_refl _) _
    have hg := (Grows.of_below (.slice a n c) hb0).trans h5
    have hsz := hg.grown.size
    refine h a' c' w' ⟨vs ++ [.slice b m d], h4, fun k hk => (h4.lt k hk).2, by simp [h3.len], fun k zs hz => ?_⟩ hg
    rcases Nat.lt_or_ge k xss.length with hk | hk
    · rw [List.getElem?_append_left hk] at hz
      obtain ⟨a2, c2, e1, e2⟩ := h3.each k zs hz
      exact ⟨a2, c2, by rw [List.getElem?_append_left (by rw [h3.len]; exact hk)]; exact e1, (e2.grows hg h1).mono (Nat.le_refl _) (by omega)⟩
    · rw [List.getElem?_append_right hk] at hz
      have hk0 : k - xss.length = 0 := by have := lt_of_some hz; simp at this; omega
      rw [hk0] at hz
      obtain rfl : ys = zs := by simpa using hz
      refine ⟨b, d, by rw [List.getElem?_append_right (by rw [h3.len]; exact hk), h3.len, hk0, hlen]; rfl, ?_⟩
      rw [hlen]
      exact (hr.grows hg h1).mono (Nat.le_refl _) (by omega)
/-- the same where the row that is appended lies in a newer block than all that are there -/
theorem wpList_pushCC {w : World} {W : World} {b : Option Addr} {m d : Nat} (hW : W = w.alloc (.cells #[.slice b m d] 33)) {ops : Array Oper} {rest : List Oper} {o : Oper} {ac : Act} {Q : Exit → Act → World → Prop} (hgd : o.guard = none) (s x : Operand)
    (ho : o.op = .call { callee := .builtin .append, args := #[s, x], argTypes := #[27, 27] })
    {B S : Nat} {a : Option Addr} {n c : Nat} {xss : List (List (Int × Int))} (hown : CCO w B S a n c xss) (hs : ac.eval s = .slice a n c)
    {ys : List (Int × Int)} {S' : Nat} (hr : CO w S S' b m d ys) (hBS : B ≤ S) (hx : ac.eval x = .slice (some ⟨w.heap.size, 0, none⟩) 1 1) (hn : n + 1 ≤ 16777216) (hbase : B ≤ w.heap.size) (hS : S ≤ w.heap.size) (hS' : S' ≤ w.heap.size)
    (h : ∀ a' c' w', CCO w' B w'.heap.size a' (n + 1) c' (xss ++ [ys]) → Grows w w' (.slice a n c) (.slice a' (n + 1) c') → wpList Tryz.prog ops Q rest (ac.put o.dst (.slice a' (n + 1) c')) w') :
    wpList Tryz.prog ops Q (o :: rest) ac W := by
  subst hW
  obtain ⟨i0, hi, hz0, hz1, hz2⟩ := info_parts Tryz.info33
  obtain ⟨vs, h1, h2, h3⟩ := hown
  have hlen := hr.len
  refine wpList_app _ hgd s x 27 ho B 33 i0 (.slice none 0 0) 24 Tryz.underlying27 hi hz0 hz1 hz2 rfl _ n vs hs (h1.alloc _) _ 1 1 [.slice b m d] hx rfl (by simp) ?_ ?_ hn (by omega) (by simp; omega) ?_
  · intro ad had j u hu
    obtain rfl := Option.some.inj had
    match j, hu with
    | 0, hu => simp at hu; subst hu; simp [Addr.add]
  · intro u hu; simp at hu; subst hu; rfl
  · intro a' c' w' h4 h5
    have hb0 : Below w.heap.size w (w.alloc (.cells #[.slice b m d] 33)) := (Below.refl _ _).alloc (Nat.le_refl _) _
    have hg := (Grows.of_below (.slice a n c) hb0).trans h5
    have hsz := hg.grown.size
    have hold : ∀ (k : Nat) (v : Value), vs[k]? = some v → ∀ q, v.ownBlock = some q → q < S := by
      intro k v hv q hq
      have hk : k < xss.length := by rw [← h3.len]; exact lt_of_some hv
      obtain ⟨zs, hz⟩ := some_of hk
      obtain ⟨a2, c2, e1, e2⟩ := h3.each k zs hz
      rw [hv] at e1
      obtain rfl := Option.some.inj e1
      exact e2.2 q hq
    have hnew : ∀ q, (Value.slice b m d).ownBlock = some q → S ≤ q := hr.lo
    refine h a' c' w' ⟨vs ++ [.slice b m d], h4, fun k hk => (h4.lt k hk).2, by simp [h3.len], fun k zs hz => ?_, ?_⟩ hg
    · rcases Nat.lt_or_ge k xss.length with hk | hk
      · rw [List.getElem?_append_left hk] at hz
        obtain ⟨a2, c2, e1, e2⟩ := h3.each k zs hz
        exact ⟨a2, c2, by rw [List.getElem?_append_left (by rw [h3.len]; exact hk)]; exact e1, (e2.grows hg h1).mono (Nat.le_refl _) (by omega)⟩
      · rw [List.getElem?_append_right hk] at hz
        have hk0 : k - xss.length = 0 := by have := lt_of_some hz; simp at this; omega
        rw [hk0] at hz
        obtain rfl : ys = zs := by simpa using hz
        refine ⟨b, d, by rw [List.getElem?_append_right (by rw [h3.len]; exact hk), h3.len, hk0, hlen]; rfl, ?_⟩
        rw [hlen]
        exact (hr.grows hg h1).mono hBS (by omega)
    · intro i j u v g hu hv hug hvg
      rcases Nat.lt_or_ge i vs.length with hi | hi <;> rcases Nat.lt_or_ge j vs.length with hj | hj
      · rw [List.getElem?_append_left hi] at hu
        rw [List.getElem?_append_left hj] at hv
        exact h3.apart i j u v g hu hv hug hvg
      · rw [List.getElem?_append_left hi] at hu
        rw [List.getElem?_append_right hj] at hv
        have hj0 : j - vs.length = 0 := by have := lt_of_some hv; simp at this; omega
        rw [hj0] at hv
        obtain rfl : Value.slice b m d = v := by simpa using hv
        have := hold i u hu g hug
        have := hnew g hvg
        omega
      · rw [List.getElem?_append_right hi] at hu
        rw [List.getElem?_append_left hj] at hv
        have hi0 : i - vs.length = 0 := by have := lt_of_some hu; simp at this; omega
        rw [hi0] at hu
        obtain rfl : Value.slice b m d = u := by simpa using hu
        have := hold j v hv g hvg
        have := hnew g hug
        omega
      · rw [List.getElem?_append_right hi] at hu
        rw [List.getElem?_append_right hj] at hv
        have := lt_of_some hu
        have := lt_of_some hv
        simp at *
        omega
theorem CCO.lo {w : World} {B S : Nat} {a : Option Addr} {n c : Nat} {xss : List (List (Int × Int))} (h : CCO w B S a n c xss) : ∀ k, (Value.slice a n c).ownBlock = some k → B ≤ k := by
  obtain ⟨vs, h1, _⟩ := h
  exact fun k hk => (h1.lt k hk).1
theorem CCO.made (w : World) : CCO (w.alloc (.cells #[] 33)) w.heap.size (w.alloc (.cells #[] 33)).heap.size (some ⟨w.heap.size, 0, none⟩) 0 0 [] :=
  ⟨[], World.ownsRow_made _ #[] 0 (Nat.le_refl _) (Nat.zero_le _) rfl, fun k hk => by simp [Value.ownBlock] at hk; subst hk; simp, rfl, by simp, by simp⟩
theorem CCO.mono2 {w : World} {B S B' S' : Nat} {a : Option Addr} {n c : Nat} {xss : List (List (Int × Int))} (h : CCO w B S a n c xss) (hB : B' ≤ B) (hS : S ≤ S') : CCO w B' S' a n c xss := by
  obtain ⟨vs, h1, h2, h3⟩ := h
  exact ⟨vs, ownsRow_base h1 hB, fun k hk => Nat.lt_of_lt_of_le (h2 k hk) hS, h3.len, fun k xs hx => by obtain ⟨a, c, h1, h2⟩ := h3.each k xs hx; exact ⟨a, c, h1, h2.mono hB hS⟩, h3.apart⟩
theorem CCO.nil {w : World} {B S : Nat} : CCO w B S none 0 0 [] := ⟨[], World.ownsRow_nil _ _ _ _, by simp [Value.ownBlock], rfl, by simp, by simp⟩
end Go.Proofs.YtomejjbkakpoiaaGreat

namespace Go.Proofs.YtomejjbkakpoiaaGreat
open Go.RowKit

/-- the order of lists: by the first place at which they differ, else by length -/
def less : List Int → List Int → Bool
  | [], [] => false
  | [], _ :: _ => true
  | _ :: _, [] => false
  | x :: xs, y :: ys => if x = y then less xs ys else decide (x < y)
/-- -1, 0, 1 -/
def order : List Int → List Int → Int
  | [], [] => 0
  | [], _ :: _ => -1
  | _ :: _, [] => 1
  | x :: xs, y :: ys => if x = y then order xs ys else if x < y then -1 else 1
theorem less_order (xs : List Int) : ∀ ys, less xs ys = decide (order xs ys < 0) := by
  induction xs with
  | nil => intro ys; cases ys <;> simp [less, order]
  | cons x xs ih =>
    intro ys
    cases ys with
    | nil => simp [less, order]
    | cons y ys =>
      by_cases h : x = y
      · subst h
        simp [less, order, ih ys]
      · by_cases h2 : x < y
        · simp [less, order, h, h2]
        · simp [less, order, h, h2]
/-- alike on the first k -/
theorem less_drop {xs ys : List Int} : ∀ {k : Nat}, (∀ j, j < k → xs[j]? = ys[j]?) → k ≤ xs.length → k ≤ ys.length → less xs ys = less (xs.drop k) (ys.drop k) ∧ order xs ys = order (xs.drop k) (ys.drop k) := by
  induction xs generalizing ys with
  | nil => intro k _ h2 _; obtain rfl : k = 0 := (by simpa using h2); exact ⟨rfl, rfl⟩
  | cons x xs ih =>
    intro k h h2 h3
    rcases k with _ | k
    · exact ⟨rfl, rfl⟩
    · cases ys with
      | nil => simp at h3
      | cons y ys =>
        have h0 := h 0 (by omega)
        obtain rfl : x = y := by simpa using h0
        have := ih (ys := ys) (k := k) (fun j hj => by have := h (j + 1) (by omega); simpa using this) (by simpa using h2) (by simpa using h3)
        simp only [less, order, if_true, List.drop_succ_cons]
        exact this
theorem drop_cons {xs : List Int} {k : Nat} {x : Int} (h : xs[k]? = some x) : ∃ t, xs.drop k = x :: t := ⟨_, by rw [List.drop_eq_getElem_cons (List.getElem?_eq_some_iff.1 h).1, (List.getElem?_eq_some_iff.1 h).2]⟩

set_option maxRecDepth 100000 in
set_option maxHeartbeats 1600000 in
theorem l1Less_any (a b : Option Addr) (n c m d : Nat) (xs ys : List Int) (w : World) (hr : RI w a xs) (hs : RI w b ys) (hn : xs.length = n) (hm : ys.length = m) (hb : n ≤ 17592186044416) (hb2 : m ≤ 17592186044416) :
    Calls Tryz.prog 52 #[.slice a n c, .slice b m d] w fun e w' => e = .returned (.bool (less xs ys)) ∧ Drew w w' := by
  have Hn := Lib.hid hn; clear hn
  have Hm := Lib.hid hm; clear hm
  go_enter Tryz.func52, Tryz.ntmps52
  go_wp2
  go_loopw [5] (fun i wr => ∃ k : Nat, k ≤ n ∧ k ≤ m ∧ i = .int .i64 k ∧ Hid (∀ j, j < k → xs[j]? = ys[j]?) ∧ Drew w wr) (fun i _ => n - (intOf i).toNat)
  case atStart => exact ⟨0, Nat.zero_le _, Nat.zero_le _, rfl, by intro j hj; omega, Drew.refl _⟩
  case round =>
    obtain ⟨k, hk, hk2, rfl, HA, hd⟩ := hrel
    have Hdrop := Lib.hid (less_drop HA.out (by rw [Hn.out]; exact hk) (by rw [Hm.out]; exact hk2)).1
    by_cases h1 : k < n
    · by_cases h2 : k < m
      · obtain ⟨b1, off, rfl, hcell⟩ := (hr.drew hd).at (k := k) (by rw [Hn.out]; exact h1)
        obtain ⟨b2, off2, rfl, hcell2⟩ := (hs.drew hd).at (k := k) (by rw [Hm.out]; exact h2)
        obtain ⟨x, hx⟩ := some_at Hn.out h1
        obtain ⟨y, hy⟩ := some_at Hm.out h2
        have hc := hcell k x hx
        have hc2 := hcell2 k y hy
        have Hx := Lib.hid hx; clear hx
        have Hy := Lib.hid hy; clear hy
        clear hcell hcell2
        have q1 : (k : Int) < (n : Int) := by omega
        have q2 : (k : Int) < (m : Int) := by omega
        by_cases hxy : x = y
        · have e1 : (x != y) = false := by simp [hxy]
          go_wp2
          go_quiet (fail)
          go_wp2
          go_roundw
          case rel => exact ⟨k + 1, by omega, by omega, by go_num, by
            intro j hj
            rcases Nat.lt_or_ge j k with h | h
            · exact HA.out j h
            · obtain rfl : j = k := by omega
              rw [Hx.out, Hy.out, hxy], hd.trans (Drew.drewN _ _)⟩
          case measure => simp [intOf]; omega
        · have e1 : (x != y) = true := by simp [hxy]
          have Hres := Lib.hid (show less xs ys = decide (x < y) by
            rw [Hdrop.out]
            obtain ⟨t, ht⟩ := drop_cons Hx.out
            obtain ⟨u, hu⟩ := drop_cons Hy.out
            rw [ht, hu, less, if_neg hxy])
          go_wp2
          go_quiet (fail)
          go_wp2
          have hc' : (wr.drewN nq).cell? ⟨b1, off + k, none⟩ = some (.int .i64 x) := by simpa using hc
          have hc2' : (wr.drewN nq).cell? ⟨b2, off2 + k, none⟩ = some (.int .i64 y) := by simpa using hc2
          have hdd := hd.trans (Drew.drewN wr nq)
          obtain ⟨wd, hwd⟩ : ∃ wd, wr.drewN nq = wd := ⟨_, rfl⟩
          rw [hwd] at hc' hc2' hdd ⊢
          go_quiet (fail)
          go_wp2
          go_ret
          exact ⟨ret_bool Hres.out.symm, hdd.trans (Drew.drewN _ _)⟩
      · obtain rfl : k = m := by omega
        have Hres := Lib.hid (show less xs ys = false by
          rw [Hdrop.out]
          obtain ⟨x, hx⟩ := some_at Hn.out h1
          obtain ⟨t, ht⟩ := drop_cons hx
          rw [ht, List.drop_of_length_le (by rw [Hm.out]; exact Nat.le_refl _), less])
        have q1 : ¬ ((n : Int) < (k : Int)) := by omega
        go_wp2
        go_ret
        exact ⟨ret_bool (by rw [Hres.out] <;> simp <;> omega), hd⟩
    · obtain rfl : k = n := by omega
      have Hres := Lib.hid (show less xs ys = decide (k < m) by
        rw [Hdrop.out, List.drop_of_length_le (show xs.length ≤ k by rw [Hn.out]; exact Nat.le_refl _)]
        by_cases h2 : k < m
        · obtain ⟨y, hy⟩ := some_at Hm.out h2
          obtain ⟨t, ht⟩ := drop_cons hy
          rw [ht, less] <;> simp [h2]
        · rw [List.drop_of_length_le (by rw [Hm.out]; omega), less] <;> simp [h2])
      go_wp2
      go_ret
      exact ⟨ret_bool (by rw [Hres.out] <;> simp), hd⟩

def cmpInt (x y : Int) : Int := if x = y then 0 else if x < y then -1 else 1
set_option maxHeartbeats 800000 in
theorem cmpInt_any (x y : Int) (w : World) :
    Calls Tryz.prog 115 #[.int .i64 x, .int .i64 y] w fun e w' => e = .returned (.int .i64 (cmpInt x y)) ∧ w = w' := by
  have e1 : (x != x) = false := by simp
  have e2 : (y != y) = false := by simp
  by_cases h : x < y
  · have hc : cmpInt x y = -1 := by unfold cmpInt; rw [if_neg (by omega), if_pos h]
    have Hc := Lib.hid hc; clear hc
    go_enter Tryz.func115, Tryz.ntmps115
    go_wp2
    go_ret
    exact ⟨ret_int Hc.out.symm, rfl⟩
  · by_cases h2 : y < x
    · have hc : cmpInt x y = 1 := by unfold cmpInt; rw [if_neg (by omega), if_neg h]
      have Hc := Lib.hid hc; clear hc
      go_enter Tryz.func115, Tryz.ntmps115
      go_wp2
      go_ret
      exact ⟨ret_int Hc.out.symm, rfl⟩
    · have hc : cmpInt x y = 0 := by unfold cmpInt; rw [if_pos (by omega)]
      have Hc := Lib.hid hc; clear hc
      go_enter Tryz.func115, Tryz.ntmps115
      go_wp2
      go_ret
      exact ⟨ret_int Hc.out.symm, rfl⟩

set_option maxRecDepth 100000 in
set_option maxHeartbeats 1600000 in
theorem compare_any (a b : Option Addr) (n c m d : Nat) (xs ys : List Int) (w : World) (hr : RI w a xs) (hs : RI w b ys) (hn : xs.length = n) (hm : ys.length = m) (hb : n ≤ 17592186044416) (_hb2 : m ≤ 17592186044416) :
    Calls Tryz.prog 86 #[.slice a n c, .slice b m d] w fun e w' => e = .returned (.int .i64 (order xs ys)) ∧ w = w' := by
  have Hn := Lib.hid hn; clear hn
  have Hm := Lib.hid hm; clear hm
  go_enter Tryz.func86, Tryz.ntmps86
  go_wp2
  go_loop [11] (fun i => ∃ k : Nat, k ≤ n ∧ k ≤ m ∧ i = .int .i64 k ∧ Hid (∀ j, j < k → xs[j]? = ys[j]?)) (fun i => n - (intOf i).toNat)
  case atStart => exact ⟨0, Nat.zero_le _, Nat.zero_le _, rfl, by intro j hj; omega⟩
  case round =>
    obtain ⟨k, hk, hk2, rfl, HA⟩ := hrel
    have Hdrop := Lib.hid (less_drop HA.out (by rw [Hn.out]; exact hk) (by rw [Hm.out]; exact hk2)).2
    by_cases h1 : k < n
    · obtain ⟨b1, off, rfl, hcell⟩ := hr.at (k := k) (by rw [Hn.out]; exact h1)
      obtain ⟨x, hx⟩ := some_at Hn.out h1
      have hc := hcell k x hx
      have Hx := Lib.hid hx; clear hx hcell
      by_cases h2 : k < m
      · obtain ⟨b2, off2, rfl, hcell2⟩ := hs.at (k := k) (by rw [Hm.out]; exact h2)
        obtain ⟨y, hy⟩ := some_at Hm.out h2
        have hc2 := hcell2 k y hy
        have Hy := Lib.hid hy; clear hy
        clear hcell2
        have q2 : ¬ ((m : Int) ≤ (k : Int)) := by omega
        by_cases hxy : x = y
        · subst hxy
          have hz : cmpInt x x = 0 := by unfold cmpInt; rw [if_pos rfl]
          have Hz := Lib.hid hz; clear hz
          go_wp2_with fail
          refine (isInt (cmpInt_any x x _) Hz.out).mono ?_
          rintro e w1 ⟨rfl, rfl⟩
          go_wp2
          go_round
          case rel => exact ⟨k + 1, by omega, by omega, by go_num, by
            intro j hj
            rcases Nat.lt_or_ge j k with h | h
            · exact HA.out j h
            · obtain rfl : j = k := by omega
              rw [Hx.out, Hy.out]⟩
          case measure => simp [intOf]; omega
        · have Hres := Lib.hid (show order xs ys = cmpInt x y by
            rw [Hdrop.out]
            obtain ⟨t, ht⟩ := drop_cons Hx.out
            obtain ⟨u, hu⟩ := drop_cons Hy.out
            rw [ht, hu, order, if_neg hxy, cmpInt, if_neg hxy])
          have hnz : cmpInt x y ≠ 0 := by unfold cmpInt; rw [if_neg hxy]; split <;> omega
          obtain ⟨r, hr0⟩ : ∃ r, cmpInt x y = r := ⟨_, rfl⟩
          rw [hr0] at hnz
          have hnb : (r != 0) = true := by simp [hnz]
          have Hr := Lib.hid hr0; clear hr0
          go_wp2_with fail
          refine (isInt (cmpInt_any x y _) Hr.out).mono ?_
          rintro e w1 ⟨rfl, rfl⟩
          go_wp2
          go_ret
          exact ⟨ret_int (by rw [Hres.out, Hr.out]), rfl⟩
      · have Hres := Lib.hid (show order xs ys = 1 by
          rw [Hdrop.out]
          obtain ⟨t, ht⟩ := drop_cons Hx.out
          rw [ht, List.drop_of_length_le (by rw [Hm.out]; omega), order])
        have q2 : (m : Int) ≤ (k : Int) := by omega
        go_wp2
        go_ret
        exact ⟨ret_int Hres.out.symm, rfl⟩
    · obtain rfl : k = n := by omega
      by_cases h2 : k < m
      · have Hres := Lib.hid (show order xs ys = -1 by
          rw [Hdrop.out, List.drop_of_length_le (show xs.length ≤ k by rw [Hn.out]; exact Nat.le_refl _)]
          obtain ⟨y, hy⟩ := some_at Hm.out h2
          obtain ⟨t, ht⟩ := drop_cons hy
          rw [ht, order])
        go_wp2
        go_ret
        exact ⟨ret_int Hres.out.symm, rfl⟩
      · have Hres := Lib.hid (show order xs ys = 0 by
          rw [Hdrop.out, List.drop_of_length_le (show xs.length ≤ k by rw [Hn.out]; exact Nat.le_refl _), List.drop_of_length_le (by rw [Hm.out]; omega), order])
        go_wp2
        go_ret
        exact ⟨ret_int Hres.out.symm, rfl⟩
end Go.Proofs.YtomejjbkakpoiaaGreat

namespace Go.Proofs.YtomejjbkakpoiaaGreat

theorem less_irrefl (a : List Int) : less a a = false := by
  induction a with
  | nil => rfl
  | cons x a ih => rw [less, if_pos rfl]; exact ih
theorem less_trans {a : List Int} : ∀ {b c : List Int}, less a b = true → less b c = true → less a c = true := by
  induction a with
  | nil =>
    intro b c h1 h2
    cases c with
    | nil => cases b <;> simp [less] at h2
    | cons z c => rfl
  | cons x a ih =>
    intro b c h1 h2
    cases b with
    | nil => simp [less] at h1
    | cons y b =>
      cases c with
      | nil => simp [less] at h2
      | cons z c =>
        rw [less] at h1 h2 ⊢
        split at h1
        · split at h2
          · rw [if_pos (by omega)]; exact ih h1 h2
          · rename_i e1 e2
            subst e1
            rw [if_neg e2]; exact h2
        · rename_i e1
          simp only [decide_eq_true_eq] at h1
          split at h2
          · rename_i e2
            subst e2
            rw [if_neg e1]; simpa using h1
          · simp only [decide_eq_true_eq] at h2
            rw [if_neg (by omega)]
            simp
            omega
theorem less_total {a : List Int} : ∀ {b : List Int}, less a b = false → less b a = false → a = b := by
  induction a with
  | nil =>
    intro b h1 h2
    cases b with
    | nil => rfl
    | cons y b => simp [less] at h1
  | cons x a ih =>
    intro b h1 h2
    cases b with
    | nil => simp [less] at h2
    | cons y b =>
      rw [less] at h1 h2
      split at h1
      · rename_i e
        subst e
        rw [if_pos rfl] at h2
        rw [ih h1 h2]
      · rename_i e
        rw [if_neg (fun h => e h.symm)] at h2
        simp at h1 h2
        omega
theorem less_neg {a b c : List Int} (h1 : less a b = false) (h2 : less b c = false) : less a c = false := by
  cases h : less a c with
  | false => rfl
  | true =>
    exfalso
    cases h3 : less b a with
    | true =>
      have := less_trans h3 h
      rw [this] at h2
      cases h2
    | false =>
      have := less_total h1 h3
      subst this
      rw [h] at h2
      cases h2
end Go.Proofs.YtomejjbkakpoiaaGreat

namespace Go.Proofs.YtomejjbkakpoiaaGreat
open Go.RowKit

set_option maxHeartbeats 400000 in
theorem l1In_any (n lo hi : Int) (w : World) :
    Calls Tryz.prog 43 #[.int .i64 n, .int .i64 lo, .int .i64 hi] w fun e w' => e = .returned (.bool (decide (lo ≤ n) && decide (n ≤ hi))) ∧ Drew w w' := by
  by_cases h1 : lo ≤ n <;> by_cases h2 : n ≤ hi
  all_goals
    go_enter Tryz.func43, Tryz.ntmps43
    go_wp2
    go_ret
    exact ⟨by simp [h1, h2], Drew.refl _⟩

theorem l1In_no (n lo hi : Int) (w : World) (h : n < lo ∨ hi < n) :
    Calls Tryz.prog 43 #[.int .i64 n, .int .i64 lo, .int .i64 hi] w fun e w' => e = .returned (.bool false) ∧ Drew w w' :=
  (l1In_any n lo hi w).mono fun _ _ ⟨he, hw⟩ => ⟨by rw [he]; exact ret_bool (by simp; omega), hw⟩
theorem l1In_yes (n lo hi : Int) (w : World) (h : lo ≤ n ∧ n ≤ hi) :
    Calls Tryz.prog 43 #[.int .i64 n, .int .i64 lo, .int .i64 hi] w fun e w' => e = .returned (.bool true) ∧ Drew w w' :=
  (l1In_any n lo hi w).mono fun _ _ ⟨he, hw⟩ => ⟨by rw [he]; exact ret_bool (by simp; omega), hw⟩

end Go.Proofs.YtomejjbkakpoiaaGreat
