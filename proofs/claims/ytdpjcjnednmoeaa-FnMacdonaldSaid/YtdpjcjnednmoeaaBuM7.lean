/-
  Slices of slices of cells whose rows may share a block; append of a row.
  Contracts of l1Less, slices.Compare and cmp.Compare: the order of lists of integers.
  The order of lists of numbers: plain.
  Contracts of BottomDream, the program's and the reference's.
  Contract of szIntS.
-/
import Derived.Test.YtdpjcjnednmoeaaBuM6
import Derived.Test.YtdpjcjnednmoeaaBuM2
import Derived.Test.YtdpjcjnednmoeaaBuM3
namespace Go.Proofs.Ytdpjcjnednmoeaa
open Go.RowKit

/-- rows of integers, each in a block of the call's own (two may share one) -/
structure InnerCS (w : World) (B S : Nat) (vs : List Value) (xss : List (List (Int × Int))) : Prop where
  len : vs.length = xss.length
  each : ∀ (k : Nat) (xs : List (Int × Int)), xss[k]? = some xs → ∃ (a : Option Addr) (c : Nat), vs[k]? = some (Value.slice a xs.length c) ∧ CO w B S a xs.length c xs
def CCS (w : World) (B S : Nat) (a : Option Addr) (n c : Nat) (xss : List (List (Int × Int))) : Prop :=
  ∃ vs, w.ownsRow B 44 1 (.slice a n c) n vs ∧ (∀ k, (Value.slice a n c).ownBlock = some k → k < S) ∧ InnerCS w B S vs xss
theorem CCO.toS {w : World} {B S : Nat} {a : Option Addr} {n c : Nat} {xss : List (List (Int × Int))} (h : CCO w B S a n c xss) : CCS w B S a n c xss := by
  obtain ⟨vs, h1, h2, h3⟩ := h
  exact ⟨vs, h1, h2, h3.len, h3.each⟩
theorem CCS.len {w : World} {B S : Nat} {a : Option Addr} {n c : Nat} {xss : List (List (Int × Int))} (h : CCS w B S a n c xss) : xss.length = n := by
  obtain ⟨vs, h1, _, h3⟩ := h
  rw [← h3.len]; have := h1.1; omega
theorem CCS.rd {w : World} {B S : Nat} {a : Option Addr} {n c : Nat} {xss : List (List (Int × Int))} (h : CCS w B S a n c xss) : RCC w a xss := by
  obtain ⟨vs, h1, _, h3⟩ := h
  rcases ownsRow_shape h1 with ⟨_, _, _, hv⟩ | ⟨g, rfl, _, _, hc, _⟩
  · left
    have := h3.len
    rw [hv] at this
    exact List.eq_nil_of_length_eq_zero this.symm
  · refine .inr ⟨g, 0, rfl, fun k xs hx => ?_⟩
    obtain ⟨a', c', hk, ho⟩ := h3.each k xs hx
    exact ⟨a', c', by rw [Nat.zero_add]; exact hc k _ hk, ho.rd⟩
theorem CCS.only {w w' : World} {B S B' S' : Nat} {a : Option Addr} {n c : Nat} {xss : List (List (Int × Int))} (h : CCS w B S a n c xss) (ho : Only B' S' w w') (hd : S ≤ B' ∨ S' ≤ B) : CCS w' B S a n c xss := by
  obtain ⟨vs, h1, h2, h3⟩ := h
  exact ⟨vs, ownsRow_only h1 h2 ho hd, h2, h3.len, fun k xs hx => by obtain ⟨a, c, h1, h2⟩ := h3.each k xs hx; exact ⟨a, c, h1, h2.only ho hd⟩⟩
theorem CCS.below {w w' : World} {B S : Nat} {a : Option Addr} {n c : Nat} {xss : List (List (Int × Int))} (h : CCS w B S a n c xss) (hb : Below w.heap.size w w') : CCS w' B S a n c xss := h.only (Only.of_below hb) (.inr (Nat.zero_le _))
theorem CCS.mono {w : World} {B S S' : Nat} {a : Option Addr} {n c : Nat} {xss : List (List (Int × Int))} (h : CCS w B S a n c xss) (hS : S ≤ S') : CCS w B S' a n c xss := by
  obtain ⟨vs, h1, h2, h3⟩ := h
  exact ⟨vs, h1, fun k hk => Nat.lt_of_lt_of_le (h2 k hk) hS, h3.len, fun k xs hx => by obtain ⟨a, c, h1, h2⟩ := h3.each k xs hx; exact ⟨a, c, h1, h2.1, fun k hk => Nat.lt_of_lt_of_le (h2.2 k hk) hS⟩⟩
theorem CCO.mono {w : World} {B S S' : Nat} {a : Option Addr} {n c : Nat} {xss : List (List (Int × Int))} (h : CCO w B S a n c xss) (hS : S ≤ S') : CCO w B S' a n c xss := by
  obtain ⟨vs, h1, h2, h3⟩ := h
  exact ⟨vs, h1, fun k hk => Nat.lt_of_lt_of_le (h2 k hk) hS, h3.len, fun k xs hx => by obtain ⟨a, c, h1, h2⟩ := h3.each k xs hx; exact ⟨a, c, h1, h2.mono (Nat.le_refl _) hS⟩, h3.apart⟩
theorem CO.grows {w w' : World} {B S B' n m : Nat} {a b : Option Addr} {c d : Nat} {xs : List (Int × Int)} {vs : List Value} {v' : Value} (h : CO w B S a n c xs) (hg : Grows w w' (.slice b m d) v') (ho : w.ownsRow B' 44 1 (.slice b m d) m vs) : CO w' B S a n c xs :=
  h.kept hg.grown (fun k hk e => neC_block ho h k e hk)

/-- append of a row of integers: 'append(out, l)' -/
theorem wpList_pushCCS {w : World} {W : World} {b : Option Addr} {m d : Nat} (hW : W = w.alloc (.cells #[.slice b m d] 44)) {ops : Array Oper} {rest : List Oper} {o : Oper} {ac : Act} {Q : Exit → Act → World → Prop} (hgd : o.guard = none) (s x : Operand)
    (ho : o.op = .call { callee := .builtin .append, args := #[s, x], argTypes := #[31, 31] })
    {B S : Nat} {a : Option Addr} {n c : Nat} {xss : List (List (Int × Int))} (hown : CCS w B S a n c xss) (hs : ac.eval s = .slice a n c)
    {ys : List (Int × Int)} {S' : Nat} (hr : CO w B S' b m d ys) (hx : ac.eval x = .slice (some ⟨w.heap.size, 0, none⟩) 1 1) (hn : n + 1 ≤ 16777216) (hbase : B ≤ w.heap.size) (hS : S ≤ w.heap.size) (hS' : S' ≤ w.heap.size)
    (h : ∀ a' c' w', CCS w' B w'.heap.size a' (n + 1) c' (xss ++ [ys]) → Grows w w' (.slice a n c) (.slice a' (n + 1) c') → wpList Try.prog ops Q rest (ac.put o.dst (.slice a' (n + 1) c')) w') :
    wpList Try.prog ops Q (o :: rest) ac W := by
  subst hW
  obtain ⟨i0, hi, hz0, hz1, hz2⟩ := info_parts Try.info44
  obtain ⟨vs, h1, h2, h3⟩ := hown
  have hlen := hr.len
  refine wpList_app _ hgd s x 31 ho B 44 i0 (.slice none 0 0) 24 Try.underlying31 hi hz0 hz1 hz2 rfl _ n vs hs (h1.alloc _) _ 1 1 [.slice b m d] hx rfl (by simp) ?_ ?_ hn (by omega) (by simp; omega) ?_
  · intro ad had j u hu
    obtain rfl := Option.some.inj had
    match j, hu with
    | 0, hu => simp at hu; subst hu; simp [Addr.add]
  · intro u hu; simp at hu; subst hu; rfl
  · intro a' c' w' h4 h5
    have hb0 : Below w.heap.size w (w.alloc (.cells #[.slice b m d] 44)) := (Below.refl _ _).alloc (Nat.le_refl _) _
    have hg := (Grows.of_below (.slice a n c) hb0).trans h5
    have hsz := hg.grown.size
    refine h a' c' w' ⟨vs ++ [.slice b m d], h4, fun k hk => (h4.lt k hk).2, by simp [h3.len], fun k zs hz => ?_⟩ hg
    rcases Nat.lt_or_ge k xss.length with hk | hk
    · rw [List.getElem?_append_left hk] at hz
      obtain ⟨a2, c2, e1, e2⟩ := h3.each k zs hz
      exact ⟨a2, c2, by rw [List.getElem?_append_left (by rw [h3.len]; exact hk)]; exact e1, (e2.grows hg h1).mono (Nat.le_refl _) (by omega)⟩
    · rw [List.getElem?_append_right hk] at hz
      have hk0 : k - xss.length = 0 := by have := lt_of_some hz; simp at this; omega
      rw [hk0] at hz
      obtain rfl : ys = zs := by simpa using hz
      refine ⟨b, d, by rw [List.getElem?_append_right (by rw [h3.len]; exact hk), h3.len, hk0, hlen]; rfl, ?_⟩
      rw [hlen]
      exact (hr.grows hg h1).mono (Nat.le_refl _) (by omega)
/-- the same where the row that is appended lies in a newer block than all that are there -/
theorem wpList_pushCC {w : World} {W : World} {b : Option Addr} {m d : Nat} (hW : W = w.alloc (.cells #[.slice b m d] 44)) {ops : Array Oper} {rest : List Oper} {o : Oper} {ac : Act} {Q : Exit → Act → World → Prop} (hgd : o.guard = none) (s x : Operand)
    (ho : o.op = .call { callee := .builtin .append, args := #[s, x], argTypes := #[31, 31] })
    {B S : Nat} {a : Option Addr} {n c : Nat} {xss : List (List (Int × Int))} (hown : CCO w B S a n c xss) (hs : ac.eval s = .slice a n c)
    {ys : List (Int × Int)} {S' : Nat} (hr : CO w S S' b m d ys) (hBS : B ≤ S) (hx : ac.eval x = .slice (some ⟨w.heap.size, 0, none⟩) 1 1) (hn : n + 1 ≤ 16777216) (hbase : B ≤ w.heap.size) (hS : S ≤ w.heap.size) (hS' : S' ≤ w.heap.size)
    (h : ∀ a' c' w', CCO w' B w'.heap.size a' (n + 1) c' (xss ++ [ys]) → Grows w w' (.slice a n c) (.slice a' (n + 1) c') → wpList Try.prog ops Q rest (ac.put o.dst (.slice a' (n + 1) c')) w') :
    wpList Try.prog ops Q (o :: rest) ac W := by
  subst hW
  obtain ⟨i0, hi, hz0, hz1, hz2⟩ := info_parts Try.info44
  obtain ⟨vs, h1, h2, h3⟩ := hown
  have hlen := hr.len
  refine wpList_app _ hgd s x 31 ho B 44 i0 (.slice none 0 0) 24 Try.underlying31 hi hz0 hz1 hz2 rfl _ n vs hs (h1.alloc _) _ 1 1 [.slice b m d] hx rfl (by simp) ?_ ?_ hn (by omega) (by simp; omega) ?_
  · intro ad had j u hu
    obtain rfl := Option.some.inj had
    match j, hu with
    | 0, hu => simp at hu; subst hu; simp [Addr.add]
  · intro u hu; simp at hu; subst hu; rfl
  · intro a' c' w' h4 h5
    have hb0 : Below w.heap.size w (w.alloc (.cells #[.slice b m d] 44)) := (Below.refl _ _).alloc (Nat.le_refl _) _
    have hg := (Grows.of_below (.slice a n c) hb0).trans h5
    have hsz := hg.grown.size
    have hold : ∀ (k : Nat) (v : Value), vs[k]? = some v → ∀ q, v.ownBlock = some q → q < S := by
      intro k v hv q hq
      have hk : k < xss.length := by rw [← h3.len]; exact lt_of_some hv
      obtain ⟨zs, hz⟩ := some_of hk
      obtain ⟨a2, c2, e1, e2⟩ := h3.each k zs hz
      rw [hv] at e1
      obtain rfl := Option.some.inj e1
      exact e2.2 q hq
    have hnew : ∀ q, (Value.slice b m d).ownBlock = some q → S ≤ q := hr.lo
    refine h a' c' w' ⟨vs ++ [.slice b m d], h4, fun k hk => (h4.lt k hk).2, by simp [h3.len], fun k zs hz => ?_, ?_⟩ hg
    · rcases Nat.lt_or_ge k xss.length with hk | hk
      · rw [List.getElem?_append_left hk] at hz
        obtain ⟨a2, c2, e1, e2⟩ := h3.each k zs hz
        exact ⟨a2, c2, by rw [List.getElem?_append_left (by rw [h3.len]; exact hk)]; exact e1, (e2.grows hg h1).mono (Nat.le_refl _) (by omega)⟩
      · rw [List.getElem?_append_right hk] at hz
        have hk0 : k - xss.length = 0 := by have := lt_of_some hz; simp at this; omega
        rw [hk0] at hz
        obtain rfl : ys = zs := by simpa using hz
        refine ⟨b, d, by rw [List.getElem?_append_right (by rw [h3.len]; exact hk), h3.len, hk0, hlen]; rfl, ?_⟩
        rw [hlen]
        exact (hr.grows hg h1).mono hBS (by omega)
    · intro i j u v g hu hv hug hvg
      rcases Nat.lt_or_ge i vs.length with hi | hi <;> rcases Nat.lt_or_ge j vs.length with hj | hj
      · rw [List.getElem?_append_left hi] at hu
        rw [List.getElem?_append_left hj] at hv
        exact h3.apart i j u v g hu hv hug hvg
      · rw [List.getElem?_append_left hi] at hu
        rw [List.getElem?_append_right hj] at hv
        have hj0 : j - vs.length = 0 := by have := lt_of_some hv; simp at this; omega
        rw [hj0] at hv
        obtain rfl : Value.slice b m d = v := by simpa using hv
        have := hold i u hu g hug
        have := hnew g hvg
        omega
      · rw [List.getElem?_append_right hi] at hu
        rw [List.getElem?_append_left hj] at hv
        have hi0 : i - vs.length = 0 := by have := lt_of_some hu; simp at this; omega
        rw [hi0] at hu
        obtain rfl : Value.slice b m d = u := by simpa using hu
        have := hold j v hv g hvg
        have := hnew g hug
        omega
      · rw [List.getElem?_append_right hi] at hu
        rw [List.getElem?_append_right hj] at hv
        have := lt_of_some hu
        have := lt_of_some hv
        simp at *
        omega
theorem CCO.lo {w : World} {B S : Nat} {a : Option Addr} {n c : Nat} {xss : List (List (Int × Int))} (h : CCO w B S a n c xss) : ∀ k, (Value.slice a n c).ownBlock = some k → B ≤ k := by
  obtain ⟨vs, h1, _⟩ := h
  exact fun k hk => (h1.lt k hk).1
theorem CCO.made (w : World) : CCO (w.alloc (.cells #[] 44)) w.heap.size (w.alloc (.cells #[] 44)).heap.size (some ⟨w.heap.size, 0, none⟩) 0 0 [] :=
  ⟨[], World.ownsRow_made _ #[] 0 (Nat.le_refl _) (Nat.zero_le _) rfl, fun k hk => by simp [Value.ownBlock] at hk; subst hk; simp, rfl, by simp, by simp⟩
theorem CCO.mono2 {w : World} {B S B' S' : Nat} {a : Option Addr} {n c : Nat} {xss : List (List (Int × Int))} (h : CCO w B S a n c xss) (hB : B' ≤ B) (hS : S ≤ S') : CCO w B' S' a n c xss := by
  obtain ⟨vs, h1, h2, h3⟩ := h
  exact ⟨vs, ownsRow_base h1 hB, fun k hk => Nat.lt_of_lt_of_le (h2 k hk) hS, h3.len, fun k xs hx => by obtain ⟨a, c, h1, h2⟩ := h3.each k xs hx; exact ⟨a, c, h1, h2.mono hB hS⟩, h3.apart⟩
theorem CCO.nil {w : World} {B S : Nat} : CCO w B S none 0 0 [] := ⟨[], World.ownsRow_nil _ _ _ _, by simp [Value.ownBlock], rfl, by simp, by simp⟩
end Go.Proofs.Ytdpjcjnednmoeaa

namespace Go.Proofs.Ytdpjcjnednmoeaa
open Go.RowKit

/-- the order of lists: by the first place at which they differ, else by length -/
def less : List Int → List Int → Bool
  | [], [] => false
  | [], _ :: _ => true
  | _ :: _, [] => false
  | x :: xs, y :: ys => if x = y then less xs ys else decide (x < y)
/-- -1, 0, 1 -/
def order : List Int → List Int → Int
  | [], [] => 0
  | [], _ :: _ => -1
  | _ :: _, [] => 1
  | x :: xs, y :: ys => if x = y then order xs ys else if x < y then -1 else 1
theorem less_order (xs : List Int) : ∀ ys, less xs ys = decide (order xs ys < 0) := by
  induction xs with
  | nil => intro ys; cases ys <;> simp [less, order]
  | cons x xs ih =>
    intro ys
    cases ys with
    | nil => simp [less, order]
    | cons y ys =>
      by_cases h : x = y
      · subst h
        simp [less, order, ih ys]
      · by_cases h2 : x < y
        · simp [less, order, h, h2]
        · simp [less, order, h, h2]
/-- alike on the first k -/
theorem less_drop {xs ys : List Int} : ∀ {k : Nat}, (∀ j, j < k → xs[j]? = ys[j]?) → k ≤ xs.length → k ≤ ys.length → less xs ys = less (xs.drop k) (ys.drop k) ∧ order xs ys = order (xs.drop k) (ys.drop k) := by
  induction xs generalizing ys with
  | nil => intro k _ h2 _; obtain rfl : k = 0 := (by simpa using h2); exact ⟨rfl, rfl⟩
  | cons x xs ih =>
    intro k h h2 h3
    rcases k with _ | k
    · exact ⟨rfl, rfl⟩
    · cases ys with
      | nil => simp at h3
      | cons y ys =>
        have h0 := h 0 (by omega)
        obtain rfl : x = y := by simpa using h0
        have := ih (ys := ys) (k := k) (fun j hj => by have := h (j + 1) (by omega); simpa using this) (by simpa using h2) (by simpa using h3)
        simp only [less, order, if_true, List.drop_succ_cons]
        exact this
theorem drop_cons {xs : List Int} {k : Nat} {x : Int} (h : xs[k]? = some x) : ∃ t, xs.drop k = x :: t := ⟨_, by rw [List.drop_eq_getElem_cons (List.getElem?_eq_some_iff.1 h).1, (List.getElem?_eq_some_iff.1 h).2]⟩

def cmpInt (x y : Int) : Int := if x = y then 0 else if x < y then -1 else 1
end Go.Proofs.Ytdpjcjnednmoeaa

namespace Go.Proofs.Ytdpjcjnednmoeaa

theorem less_irrefl (a : List Int) : less a a = false := by
  induction a with
  | nil => rfl
  | cons x a ih => rw [less, if_pos rfl]; exact ih
theorem less_trans {a : List Int} : ∀ {b c : List Int}, less a b = true → less b c = true → less a c = true := by
  induction a with
  | nil =>
    intro b c h1 h2
    cases c with
    | nil => cases b <;> simp [less] at h2
    | cons z c => rfl
  | cons x a ih =>
    intro b c h1 h2
    cases b with
    | nil => simp [less] at h1
    | cons y b =>
      cases c with
      | nil => simp [less] at h2
      | cons z c =>
        rw [less] at h1 h2 ⊢
        split at h1
        · split at h2
          · rw [if_pos (by omega)]; exact ih h1 h2
          · rename_i e1 e2
            subst e1
            rw [if_neg e2]; exact h2
        · rename_i e1
          simp only [decide_eq_true_eq] at h1
          split at h2
          · rename_i e2
            subst e2
            rw [if_neg e1]; simpa using h1
          · simp only [decide_eq_true_eq] at h2
            rw [if_neg (by omega)]
            simp
            omega
theorem less_total {a : List Int} : ∀ {b : List Int}, less a b = false → less b a = false → a = b := by
  induction a with
  | nil =>
    intro b h1 h2
    cases b with
    | nil => rfl
    | cons y b => simp [less] at h1
  | cons x a ih =>
    intro b h1 h2
    cases b with
    | nil => simp [less] at h2
    | cons y b =>
      rw [less] at h1 h2
      split at h1
      · rename_i e
        subst e
        rw [if_pos rfl] at h2
        rw [ih h1 h2]
      · rename_i e
        rw [if_neg (fun h => e h.symm)] at h2
        simp at h1 h2
        omega
theorem less_neg {a b c : List Int} (h1 : less a b = false) (h2 : less b c = false) : less a c = false := by
  cases h : less a c with
  | false => rfl
  | true =>
    exfalso
    cases h3 : less b a with
    | true =>
      have := less_trans h3 h
      rw [this] at h2
      cases h2
    | false =>
      have := less_total h1 h3
      subst this
      rw [h] at h2
      cases h2
end Go.Proofs.Ytdpjcjnednmoeaa

namespace Go.Proofs.Ytdpjcjnednmoeaa
open Go.RowKit

theorem Try.infoCell : (Try.prog.info? 52).map (fun i => (i.zero, i.size, i.bytes)) = some (some (.agg #[.int .i64 0, .int .i64 0]), 2, 16) := by kernel_rfl
theorem slice_of2 {w : World} {B e n : Nat} {v : Value} {xs : List Value} (h : w.ownsRow B e 2 v n xs) : ∃ a c, v = .slice a n c := by
  rcases h.2 with ⟨rfl, rfl⟩ | ⟨g, cap, cur, rfl, _⟩
  · exact ⟨none, 0, rfl⟩
  · exact ⟨_, cap, rfl⟩
theorem wpList_pushC {w W : World} {p q : Int} (hW : W = w.alloc (.cells #[.int .i64 p, .int .i64 q] 52)) {ops : Array Oper} {rest : List Oper} {o : Oper} {ac : Act} {Q : Exit → Act → World → Prop} (hgd : o.guard = none) (s x : Operand)
    (ho : o.op = .call { callee := .builtin .append, args := #[s, x], argTypes := #[44, 44] })
    {B S : Nat} {a : Option Addr} {n c : Nat} {xs : List (Int × Int)} (hown : CO w B S a n c xs) (hs : ac.eval s = .slice a n c)
    (hx : ac.eval x = .slice (some ⟨w.heap.size, 0, none⟩) 1 1) (hn : n + 1 ≤ 1048576) (hbase : B ≤ w.heap.size)
    (h : ∀ a' c' w', CO w' B w'.heap.size a' (n + 1) c' (xs ++ [(p, q)]) → w.grownBy w' (Value.slice a n c).ownBlock → wpList Try.prog ops Q rest (ac.put o.dst (.slice a' (n + 1) c')) w') :
    wpList Try.prog ops Q (o :: rest) ac W := by
  subst hW
  obtain ⟨i0, hi, hz0, hz1, hz2⟩ := info_parts Try.infoCell
  refine wpList_append_own _ hgd s x 44 ho B 52 i0 (.agg #[.int .i64 0, .int .i64 0]) 2 16 Try.underlying44 hi hz0 hz1 hz2 rfl (by decide) _ n (prs xs) hs (hown.1.alloc _) ⟨w.heap.size, 0, none⟩ 1 1 [.int .i64 p, .int .i64 q] hx rfl ?_ ?_ (by unfold maxLen; omega) (by omega) (by simp; omega) ?_
  · intro j y hj
    match j, hj with
    | 0, hj => simp at hj; subst hj; simp [Addr.add]
    | 1, hj => simp at hj; subst hj; simp [Addr.add]
  · intro y hy
    simp at hy
    rcases hy with rfl | rfl <;> rfl
  · intro v' w' h2 h3 _
    obtain ⟨a', c', rfl⟩ := slice_of2 h2
    exact h a' c' w' (CO.mk (by rw [prs_append]; exact h2)) (grownBy.trans (World.grownBy_alloc w _ _) h3)
theorem CO.made (w : World) : CO (w.alloc (.cells #[] 52)) w.heap.size (w.alloc (.cells #[] 52)).heap.size (some ⟨w.heap.size, 0, none⟩) 0 0 [] :=
  CO.mk (World.ownsRow_made _ #[] 0 (Nat.le_refl _) (Nat.zero_le _) rfl)
/-- a row of integers lies in another block than a row of cells -/
theorem ne_blockC {w : World} {B B' S n l : Nat} {a a' : Option Addr} {c c' : Nat} {ps : List (Int × Int)} {xs : List Int} (h : CO w B' S a n c ps) (hi : OS w B a' l c' xs) :
    ∀ k, (Value.slice a' l c').ownBlock = some k → (Value.slice a n c).ownBlock ≠ some k := by
  intro k hk hk'
  rcases h.1.2 with ⟨hv, _⟩ | ⟨g, cap, cur, hv, _, hh, _⟩
  · rw [hv] at hk'; cases hk'
  · rw [hv] at hk'
    rcases ownsRow_shape hi.own with ⟨_, rfl, _⟩ | ⟨g', rfl, _, _, _, cur', hg'⟩
    · cases hk
    · have e1 : g = k := by simpa [Value.ownBlock] using hk'
      have e2 : g' = k := by simpa [Value.ownBlock] using hk
      subst e1 e2
      rw [hh] at hg'
      simp at hg'

def rowCells (i m : Nat) : List (Int × Int) := (List.range m).map fun (j : Nat) => ((i : Int), (j : Int))
theorem rowCells_succ (i m : Nat) : rowCells i (m + 1) = rowCells i m ++ [((i : Int), (m : Int))] := by simp [rowCells, List.range_succ]
def bot (c : List Int) : Nat → List (Int × Int)
  | 0 => []
  | i + 1 => bot c i ++ rowCells i (c.getD i 0).toNat
theorem bot_len (c : List Int) {n : Nat} (h : ∀ (i : Nat) (x : Int), c[i]? = some x → 0 ≤ x ∧ x ≤ n) (k : Nat) : (bot c k).length ≤ k * n := by
  induction k with
  | zero => simp [bot]
  | succ k ih =>
    rw [bot, List.length_append, Nat.succ_mul]
    have : (rowCells k (c.getD k 0).toNat).length ≤ n := by
      simp only [rowCells, List.length_map, List.length_range]
      rw [List.getD_eq_getElem?_getD]
      cases hc : c[k]? with
      | none => simp
      | some x => have := h k x hc; simp only [Option.getD_some]; omega
    omega
def bottom (xs : List Int) : List (Int × Int) := if isPerm xs = true ∧ xs.length ≤ 6 then bot (code xs) xs.length else []
theorem code_bd {xs : List Int} (i : Nat) (x : Int) (h : (code xs)[i]? = some x) : 0 ≤ x ∧ x ≤ (xs.length : Nat) := by
  have hi := (List.getElem?_eq_some_iff.1 h).1
  rw [code_length] at hi
  rw [code_at rfl hi] at h
  obtain rfl := Option.some.inj h
  have := cnt_le xs i (xs.length - 1 - i)
  omega
theorem bottom_len (xs : List Int) : (bottom xs).length ≤ 36 := by
  unfold bottom
  split
  · have := bot_len (code xs) (n := xs.length) code_bd xs.length
    have h6 : xs.length ≤ 6 := by omega
    have := Nat.mul_le_mul h6 h6
    omega
  · simp
theorem bottom_no {xs : List Int} (h : isPerm xs = false ∨ 6 < xs.length) : bottom xs = [] := by
  rw [bottom, if_neg]
  rintro ⟨h1, h2⟩
  rcases h with h | h
  · rw [h1] at h; cases h
  · omega
theorem bottom_ok {xs : List Int} {n : Nat} (hn : xs.length = n) (h : isPerm xs = true) (h6 : n ≤ 6) : bottom xs = bot (code xs) n := by
  subst hn
  rw [bottom, if_pos ⟨h, h6⟩]
theorem codeOf_ok {xs : List Int} (h : isPerm xs = true) : codeOf xs = code xs := by rw [codeOf, h]; rfl

set_option maxRecDepth 100000 in
set_option maxHeartbeats 1600000 in
theorem implBottom_any (a : Option Addr) (n c : Nat) (xs : List Int) (w : World) (hr : RI w a xs) (hn : xs.length = n) (hb : n ≤ 17592186044416) (hcap : n ≤ c) :
    Calls Try.prog 23 #[.slice a n c] w fun e w' => ∃ a' n' c', e = .returned (.slice a' n' c') ∧ CO w' w.heap.size w'.heap.size a' n' c' (bottom xs) ∧ Below w.heap.size w w' := by
  have Hn := Lib.hid hn; clear hn
  have hB00 : Below w.heap.size w (w.alloc (.cells #[] 52)) := (Below.refl _ _).alloc (Nat.le_refl _) _
  have hM := Lib.hid (CO.made w)
  have hz00 : (w.alloc (.cells #[] 52)).heap.size = w.heap.size + 1 := by simp
  cases hp : isPerm xs
  · have hno := Lib.hid (bottom_no (xs := xs) (.inl hp))
    have Hp := Lib.hid hp; clear hp
    go_enter Try.func23, Try.ntmps23
    go_wp2_with fail
    refine (is (implIsPerm_any _ _ _ xs _ (hr.below hB00) Hn.out (by omega)) Hp.out).mono ?_
    rintro e w1 ⟨rfl, hd⟩
    go_wp2
    go_ret
    exact ⟨_, _, _, rfl, by rw [hno.out]; exact ((hM.out.below hd).mono (Nat.le_refl _) hd.size), (hB00.trans (hd.mono hB00.size))⟩
  have hpl := perm_len hp
  rw [Hn.out] at hpl
  by_cases h6 : 6 < n
  · have hno := Lib.hid (bottom_no (xs := xs) (.inr (by rw [Hn.out]; exact h6)))
    have Hp := Lib.hid hp; clear hp
    go_enter Try.func23, Try.ntmps23
    go_wp2_with fail
    refine (is (implIsPerm_any _ _ _ xs _ (hr.below hB00) Hn.out (by omega)) Hp.out).mono ?_
    rintro e w1 ⟨rfl, hd⟩
    go_wp2
    go_ret
    exact ⟨_, _, _, rfl, by rw [hno.out]; exact ((hM.out.below hd).mono (Nat.le_refl _) hd.size), (hB00.trans (hd.mono hB00.size))⟩
  have hok := bottom_ok Hn.out hp (by omega)
  have hcd := codeOf_ok hp
  have Hp := Lib.hid hp; clear hp
  have Hok := Lib.hid hok; clear hok
  have Hcd := Lib.hid hcd; clear hcd
  have hcl : (code xs).length = n := by rw [code_length]; exact Hn.out
  have Hcl := Lib.hid hcl; clear hcl
  have Hbd := Lib.hid (show ∀ (i : Nat) (x : Int), (code xs)[i]? = some x → 0 ≤ x ∧ x ≤ (n : Nat) by intro i x h; have := code_bd i x h; rw [Hn.out] at this; exact this)
  go_enter Try.func23, Try.ntmps23
  go_wp2_with fail
  refine (is (implIsPerm_any _ _ _ xs _ (hr.below hB00) Hn.out (by omega)) Hp.out).mono ?_
  rintro e w1 ⟨rfl, hd⟩
  have hM2 := (hM.out.below hd).mono (Nat.le_refl _) hd.size
  have hb2 := hB00.trans (hd.mono hB00.size)
  have hr2 := hr.below hb2
  clear hM hB00
  go_wp2_with fail
  refine (codeOf_any _ _ _ xs _ hr2 Hn.out (by omega) hcap).mono ?_
  rintro e w2 ⟨ac, nc, cc, rfl, hC, hb3⟩
  rw [Hcd.out] at hC
  obtain rfl : n = nc := by rw [← Hcl.out]; exact hC.len
  have hz2 := hb3.size
  have hO2 := (hM2.below hb3).mono (Nat.le_refl _) hz2
  have hB2 := hb2.trans (hb3.mono hb2.size)
  have hC2 := hC.1
  clear hM2 hb2 hb3 hC hr2
  go_wp2
  go_loopw [3, 20] (fun ov iv wr => Hid (∃ i : Nat, i ≤ n ∧ iv = .int .i64 i ∧ OS wr 0 ac n cc (code xs) ∧ ∃ a' n' c', ov = .slice a' n' c' ∧ CO wr w.heap.size wr.heap.size a' n' c' (bot (code xs) i)) ∧ Below w.heap.size w wr) (fun _ i _ => n - (intOf i).toNat)
  case atStart => exact ⟨⟨0, Nat.zero_le _, rfl, (OwI.mono ⟨hC2, hC2.hi⟩ (Nat.zero_le _) (Nat.le_refl _)).1, _, _, _, rfl, hO2⟩, hB2⟩
  case round =>
    clear hO2 hB2 hC2
    obtain ⟨HV, hB⟩ := hrel
    obtain ⟨wo, rfl⟩ : ∃ wo : World, wo = wr := ⟨_, rfl⟩
    obtain ⟨i, hi, rfl, hC, a', n', c', rfl, ho⟩ := HV.out
    clear HV
    by_cases hlt : i < n
    · obtain ⟨x0, hx⟩ := some_at Hcl.out hlt
      have hx0 := Hbd.out i x0 hx
      obtain ⟨x, rfl⟩ : ∃ x : Nat, x0 = (x : Int) := ⟨x0.toNat, by omega⟩
      have hxn : x ≤ n := by omega
      have hst : bot (code xs) (i + 1) = bot (code xs) i ++ rowCells i x := by rw [bot, getD_of hx]; rfl
      have hln := bot_len (code xs) Hbd.out i
      have hlm : i * n ≤ 36 := by have := Nat.mul_le_mul (show i ≤ 6 by omega) (show n ≤ 6 by omega); omega
      rw [ho.len] at hln
      have Hx := Lib.hid hx; clear hx
      have Hst := Lib.hid hst; clear hst
      have HO := Lib.hid ho; clear ho
      have HC := Lib.hid hC
      obtain ⟨gc, rfl, _, ⟨x1, hx1, hcx⟩, _⟩ := OI.cons hC hlt
      rw [Hx.out] at hx1
      obtain rfl := Option.some.inj hx1
      clear hx1 hC
      go_wp2
      go_loopw [3, 26] (fun ov jv wr => Hid (∃ j : Nat, j ≤ x ∧ jv = .int .i64 j ∧ OS wr 0 (some ⟨gc, 0, none⟩) n cc (code xs) ∧ ∃ a' c', ov = .slice a' (n' + j) c' ∧ CO wr w.heap.size wr.heap.size a' (n' + j) c' (bot (code xs) i ++ rowCells i j)) ∧ Below w.heap.size w wr) (fun _ j _ => x - (intOf j).toNat)
      case atStart => exact ⟨⟨0, Nat.zero_le _, rfl, HC.out, _, _, rfl, by simpa [rowCells] using HO.out⟩, hB⟩
      case round =>
        clear HO HC hB hcx
        obtain ⟨HV, hB⟩ := hrel
        obtain ⟨wq, rfl⟩ : ∃ wq : World, wq = wr := ⟨_, rfl⟩
        obtain ⟨j, hj, rfl, hC, a2, c2, rfl, ho⟩ := HV.out
        clear HV
        have hbs := hB.size
        obtain ⟨gc', e0, _, ⟨x1, hx1, hcx⟩, _⟩ := OI.cons hC hlt
        obtain rfl : gc = gc' := by simpa using e0
        rw [Hx.out] at hx1
        obtain rfl := Option.some.inj hx1
        clear hx1 e0
        by_cases hjx : j < x
        · have hjI : (j : Int) < (x : Int) := by omega
          have HC := Lib.hid hC; clear hC
          go_wp2_with (first | (at_builtin; go_loud (refine wpList_pushC (by rfl) (by rfl) _ _ (by rfl) ho (by rfl) (by rfl) (by omega) hbs ?_)))
          intro a3 c3 w3 ho3 hg3
          have hC3 := HC.out.kept hg3 (fun k hk => by have := ne_blockC ho HC.out k hk; exact this)
          have hB3 := below_grown hB hg3 hbs ho.lo
          rw [← rowCells_succ] at ho3
          have HO3 := Lib.hid ho3
          have HC3 := Lib.hid hC3
          clear ho ho3 hC3 HC hg3
          go_wp2
          go_roundw
          case rel => exact ⟨⟨j + 1, by omega, by go_num, HC3.out, _, _, rfl, HO3.out⟩, hB3⟩
          case measure => simp [intOf]; omega
        · obtain rfl : j = x := by omega
          rw [← Hst.out] at ho
          have HO := Lib.hid ho; clear ho
          have HC := Lib.hid hC; clear hC
          go_wp2
          go_roundw
          case rel => exact ⟨⟨i + 1, by omega, by go_num, HC.out, _, _, _, rfl, HO.out⟩, hB⟩
          case measure => simp [intOf]; omega
    · obtain rfl : i = n := by omega
      have HO := Lib.hid ho; clear ho hC
      go_wp2
      go_ret
      exact ⟨_, _, _, rfl, by rw [Hok.out]; exact HO.out, hB⟩
end Go.Proofs.Ytdpjcjnednmoeaa

namespace Go.Proofs.Ytdpjcjnednmoeaa
open Go.RowKit

/-- what is left of a measure, or -1 -/
def leftOf (left t : Int) : Int := if left < t then -1 else left - t
theorem leftOf_lt {left t : Int} (h : left < t) : leftOf left t = -1 := if_pos h
theorem leftOf_ge {left t : Int} (h : ¬ left < t) : leftOf left t = left - t := if_neg h
end Go.Proofs.Ytdpjcjnednmoeaa
