/-
  Plain: ordered lists of dreams; one put in.
  Contract of l1HasCell.
  The word of a dream, as the reference reckons it: the plain part.
  The word of a dream: its cells sorted by rows, in each row the last one first.
-/
import Derived.Test.YtageojkepoejiaaBuP8
namespace Go.Proofs.Ytageojkepoejiaa

/-- lists of moderate length, no two alike -/
structure GoodCC (xs : List (List (Int × Int))) : Prop where
  each : ∀ p ∈ xs, p.length ≤ 1048576
  apart : ∀ (i j : Nat) (p q : List (Int × Int)), xs[i]? = some p → xs[j]? = some q → p = q → i = j
/-- how many of the list's first ones lie ahead of x -/
def cutD (x : List (Int × Int)) : List (List (Int × Int)) → Nat
  | [] => 0
  | y :: l => if lessD y x = true then cutD x l + 1 else 0
/-- x put in at its place, unless it is there -/
def insD (x : List (Int × Int)) (l : List (List (Int × Int))) : List (List (Int × Int)) := if l[cutD x l]? = some x then l else l.take (cutD x l) ++ [x] ++ l.drop (cutD x l)
theorem cutD_le (x : List (Int × Int)) : ∀ l : List (List (Int × Int)), cutD x l ≤ l.length
  | [] => Nat.le_refl _
  | y :: l => by
    unfold cutD
    split
    · have := cutD_le x l; simp; omega
    · exact Nat.zero_le _
theorem cutD_lo {x : List (Int × Int)} : ∀ {l : List (List (Int × Int))} {k : Nat} {y : List (Int × Int)}, k < cutD x l → l[k]? = some y → lessD y x = true
  | [], _, _, h, _ => by simp [cutD] at h
  | z :: l, k, y, h, hy => by
    unfold cutD at h
    split at h
    · rename_i hz
      match k, hy with
      | 0, hy => simp at hy; rw [← hy]; exact hz
      | k + 1, hy => exact cutD_lo (l := l) (k := k) (by omega) (by simpa using hy)
    · omega
theorem cutD_hi {x : List (Int × Int)} : ∀ {l : List (List (Int × Int))} {y : List (Int × Int)}, l[cutD x l]? = some y → lessD y x = false
  | [], _, h => by simp at h
  | z :: l, y, h => by
    unfold cutD at h
    split at h
    · exact cutD_hi (l := l) (by simpa using h)
    · rename_i hz
      simp at h
      rw [← h]
      simpa using hz
/-- the place is known by its two sides -/
theorem cutD_at {x : List (Int × Int)} {l : List (List (Int × Int))} {k : Nat} (hk : k ≤ cutD x l) (h : k = l.length ∨ ∃ y, l[k]? = some y ∧ lessD y x = false) : cutD x l = k := by
  have := cutD_le x l
  rcases h with h | ⟨y, hy, hn⟩
  · omega
  · rcases Nat.lt_or_ge k (cutD x l) with hlt | hge
    · have := cutD_lo hlt hy
      rw [hn] at this
      cases this
    · omega
def AscD (l : List (List (Int × Int))) : Prop := l.Pairwise fun p q => lessD p q = true
theorem mem_insD {x y : List (Int × Int)} {l : List (List (Int × Int))} : y ∈ insD x l ↔ y = x ∨ y ∈ l := by
  unfold insD
  split
  · rename_i h
    exact ⟨.inr, fun h' => h'.elim (fun e => e ▸ List.mem_of_getElem? h) id⟩
  · have e : l = l.take (cutD x l) ++ l.drop (cutD x l) := (List.take_append_drop _ _).symm
    conv => rhs; rw [e]
    simp only [List.mem_append, List.mem_singleton]
    constructor
    · rintro ((h | h) | h)
      · exact .inr (.inl h)
      · exact .inl h
      · exact .inr (.inr h)
    · rintro (h | h | h)
      · exact .inl (.inr h)
      · exact .inl (.inl h)
      · exact .inr h
theorem asc_insD {x : List (Int × Int)} {l : List (List (Int × Int))} (h : AscD l) : AscD (insD x l) := by
  unfold insD
  split
  · exact h
  · rename_i hne
    have h0 := h
    unfold AscD at *
    rw [← List.take_append_drop (cutD x l) l, List.pairwise_append] at h
    obtain ⟨h1, h2, h3⟩ := h
    have lo : ∀ y ∈ l.take (cutD x l), lessD y x = true := by
      intro y hy
      obtain ⟨k, hk⟩ := List.getElem?_of_mem hy
      have hkl := (List.getElem?_eq_some_iff.1 hk).1
      rw [List.length_take] at hkl
      rw [List.getElem?_take_of_lt (by omega)] at hk
      exact cutD_lo (by omega) hk
    have hi : ∀ y ∈ l.drop (cutD x l), lessD x y = true := by
      intro y hy
      obtain ⟨k, hk⟩ := List.getElem?_of_mem hy
      rw [List.getElem?_drop] at hk
      have hlt : cutD x l < l.length := by have := (List.getElem?_eq_some_iff.1 hk).1; omega
      have hz : l[cutD x l]? = some l[cutD x l] := List.getElem?_eq_getElem hlt
      have hn := cutD_hi hz
      have hxz : lessD x l[cutD x l] = true := by
        cases hc : lessD x l[cutD x l] with
        | true => rfl
        | false => exact absurd (by rw [hz, lessD_total hn hc]) hne
      match k, hk with
      | 0, hk =>
        rw [Nat.add_zero, hz] at hk
        rw [← Option.some.inj hk]
        exact hxz
      | k + 1, hk =>
        obtain ⟨hkl, e⟩ := List.getElem?_eq_some_iff.1 hk
        have := List.pairwise_iff_getElem.1 h0 (cutD x l) (cutD x l + (k + 1)) hlt hkl (by omega)
        rw [e] at this
        exact lessD_trans hxz this
    rw [List.append_assoc, List.pairwise_append]
    refine ⟨h1, ?_, ?_⟩
    · rw [List.singleton_append, List.pairwise_cons]
      exact ⟨hi, h2⟩
    · intro y hy z hz
      rw [List.singleton_append, List.mem_cons] at hz
      rcases hz with rfl | hz
      · exact lo y hy
      · exact h3 y hy z hz
theorem ascD_ext : ∀ {a b : List (List (Int × Int))}, AscD a → AscD b → (∀ x, x ∈ a ↔ x ∈ b) → a = b
  | [], [], _, _, _ => rfl
  | [], y :: b, _, _, h => absurd ((h y).2 List.mem_cons_self) (by simp)
  | x :: a, [], _, _, h => absurd ((h x).1 List.mem_cons_self) (by simp)
  | x :: a, y :: b, ha, hb, h => by
    obtain ⟨ha1, ha2⟩ := List.pairwise_cons.1 ha
    obtain ⟨hb1, hb2⟩ := List.pairwise_cons.1 hb
    have hxy : x = y := by
      rcases List.mem_cons.1 ((h x).1 List.mem_cons_self) with e | e
      · exact e
      · rcases List.mem_cons.1 ((h y).2 List.mem_cons_self) with e' | e'
        · exact e'.symm
        · have := lessD_trans (hb1 x e) (ha1 y e')
          rw [lessD_irrefl] at this
          cases this
    subst hxy
    rw [ascD_ext ha2 hb2 fun z => ?_]
    constructor
    · intro hz
      rcases List.mem_cons.1 ((h z).1 (List.mem_cons_of_mem _ hz)) with e | e
      · subst e
        have := ha1 z hz
        rw [lessD_irrefl] at this
        cases this
      · exact e
    · intro hz
      rcases List.mem_cons.1 ((h z).2 (List.mem_cons_of_mem _ hz)) with e | e
      · subst e
        have := hb1 z hz
        rw [lessD_irrefl] at this
        cases this
      · exact e
/-- all of a list put in one behind the other -/
def ascD (L : List (List (Int × Int))) : List (List (Int × Int)) := L.foldl (fun l x => insD x l) []
theorem foldl_insD (L : List (List (Int × Int))) : ∀ l, AscD l → AscD (L.foldl (fun l x => insD x l) l) ∧ ∀ y, y ∈ L.foldl (fun l x => insD x l) l ↔ y ∈ L ∨ y ∈ l := by
  induction L with
  | nil => intro l h; exact ⟨h, fun y => by simp⟩
  | cons x L ih =>
    intro l h
    obtain ⟨h1, h2⟩ := ih _ (asc_insD (x := x) h)
    refine ⟨h1, fun y => ?_⟩
    rw [List.foldl_cons, h2, mem_insD, List.mem_cons]
    constructor
    · rintro (h | h | h)
      · exact .inl (.inr h)
      · exact .inl (.inl h)
      · exact .inr h
    · rintro ((h | h) | h)
      · exact .inr (.inl h)
      · exact .inl h
      · exact .inr (.inr h)
theorem ascD_asc (L : List (List (Int × Int))) : AscD (ascD L) := (foldl_insD L [] List.Pairwise.nil).1
theorem mem_ascD {L : List (List (Int × Int))} {y : List (Int × Int)} : y ∈ ascD L ↔ y ∈ L := by
  rw [ascD, (foldl_insD L [] List.Pairwise.nil).2]
  simp
theorem ascD_snoc (L : List (List (Int × Int))) (x : List (Int × Int)) : ascD (L ++ [x]) = insD x (ascD L) := by
  unfold ascD
  rw [List.foldl_append]
  rfl
/-- an ordered list of the same ones is that list -/
theorem ascD_perm {L l : List (List (Int × Int))} (hp : l.Perm L) (hs : l.Pairwise fun p q => lessD p q = true) : l = ascD L := ascD_ext hs (ascD_asc L) fun x => by rw [mem_ascD]; exact hp.mem_iff
theorem insD_length (x : List (Int × Int)) (l : List (List (Int × Int))) : (insD x l).length ≤ l.length + 1 := by
  unfold insD
  split
  · omega
  · have := cutD_le x l
    simp
    omega
end Go.Proofs.Ytageojkepoejiaa

namespace Go.Proofs.Ytageojkepoejiaa
open Go.RowKit

/-- whether the list has the cell -/
def hasC (xs : List (Int × Int)) (p q : Int) : Bool := xs.contains (p, q)
theorem contains_no {xs : List (Int × Int)} {x : Int × Int} {n : Nat} (hn : xs.length = n) (h : ∀ j, j < n → xs[j]? ≠ some x) : xs.contains x = false := by
  rw [Bool.eq_false_iff]
  intro hc
  obtain ⟨j, hj⟩ := List.getElem?_of_mem (List.contains_iff_mem.1 hc)
  exact h j (by have := (List.getElem?_eq_some_iff.1 hj).1; omega) hj
set_option maxRecDepth 100000 in
set_option maxHeartbeats 1600000 in
theorem l1HasCell_any (a : Option Addr) (n c : Nat) (xs : List (Int × Int)) (p q : Int) (w : World) (hr : RC w a xs) (hn : xs.length = n) (hb : n ≤ 1048576) :
    Calls Try.prog 45 #[.slice a n c, .agg #[.int .i64 p, .int .i64 q]] w fun e w' => e = .returned (.bool (hasC xs p q)) ∧ Below w.heap.size w w' := by
  have Hn := Lib.hid hn; clear hn
  have hB0 : Below w.heap.size w (w.alloc (.cells #[.int .i64 p, .int .i64 q] 60)) := (Below.refl _ _).alloc (Nat.le_refl _) _
  have g0 : (w.alloc (.cells #[.int .i64 p, .int .i64 q] 60)).heap[w.heap.size]? = some (.cells #[.int .i64 p, .int .i64 q] 60) := heap_alloc_new w _
  have y0 : (w.alloc (.cells #[.int .i64 p, .int .i64 q] 60)).cell? ⟨w.heap.size, 0, none⟩ = some (.int .i64 p) := by rw [cell_of_row _ _ 0 _ _ (0, 0) g0]; rfl
  have y1 : (w.alloc (.cells #[.int .i64 p, .int .i64 q] 60)).cell? ⟨w.heap.size, 1, none⟩ = some (.int .i64 q) := by rw [cell_of_row _ _ 1 _ _ (0, 0) g0]; rfl
  clear g0
  go_enter Try.func45, Try.ntmps45
  go_wp2
  go_loopw [5] (fun iv wr => Hid (∃ k : Nat, k ≤ n ∧ iv = .int .i64 k ∧ ∀ j, j < k → xs[j]? ≠ some (p, q)) ∧ Drew (w.alloc (.cells #[.int .i64 p, .int .i64 q] 60)) wr) (fun iv _ => n - (intOf iv).toNat)
  case atStart => exact ⟨⟨0, Nat.zero_le _, rfl, fun j hj => by omega⟩, Drew.refl _⟩
  case round =>
    obtain ⟨HV, hd⟩ := hrel
    obtain ⟨wo, rfl⟩ : ∃ wo : World, wo = wr := ⟨_, rfl⟩
    obtain ⟨k, hk, rfl, hno⟩ := HV.out
    clear HV
    have hB := hB0.trans (hd.below w.heap.size)
    have z0 : wo.cell? ⟨w.heap.size, 0, none⟩ = some (.int .i64 p) := by rw [hd.cell]; exact y0
    have z1 : wo.cell? ⟨w.heap.size, 1, none⟩ = some (.int .i64 q) := by rw [hd.cell]; exact y1
    by_cases hlt : k < n
    · obtain ⟨b, off, rfl, hcell⟩ := (hr.below hB).at (k := k) (by rw [Hn.out]; exact hlt)
      obtain ⟨u, v, hx⟩ := pair_at Hn.out hlt
      obtain ⟨hc1, hc2⟩ := hcell _ _ hx
      simp only at hc1 hc2
      have q1 : (k : Int) < (n : Int) := by omega
      have Hx := Lib.hid hx
      have Hno := Lib.hid hno
      clear hcell hx hno y0 y1
      by_cases he : (u, v) = (p, q)
      · have hm : xs.contains (p, q) = true := List.contains_iff_mem.2 (List.mem_of_getElem? (by rw [Hx.out, he]))
        have Hm := Lib.hid hm
        have e1 : (u == p) = true := by simp only [Prod.mk.injEq] at he; simp [he.1]
        have e2 : (v == q) = true := by simp only [Prod.mk.injEq] at he; simp [he.2]
        clear he hm
        go_wp2
        go_quiet (fail)
        go_wp2
        go_ret
        exact ⟨ret_bool Hm.out.symm, hB.trans (Drew.below (Drew.drewN wo nq) _)⟩
      · have hno2 := Lib.hid (show ∀ j, j < k + 1 → xs[j]? ≠ some (p, q) from fun j hj => by
          rcases Nat.lt_or_ge j k with h | h
          · exact Hno.out j h
          · obtain rfl : j = k := by omega
            rw [Hx.out]
            exact fun e => he (Option.some.inj e))
        have hd2 := hd.trans (Drew.drewN wo 1)
        by_cases h1 : u = p
        · have h2 : v ≠ q := fun e => he (by rw [h1, e])
          have e1 : (u == p) = true := by simp [h1]
          have e2 : (v == q) = false := by simp [h2]
          clear he h1 h2 hd2
          go_wp2
          go_quiet (fail)
          go_wp2
          go_roundw
          case rel => exact ⟨⟨k + 1, by omega, by go_num, hno2.out⟩, hd.trans (Drew.drewN wo nq)⟩
          case measure => simp [intOf]; omega
        · have e1 : (u == p) = false := by simp [h1]
          clear he h1 hd2
          go_wp2
          go_quiet (fail)
          go_wp2
          go_roundw
          case rel => exact ⟨⟨k + 1, by omega, by go_num, hno2.out⟩, hd.trans (Drew.drewN wo nq)⟩
          case measure => simp [intOf]; omega
    · obtain rfl : k = n := by omega
      have Hm := Lib.hid (contains_no Hn.out hno)
      go_wp2
      go_ret
      exact ⟨ret_bool Hm.out.symm, hB⟩
end Go.Proofs.Ytageojkepoejiaa

namespace Go.Proofs.Ytageojkepoejiaa
open Go.RowKit

def csum (p : Int × Int) : Int := p.1 + p.2
/-- where the row begins that cell i stands in, and the cells of the rows before it, each row turned -/
def wst (xs : List (Int × Int)) : Nat → Nat × List (Int × Int)
  | 0 => (0, [])
  | i + 1 => if (cellOf xs i).1 = (cellOf xs (wst xs i).1).1 then wst xs i else (i, (wst xs i).2 ++ ((xs.take i).drop (wst xs i).1).reverse)
def grp (xs : List (Int × Int)) (f i : Nat) : List (Int × Int) := ((xs.take i).drop f).reverse
def wordCells (xs : List (Int × Int)) : List (Int × Int) := (wst xs xs.length).2 ++ grp xs (wst xs xs.length).1 xs.length
def wordOf (xs : List (Int × Int)) : List Int := (wordCells xs).map csum
theorem wst_same {xs : List (Int × Int)} {i f : Nat} (hf : (wst xs i).1 = f) (h : (cellOf xs i).1 = (cellOf xs f).1) : wst xs (i + 1) = wst xs i := by
  rw [wst, hf, if_pos h]
theorem wst_new {xs : List (Int × Int)} {i f : Nat} (hf : (wst xs i).1 = f) (h : (cellOf xs i).1 ≠ (cellOf xs f).1) : wst xs (i + 1) = (i, (wst xs i).2 ++ grp xs f i) := by
  rw [wst, hf, if_neg h]; rfl
theorem wst_le (xs : List (Int × Int)) (i : Nat) : (wst xs i).1 ≤ i := by
  induction i with
  | zero => exact Nat.le_refl _
  | succ i ih =>
    rw [wst]
    split
    · omega
    · exact Nat.le_succ _
theorem wst_lt {xs : List (Int × Int)} {n i f : Nat} (_hn : xs.length = n) (h : i < n) (hf : (wst xs i).1 = f) : f < n := by
  have := wst_le xs i; omega
theorem grp_length {xs : List (Int × Int)} {n f i : Nat} (hn : xs.length = n) (hi : i ≤ n) : (grp xs f i).length = i - f := by
  simp [grp]; omega
theorem wst_len {xs : List (Int × Int)} {n : Nat} (hn : xs.length = n) : ∀ i, i ≤ n → (wst xs i).2.length = (wst xs i).1 := by
  intro i
  induction i with
  | zero => intro _; rfl
  | succ i ih =>
    intro h
    rw [wst]
    split
    · exact ih (by omega)
    · have h1 := ih (by omega)
      have h2 := grp_length (f := (wst xs i).1) hn (show i ≤ n by omega)
      have h3 := wst_le xs i
      unfold grp at h2
      rw [List.length_append, h2, h1]
      show _ = i
      omega
theorem grp_at {xs : List (Int × Int)} {n f i m : Nat} (hn : xs.length = n) (hi : i ≤ n) (hm : m < i - f) : (grp xs f i)[m]? = xs[i - 1 - m]? := by
  subst hn
  unfold grp
  rw [List.getElem?_reverse (by simp; omega), List.getElem?_drop, List.getElem?_take, if_pos (by simp; omega)]
  congr 1
  simp
  omega
theorem take_grp {xs : List (Int × Int)} {n f i m : Nat} {p : Int × Int} (hn : xs.length = n) (hi : i ≤ n) (hm : m < i - f) (hp : xs[i - 1 - m]? = some p) (us : List Int) :
    us ++ ((grp xs f i).map csum).take m ++ [csum p] = us ++ ((grp xs f i).map csum).take (m + 1) := by
  rw [List.append_assoc, List.take_add_one, List.getElem?_map, grp_at hn hi hm, hp]
  rfl
theorem all_grp {xs : List (Int × Int)} {n f i : Nat} (hn : xs.length = n) (hi : i ≤ n) : ((grp xs f i).map csum).take (i - f) = (grp xs f i).map csum := by
  rw [List.take_of_length_le]
  rw [List.length_map, grp_length hn hi]
  exact Nat.le_refl _
end Go.Proofs.Ytageojkepoejiaa

namespace Go.Proofs.Ytageojkepoejiaa

def turned (p : Int × Int) : Int × Int := (p.1, -p.2)
/-- p does not stand behind q -/
def wordLe (p q : Int × Int) : Bool := !(cellLess (turned q) (turned p))
theorem cellLess_iff (p q : Int × Int) : cellLess p q = true ↔ p.1 < q.1 ∨ p.1 = q.1 ∧ p.2 < q.2 := by
  simp [cellLess]
theorem cellLess_no (p q : Int × Int) : cellLess p q = false ↔ ¬ (p.1 < q.1 ∨ p.1 = q.1 ∧ p.2 < q.2) := by
  rw [← cellLess_iff, Bool.not_eq_true]
theorem wordLe_iff (p q : Int × Int) : wordLe p q = true ↔ p.1 < q.1 ∨ p.1 = q.1 ∧ q.2 ≤ p.2 := by
  unfold wordLe turned
  rw [Bool.not_eq_true', cellLess_no]
  simp only
  omega
theorem wordLe_trans (a b c : Int × Int) (h : wordLe a b = true) (k : wordLe b c = true) : wordLe a c = true := by
  rw [wordLe_iff] at *; omega
theorem wordLe_total (a b : Int × Int) : (wordLe a b || wordLe b a) = true := by
  rw [Bool.or_eq_true, wordLe_iff, wordLe_iff]; omega
theorem wordLe_antisymm (a b : Int × Int) (h : wordLe a b = true) (k : wordLe b a = true) : a = b := by
  rw [wordLe_iff] at *
  exact Prod.ext (by omega) (by omega)
theorem sort_unique {xs ys : List (Int × Int)} (hp : ys.Perm xs) (hs : ys.Pairwise (fun a b => wordLe a b = true)) : xs.mergeSort wordLe = ys := by
  refine List.Perm.eq_of_pairwise (le := fun a b => wordLe a b = true) ?_ (List.pairwise_mergeSort wordLe_trans wordLe_total xs) hs ((List.mergeSort_perm xs wordLe).trans hp.symm)
  intro a b _ _ h k
  exact wordLe_antisymm a b h k

theorem dream_all {n : Int} {xs : List (Int × Int)} (h : isDream n xs = true) : (1 ≤ n ∧ n ≤ 6) ∧ ∀ j, j < xs.length → dreamAt n xs j = true := by
  unfold isDream at h
  rw [Bool.and_eq_true, List.all_eq_true] at h
  exact ⟨of_decide_eq_true h.1, fun j hj => h.2 j (by simpa using hj)⟩
theorem dream_in {n : Int} {xs : List (Int × Int)} (h : isDream n xs = true) {j : Nat} (hj : j < xs.length) : inStair n (cellOf xs j) = true := by
  have := (dream_all h).2 j hj
  unfold dreamAt at this
  rw [Bool.and_eq_true] at this
  exact this.1
theorem dream_rise {n : Int} {xs : List (Int × Int)} (h : isDream n xs = true) : ∀ (d j : Nat), j + d + 1 < xs.length → cellLess (cellOf xs j) (cellOf xs (j + d + 1)) = true := by
  intro d
  induction d with
  | zero =>
    intro j hj
    have := (dream_all h).2 (j + 1) hj
    unfold dreamAt at this
    rw [Bool.and_eq_true, Bool.or_eq_true] at this
    rcases this.2 with h1 | h1
    · simp at h1
    · exact h1
  | succ d ih =>
    intro j hj
    have h1 := ih j (by omega)
    have h2 := (dream_all h).2 (j + d + 2) hj
    unfold dreamAt at h2
    rw [Bool.and_eq_true, Bool.or_eq_true] at h2
    rcases h2.2 with h3 | h3
    · simp at h3
    · rw [cellLess_iff] at *
      have e : j + (d + 1) + 1 = j + d + 2 := by omega
      rw [e]
      have e2 : j + d + 2 - 1 = j + d + 1 := by omega
      rw [e2] at h3
      omega
theorem dream_less {n : Int} {xs : List (Int × Int)} (h : isDream n xs = true) {i j : Nat} (hij : i < j) (hj : j < xs.length) : (cellOf xs i).1 < (cellOf xs j).1 ∨ (cellOf xs i).1 = (cellOf xs j).1 ∧ (cellOf xs i).2 < (cellOf xs j).2 := by
  have := dream_rise h (j - i - 1) i (by omega)
  rw [show i + (j - i - 1) + 1 = j by omega, cellLess_iff] at this
  exact this

theorem wst_perm (xs : List (Int × Int)) : ∀ i, (wst xs i).2.Perm (xs.take (wst xs i).1) := by
  intro i
  induction i with
  | zero => simp [wst]
  | succ i ih =>
    rw [wst]
    split
    · exact ih
    · have hle := wst_le xs i
      simp only
      have h1 : xs.take i = xs.take (wst xs i).1 ++ (xs.take i).drop (wst xs i).1 := by
        conv => lhs; rw [← List.take_append_drop (wst xs i).1 (xs.take i)]
        rw [List.take_take, Nat.min_eq_left hle]
      conv => rhs; rw [h1]
      exact ih.append (List.reverse_perm _)
theorem wordCells_perm (xs : List (Int × Int)) : (wordCells xs).Perm xs := by
  unfold wordCells grp
  have h := (wst_perm xs xs.length).append (List.reverse_perm ((xs.take xs.length).drop (wst xs xs.length).1))
  rw [List.take_length] at h ⊢
  rw [List.take_append_drop] at h
  exact h

/-- what holds of the state at cell i -/
structure WInv (xs : List (Int × Int)) (i : Nat) : Prop where
  same : ∀ j, (wst xs i).1 ≤ j → j < i → (cellOf xs j).1 = (cellOf xs (wst xs i).1).1
  less : ∀ j k, j < (wst xs i).1 → (wst xs i).1 ≤ k → k < xs.length → (cellOf xs j).1 < (cellOf xs k).1
  pair : (wst xs i).2.Pairwise (fun a b => wordLe a b = true)
theorem mem_take {xs : List (Int × Int)} {f : Nat} {p : Int × Int} (h : p ∈ xs.take f) : ∃ j, j < f ∧ j < xs.length ∧ cellOf xs j = p := by
  obtain ⟨j, hj⟩ := List.getElem?_of_mem h
  have hl := (List.getElem?_eq_some_iff.1 hj).1
  rw [List.length_take] at hl
  rw [List.getElem?_take, if_pos (by omega)] at hj
  exact ⟨j, by omega, by omega, cellOf_at hj⟩
theorem mem_grp {xs : List (Int × Int)} {f i : Nat} {p : Int × Int} (h : p ∈ grp xs f i) : ∃ j, f ≤ j ∧ j < i ∧ j < xs.length ∧ cellOf xs j = p := by
  unfold grp at h
  rw [List.mem_reverse] at h
  obtain ⟨j, hj⟩ := List.getElem?_of_mem h
  have hl := (List.getElem?_eq_some_iff.1 hj).1
  rw [List.length_drop, List.length_take] at hl
  rw [List.getElem?_drop, List.getElem?_take, if_pos (by omega)] at hj
  exact ⟨f + j, by omega, by omega, by omega, cellOf_at hj⟩
theorem WInv.join {n : Int} {xs : List (Int × Int)} {i : Nat} (hd : isDream n xs = true) (hi : i ≤ xs.length) (h : WInv xs i) : ((wst xs i).2 ++ grp xs (wst xs i).1 i).Pairwise (fun a b => wordLe a b = true) := by
  rw [List.pairwise_append]
  refine ⟨h.pair, ?_, ?_⟩
  · unfold grp
    rw [List.pairwise_reverse, List.pairwise_iff_getElem]
    intro a b ha hb hab
    rw [List.length_drop, List.length_take] at ha hb
    rw [List.getElem_drop, List.getElem_drop, List.getElem_take, List.getElem_take]
    have ea : cellOf xs ((wst xs i).1 + a) = xs[(wst xs i).1 + a]'(by omega) := cellOf_at (List.getElem?_eq_getElem _)
    have eb : cellOf xs ((wst xs i).1 + b) = xs[(wst xs i).1 + b]'(by omega) := cellOf_at (List.getElem?_eq_getElem _)
    have h1 := dream_less hd (i := (wst xs i).1 + a) (j := (wst xs i).1 + b) (by omega) (by omega)
    have h2 := h.same ((wst xs i).1 + a) (by omega) (by omega)
    have h3 := h.same ((wst xs i).1 + b) (by omega) (by omega)
    rw [← ea, ← eb, wordLe_iff]
    omega
  · intro a ha b hb
    obtain ⟨j, h1, _, rfl⟩ := mem_take ((wst_perm xs i).mem_iff.1 ha)
    obtain ⟨k, h2, _, h3, rfl⟩ := mem_grp hb
    rw [wordLe_iff]
    left
    exact h.less j k h1 h2 h3
theorem winv {n : Int} {xs : List (Int × Int)} (hd : isDream n xs = true) : ∀ i, i ≤ xs.length → WInv xs i := by
  intro i
  induction i with
  | zero =>
    intro _
    exact ⟨fun j _ h => by omega, fun j k h => by simp [wst] at h, List.Pairwise.nil⟩
  | succ i ih =>
    intro hi
    have h := ih (by omega)
    by_cases hr : (cellOf xs i).1 = (cellOf xs (wst xs i).1).1
    · have e := wst_same (xs := xs) (i := i) rfl hr
      constructor
      · rw [e]
        intro j h1 h2
        rcases Nat.lt_or_ge j i with h3 | h3
        · exact h.same j h1 h3
        · obtain rfl : j = i := by omega
          exact hr
      · rw [e]; exact h.less
      · rw [e]; exact h.pair
    · have e := wst_new (xs := xs) (i := i) rfl hr
      have hle := wst_le xs i
      have hpos : (wst xs i).1 < i := by
        rcases Nat.lt_or_ge (wst xs i).1 i with h1 | h1
        · exact h1
        · have : (wst xs i).1 = i := by omega
          rw [this] at hr
          exact absurd rfl hr
      have hfi := dream_less hd hpos (by omega)
      constructor
      · rw [e]; intro j h1 h2; obtain rfl : j = i := (by simp only at h1; omega); rfl
      · rw [e]
        simp only
        intro j k h1 h2 h3
        have hik : (cellOf xs i).1 ≤ (cellOf xs k).1 := by
          rcases Nat.lt_or_ge i k with h4 | h4
          · have := dream_less hd h4 h3; omega
          · obtain rfl : k = i := by omega
            exact Int.le_refl _
        rcases Nat.lt_or_ge j (wst xs i).1 with h4 | h4
        · have := h.less j (wst xs i).1 h4 (Nat.le_refl _) (by omega)
          omega
        · have := h.same j h4 h1
          omega
      · rw [e]; exact h.join hd (by omega)
theorem word_sorted {n : Int} {xs : List (Int × Int)} (hd : isDream n xs = true) : xs.mergeSort wordLe = wordCells xs :=
  sort_unique (wordCells_perm xs) ((winv hd xs.length (Nat.le_refl _)).join hd (Nat.le_refl _))
theorem dream_low {n : Int} {xs : List (Int × Int)} (hd : isDream n xs = true) : ∀ (k : Nat) (p : Int × Int), xs[k]? = some p → Low p.1 ∧ Low p.2 := by
  intro k p hp
  have h := dream_in hd (List.getElem?_eq_some_iff.1 hp).1
  rw [cellOf_at hp] at h
  have hn := (dream_all hd).1
  unfold inStair at h
  simp only [Bool.and_eq_true, decide_eq_true_eq] at h
  unfold Low
  omega
end Go.Proofs.Ytageojkepoejiaa
