/-
  Slices of cells: what they read as, what a call owns of them; compared.
  Slices of cells that a call owns; marked, held.
  Contracts of BottomDream, the program's and the reference's.
  Contracts of szCellS, toCell, toCellS; what came in, opened: a slice of cells.
  Contract of slices.Clone of cells.
  append of cells to cells, as a step of a region that draws its order; parts of a row of cells.
-/
import Derived.Test.YtageojkepoejiaaBuA
import Derived.StillTailTactics
import Derived.Test.YtageojkepoejiaaCode
import Derived.Test.YtageojkepoejiaaSzI
import Derived.Test.YtageojkepoejiaaOpen
import Derived.Deep.SlicePairs
import Derived.Laws.Rows
import Derived.Deep.RegionHeld3
namespace Go.Proofs.Ytageojkepoejiaa
open Go.RowKit

/-- the slice at address a reads as pairs -/
def RC (w : World) (a : Option Addr) (xs : List (Int × Int)) : Prop :=
  xs = [] ∨ ∃ b off, a = some ⟨b, off, none⟩ ∧ ∀ k p, xs[k]? = some p → w.cell? ⟨b, off + k * 2, none⟩ = some (.int .i64 p.1) ∧ w.cell? ⟨b, off + k * 2 + 1, none⟩ = some (.int .i64 p.2)
theorem RC.at {w : World} {a : Option Addr} {xs : List (Int × Int)} (h : RC w a xs) {k : Nat} (hk : k < xs.length) :
    ∃ b off, a = some ⟨b, off, none⟩ ∧ ∀ k p, xs[k]? = some p → w.cell? ⟨b, off + k * 2, none⟩ = some (.int .i64 p.1) ∧ w.cell? ⟨b, off + k * 2 + 1, none⟩ = some (.int .i64 p.2) := by
  rcases h with rfl | h
  · simp at hk
  · exact h
theorem RC.below {w w' : World} {a : Option Addr} {xs : List (Int × Int)} (h : RC w a xs) (hb : Below w.heap.size w w') : RC w' a xs := by
  rcases h with h | ⟨b, off, ha, hc⟩
  · exact .inl h
  · exact .inr ⟨b, off, ha, fun k x hx => by
      obtain ⟨h1, h2⟩ := hc k x hx
      exact ⟨by rw [hb.cell (World.block_lt_of_cell? w _ h1)]; exact h1, by rw [hb.cell (World.block_lt_of_cell? w _ h2)]; exact h2⟩⟩

set_option maxHeartbeats 400000 in
theorem eqCell_any (a b c d : Int) (w : World) :
    Calls Try.prog 56 #[.agg #[.int .i64 a, .int .i64 b], .agg #[.int .i64 c, .int .i64 d]] w fun e w' => e = .returned (.bool (decide ((a, b) = (c, d)))) ∧ Below w.heap.size w w' := by
  have hB := Lib.hid (((Below.refl w.heap.size w).alloc (Nat.le_refl _) (.cells #[.int .i64 a, .int .i64 b] 60)).alloc (by simp only [World.alloc, Array.size_push]; omega) (.cells #[.int .i64 c, .int .i64 d] 60))
  by_cases h1 : a = c
  · have e1 : (a != c) = false := by simp [h1]
    by_cases h2 : b = d
    · subst h1 h2
      have e2 : (b != b) = false := by simp
      go_enter Try.func56, Try.ntmps56
      go_wp2
      go_ret
      exact ⟨ret_bool (by simp), hB.out⟩
    · have e2 : (b != d) = true := by simp [h2]
      subst h1
      go_enter Try.func56, Try.ntmps56
      go_wp2
      go_ret
      exact ⟨ret_bool (by simp [h2]), hB.out⟩
  · have e1 : (a != c) = true := by simp [h1]
    go_enter Try.func56, Try.ntmps56
    go_wp2
    go_ret
    exact ⟨ret_bool (by simp; intro h; exact absurd h h1), hB.out⟩

theorem eqp_of_all {xs ys : List (Int × Int)} (hl : xs.length = ys.length) (h : ∀ j, j < xs.length → xs[j]? = ys[j]?) : decide (xs = ys) = true := by
  rw [decide_eq_true_iff]
  apply List.ext_getElem?
  intro j
  rcases Nat.lt_or_ge j xs.length with h1 | h1
  · exact h j h1
  · rw [List.getElem?_eq_none h1, List.getElem?_eq_none (by omega)]
theorem nep_of_at {xs ys : List (Int × Int)} {k : Nat} {x y : Int × Int} (hx : xs[k]? = some x) (hy : ys[k]? = some y) (h : x ≠ y) : decide (xs = ys) = false := by
  rw [decide_eq_false_iff_not]
  rintro rfl
  rw [hx] at hy
  exact h (by simpa using hy)
theorem pair_at {xs : List (Int × Int)} {n k : Nat} (h : xs.length = n) (hk : k < n) : ∃ p q, xs[k]? = some (p, q) := ⟨(xs[k]'(by omega)).1, (xs[k]'(by omega)).2, List.getElem?_eq_getElem (by omega)⟩

set_option maxRecDepth 100000 in
set_option maxHeartbeats 1600000 in
theorem eqCellS_any (a b : Option Addr) (n c m d : Nat) (xs ys : List (Int × Int)) (w : World) (hr : RC w a xs) (hs : RC w b ys) (hn : xs.length = n) (hm : ys.length = m) (hb : n ≤ 17592186044416) :
    Calls Try.prog 22 #[.slice a n c, .slice b m d] w fun e w' => e = .returned (.bool (decide (xs = ys))) ∧ Below w.heap.size w w' := by
  have Hn := Lib.hid hn; clear hn
  have Hm := Lib.hid hm; clear hm
  by_cases hnm : n = m
  · subst hnm
    go_enter Try.func22, Try.ntmps22
    go_wp2
    go_loopw [5] (fun i wr => ∃ k : Nat, k ≤ n ∧ i = .int .i64 k ∧ Hid (∀ j, j < k → xs[j]? = ys[j]?) ∧ Below w.heap.size w wr) (fun i _ => n - (intOf i).toNat)
    case atStart => exact ⟨0, Nat.zero_le _, rfl, by intro j hj; omega, Below.refl _ _⟩
    case round =>
      obtain ⟨k, hk, rfl, HA, hB⟩ := hrel
      by_cases hlt : k < n
      · obtain ⟨b1, off, rfl, hcell⟩ := (hr.below hB).at (k := k) (by rw [Hn.out]; exact hlt)
        obtain ⟨b2, off2, rfl, hcell2⟩ := (hs.below hB).at (k := k) (by rw [Hm.out]; exact hlt)
        obtain ⟨p, q, hx⟩ := pair_at Hn.out hlt
        obtain ⟨u, v, hy⟩ := pair_at Hm.out hlt
        obtain ⟨hc1, hc2⟩ := hcell k _ hx
        obtain ⟨hc3, hc4⟩ := hcell2 k _ hy
        have Hx := Lib.hid hx; clear hx
        have Hy := Lib.hid hy; clear hy
        clear hcell hcell2
        have hltI : (k : Int) < (n : Int) := by omega
        by_cases h1 : (p, q) = (u, v)
        · go_wp2
          go_still_tail 8, (by kernel_rfl)
          go_wp2_with fail
          refine (is (eqCell_any p q u v _) (by simp [h1] : _ = true)).mono ?_
          rintro e w2 ⟨rfl, hb2⟩
          have hB2 := hB.trans ((Drew.below ⟨1, rfl⟩ w.heap.size).trans (hb2.mono hB.size))
          go_wp2
          go_roundw
          case rel => exact ⟨k + 1, by omega, by go_num, by
                intro j hj
                rcases Nat.lt_or_ge j k with h | h
                · exact HA.out j h
                · obtain rfl : j = k := by omega
                  rw [Hx.out, Hy.out, h1], hB2⟩
          case measure => simp [intOf]; omega
        · go_wp2
          go_still_tail 8, (by kernel_rfl)
          go_wp2_with fail
          refine (is (eqCell_any p q u v _) (by simp only [decide_eq_false_iff_not]; exact h1 : _ = false)).mono ?_
          rintro e w2 ⟨rfl, hb2⟩
          have hB2 := hB.trans ((Drew.below ⟨1, rfl⟩ w.heap.size).trans (hb2.mono hB.size))
          go_wp2
          go_ret
          exact ⟨ret_bool (nep_of_at Hx.out Hy.out h1).symm, hB2⟩
      · obtain rfl : k = n := by omega
        go_wp2
        go_ret
        exact ⟨ret_bool (eqp_of_all (by rw [Hn.out, Hm.out]) (by rw [Hn.out]; exact HA.out)).symm, hB⟩
  · have hne : ((n : Int) != (m : Int)) = true := by simp; omega
    go_enter Try.func22, Try.ntmps22
    go_wp2
    go_ret
    exact ⟨ret_bool (by symm; rw [decide_eq_false_iff_not]; rintro rfl; exact hnm (by rw [← Hn.out, ← Hm.out])), Below.refl _ _⟩
end Go.Proofs.Ytageojkepoejiaa

namespace Go.Proofs.Ytageojkepoejiaa
open Go.RowKit

def prs : List (Int × Int) → List Value
  | [] => []
  | p :: xs => .int .i64 p.1 :: .int .i64 p.2 :: prs xs
theorem prs_length (xs : List (Int × Int)) : (prs xs).length = xs.length * 2 := by
  induction xs with
  | nil => rfl
  | cons p xs ih => simp only [prs, List.length_cons, ih]; omega
theorem prs_at {xs : List (Int × Int)} : ∀ {k : Nat} {p : Int × Int}, xs[k]? = some p → (prs xs)[k * 2]? = some (.int .i64 p.1) ∧ (prs xs)[k * 2 + 1]? = some (.int .i64 p.2) := by
  induction xs with
  | nil => intro k p h; simp at h
  | cons q xs ih =>
    intro k p h
    rcases k with _ | k
    · simp only [List.getElem?_cons_zero, Option.some.injEq] at h
      subst h
      exact ⟨rfl, rfl⟩
    · simp only [List.getElem?_cons_succ] at h
      have := ih h
      have e : (k + 1) * 2 = k * 2 + 1 + 1 := by omega
      rw [e]
      simpa [prs] using this
theorem prs_append (xs ys : List (Int × Int)) : prs (xs ++ ys) = prs xs ++ prs ys := by
  induction xs with
  | nil => rfl
  | cons p xs ih => simp [prs, ih]
theorem prs_set {xs : List (Int × Int)} : ∀ {k : Nat} {p : Int × Int}, xs[k]? = some p → ∀ u : Int, (prs xs).set (k * 2) (.int .i64 u) = prs (xs.set k (u, p.2)) ∧ (prs xs).set (k * 2 + 1) (.int .i64 u) = prs (xs.set k (p.1, u)) := by
  induction xs with
  | nil => intro k p h; simp at h
  | cons q xs ih =>
    intro k p h u
    rcases k with _ | k
    · simp only [List.getElem?_cons_zero, Option.some.injEq] at h
      subst h
      exact ⟨rfl, rfl⟩
    · simp only [List.getElem?_cons_succ] at h
      obtain ⟨h1, h2⟩ := ih h u
      have e : (k + 1) * 2 = k * 2 + 1 + 1 := by omega
      rw [e]
      simp only [prs, List.set_cons_succ, h1, h2]
      exact ⟨trivial, trivial⟩

/-- the slice of cells is a row of the call's own, in a block from B on and below S -/
def CO (w : World) (B S : Nat) (a : Option Addr) (n c : Nat) (xs : List (Int × Int)) : Prop :=
  w.ownsRow B 60 2 (.slice a n c) n (prs xs) ∧ ∀ k, (Value.slice a n c).ownBlock = some k → k < S
theorem CO.len {w : World} {B S : Nat} {a : Option Addr} {n c : Nat} {xs : List (Int × Int)} (h : CO w B S a n c xs) : xs.length = n := by
  have := h.1.1; rw [prs_length] at this; omega
theorem CO.mk {w : World} {B : Nat} {a : Option Addr} {n c : Nat} {xs : List (Int × Int)} (h : w.ownsRow B 60 2 (.slice a n c) n (prs xs)) : CO w B w.heap.size a n c xs := ⟨h, fun k hk => (h.lt k hk).2⟩
theorem CO.lo {w : World} {B S : Nat} {a : Option Addr} {n c : Nat} {xs : List (Int × Int)} (h : CO w B S a n c xs) : ∀ k, (Value.slice a n c).ownBlock = some k → B ≤ k := fun k hk => (h.1.lt k hk).1
theorem CO.nil {w : World} {B S : Nat} : CO w B S none 0 0 [] := ⟨⟨rfl, .inl ⟨rfl, rfl⟩⟩, fun k hk => by simp [Value.ownBlock] at hk⟩
theorem CO.cons {w : World} {B S : Nat} {a : Option Addr} {n c : Nat} {xs : List (Int × Int)} (h : CO w B S a n c xs) {j : Nat} {p : Int × Int} (hp : xs[j]? = some p) :
    ∃ g, a = some ⟨g, 0, none⟩ ∧ B ≤ g ∧ w.cell? ⟨g, j * 2, none⟩ = some (.int .i64 p.1) ∧ w.cell? ⟨g, j * 2 + 1, none⟩ = some (.int .i64 p.2) ∧ w.frozen? ⟨g, j * 2, none⟩ = false ∧ w.frozen? ⟨g, j * 2 + 1, none⟩ = false := by
  have hl := h.len
  have hj : j < n := by have := (List.getElem?_eq_some_iff.1 hp).1; omega
  have h' := h.1
  rcases h.1.2 with ⟨_, h2⟩ | ⟨g, cap, cur, hv, hb, _⟩
  · omega
  · simp only [Value.slice.injEq] at hv
    obtain ⟨rfl, _, rfl⟩ := hv
    obtain ⟨e1, e2⟩ := prs_at hp
    exact ⟨g, rfl, hb, by rw [h'.cellAt _ (by omega)]; exact e1, by rw [h'.cellAt _ (by omega)]; exact e2, h'.frozenAt _, h'.frozenAt _⟩
theorem CO.rd {w : World} {B S : Nat} {a : Option Addr} {n c : Nat} {xs : List (Int × Int)} (h : CO w B S a n c xs) : RC w a xs := by
  rcases xs with _ | ⟨p0, xs⟩
  · exact .inl rfl
  · obtain ⟨g, rfl, _⟩ := h.cons (j := 0) (p := p0) rfl
    refine .inr ⟨g, 0, rfl, fun k p hp => ?_⟩
    obtain ⟨g', e, _, h1, h2, _⟩ := h.cons hp
    obtain rfl : g = g' := by simpa using e
    simp only [Nat.zero_add]
    exact ⟨h1, h2⟩
theorem CO.store {w : World} {B S g n c : Nat} {xs : List (Int × Int)} (h : CO w B S (some ⟨g, 0, none⟩) n c xs) {j : Nat} {p : Int × Int} (hp : xs[j]? = some p) (u : Int) :
    (CO (w.setCell ⟨g, j * 2, none⟩ (.int .i64 u)) B S (some ⟨g, 0, none⟩) n c (xs.set j (u, p.2)) ∧ w.grownBy (w.setCell ⟨g, j * 2, none⟩ (.int .i64 u)) (some g)) ∧
    (CO (w.setCell ⟨g, j * 2 + 1, none⟩ (.int .i64 u)) B S (some ⟨g, 0, none⟩) n c (xs.set j (p.1, u)) ∧ w.grownBy (w.setCell ⟨g, j * 2 + 1, none⟩ (.int .i64 u)) (some g)) := by
  obtain ⟨e1, e2⟩ := prs_set hp u
  have s1 := h.1.stored (j * 2) (.int .i64 u)
  have s2 := h.1.stored (j * 2 + 1) (.int .i64 u)
  exact ⟨⟨⟨by rw [← e1]; exact s1.1, h.2⟩, s1.2⟩, ⟨⟨by rw [← e2]; exact s2.1, h.2⟩, s2.2⟩⟩
theorem CO.only {w w' : World} {B S B' S' : Nat} {a : Option Addr} {n c : Nat} {xs : List (Int × Int)} (h : CO w B S a n c xs) (ho : Only B' S' w w') (hd : S ≤ B' ∨ S' ≤ B) : CO w' B S a n c xs := by
  refine ⟨⟨h.1.1, ?_⟩, h.2⟩
  have hh := h.2
  have hl := h.lo
  rcases h.1.2 with h2 | ⟨g, cap, cur, hv, hg, hb, r⟩
  · exact .inl h2
  · simp only [Value.slice.injEq] at hv
    obtain ⟨rfl, _, rfl⟩ := hv
    have h1 := hh g rfl
    have h3 := hl g rfl
    exact .inr ⟨g, c, cur, rfl, hg, by rw [ho.block g (Array.getElem?_eq_some_iff.1 hb).1 (by omega)]; exact hb, r⟩
theorem CO.below {w w' : World} {B S : Nat} {a : Option Addr} {n c : Nat} {xs : List (Int × Int)} (h : CO w B S a n c xs) (hb : Below w.heap.size w w') : CO w' B S a n c xs := h.only (Only.of_below hb) (.inr (Nat.zero_le _))
theorem CO.mono {w : World} {B S B' S' : Nat} {a : Option Addr} {n c : Nat} {xs : List (Int × Int)} (h : CO w B S a n c xs) (hB : B' ≤ B) (hS : S ≤ S') : CO w B' S' a n c xs := by
  refine ⟨⟨h.1.1, ?_⟩, fun k hk => Nat.lt_of_lt_of_le (h.2 k hk) hS⟩
  rcases h.1.2 with h2 | ⟨g, cap, cur, hv, hg, r⟩
  · exact .inl h2
  · exact .inr ⟨g, cap, cur, hv, Nat.le_trans hB hg, r⟩

theorem CO.kept {w w' : World} {B S n c : Nat} {a : Option Addr} {xs : List (Int × Int)} {row : Option Nat} (h : CO w B S a n c xs) (hg : w.grownBy w' row) (hne : ∀ k, (Value.slice a n c).ownBlock = some k → row ≠ some k) : CO w' B S a n c xs := by
  refine ⟨h.1.kept hg ?_, h.2⟩
  cases hv : (Value.slice a n c).ownBlock with
  | none => exact .inl rfl
  | some k => exact .inr (fun e => hne k hv e.symm)
def sz_C (xs : List (Int × Int)) : Nat := xs.length * 2
def mk_C (xs : List (Int × Int)) (k : Int) : List (Int × Int) := (List.range xs.length).map fun (i : Nat) => (k + (i * 2 : Nat), k + (i * 2 : Nat) + 1)
theorem mk_C_length (xs : List (Int × Int)) (k : Int) : (mk_C xs k).length = xs.length := by simp [mk_C]
theorem mk_C_at {xs : List (Int × Int)} {k : Int} {n j : Nat} (h : xs.length = n) (hj : j < n) : (mk_C xs k)[j]? = some (k + (j * 2 : Nat), k + (j * 2 : Nat) + 1) := by
  subst h; simp [mk_C, hj]
def partC (xs : List (Int × Int)) (k : Int) (j : Nat) : List (Int × Int) := (mk_C xs k).take j ++ xs.drop j
theorem partC_at {xs : List (Int × Int)} {k : Int} {n j : Nat} {p : Int × Int} (h : xs.length = n) (hj : j < n) (hp : xs[j]? = some p) : (partC xs k j)[j]? = some p := by
  unfold partC
  have hl : ((mk_C xs k).take j).length = j := by rw [List.length_take, mk_C_length]; omega
  rw [List.getElem?_append_right (by omega), hl, Nat.sub_self, List.getElem?_drop, Nat.add_zero]
  exact hp
theorem partC_succ {xs : List (Int × Int)} {k : Int} {n j : Nat} (h : xs.length = n) (hj : j < n) : (partC xs k j).set j (k + (j * 2 : Nat), k + (j * 2 : Nat) + 1) = partC xs k (j + 1) := by
  obtain ⟨p, q, hp⟩ := pair_at h hj
  unfold partC
  have hl : ((mk_C xs k).take j).length = j := by rw [List.length_take, mk_C_length]; omega
  have e1 := List.take_add_one (l := mk_C xs k) (i := j)
  rw [mk_C_at h hj] at e1
  have hj' := (List.getElem?_eq_some_iff.1 hp).1
  rw [List.drop_eq_getElem_cons hj', List.set_append_right _ _ (by omega), hl, Nat.sub_self, List.set_cons_zero, e1]
  simp

set_option maxRecDepth 100000 in
set_option maxHeartbeats 1600000 in
theorem mark_C (B S : Nat) (a : Option Addr) (n c : Nat) (xs : List (Int × Int)) (k : Int) (w : World) {Z : Nat} (ho : CO w B S a n c xs) (hk0 : 0 ≤ k) (hk : k ≤ 4398046511104) (hb : Z ≤ 1099511627776) (hZ : sz_C xs = Z) (hbn : n ≤ 17592186044416) :
    Calls Try.prog 23 #[.slice a n c, .int .i64 k] w fun e w' => e = .returned (.int .i64 (k + Z)) ∧ CO w' B S a n c (mk_C xs k) ∧ Only B S w w' := by
  have hn := ho.len
  have hZn : Z = n * 2 := by rw [← hZ, sz_C, hn]
  have Hn := Lib.hid hn; clear hn
  clear hZ
  go_enter Try.func23, Try.ntmps23
  go_wp2
  go_loopw [1, 5] (fun kk i wr => Hid (∃ j : Nat, j ≤ n ∧ i = .int .i64 j ∧ kk = .int .i64 (k + (j * 2 : Nat)) ∧ CO wr B S a n c (partC xs k j)) ∧ Only B S w wr) (fun _ i _ => n - (intOf i).toNat)
  case atStart => exact ⟨⟨0, Nat.zero_le _, rfl, by simp, by simpa [partC] using ho⟩, Only.refl _ _ _⟩
  case round =>
    clear ho
    obtain ⟨HV, hg⟩ := hrel
    obtain ⟨wo, rfl⟩ : ∃ wo : World, wo = wr := ⟨_, rfl⟩
    obtain ⟨j, hj, rfl, rfl, hr⟩ := HV.out
    clear HV
    by_cases hlt : j < n
    · obtain ⟨p, q, hp⟩ := pair_at Hn.out hlt
      have hpj := partC_at (k := k) Hn.out hlt hp
      have hst := partC_succ (k := k) Hn.out hlt
      obtain ⟨g, rfl, hBg, hc1, hc2, hf1, hf2⟩ := hr.cons hpj
      have s1 := (hr.store hpj (k + (j * 2 : Nat))).1
      have hpj2 : ((partC xs k j).set j (k + (j * 2 : Nat), q))[j]? = some (k + (j * 2 : Nat), q) := by
        rw [List.getElem?_set, if_pos rfl, if_pos (List.getElem?_eq_some_iff.1 hpj).1]
      obtain ⟨g', e', _, hd1, hd2, hh1, hh2⟩ := s1.1.cons hpj2
      obtain rfl : g = g' := by simpa using e'
      have s2 := (s1.1.store hpj2 (k + (j * 2 : Nat) + 1)).2
      rw [List.set_set, hst] at s2
      have hgS : g < S := hr.2 g rfl
      have o1 : Only B S w _ := hg.trans (Only.of_grown (v := .slice (some ⟨g, 0, none⟩) n c) s1.2 hr.lo hr.2)
      have o2 := o1.trans (Only.of_grown (v := .slice (some ⟨g, 0, none⟩) n c) s2.2 hr.lo hr.2)
      have Hs := Lib.hid s2.1
      have Ho := Lib.hid o2
      clear s1 s2 o1 o2 hst hpj hpj2 hr hg hd1 hh1
      go_wp2
      go_roundw
      case rel => exact ⟨⟨j + 1, by omega, by go_num, by go_num, Hs.out⟩, Ho.out⟩
      case measure => simp [intOf]; omega
    · obtain rfl : j = n := by omega
      have hfin : partC xs k j = mk_C xs k := by
        unfold partC
        rw [List.take_of_length_le (by rw [mk_C_length, Hn.out]; exact Nat.le_refl _), List.drop_of_length_le (by rw [Hn.out]; exact Nat.le_refl _), List.append_nil]
      rw [hfin] at hr
      have HR := Lib.hid hr; clear hr
      go_wp2
      go_ret
      exact ⟨ret_int (by rw [hZn]), HR.out, hg⟩

set_option maxRecDepth 100000 in
set_option maxHeartbeats 1600000 in
theorem held_C {B S : Nat} (a : Option Addr) (n c : Nat) (xs : List (Int × Int)) (k : Int) (w : World) {Z : Nat} (ho : CO w B S a n c (mk_C xs k)) (hk0 : 0 ≤ k) (hk : k ≤ 4398046511104) (hb : Z ≤ 1099511627776) (hZ : sz_C xs = Z) (hbn : n ≤ 17592186044416) :
    Calls Try.prog 57 #[.slice a n c, .int .i64 k] w fun e w' => e = .returned (.int .i64 (k + Z)) ∧ Drew w w' := by
  have hn := ho.len
  rw [mk_C_length] at hn
  have hZn : Z = n * 2 := by rw [← hZ, sz_C, hn]
  have Hn := Lib.hid hn; clear hn
  clear hZ
  go_enter Try.func57, Try.ntmps57
  go_wp2
  go_loop [1, 5] (fun kk i => ∃ j : Nat, j ≤ n ∧ i = .int .i64 j ∧ kk = .int .i64 (k + (j * 2 : Nat))) (fun _ i => n - (intOf i).toNat)
  case atStart => exact ⟨0, Nat.zero_le _, rfl, by simp⟩
  case round =>
    obtain ⟨j, hj, rfl, rfl⟩ := hrel
    by_cases hlt : j < n
    · obtain ⟨g, rfl, hBg, hc1, hc2, _, _⟩ := ho.cons (mk_C_at (k := k) Hn.out hlt)
      have e1 : ((k + (j * 2 : Nat)) != (k + (j * 2 : Nat))) = false := by simp
      have e2 : ((k + (j * 2 : Nat) + 1) != (k + (j * 2 : Nat) + 1)) = false := by simp
      go_wp2
      go_round
      case rel => exact ⟨j + 1, by omega, by go_num, by go_num⟩
      case measure => simp [intOf]; omega
    · obtain rfl : j = n := by omega
      go_wp2
      go_ret
      exact ⟨ret_int (by first | rfl | (rw [hZn]; simp)), Drew.refl _⟩
theorem eq_C (a b : Option Addr) (n c m d : Nat) (xs ys : List (Int × Int)) (w : World) (hr : RC w a xs) (hs : RC w b ys) (hn : xs.length = n) (hm : ys.length = m) (hb : n ≤ 17592186044416) :
    Calls Try.prog 22 #[.slice a n c, .slice b m d] w fun e w' => e = .returned (.bool (decide (xs = ys))) ∧ Below w.heap.size w w' := eqCellS_any a b n c m d xs ys w hr hs hn hm hb
end Go.Proofs.Ytageojkepoejiaa

namespace Go.Proofs.Ytageojkepoejiaa
open Go.RowKit

theorem Try.infoCell : (Try.prog.info? 60).map (fun i => (i.zero, i.size, i.bytes)) = some (some (.agg #[.int .i64 0, .int .i64 0]), 2, 16) := by kernel_rfl
theorem slice_of2 {w : World} {B e n : Nat} {v : Value} {xs : List Value} (h : w.ownsRow B e 2 v n xs) : ∃ a c, v = .slice a n c := by
  rcases h.2 with ⟨rfl, rfl⟩ | ⟨g, cap, cur, rfl, _⟩
  · exact ⟨none, 0, rfl⟩
  · exact ⟨_, cap, rfl⟩
theorem wpList_pushC {w W : World} {p q : Int} (hW : W = w.alloc (.cells #[.int .i64 p, .int .i64 q] 60)) {ops : Array Oper} {rest : List Oper} {o : Oper} {ac : Act} {Q : Exit → Act → World → Prop} (hgd : o.guard = none) (s x : Operand)
    (ho : o.op = .call { callee := .builtin .append, args := #[s, x], argTypes := #[36, 36] })
    {B S : Nat} {a : Option Addr} {n c : Nat} {xs : List (Int × Int)} (hown : CO w B S a n c xs) (hs : ac.eval s = .slice a n c)
    (hx : ac.eval x = .slice (some ⟨w.heap.size, 0, none⟩) 1 1) (hn : n + 1 ≤ 1048576) (hbase : B ≤ w.heap.size)
    (h : ∀ a' c' w', CO w' B w'.heap.size a' (n + 1) c' (xs ++ [(p, q)]) → w.grownBy w' (Value.slice a n c).ownBlock → wpList Try.prog ops Q rest (ac.put o.dst (.slice a' (n + 1) c')) w') :
    wpList Try.prog ops Q (o :: rest) ac W := by
  subst hW
  obtain ⟨i0, hi, hz0, hz1, hz2⟩ := info_parts Try.infoCell
  refine wpList_append_own _ hgd s x 36 ho B 60 i0 (.agg #[.int .i64 0, .int .i64 0]) 2 16 Try.underlying36 hi hz0 hz1 hz2 rfl (by decide) _ n (prs xs) hs (hown.1.alloc _) ⟨w.heap.size, 0, none⟩ 1 1 [.int .i64 p, .int .i64 q] hx rfl ?_ ?_ (by unfold maxLen; omega) (by omega) (by simp; omega) ?_
  · intro j y hj
    match j, hj with
    | 0, hj => simp at hj; subst hj; simp [Addr.add]
    | 1, hj => simp at hj; subst hj; simp [Addr.add]
  · intro y hy
    simp at hy
    rcases hy with rfl | rfl <;> rfl
  · intro v' w' h2 h3 _
    obtain ⟨a', c', rfl⟩ := slice_of2 h2
    exact h a' c' w' (CO.mk (by rw [prs_append]; exact h2)) (grownBy.trans (World.grownBy_alloc w _ _) h3)
theorem CO.made (w : World) : CO (w.alloc (.cells #[] 60)) w.heap.size (w.alloc (.cells #[] 60)).heap.size (some ⟨w.heap.size, 0, none⟩) 0 0 [] :=
  CO.mk (World.ownsRow_made _ #[] 0 (Nat.le_refl _) (Nat.zero_le _) rfl)
/-- a row of integers lies in another block than a row of cells -/
theorem ne_blockC {w : World} {B B' S n l : Nat} {a a' : Option Addr} {c c' : Nat} {ps : List (Int × Int)} {xs : List Int} (h : CO w B' S a n c ps) (hi : OS w B a' l c' xs) :
    ∀ k, (Value.slice a' l c').ownBlock = some k → (Value.slice a n c).ownBlock ≠ some k := by
  intro k hk hk'
  rcases h.1.2 with ⟨hv, _⟩ | ⟨g, cap, cur, hv, _, hh, _⟩
  · rw [hv] at hk'; cases hk'
  · rw [hv] at hk'
    rcases ownsRow_shape hi.own with ⟨_, rfl, _⟩ | ⟨g', rfl, _, _, _, cur', hg'⟩
    · cases hk
    · have e1 : g = k := by simpa [Value.ownBlock] using hk'
      have e2 : g' = k := by simpa [Value.ownBlock] using hk
      subst e1 e2
      rw [hh] at hg'
      simp at hg'

def rowCells (i m : Nat) : List (Int × Int) := (List.range m).map fun (j : Nat) => ((i : Int), (j : Int))
theorem rowCells_succ (i m : Nat) : rowCells i (m + 1) = rowCells i m ++ [((i : Int), (m : Int))] := by simp [rowCells, List.range_succ]
def bot (c : List Int) : Nat → List (Int × Int)
  | 0 => []
  | i + 1 => bot c i ++ rowCells i (c.getD i 0).toNat
theorem bot_len (c : List Int) {n : Nat} (h : ∀ (i : Nat) (x : Int), c[i]? = some x → 0 ≤ x ∧ x ≤ n) (k : Nat) : (bot c k).length ≤ k * n := by
  induction k with
  | zero => simp [bot]
  | succ k ih =>
    rw [bot, List.length_append, Nat.succ_mul]
    have : (rowCells k (c.getD k 0).toNat).length ≤ n := by
      simp only [rowCells, List.length_map, List.length_range]
      rw [List.getD_eq_getElem?_getD]
      cases hc : c[k]? with
      | none => simp
      | some x => have := h k x hc; simp only [Option.getD_some]; omega
    omega
def bottom (xs : List Int) : List (Int × Int) := if isPerm xs = true ∧ xs.length ≤ 6 then bot (code xs) xs.length else []
theorem code_bd {xs : List Int} (i : Nat) (x : Int) (h : (code xs)[i]? = some x) : 0 ≤ x ∧ x ≤ (xs.length : Nat) := by
  have hi := (List.getElem?_eq_some_iff.1 h).1
  rw [code_length] at hi
  rw [code_at rfl hi] at h
  obtain rfl := Option.some.inj h
  have := cnt_le xs i (xs.length - 1 - i)
  omega
theorem bottom_len (xs : List Int) : (bottom xs).length ≤ 36 := by
  unfold bottom
  split
  · have := bot_len (code xs) (n := xs.length) code_bd xs.length
    have h6 : xs.length ≤ 6 := by omega
    have := Nat.mul_le_mul h6 h6
    omega
  · simp
theorem bottom_no {xs : List Int} (h : isPerm xs = false ∨ 6 < xs.length) : bottom xs = [] := by
  rw [bottom, if_neg]
  rintro ⟨h1, h2⟩
  rcases h with h | h
  · rw [h1] at h; cases h
  · omega
theorem bottom_ok {xs : List Int} {n : Nat} (hn : xs.length = n) (h : isPerm xs = true) (h6 : n ≤ 6) : bottom xs = bot (code xs) n := by
  subst hn
  rw [bottom, if_pos ⟨h, h6⟩]
theorem codeOf_ok {xs : List Int} (h : isPerm xs = true) : codeOf xs = code xs := by rw [codeOf, h]; rfl

set_option maxRecDepth 100000 in
set_option maxHeartbeats 1600000 in
theorem implBottom_any (a : Option Addr) (n c : Nat) (xs : List Int) (w : World) (hr : RI w a xs) (hn : xs.length = n) (hb : n ≤ 17592186044416) (hcap : n ≤ c) :
    Calls Try.prog 62 #[.slice a n c] w fun e w' => ∃ a' n' c', e = .returned (.slice a' n' c') ∧ CO w' w.heap.size w'.heap.size a' n' c' (bottom xs) ∧ Below w.heap.size w w' := by
  have Hn := Lib.hid hn; clear hn
  have hB00 : Below w.heap.size w (w.alloc (.cells #[] 60)) := (Below.refl _ _).alloc (Nat.le_refl _) _
  have hM := Lib.hid (CO.made w)
  have hz00 : (w.alloc (.cells #[] 60)).heap.size = w.heap.size + 1 := by simp
  cases hp : isPerm xs
  · have hno := Lib.hid (bottom_no (xs := xs) (.inl hp))
    have Hp := Lib.hid hp; clear hp
    go_enter Try.func62, Try.ntmps62
    go_wp2_with fail
    refine (is (implIsPerm_any _ _ _ xs _ (hr.below hB00) Hn.out (by omega)) Hp.out).mono ?_
    rintro e w1 ⟨rfl, hd⟩
    go_wp2
    go_ret
    exact ⟨_, _, _, rfl, by rw [hno.out]; exact ((hM.out.below hd).mono (Nat.le_refl _) hd.size), (hB00.trans (hd.mono hB00.size))⟩
  have hpl := perm_len hp
  rw [Hn.out] at hpl
  by_cases h6 : 6 < n
  · have hno := Lib.hid (bottom_no (xs := xs) (.inr (by rw [Hn.out]; exact h6)))
    have Hp := Lib.hid hp; clear hp
    go_enter Try.func62, Try.ntmps62
    go_wp2_with fail
    refine (is (implIsPerm_any _ _ _ xs _ (hr.below hB00) Hn.out (by omega)) Hp.out).mono ?_
    rintro e w1 ⟨rfl, hd⟩
    go_wp2
    go_ret
    exact ⟨_, _, _, rfl, by rw [hno.out]; exact ((hM.out.below hd).mono (Nat.le_refl _) hd.size), (hB00.trans (hd.mono hB00.size))⟩
  have hok := bottom_ok Hn.out hp (by omega)
  have hcd := codeOf_ok hp
  have Hp := Lib.hid hp; clear hp
  have Hok := Lib.hid hok; clear hok
  have Hcd := Lib.hid hcd; clear hcd
  have hcl : (code xs).length = n := by rw [code_length]; exact Hn.out
  have Hcl := Lib.hid hcl; clear hcl
  have Hbd := Lib.hid (show ∀ (i : Nat) (x : Int), (code xs)[i]? = some x → 0 ≤ x ∧ x ≤ (n : Nat) by intro i x h; have := code_bd i x h; rw [Hn.out] at this; exact this)
  go_enter Try.func62, Try.ntmps62
  go_wp2_with fail
  refine (is (implIsPerm_any _ _ _ xs _ (hr.below hB00) Hn.out (by omega)) Hp.out).mono ?_
  rintro e w1 ⟨rfl, hd⟩
  have hM2 := (hM.out.below hd).mono (Nat.le_refl _) hd.size
  have hb2 := hB00.trans (hd.mono hB00.size)
  have hr2 := hr.below hb2
  clear hM hB00
  go_wp2_with fail
  refine (codeOf_any _ _ _ xs _ hr2 Hn.out (by omega) hcap).mono ?_
  rintro e w2 ⟨ac, nc, cc, rfl, hC, hb3⟩
  rw [Hcd.out] at hC
  obtain rfl : n = nc := by rw [← Hcl.out]; exact hC.len
  have hz2 := hb3.size
  have hO2 := (hM2.below hb3).mono (Nat.le_refl _) hz2
  have hB2 := hb2.trans (hb3.mono hb2.size)
  have hC2 := hC.1
  clear hM2 hb2 hb3 hC hr2
  go_wp2
  go_loopw [3, 20] (fun ov iv wr => Hid (∃ i : Nat, i ≤ n ∧ iv = .int .i64 i ∧ OS wr 0 ac n cc (code xs) ∧ ∃ a' n' c', ov = .slice a' n' c' ∧ CO wr w.heap.size wr.heap.size a' n' c' (bot (code xs) i)) ∧ Below w.heap.size w wr) (fun _ i _ => n - (intOf i).toNat)
  case atStart => exact ⟨⟨0, Nat.zero_le _, rfl, (OwI.mono ⟨hC2, hC2.hi⟩ (Nat.zero_le _) (Nat.le_refl _)).1, _, _, _, rfl, hO2⟩, hB2⟩
  case round =>
    clear hO2 hB2 hC2
    obtain ⟨HV, hB⟩ := hrel
    obtain ⟨wo, rfl⟩ : ∃ wo : World, wo = wr := ⟨_, rfl⟩
    obtain ⟨i, hi, rfl, hC, a', n', c', rfl, ho⟩ := HV.out
    clear HV
    by_cases hlt : i < n
    · obtain ⟨x0, hx⟩ := some_at Hcl.out hlt
      have hx0 := Hbd.out i x0 hx
      obtain ⟨x, rfl⟩ : ∃ x : Nat, x0 = (x : Int) := ⟨x0.toNat, by omega⟩
      have hxn : x ≤ n := by omega
      have hst : bot (code xs) (i + 1) = bot (code xs) i ++ rowCells i x := by rw [bot, getD_of hx]; rfl
      have hln := bot_len (code xs) Hbd.out i
      have hlm : i * n ≤ 36 := by have := Nat.mul_le_mul (show i ≤ 6 by omega) (show n ≤ 6 by omega); omega
      rw [ho.len] at hln
      have Hx := Lib.hid hx; clear hx
      have Hst := Lib.hid hst; clear hst
      have HO := Lib.hid ho; clear ho
      have HC := Lib.hid hC
      obtain ⟨gc, rfl, _, ⟨x1, hx1, hcx⟩, _⟩ := OI.cons hC hlt
      rw [Hx.out] at hx1
      obtain rfl := Option.some.inj hx1
      clear hx1 hC
      go_wp2
      go_loopw [3, 26] (fun ov jv wr => Hid (∃ j : Nat, j ≤ x ∧ jv = .int .i64 j ∧ OS wr 0 (some ⟨gc, 0, none⟩) n cc (code xs) ∧ ∃ a' c', ov = .slice a' (n' + j) c' ∧ CO wr w.heap.size wr.heap.size a' (n' + j) c' (bot (code xs) i ++ rowCells i j)) ∧ Below w.heap.size w wr) (fun _ j _ => x - (intOf j).toNat)
      case atStart => exact ⟨⟨0, Nat.zero_le _, rfl, HC.out, _, _, rfl, by simpa [rowCells] using HO.out⟩, hB⟩
      case round =>
        clear HO HC hB hcx
        obtain ⟨HV, hB⟩ := hrel
        obtain ⟨wq, rfl⟩ : ∃ wq : World, wq = wr := ⟨_, rfl⟩
        obtain ⟨j, hj, rfl, hC, a2, c2, rfl, ho⟩ := HV.out
        clear HV
        have hbs := hB.size
        obtain ⟨gc', e0, _, ⟨x1, hx1, hcx⟩, _⟩ := OI.cons hC hlt
        obtain rfl : gc = gc' := by simpa using e0
        rw [Hx.out] at hx1
        obtain rfl := Option.some.inj hx1
        clear hx1 e0
        by_cases hjx : j < x
        · have hjI : (j : Int) < (x : Int) := by omega
          have HC := Lib.hid hC; clear hC
          go_wp2_with (first | (at_builtin; go_loud (refine wpList_pushC (by rfl) (by rfl) _ _ (by rfl) ho (by rfl) (by rfl) (by omega) hbs ?_)))
          intro a3 c3 w3 ho3 hg3
          have hC3 := HC.out.kept hg3 (fun k hk => by have := ne_blockC ho HC.out k hk; exact this)
          have hB3 := below_grown hB hg3 hbs ho.lo
          rw [← rowCells_succ] at ho3
          have HO3 := Lib.hid ho3
          have HC3 := Lib.hid hC3
          clear ho ho3 hC3 HC hg3
          go_wp2
          go_roundw
          case rel => exact ⟨⟨j + 1, by omega, by go_num, HC3.out, _, _, rfl, HO3.out⟩, hB3⟩
          case measure => simp [intOf]; omega
        · obtain rfl : j = x := by omega
          rw [← Hst.out] at ho
          have HO := Lib.hid ho; clear ho
          have HC := Lib.hid hC; clear hC
          go_wp2
          go_roundw
          case rel => exact ⟨⟨i + 1, by omega, by go_num, HC.out, _, _, _, rfl, HO.out⟩, hB⟩
          case measure => simp [intOf]; omega
    · obtain rfl : i = n := by omega
      have HO := Lib.hid ho; clear ho hC
      go_wp2
      go_ret
      exact ⟨_, _, _, rfl, by rw [Hok.out]; exact HO.out, hB⟩
end Go.Proofs.Ytageojkepoejiaa

namespace Go.Proofs.Ytageojkepoejiaa
open Go.RowKit Go.ChangeShapes

def Wide_C (n : Nat) (_xs : List (Int × Int)) : Prop := n ≤ 9223372036854775807
def Wf_C (xs : List (Int × Int)) : Prop := ∀ p ∈ xs, (Lit.int .i64 p.1).wf = true ∧ (Lit.int .i64 p.2).wf = true
def ms_C (xs : List (Int × Int)) : Nat := xs.length
def Short_C (_xs : List (Int × Int)) : Prop := True
theorem ms_C_len (xs : List (Int × Int)) : xs.length ≤ ms_C xs := Nat.le_refl _
theorem ms_C_short (xs : List (Int × Int)) (_h : ms_C xs ≤ 1048576) : Short_C xs := trivial
set_option maxHeartbeats 400000 in
theorem szl_C (a : Option Addr) (n c : Nat) (xs : List (Int × Int)) (left : Int) (w : World) (_hr : RC w a xs) (hn : xs.length = n) (h0 : 0 ≤ left) (h1 : left ≤ 1048576) (hb : Wide_C n xs) :
    Calls Try.prog 17 #[.slice a n c, .int .i64 left] w fun e w' => e = .returned (.int .i64 (leftOf left (ms_C xs))) ∧ w = w' := by
  have hms : ms_C xs = n := hn
  rw [hms]
  unfold Wide_C at hb
  clear hn hms
  by_cases h : left < n
  · go_enter Try.func17, Try.ntmps17
    go_wp2
    go_ret
    exact ⟨ret_int (leftOf_lt h).symm, rfl⟩
  · go_enter Try.func17, Try.ntmps17
    go_wp2
    go_ret
    exact ⟨ret_int (leftOf_ge (by omega)).symm, rfl⟩
theorem Try.sizeCell : (Try.prog.info? 60).map (·.size) = some 2 := by kernel_rfl
set_option maxRecDepth 100000 in
set_option maxHeartbeats 1600000 in
theorem toCell_any (x y : Int) (w : World) :
    Calls Try.prog 48 #[.agg #[.int .i64 x, .int .i64 y]] w fun e w' => e = .returned (.agg #[.int .i64 x, .int .i64 y]) ∧ Below w.heap.size w w' := by
  have hg : (((w.alloc (.cells #[.int .i64 x, .int .i64 y] 65)).alloc (.cells #[.int .i64 x, .int .i64 y] 60)).alloc (.cells #[.int .i64 x, .int .i64 y] 60)).heap[w.heap.size + 1]? = some (.cells #[.int .i64 x, .int .i64 y] 60 (0, 0)) := by
    have h1 := heap_alloc_new (w.alloc (.cells #[.int .i64 x, .int .i64 y] 65)) (.cells #[.int .i64 x, .int .i64 y] 60)
    have hs : (w.alloc (.cells #[.int .i64 x, .int .i64 y] 65)).heap.size = w.heap.size + 1 := by simp
    rw [hs] at h1
    have hb : Below (w.heap.size + 2) ((w.alloc (.cells #[.int .i64 x, .int .i64 y] 65)).alloc (.cells #[.int .i64 x, .int .i64 y] 60)) (((w.alloc (.cells #[.int .i64 x, .int .i64 y] 65)).alloc (.cells #[.int .i64 x, .int .i64 y] 60)).alloc (.cells #[.int .i64 x, .int .i64 y] 60)) :=
      (Below.refl _ _).alloc (by simp) _
    rw [hb.block _ (Nat.lt_succ_self _)]; exact h1
  have hB : Below w.heap.size w (((w.alloc (.cells #[.int .i64 x, .int .i64 y] 65)).alloc (.cells #[.int .i64 x, .int .i64 y] 60)).alloc (.cells #[.int .i64 x, .int .i64 y] 60)) :=
    (((Below.refl w.heap.size w).alloc (Nat.le_refl _) _).alloc (by simp) _).alloc (by simp; omega) _
  have HG := Lib.hid hg; clear hg
  have HB := Lib.hid hB; clear hB
  go_enter Try.func48, Try.ntmps48
  go_wp2
  refine bodyPost_ret (results_cell_row rfl _ _ (w.heap.size + 1) _ _ (0, 0) _ rfl HG.out Try.underlying60 rfl Try.sizeCell) rfl ?_
  exact ⟨rfl, HB.out⟩

def fillC (xs : List (Int × Int)) (n k : Nat) : List (Int × Int) := xs.take k ++ List.replicate (n - k) (0, 0)
theorem fillC_length {xs : List (Int × Int)} {n k : Nat} (h : xs.length = n) (hk : k ≤ n) : (fillC xs n k).length = n := by simp [fillC]; omega
theorem fillC_all {xs : List (Int × Int)} {n : Nat} (h : xs.length = n) : fillC xs n n = xs := by simp [fillC, ← h]
theorem fillC_succ {xs : List (Int × Int)} {n k : Nat} {x : Int × Int} (h : xs.length = n) (hk : k < n) (hx : xs[k]? = some x) : (fillC xs n k).set k x = fillC xs n (k + 1) := by
  subst h
  apply List.ext_getElem?
  intro j
  obtain ⟨_, rfl⟩ := List.getElem?_eq_some_iff.1 hx
  rw [List.getElem?_set]
  by_cases hj : k = j
  · subst hj
    rw [if_pos rfl, if_pos (by rw [fillC_length rfl (by omega)]; exact hk)]
    unfold fillC
    rw [List.getElem?_append_left (by simp; omega), List.getElem?_take, if_pos (by omega), List.getElem?_eq_getElem hk]
  · simp only [if_neg hj, fillC]
    rw [List.getElem?_append, List.getElem?_append]
    simp only [List.length_take, List.getElem?_take, List.getElem?_replicate]
    repeat' split
    all_goals first | rfl | omega
theorem fillC_at {xs : List (Int × Int)} {n k : Nat} (h : xs.length = n) (hk : k < n) : ∃ p, (fillC xs n k)[k]? = some p := ⟨_, List.getElem?_eq_getElem (by rw [fillC_length h (by omega)]; exact hk)⟩
theorem prs_replicate (n : Nat) : prs (List.replicate n (0, 0)) = (madeCells (Value.agg #[.int .i64 0, .int .i64 0]).cells (n * 2)).toList := by
  apply List.ext_getElem?
  intro j
  have e : (Value.agg #[.int .i64 0, .int .i64 0]).cells = #[.int .i64 0, .int .i64 0] := rfl
  rw [e]
  by_cases hj : j < n * 2
  · have h1 : (prs (List.replicate n ((0 : Int), (0 : Int))))[j]? = some (.int .i64 0) := by
      have hp : (List.replicate n ((0 : Int), (0 : Int)))[j / 2]? = some (0, 0) := by rw [List.getElem?_replicate, if_pos (by omega)]
      obtain ⟨e1, e2⟩ := prs_at hp
      rcases Nat.mod_two_eq_zero_or_one j with h | h
      · have : j = j / 2 * 2 := by omega
        rw [this]; exact e1
      · have : j = j / 2 * 2 + 1 := by omega
        rw [this]; exact e2
    rw [h1]
    rcases Nat.mod_two_eq_zero_or_one j with h | h <;> simp [madeCells, hj, h]
  · rw [List.getElem?_eq_none (by rw [prs_length, List.length_replicate]; omega)]
    simp [madeCells, hj]

set_option maxRecDepth 100000 in
set_option maxHeartbeats 1600000 in
theorem conv_C (a : Option Addr) (n c : Nat) (xs : List (Int × Int)) (w : World) (hr : RC w a xs) (hn : xs.length = n) (hb : n ≤ 1048576) (_hsh : Short_C xs) :
    Calls Try.prog 19 #[.slice a n c] w fun e w' => ∃ a' c', e = .returned (.slice a' n c') ∧ CO w' w.heap.size w'.heap.size a' n c' xs ∧ Below w.heap.size w w' := by
  have Hn := Lib.hid hn; clear hn
  obtain ⟨i0, hi, hz0, hz1, hz2⟩ := info_parts Try.infoCell
  go_enter Try.func19, Try.ntmps19
  go_wp2_with (first | (at_make; refine wpList_make_full _ rfl _ _ 36 rfl w.heap.size 60 i0 (.agg #[.int .i64 0, .int .i64 0]) 2 Try.underlying36 hi hz0 hz1 .i64 .i64 _ _ n rfl rfl ?m1 ?m2 ?m3 ?m4 ?m5 ?_))
  case m1 => rfl
  case m2 => rfl
  case m3 => rw [hz2]; omega
  case m4 => unfold maxLen; omega
  case m5 => exact Nat.le_refl _
  intro w1 hown hg
  have hB : Below w.heap.size w w1 := (Below.refl _ _).grown hg (Nat.le_refl _) (by simp)
  have hrow : CO w1 w.heap.size w1.heap.size (some ⟨w.heap.size, 0, none⟩) n n (fillC xs n 0) := by
    have h1 : fillC xs n 0 = List.replicate n (0, 0) := by simp [fillC]
    rw [h1]
    exact CO.mk (by rw [prs_replicate]; exact hown)
  clear hown hg
  go_wp2
  go_loopw [4] (fun i wr => ∃ k : Nat, k ≤ n ∧ i = .int .i64 k ∧ CO wr w.heap.size wr.heap.size (some ⟨w.heap.size, 0, none⟩) n n (fillC xs n k) ∧ Below w.heap.size w wr) (fun i _ => n - (intOf i).toNat)
  case atStart => exact ⟨0, Nat.zero_le _, rfl, hrow, hB⟩
  case round =>
    clear hrow hB
    obtain ⟨k, hk, rfl, ho, hbel⟩ := hrel
    obtain ⟨wo, rfl⟩ : ∃ wo : World, wo = wr := ⟨_, rfl⟩
    by_cases hlt : k < n
    · obtain ⟨b, off, rfl, hcell⟩ := (hr.below hbel).at (k := k) (by rw [Hn.out]; exact hlt)
      obtain ⟨x, y, hx⟩ := pair_at Hn.out hlt
      obtain ⟨hc1, hc2⟩ := hcell k _ hx
      simp only at hc1 hc2
      have Hsucc := Lib.hid (fillC_succ Hn.out hlt hx)
      obtain ⟨p, hp⟩ := fillC_at (k := k) Hn.out hlt
      have Hp := Lib.hid hp
      clear hcell hx hp
      have hs0 := hbel.size
      go_wp2_with fail
      refine (toCell_any x y _).mono ?_
      rintro e w2 ⟨rfl, hb2⟩
      have ho1 := (ho.below hb2).mono (B' := w.heap.size) (S' := w2.heap.size) (Nat.le_refl _) hb2.size
      obtain ⟨g, eg, _, hd1, hd2, hf1, hf2⟩ := ho1.cons Hp.out
      obtain rfl : w.heap.size = g := by simpa using eg
      have s1 := (ho1.store Hp.out x).1
      have hp2 : ((fillC xs n k).set k (x, p.2))[k]? = some (x, p.2) := by
        rw [List.getElem?_set, if_pos rfl, if_pos (List.getElem?_eq_some_iff.1 Hp.out).1]
      obtain ⟨g', e', _, _, hd3, _, hf3⟩ := s1.1.cons hp2
      obtain rfl : w.heap.size = g' := by simpa using e'
      have s2 := (s1.1.store hp2 y).2
      rw [List.set_set, Hsucc.out] at s2
      have hB2 := ((hbel.trans (hb2.mono hs0)).setCell (p := ⟨w.heap.size, k * 2, none⟩) (Nat.le_refl _) (.int .i64 x)).setCell (p := ⟨w.heap.size, k * 2 + 1, none⟩) (Nat.le_refl _) (.int .i64 y)
      have Hs := Lib.hid (s2.1.mono (B' := w.heap.size) (S' := (((w2.setCell ⟨w.heap.size, k * 2, none⟩ (.int .i64 x)).setCell ⟨w.heap.size, k * 2 + 1, none⟩ (.int .i64 y))).heap.size) (Nat.le_refl _) (by simp))
      have HB := Lib.hid hB2
      clear s1 s2 hB2 hp2 ho ho1 hb2 eg e'
      go_wp2
      go_roundw
      case rel => exact ⟨k + 1, by omega, by go_num, Hs.out, HB.out⟩
      case measure => simp [intOf]; omega
    · obtain rfl : k = n := by omega
      rw [fillC_all Hn.out] at ho
      have HO := Lib.hid ho; clear ho
      go_wp2
      go_ret
      exact ⟨_, _, rfl, HO.out, hbel⟩
theorem open_C {H : Type} {enc : TypeId × Value → H} {W : World} {a : Option Addr} {len cap : Nat} {d : DataW H} {p : List MemPlace} (h : DataW.Trod enc Try.prog W 0 (fun _ => true) true 32 (.slice a len cap) d p) :
    ∃ xs, RC W a xs ∧ xs.length = len ∧ Wide_C len xs ∧ Wf_C xs := by
  obtain ⟨fuel, hf⟩ := h
  rcases Go.Deep.open_slice_pairs Try.underlying32 Try.underlying65 (by kernel_rfl) rfl rfl (by kernel_rfl) (by kernel_rfl) hf with ⟨hcs, _⟩ | ⟨x, l, c, m, n, V0, V1, D0, D1, P0, P1, hcs, _, hl, hm, hmm, _, hx⟩
  · simp [Value.cells] at hcs
    obtain ⟨rfl, rfl, rfl⟩ := hcs
    exact ⟨[], .inl rfl, rfl, by unfold Wide_C; omega, by simp [Wf_C]⟩
  · simp [Value.cells] at hcs
    obtain ⟨rfl, rfl, rfl⟩ := hcs
    unfold maxLen at hm
    have hmc : len ≤ m := by split at hmm <;> omega
    have each : ∀ r, r < m → ∃ q : Int × Int, W.cell? (x.add (r * 2)) = some (.int .i64 q.1) ∧ W.cell? (x.add (r * 2 + 1)) = some (.int .i64 q.2) ∧ (Lit.int .i64 q.1).wf = true ∧ (Lit.int .i64 q.2).wf = true := by
      intro r hr
      obtain ⟨h1, h2, h3, h4⟩ := hx r hr
      obtain ⟨y, hy, _, hyw⟩ := DataW.trod_int Try.underlying3 h3
      obtain ⟨z, hz, _, hzw⟩ := DataW.trod_int Try.underlying3 h4
      simp only [List.cons.injEq, and_true] at hy hz
      rw [hy] at h1
      rw [hz] at h2
      exact ⟨(y, z), h1, h2, hyw, hzw⟩
    obtain ⟨Z, hZ⟩ := Go.Deep.choose_lt each
    refine ⟨(List.range len).map Z, ?_, by simp, by unfold Wide_C; omega, fun q hq => ?_⟩
    · by_cases h0 : len = 0
      · left; simp [h0]
      · right
        obtain ⟨h1, _⟩ := hZ 0 (by omega)
        have hpl : ∃ b off, x = ⟨b, off, none⟩ := by
          rw [Nat.zero_mul] at h1
          obtain ⟨b, off, spot⟩ := x
          have : spot = none := by simpa [Addr.add] using World.cell?_spot h1
          exact ⟨b, off, by rw [this]⟩
        obtain ⟨b, off, rfl⟩ := hpl
        refine ⟨b, off, rfl, fun k q hk => ?_⟩
        simp only [List.getElem?_map, Option.map_eq_some_iff] at hk
        obtain ⟨r, hr, rfl⟩ := hk
        have hkl := lt_of_some hr
        simp at hkl
        obtain rfl : k = r := by simpa [hkl] using hr
        obtain ⟨h1, h2, _, _⟩ := hZ k (by omega)
        have ea : ∀ j, (⟨b, off, none⟩ : Addr).add j = ⟨b, off + j, none⟩ := by intro j; unfold Addr.add; split <;> simp_all
        rw [ea] at h1 h2
        exact ⟨h1, by rw [Nat.add_assoc]; exact h2⟩
    · simp only [List.mem_map, List.mem_range] at hq
      obtain ⟨r, hr, rfl⟩ := hq
      obtain ⟨_, _, h3, h4⟩ := hZ r (by omega)
      exact ⟨h3, h4⟩
end Go.Proofs.Ytageojkepoejiaa

namespace Go.Proofs.Ytageojkepoejiaa
open Go.RowKit

theorem ms_C_sz (xs : List (Int × Int)) : sz_C xs ≤ 2 * ms_C xs := by unfold sz_C ms_C; omega
theorem prs_one (xs : List (Int × Int)) : ∀ u ∈ prs xs, u.oneCell' = true := by
  induction xs with
  | nil => intro u hu; simp [prs] at hu
  | cons p xs ih =>
    intro u hu
    simp only [prs, List.mem_cons] at hu
    rcases hu with rfl | rfl | hu
    · rfl
    · rfl
    · exact ih u hu
theorem prs_cells {w : World} {b : Nat} {off : Nat} {xs : List (Int × Int)} (h : ∀ k p, xs[k]? = some p → w.cell? ⟨b, off + k * 2, none⟩ = some (.int .i64 p.1) ∧ w.cell? ⟨b, off + k * 2 + 1, none⟩ = some (.int .i64 p.2)) :
    ∀ j u, (prs xs)[j]? = some u → w.cell? ((⟨b, off, none⟩ : Addr).add j) = some u := by
  intro j u hu
  have hj := (List.getElem?_eq_some_iff.1 hu).1
  rw [prs_length] at hj
  obtain ⟨p, q, hp⟩ := pair_at (k := j / 2) rfl (show j / 2 < xs.length by omega)
  obtain ⟨h1, h2⟩ := h _ _ hp
  obtain ⟨e1, e2⟩ := prs_at hp
  have ea : (⟨b, off, none⟩ : Addr).add j = ⟨b, off + j, none⟩ := by unfold Addr.add; split <;> simp_all
  rw [ea]
  rcases Nat.mod_two_eq_zero_or_one j with h | h
  · have e : j = j / 2 * 2 := by omega
    rw [e] at hu
    rw [e1] at hu
    rw [← hu, e]
    simpa using h1
  · have e : j = j / 2 * 2 + 1 := by omega
    rw [e] at hu
    rw [e2] at hu
    rw [← hu, e]
    rw [← Nat.add_assoc]
    exact h2
theorem RC.cells {w : World} {ad : Addr} {xs : List (Int × Int)} (h : RC w (some ad) xs) : ∀ j u, (prs xs)[j]? = some u → w.cell? (ad.add j) = some u := by
  rcases h with rfl | ⟨b, off, e, hc⟩
  · intro j u hu; simp [prs] at hu
  · obtain rfl := Option.some.inj e
    exact prs_cells hc
theorem wpList_appC {w : World} {ops : Array Oper} {rest : List Oper} {o : Oper} {ac : Act} {Q : Exit → Act → World → Prop} (hgd : o.guard = none) (s x : Operand)
    (ho : o.op = .call { callee := .builtin .append, args := #[s, x], argTypes := #[36, 36] })
    {B S : Nat} {a : Option Addr} {n c : Nat} {xs : List (Int × Int)} (hown : CO w B S a n c xs) (hs : ac.eval s = .slice a n c)
    {ad : Addr} {m d : Nat} {ys : List (Int × Int)} (hr : RC w (some ad) ys) (hm : ys.length = m) (hx : ac.eval x = .slice (some ad) m d) (hn : n + m ≤ 2097152) (hbase : B ≤ w.heap.size)
    (h : ∀ a' c' w', CO w' B w'.heap.size a' (n + m) c' (xs ++ ys) → w.grownBy w' (Value.slice a n c).ownBlock → wpList Try.prog ops Q rest (ac.put o.dst (.slice a' (n + m) c')) w') :
    wpList Try.prog ops Q (o :: rest) ac w := by
  obtain ⟨i0, hi, hz0, hz1, hz2⟩ := info_parts Try.infoCell
  refine wpList_append_own _ hgd s x 36 ho B 60 i0 (.agg #[.int .i64 0, .int .i64 0]) 2 16 Try.underlying36 hi hz0 hz1 hz2 rfl (by decide) _ n (prs xs) hs hown.1 ad m d (prs ys) hx (by rw [prs_length, hm]) hr.cells (prs_one ys) (by unfold maxLen; omega) (by omega) hbase ?_
  intro v' w' h2 h3 _
  obtain ⟨a', c', rfl⟩ := slice_of2 h2
  exact h a' c' w' (CO.mk (by rw [prs_append]; exact h2)) h3

set_option maxRecDepth 100000 in
set_option maxHeartbeats 400000 in
theorem cloneC_any (a : Option Addr) (n c : Nat) (xs : List (Int × Int)) (w : World) (hr : RC w a xs) (hn : xs.length = n) (hb : n ≤ 1048576) :
    Calls Try.prog 52 #[.slice a n c] w fun e w' => ∃ a' c', e = .returned (.slice a' n c') ∧ CO w' w.heap.size w'.heap.size a' n c' xs ∧ Below w.heap.size w w' := by
  have q22 : ∀ (w : World) (a : Option Addr) (n c n' c' : Nat), (binOp .eql 36 (.slice a n c) (.slice none n' c')).run Try.prog w = .ok (.bool a.isNone) w := fun w a n c n' c' => Lib.run_eql_slice_nil w _ _ a n c n' c' Try.underlying36
  rcases a with _ | ad
  · have hx : xs = [] := by
      rcases hr with h | ⟨b, off, h, _⟩
      · exact h
      · cases h
    subst hx
    simp only [List.length_nil] at hn
    subst hn
    go_enter Try.func52, Try.ntmps52
    go_wp2
    go_ret
    exact ⟨_, _, rfl, CO.nil, Below.refl _ _⟩
  · have h1 : CO (w.alloc (.cells #[] 60)) w.heap.size (w.alloc (.cells #[] 60)).heap.size (some ⟨w.heap.size, 0, none⟩) 0 0 [] := CO.made w
    have hB0 : Below w.heap.size w (w.alloc (.cells #[] 60)) := (Below.refl _ _).alloc (Nat.le_refl _) _
    have Hn := Lib.hid hn; clear hn
    have H1 := Lib.hid h1; clear h1
    have hr0 := hr.below hB0
    go_enter Try.func52, Try.ntmps52
    go_wp2_with (first | (at_builtin; go_loud (refine wpList_appC (by rfl) _ _ (by rfl) H1.out (by rfl) hr0 Hn.out (by rfl) (by omega) (by simp) ?_)))
    intro a2 c2 w2 ho2 hg2
    have hB2 : Below w.heap.size w w2 := hB0.grown hg2 (by simp) (fun k hk => by simp [Value.ownBlock] at hk; omega)
    go_wp2
    go_ret
    exact ⟨a2, c2, by simp, by simpa using ho2, hB2⟩
end Go.Proofs.Ytageojkepoejiaa

namespace Go.Proofs.Ytageojkepoejiaa
open Go.RowKit

theorem step_appC {w : World} {ops : Array Oper} {o : Oper} {ac : Act} {K : Act → World → Prop} {Q : Exit → Act → World → Prop} (hwant : Region.wanted o (yielded ops ac.tmps) = true) (s x : Operand)
    (ho : o.op = .call { callee := .builtin .append, args := #[s, x], argTypes := #[36, 36] })
    {B S : Nat} {a : Option Addr} {n c : Nat} {xs : List (Int × Int)} (hown : CO w B S a n c xs) (hs : ac.eval s = .slice a n c)
    {ad : Addr} {m d : Nat} {ys : List (Int × Int)} (hx : ac.eval x = .slice (some ad) m d) (hr : RC w (some ad) ys) (hm : ys.length = m) {N : Nat} (hN : n + m = N) (hn : N ≤ 1048576) (hbase : B ≤ w.heap.size)
    (h : ∀ a' c' w', CO w' B w'.heap.size a' N c' (xs ++ ys) → w.grownBy w' (Value.slice a n c).ownBlock → K (ac.put o.dst (.slice a' N c')) w') :
    if Region.wanted o (yielded ops ac.tmps) = true then Oper.wp Try.prog o ac w K Q else K (ac.put o.dst undef) w := by
  subst hN
  rw [if_pos hwant]
  obtain ⟨i0, hi, hz0, hz1, hz2⟩ := info_parts Try.infoCell
  obtain ⟨v', w', hrun, h2, h3, _⟩ := run_append_own (P := Try.prog) (w := w) B 36 o.type 60 i0 (.agg #[.int .i64 0, .int .i64 0]) 2 16 Try.underlying36 hi hz0 hz1 hz2 rfl (by decide) (.slice a n c) n (prs xs) hown.1 ad m d (prs ys) (by rw [prs_length, hm]) hr.cells (prs_one ys) (by unfold maxLen; omega) (by omega) hbase
  obtain ⟨a', c', rfl⟩ := slice_of2 h2
  unfold Oper.wp execOp
  simp only [ho, resolve, invoke, builtin, Sem.run_bind, Sem.run_pure, Result.andThen_ok, List.map_toArray, List.map_cons, List.map_nil, hs, hx, hrun]
  exact h a' c' w' (CO.mk (by rw [prs_append]; exact h2)) h3
theorem RC.take {w : World} {g o : Nat} {xs : List (Int × Int)} (h : RC w (some ⟨g, o, none⟩) xs) (k : Nat) : RC w (some ⟨g, o, none⟩) (xs.take k) := by
  rcases h with rfl | ⟨b, off, e, hc⟩
  · left; simp
  · simp only [Option.some.injEq, Addr.mk.injEq] at e
    obtain ⟨rfl, rfl, _⟩ := e
    refine .inr ⟨g, o, rfl, fun j p hp => ?_⟩
    have hj : j < k := by have := (List.getElem?_eq_some_iff.1 hp).1; rw [List.length_take] at this; omega
    rw [List.getElem?_take_of_lt hj] at hp
    exact hc j p hp
theorem RC.drop {w : World} {g o : Nat} {xs : List (Int × Int)} (h : RC w (some ⟨g, o, none⟩) xs) (k : Nat) : RC w (some ⟨g, o + k * 2, none⟩) (xs.drop k) := by
  rcases h with rfl | ⟨b, off, e, hc⟩
  · left; simp
  · simp only [Option.some.injEq, Addr.mk.injEq] at e
    obtain ⟨rfl, rfl, _⟩ := e
    refine .inr ⟨g, o + k * 2, rfl, fun j p hp => ?_⟩
    rw [List.getElem?_drop] at hp
    have := hc _ p hp
    rw [show o + (k + j) * 2 = o + k * 2 + j * 2 by omega] at this
    exact this
theorem RC.one (w : World) (p q : Int) : RC (w.alloc (.cells #[.int .i64 p, .int .i64 q] 60)) (some ⟨w.heap.size, 0, none⟩) [(p, q)] := by
  have g0 := heap_alloc_new w (.cells #[.int .i64 p, .int .i64 q] 60)
  refine .inr ⟨w.heap.size, 0, rfl, fun k u hu => ?_⟩
  match k, hu with
  | 0, hu =>
    simp at hu
    subst hu
    exact ⟨by rw [cell_of_row _ _ 0 _ _ (0, 0) g0]; rfl, by rw [cell_of_row _ _ 1 _ _ (0, 0) g0]; rfl⟩
end Go.Proofs.Ytageojkepoejiaa
