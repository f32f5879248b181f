/-
  Slices of cells: what they read as, what a call owns of them; compared.
  Slices of cells that a call owns; marked, held.
-/
import Derived.Test.YtageojkepoejiaaBuP1
import Derived.Test.YtageojkepoejiaaBuP3
import Derived.StillTailTactics
namespace Go.Proofs.Ytageojkepoejiaa
open Go.RowKit

/-- the slice at address a reads as pairs -/
def RC (w : World) (a : Option Addr) (xs : List (Int × Int)) : Prop :=
  xs = [] ∨ ∃ b off, a = some ⟨b, off, none⟩ ∧ ∀ k p, xs[k]? = some p → w.cell? ⟨b, off + k * 2, none⟩ = some (.int .i64 p.1) ∧ w.cell? ⟨b, off + k * 2 + 1, none⟩ = some (.int .i64 p.2)
theorem RC.at {w : World} {a : Option Addr} {xs : List (Int × Int)} (h : RC w a xs) {k : Nat} (hk : k < xs.length) :
    ∃ b off, a = some ⟨b, off, none⟩ ∧ ∀ k p, xs[k]? = some p → w.cell? ⟨b, off + k * 2, none⟩ = some (.int .i64 p.1) ∧ w.cell? ⟨b, off + k * 2 + 1, none⟩ = some (.int .i64 p.2) := by
  rcases h with rfl | h
  · simp at hk
  · exact h
theorem RC.below {w w' : World} {a : Option Addr} {xs : List (Int × Int)} (h : RC w a xs) (hb : Below w.heap.size w w') : RC w' a xs := by
  rcases h with h | ⟨b, off, ha, hc⟩
  · exact .inl h
  · exact .inr ⟨b, off, ha, fun k x hx => by
      obtain ⟨h1, h2⟩ := hc k x hx
      exact ⟨by rw [hb.cell (World.block_lt_of_cell? w _ h1)]; exact h1, by rw [hb.cell (World.block_lt_of_cell? w _ h2)]; exact h2⟩⟩

set_option maxHeartbeats 400000 in
theorem eqCell_any (a b c d : Int) (w : World) :
    Calls Try.prog 56 #[.agg #[.int .i64 a, .int .i64 b], .agg #[.int .i64 c, .int .i64 d]] w fun e w' => e = .returned (.bool (decide ((a, b) = (c, d)))) ∧ Below w.heap.size w w' := by
  have hB := Lib.hid (((Below.refl w.heap.size w).alloc (Nat.le_refl _) (.cells #[.int .i64 a, .int .i64 b] 60)).alloc (by simp only [World.alloc, Array.size_push]; omega) (.cells #[.int .i64 c, .int .i64 d] 60))
  by_cases h1 : a = c
  · have e1 : (a != c) = false := by simp [h1]
    by_cases h2 : b = d
    · subst h1 h2
      have e2 : (b != b) = false := by simp
      go_enter Try.func56, Try.ntmps56
      go_wp2
      go_ret
      exact ⟨ret_bool (by simp), hB.out⟩
    · have e2 : (b != d) = true := by simp [h2]
      subst h1
      go_enter Try.func56, Try.ntmps56
      go_wp2
      go_ret
      exact ⟨ret_bool (by simp [h2]), hB.out⟩
  · have e1 : (a != c) = true := by simp [h1]
    go_enter Try.func56, Try.ntmps56
    go_wp2
    go_ret
    exact ⟨ret_bool (by simp; intro h; exact absurd h h1), hB.out⟩

theorem eqp_of_all {xs ys : List (Int × Int)} (hl : xs.length = ys.length) (h : ∀ j, j < xs.length → xs[j]? = ys[j]?) : decide (xs = ys) = true := by
  rw [decide_eq_true_iff]
  apply List.ext_getElem?
  intro j
  rcases Nat.lt_or_ge j xs.length with h1 | h1
  · exact h j h1
  · rw [List.getElem?_eq_none h1, List.getElem?_eq_none (by omega)]
theorem nep_of_at {xs ys : List (Int × Int)} {k : Nat} {x y : Int × Int} (hx : xs[k]? = some x) (hy : ys[k]? = some y) (h : x ≠ y) : decide (xs = ys) = false := by
  rw [decide_eq_false_iff_not]
  rintro rfl
  rw [hx] at hy
  exact h (by simpa using hy)
theorem pair_at {xs : List (Int × Int)} {n k : Nat} (h : xs.length = n) (hk : k < n) : ∃ p q, xs[k]? = some (p, q) := ⟨(xs[k]'(by omega)).1, (xs[k]'(by omega)).2, List.getElem?_eq_getElem (by omega)⟩

set_option maxRecDepth 100000 in
set_option maxHeartbeats 1600000 in
theorem eqCellS_any (a b : Option Addr) (n c m d : Nat) (xs ys : List (Int × Int)) (w : World) (hr : RC w a xs) (hs : RC w b ys) (hn : xs.length = n) (hm : ys.length = m) (hb : n ≤ 17592186044416) :
    Calls Try.prog 22 #[.slice a n c, .slice b m d] w fun e w' => e = .returned (.bool (decide (xs = ys))) ∧ Below w.heap.size w w' := by
  have Hn := Lib.hid hn; clear hn
  have Hm := Lib.hid hm; clear hm
  by_cases hnm : n = m
  · subst hnm
    go_enter Try.func22, Try.ntmps22
    go_wp2
    go_loopw [5] (fun i wr => ∃ k : Nat, k ≤ n ∧ i = .int .i64 k ∧ Hid (∀ j, j < k → xs[j]? = ys[j]?) ∧ Below w.heap.size w wr) (fun i _ => n - (intOf i).toNat)
    case atStart => exact ⟨0, Nat.zero_le _, rfl, by intro j hj; omega, Below.refl _ _⟩
    case round =>
      obtain ⟨k, hk, rfl, HA, hB⟩ := hrel
      by_cases hlt : k < n
      · obtain ⟨b1, off, rfl, hcell⟩ := (hr.below hB).at (k := k) (by rw [Hn.out]; exact hlt)
        obtain ⟨b2, off2, rfl, hcell2⟩ := (hs.below hB).at (k := k) (by rw [Hm.out]; exact hlt)
        obtain ⟨p, q, hx⟩ := pair_at Hn.out hlt
        obtain ⟨u, v, hy⟩ := pair_at Hm.out hlt
        obtain ⟨hc1, hc2⟩ := hcell k _ hx
        obtain ⟨hc3, hc4⟩ := hcell2 k _ hy
        have Hx := Lib.hid hx; clear hx
        have Hy := Lib.hid hy; clear hy
        clear hcell hcell2
        have hltI : (k : Int) < (n : Int) := by omega
        by_cases h1 : (p, q) = (u, v)
        · go_wp2
          go_still_tail 8, (by kernel_rfl)
          go_wp2_with fail
          refine (is (eqCell_any p q u v _) (by simp [h1] : _ = true)).mono ?_
          rintro e w2 ⟨rfl, hb2⟩
          have hB2 := hB.trans ((Drew.below ⟨1, rfl⟩ w.heap.size).trans (hb2.mono hB.size))
          go_wp2
          go_roundw
          case rel => exact ⟨k + 1, by omega, by go_num, by
                intro j hj
                rcases Nat.lt_or_ge j k with h | h
                · exact HA.out j h
                · obtain rfl : j = k := by omega
                  rw [Hx.out, Hy.out, h1], hB2⟩
          case measure => simp [intOf]; omega
        · go_wp2
          go_still_tail 8, (by kernel_rfl)
          go_wp2_with fail
          refine (is (eqCell_any p q u v _) (by simp only [decide_eq_false_iff_not]; exact h1 : _ = false)).mono ?_
          rintro e w2 ⟨rfl, hb2⟩
          have hB2 := hB.trans ((Drew.below ⟨1, rfl⟩ w.heap.size).trans (hb2.mono hB.size))
          go_wp2
          go_ret
          exact ⟨ret_bool (nep_of_at Hx.out Hy.out h1).symm, hB2⟩
      · obtain rfl : k = n := by omega
        go_wp2
        go_ret
        exact ⟨ret_bool (eqp_of_all (by rw [Hn.out, Hm.out]) (by rw [Hn.out]; exact HA.out)).symm, hB⟩
  · have hne : ((n : Int) != (m : Int)) = true := by simp; omega
    go_enter Try.func22, Try.ntmps22
    go_wp2
    go_ret
    exact ⟨ret_bool (by symm; rw [decide_eq_false_iff_not]; rintro rfl; exact hnm (by rw [← Hn.out, ← Hm.out])), Below.refl _ _⟩
end Go.Proofs.Ytageojkepoejiaa

namespace Go.Proofs.Ytageojkepoejiaa
open Go.RowKit

def prs : List (Int × Int) → List Value
  | [] => []
  | p :: xs => .int .i64 p.1 :: .int .i64 p.2 :: prs xs
theorem prs_length (xs : List (Int × Int)) : (prs xs).length = xs.length * 2 := by
  induction xs with
  | nil => rfl
  | cons p xs ih => simp only [prs, List.length_cons, ih]; omega
theorem prs_at {xs : List (Int × Int)} : ∀ {k : Nat} {p : Int × Int}, xs[k]? = some p → (prs xs)[k * 2]? = some (.int .i64 p.1) ∧ (prs xs)[k * 2 + 1]? = some (.int .i64 p.2) := by
  induction xs with
  | nil => intro k p h; simp at h
  | cons q xs ih =>
    intro k p h
    rcases k with _ | k
    · simp only [List.getElem?_cons_zero, Option.some.injEq] at h
      subst h
      exact ⟨rfl, rfl⟩
    · simp only [List.getElem?_cons_succ] at h
      have := ih h
      have e : (k + 1) * 2 = k * 2 + 1 + 1 := by omega
      rw [e]
      simpa [prs] using this
theorem prs_append (xs ys : List (Int × Int)) : prs (xs ++ ys) = prs xs ++ prs ys := by
  induction xs with
  | nil => rfl
  | cons p xs ih => simp [prs, ih]
theorem prs_set {xs : List (Int × Int)} : ∀ {k : Nat} {p : Int × Int}, xs[k]? = some p → ∀ u : Int, (prs xs).set (k * 2) (.int .i64 u) = prs (xs.set k (u, p.2)) ∧ (prs xs).set (k * 2 + 1) (.int .i64 u) = prs (xs.set k (p.1, u)) := by
  induction xs with
  | nil => intro k p h; simp at h
  | cons q xs ih =>
    intro k p h u
    rcases k with _ | k
    · simp only [List.getElem?_cons_zero, Option.some.injEq] at h
      subst h
      exact ⟨rfl, rfl⟩
    · simp only [List.getElem?_cons_succ] at h
      obtain ⟨h1, h2⟩ := ih h u
      have e : (k + 1) * 2 = k * 2 + 1 + 1 := by omega
      rw [e]
      simp only [prs, List.set_cons_succ, h1, h2]
      exact ⟨trivial, trivial⟩

/-- the slice of cells is a row of the call's own, in a block from B on and below S -/
def CO (w : World) (B S : Nat) (a : Option Addr) (n c : Nat) (xs : List (Int × Int)) : Prop :=
  w.ownsRow B 60 2 (.slice a n c) n (prs xs) ∧ ∀ k, (Value.slice a n c).ownBlock = some k → k < S
theorem CO.len {w : World} {B S : Nat} {a : Option Addr} {n c : Nat} {xs : List (Int × Int)} (h : CO w B S a n c xs) : xs.length = n := by
  have := h.1.1; rw [prs_length] at this; omega
theorem CO.mk {w : World} {B : Nat} {a : Option Addr} {n c : Nat} {xs : List (Int × Int)} (h : w.ownsRow B 60 2 (.slice a n c) n (prs xs)) : CO w B w.heap.size a n c xs := ⟨h, fun k hk => (h.lt k hk).2⟩
theorem CO.lo {w : World} {B S : Nat} {a : Option Addr} {n c : Nat} {xs : List (Int × Int)} (h : CO w B S a n c xs) : ∀ k, (Value.slice a n c).ownBlock = some k → B ≤ k := fun k hk => (h.1.lt k hk).1
theorem CO.nil {w : World} {B S : Nat} : CO w B S none 0 0 [] := ⟨⟨rfl, .inl ⟨rfl, rfl⟩⟩, fun k hk => by simp [Value.ownBlock] at hk⟩
theorem CO.cons {w : World} {B S : Nat} {a : Option Addr} {n c : Nat} {xs : List (Int × Int)} (h : CO w B S a n c xs) {j : Nat} {p : Int × Int} (hp : xs[j]? = some p) :
    ∃ g, a = some ⟨g, 0, none⟩ ∧ B ≤ g ∧ w.cell? ⟨g, j * 2, none⟩ = some (.int .i64 p.1) ∧ w.cell? ⟨g, j * 2 + 1, none⟩ = some (.int .i64 p.2) ∧ w.frozen? ⟨g, j * 2, none⟩ = false ∧ w.frozen? ⟨g, j * 2 + 1, none⟩ = false := by
  have hl := h.len
  have hj : j < n := by have := (List.getElem?_eq_some_iff.1 hp).1; omega
  have h' := h.1
  rcases h.1.2 with ⟨_, h2⟩ | ⟨g, cap, cur, hv, hb, _⟩
  · omega
  · simp only [Value.slice.injEq] at hv
    obtain ⟨rfl, _, rfl⟩ := hv
    obtain ⟨e1, e2⟩ := prs_at hp
    exact ⟨g, rfl, hb, by rw [h'.cellAt _ (by omega)]; exact e1, by rw [h'.cellAt _ (by omega)]; exact e2, h'.frozenAt _, h'.frozenAt _⟩
theorem CO.rd {w : World} {B S : Nat} {a : Option Addr} {n c : Nat} {xs : List (Int × Int)} (h : CO w B S a n c xs) : RC w a xs := by
  rcases xs with _ | ⟨p0, xs⟩
  · exact .inl rfl
  · obtain ⟨g, rfl, _⟩ := h.cons (j := 0) (p := p0) rfl
    refine .inr ⟨g, 0, rfl, fun k p hp => ?_⟩
    obtain ⟨g', e, _, h1, h2, _⟩ := h.cons hp
    obtain rfl : g = g' := by simpa using e
    simp only [Nat.zero_add]
    exact ⟨h1, h2⟩
theorem CO.store {w : World} {B S g n c : Nat} {xs : List (Int × Int)} (h : CO w B S (some ⟨g, 0, none⟩) n c xs) {j : Nat} {p : Int × Int} (hp : xs[j]? = some p) (u : Int) :
    (CO (w.setCell ⟨g, j * 2, none⟩ (.int .i64 u)) B S (some ⟨g, 0, none⟩) n c (xs.set j (u, p.2)) ∧ w.grownBy (w.setCell ⟨g, j * 2, none⟩ (.int .i64 u)) (some g)) ∧
    (CO (w.setCell ⟨g, j * 2 + 1, none⟩ (.int .i64 u)) B S (some ⟨g, 0, none⟩) n c (xs.set j (p.1, u)) ∧ w.grownBy (w.setCell ⟨g, j * 2 + 1, none⟩ (.int .i64 u)) (some g)) := by
  obtain ⟨e1, e2⟩ := prs_set hp u
  have s1 := h.1.stored (j * 2) (.int .i64 u)
  have s2 := h.1.stored (j * 2 + 1) (.int .i64 u)
  exact ⟨⟨⟨by rw [← e1]; exact s1.1, h.2⟩, s1.2⟩, ⟨⟨by rw [← e2]; exact s2.1, h.2⟩, s2.2⟩⟩
theorem CO.only {w w' : World} {B S B' S' : Nat} {a : Option Addr} {n c : Nat} {xs : List (Int × Int)} (h : CO w B S a n c xs) (ho : Only B' S' w w') (hd : S ≤ B' ∨ S' ≤ B) : CO w' B S a n c xs := by
  refine ⟨⟨h.1.1, ?_⟩, h.2⟩
  have hh := h.2
  have hl := h.lo
  rcases h.1.2 with h2 | ⟨g, cap, cur, hv, hg, hb, r⟩
  · exact .inl h2
  · simp only [Value.slice.injEq] at hv
    obtain ⟨rfl, _, rfl⟩ := hv
    have h1 := hh g rfl
    have h3 := hl g rfl
    exact .inr ⟨g, c, cur, rfl, hg, by rw [ho.block g (Array.getElem?_eq_some_iff.1 hb).1 (by omega)]; exact hb, r⟩
theorem CO.below {w w' : World} {B S : Nat} {a : Option Addr} {n c : Nat} {xs : List (Int × Int)} (h : CO w B S a n c xs) (hb : Below w.heap.size w w') : CO w' B S a n c xs := h.only (Only.of_below hb) (.inr (Nat.zero_le _))
theorem CO.mono {w : World} {B S B' S' : Nat} {a : Option Addr} {n c : Nat} {xs : List (Int × Int)} (h : CO w B S a n c xs) (hB : B' ≤ B) (hS : S ≤ S') : CO w B' S' a n c xs := by
  refine ⟨⟨h.1.1, ?_⟩, fun k hk => Nat.lt_of_lt_of_le (h.2 k hk) hS⟩
  rcases h.1.2 with h2 | ⟨g, cap, cur, hv, hg, r⟩
  · exact .inl h2
  · exact .inr ⟨g, cap, cur, hv, Nat.le_trans hB hg, r⟩

theorem CO.kept {w w' : World} {B S n c : Nat} {a : Option Addr} {xs : List (Int × Int)} {row : Option Nat} (h : CO w B S a n c xs) (hg : w.grownBy w' row) (hne : ∀ k, (Value.slice a n c).ownBlock = some k → row ≠ some k) : CO w' B S a n c xs := by
  refine ⟨h.1.kept hg ?_, h.2⟩
  cases hv : (Value.slice a n c).ownBlock with
  | none => exact .inl rfl
  | some k => exact .inr (fun e => hne k hv e.symm)
def sz_C (xs : List (Int × Int)) : Nat := xs.length * 2
def mk_C (xs : List (Int × Int)) (k : Int) : List (Int × Int) := (List.range xs.length).map fun (i : Nat) => (k + (i * 2 : Nat), k + (i * 2 : Nat) + 1)
theorem mk_C_length (xs : List (Int × Int)) (k : Int) : (mk_C xs k).length = xs.length := by simp [mk_C]
theorem mk_C_at {xs : List (Int × Int)} {k : Int} {n j : Nat} (h : xs.length = n) (hj : j < n) : (mk_C xs k)[j]? = some (k + (j * 2 : Nat), k + (j * 2 : Nat) + 1) := by
  subst h; simp [mk_C, hj]
def partC (xs : List (Int × Int)) (k : Int) (j : Nat) : List (Int × Int) := (mk_C xs k).take j ++ xs.drop j
theorem partC_at {xs : List (Int × Int)} {k : Int} {n j : Nat} {p : Int × Int} (h : xs.length = n) (hj : j < n) (hp : xs[j]? = some p) : (partC xs k j)[j]? = some p := by
  unfold partC
  have hl : ((mk_C xs k).take j).length = j := by rw [List.length_take, mk_C_length]; omega
  rw [List.getElem?_append_right (by omega), hl, Nat.sub_self, List.getElem?_drop, Nat.add_zero]
  exact hp
theorem partC_succ {xs : List (Int × Int)} {k : Int} {n j : Nat} (h : xs.length = n) (hj : j < n) : (partC xs k j).set j (k + (j * 2 : Nat), k + (j * 2 : Nat) + 1) = partC xs k (j + 1) := by
  obtain ⟨p, q, hp⟩ := pair_at h hj
  unfold partC
  have hl : ((mk_C xs k).take j).length = j := by rw [List.length_take, mk_C_length]; omega
  have e1 := List.take_add_one (l := mk_C xs k) (i := j)
  rw [mk_C_at h hj] at e1
  have hj' := (List.getElem?_eq_some_iff.1 hp).1
  rw [List.drop_eq_getElem_cons hj', List.set_append_right _ _ (by omega), hl, Nat.sub_self, List.set_cons_zero, e1]
  simp

set_option maxRecDepth 100000 in
set_option maxHeartbeats 1600000 in
theorem mark_C (B S : Nat) (a : Option Addr) (n c : Nat) (xs : List (Int × Int)) (k : Int) (w : World) {Z : Nat} (ho : CO w B S a n c xs) (hk0 : 0 ≤ k) (hk : k ≤ 4398046511104) (hb : Z ≤ 1099511627776) (hZ : sz_C xs = Z) (hbn : n ≤ 17592186044416) :
    Calls Try.prog 23 #[.slice a n c, .int .i64 k] w fun e w' => e = .returned (.int .i64 (k + Z)) ∧ CO w' B S a n c (mk_C xs k) ∧ Only B S w w' := by
  have hn := ho.len
  have hZn : Z = n * 2 := by rw [← hZ, sz_C, hn]
  have Hn := Lib.hid hn; clear hn
  clear hZ
  go_enter Try.func23, Try.ntmps23
  go_wp2
  go_loopw [1, 5] (fun kk i wr => Hid (∃ j : Nat, j ≤ n ∧ i = .int .i64 j ∧ kk = .int .i64 (k + (j * 2 : Nat)) ∧ CO wr B S a n c (partC xs k j)) ∧ Only B S w wr) (fun _ i _ => n - (intOf i).toNat)
  case atStart => exact ⟨⟨0, Nat.zero_le _, rfl, by simp, by simpa [partC] using ho⟩, Only.refl _ _ _⟩
  case round =>
    clear ho
    obtain ⟨HV, hg⟩ := hrel
    obtain ⟨wo, rfl⟩ : ∃ wo : World, wo = wr := ⟨_, rfl⟩
    obtain ⟨j, hj, rfl, rfl, hr⟩ := HV.out
    clear HV
    by_cases hlt : j < n
    · obtain ⟨p, q, hp⟩ := pair_at Hn.out hlt
      have hpj := partC_at (k := k) Hn.out hlt hp
      have hst := partC_succ (k := k) Hn.out hlt
      obtain ⟨g, rfl, hBg, hc1, hc2, hf1, hf2⟩ := hr.cons hpj
      have s1 := (hr.store hpj (k + (j * 2 : Nat))).1
      have hpj2 : ((partC xs k j).set j (k + (j * 2 : Nat), q))[j]? = some (k + (j * 2 : Nat), q) := by
        rw [List.getElem?_set, if_pos rfl, if_pos (List.getElem?_eq_some_iff.1 hpj).1]
      obtain ⟨g', e', _, hd1, hd2, hh1, hh2⟩ := s1.1.cons hpj2
      obtain rfl : g = g' := by simpa using e'
      have s2 := (s1.1.store hpj2 (k + (j * 2 : Nat) + 1)).2
      rw [List.set_set, hst] at s2
      have hgS : g < S := hr.2 g rfl
      have o1 : Only B S w _ := hg.trans (Only.of_grown (v := .slice (some ⟨g, 0, none⟩) n c) s1.2 hr.lo hr.2)
      have o2 := o1.trans (Only.of_grown (v := .slice (some ⟨g, 0, none⟩) n c) s2.2 hr.lo hr.2)
      have Hs := Lib.hid s2.1
      have Ho := Lib.hid o2
      clear s1 s2 o1 o2 hst hpj hpj2 hr hg hd1 hh1
      go_wp2
      go_roundw
      case rel => exact ⟨⟨j + 1, by omega, by go_num, by go_num, Hs.out⟩, Ho.out⟩
      case measure => simp [intOf]; omega
    · obtain rfl : j = n := by omega
      have hfin : partC xs k j = mk_C xs k := by
        unfold partC
        rw [List.take_of_length_le (by rw [mk_C_length, Hn.out]; exact Nat.le_refl _), List.drop_of_length_le (by rw [Hn.out]; exact Nat.le_refl _), List.append_nil]
      rw [hfin] at hr
      have HR := Lib.hid hr; clear hr
      go_wp2
      go_ret
      exact ⟨ret_int (by rw [hZn]), HR.out, hg⟩

set_option maxRecDepth 100000 in
set_option maxHeartbeats 1600000 in
theorem held_C {B S : Nat} (a : Option Addr) (n c : Nat) (xs : List (Int × Int)) (k : Int) (w : World) {Z : Nat} (ho : CO w B S a n c (mk_C xs k)) (hk0 : 0 ≤ k) (hk : k ≤ 4398046511104) (hb : Z ≤ 1099511627776) (hZ : sz_C xs = Z) (hbn : n ≤ 17592186044416) :
    Calls Try.prog 57 #[.slice a n c, .int .i64 k] w fun e w' => e = .returned (.int .i64 (k + Z)) ∧ Drew w w' := by
  have hn := ho.len
  rw [mk_C_length] at hn
  have hZn : Z = n * 2 := by rw [← hZ, sz_C, hn]
  have Hn := Lib.hid hn; clear hn
  clear hZ
  go_enter Try.func57, Try.ntmps57
  go_wp2
  go_loop [1, 5] (fun kk i => ∃ j : Nat, j ≤ n ∧ i = .int .i64 j ∧ kk = .int .i64 (k + (j * 2 : Nat))) (fun _ i => n - (intOf i).toNat)
  case atStart => exact ⟨0, Nat.zero_le _, rfl, by simp⟩
  case round =>
    obtain ⟨j, hj, rfl, rfl⟩ := hrel
    by_cases hlt : j < n
    · obtain ⟨g, rfl, hBg, hc1, hc2, _, _⟩ := ho.cons (mk_C_at (k := k) Hn.out hlt)
      have e1 : ((k + (j * 2 : Nat)) != (k + (j * 2 : Nat))) = false := by simp
      have e2 : ((k + (j * 2 : Nat) + 1) != (k + (j * 2 : Nat) + 1)) = false := by simp
      go_wp2
      go_round
      case rel => exact ⟨j + 1, by omega, by go_num, by go_num⟩
      case measure => simp [intOf]; omega
    · obtain rfl : j = n := by omega
      go_wp2
      go_ret
      exact ⟨ret_int (by first | rfl | (rw [hZn]; simp)), Drew.refl _⟩
theorem eq_C (a b : Option Addr) (n c m d : Nat) (xs ys : List (Int × Int)) (w : World) (hr : RC w a xs) (hs : RC w b ys) (hn : xs.length = n) (hm : ys.length = m) (hb : n ≤ 17592186044416) :
    Calls Try.prog 22 #[.slice a n c, .slice b m d] w fun e w' => e = .returned (.bool (decide (xs = ys))) ∧ Below w.heap.size w w' := eqCellS_any a b n c m d xs ys w hr hs hn hm hb
end Go.Proofs.Ytageojkepoejiaa
