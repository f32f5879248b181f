/-
  Slices of cells that a call owns; marked, held.
-/
import Derived.Test.YtnjfbgdighaiiaaKC
namespace Go.Proofs.Ytnjfbgdighaiiaa
open Go.RowKit

def prs : List (Int × Int) → List Value
  | [] => []
  | p :: xs => .int .i64 p.1 :: .int .i64 p.2 :: prs xs
theorem prs_length (xs : List (Int × Int)) : (prs xs).length = xs.length * 2 := by
  induction xs with
  | nil => rfl
  | cons p xs ih => simp only [prs, List.length_cons, ih]; omega
theorem prs_at {xs : List (Int × Int)} : ∀ {k : Nat} {p : Int × Int}, xs[k]? = some p → (prs xs)[k * 2]? = some (.int .i64 p.1) ∧ (prs xs)[k * 2 + 1]? = some (.int .i64 p.2) := by
  induction xs with
  | nil => intro k p h; simp at h
  | cons q xs ih =>
    intro k p h
    rcases k with _ | k
    · simp only [List.getElem?_cons_zero, Option.some.injEq] at h
      subst h
      exact ⟨rfl, rfl⟩
    · simp only [List.getElem?_cons_succ] at h
      have := ih h
      have e : (k + 1) * 2 = k * 2 + 1 + 1 := by omega
      rw [e]
      simpa [prs] using this
theorem prs_append (xs ys : List (Int × Int)) : prs (xs ++ ys) = prs xs ++ prs ys := by
  induction xs with
  | nil => rfl
  | cons p xs ih => simp [prs, ih]
theorem prs_set {xs : List (Int × Int)} : ∀ {k : Nat} {p : Int × Int}, xs[k]? = some p → ∀ u : Int, (prs xs).set (k * 2) (.int .i64 u) = prs (xs.set k (u, p.2)) ∧ (prs xs).set (k * 2 + 1) (.int .i64 u) = prs (xs.set k (p.1, u)) := by
  induction xs with
  | nil => intro k p h; simp at h
  | cons q xs ih =>
    intro k p h u
    rcases k with _ | k
    · simp only [List.getElem?_cons_zero, Option.some.injEq] at h
      subst h
      exact ⟨rfl, rfl⟩
    · simp only [List.getElem?_cons_succ] at h
      obtain ⟨h1, h2⟩ := ih h u
      have e : (k + 1) * 2 = k * 2 + 1 + 1 := by omega
      rw [e]
      simp only [prs, List.set_cons_succ, h1, h2]
      exact ⟨trivial, trivial⟩

/-- the slice of cells is a row of the call's own, in a block from B on and below S -/
def CO (w : World) (B S : Nat) (a : Option Addr) (n c : Nat) (xs : List (Int × Int)) : Prop :=
  w.ownsRow B 44 2 (.slice a n c) n (prs xs) ∧ ∀ k, (Value.slice a n c).ownBlock = some k → k < S
theorem CO.len {w : World} {B S : Nat} {a : Option Addr} {n c : Nat} {xs : List (Int × Int)} (h : CO w B S a n c xs) : xs.length = n := by
  have := h.1.1; rw [prs_length] at this; omega
theorem CO.mk {w : World} {B : Nat} {a : Option Addr} {n c : Nat} {xs : List (Int × Int)} (h : w.ownsRow B 44 2 (.slice a n c) n (prs xs)) : CO w B w.heap.size a n c xs := ⟨h, fun k hk => (h.lt k hk).2⟩
theorem CO.lo {w : World} {B S : Nat} {a : Option Addr} {n c : Nat} {xs : List (Int × Int)} (h : CO w B S a n c xs) : ∀ k, (Value.slice a n c).ownBlock = some k → B ≤ k := fun k hk => (h.1.lt k hk).1
theorem CO.nil {w : World} {B S : Nat} : CO w B S none 0 0 [] := ⟨⟨rfl, .inl ⟨rfl, rfl⟩⟩, fun k hk => by simp [Value.ownBlock] at hk⟩
theorem CO.cons {w : World} {B S : Nat} {a : Option Addr} {n c : Nat} {xs : List (Int × Int)} (h : CO w B S a n c xs) {j : Nat} {p : Int × Int} (hp : xs[j]? = some p) :
    ∃ g, a = some ⟨g, 0, none⟩ ∧ B ≤ g ∧ w.cell? ⟨g, j * 2, none⟩ = some (.int .i64 p.1) ∧ w.cell? ⟨g, j * 2 + 1, none⟩ = some (.int .i64 p.2) ∧ w.frozen? ⟨g, j * 2, none⟩ = false ∧ w.frozen? ⟨g, j * 2 + 1, none⟩ = false := by
  have hl := h.len
  have hj : j < n := by have := (List.getElem?_eq_some_iff.1 hp).1; omega
  have h' := h.1
  rcases h.1.2 with ⟨_, h2⟩ | ⟨g, cap, cur, hv, hb, _⟩
  · omega
  · simp only [Value.slice.injEq] at hv
    obtain ⟨rfl, _, rfl⟩ := hv
    obtain ⟨e1, e2⟩ := prs_at hp
    exact ⟨g, rfl, hb, by rw [h'.cellAt _ (by omega)]; exact e1, by rw [h'.cellAt _ (by omega)]; exact e2, h'.frozenAt _, h'.frozenAt _⟩
theorem CO.rd {w : World} {B S : Nat} {a : Option Addr} {n c : Nat} {xs : List (Int × Int)} (h : CO w B S a n c xs) : RC w a xs := by
  rcases xs with _ | ⟨p0, xs⟩
  · exact .inl rfl
  · obtain ⟨g, rfl, _⟩ := h.cons (j := 0) (p := p0) rfl
    refine .inr ⟨g, 0, rfl, fun k p hp => ?_⟩
    obtain ⟨g', e, _, h1, h2, _⟩ := h.cons hp
    obtain rfl : g = g' := by simpa using e
    simp only [Nat.zero_add]
    exact ⟨h1, h2⟩
theorem CO.store {w : World} {B S g n c : Nat} {xs : List (Int × Int)} (h : CO w B S (some ⟨g, 0, none⟩) n c xs) {j : Nat} {p : Int × Int} (hp : xs[j]? = some p) (u : Int) :
    (CO (w.setCell ⟨g, j * 2, none⟩ (.int .i64 u)) B S (some ⟨g, 0, none⟩) n c (xs.set j (u, p.2)) ∧ w.grownBy (w.setCell ⟨g, j * 2, none⟩ (.int .i64 u)) (some g)) ∧
    (CO (w.setCell ⟨g, j * 2 + 1, none⟩ (.int .i64 u)) B S (some ⟨g, 0, none⟩) n c (xs.set j (p.1, u)) ∧ w.grownBy (w.setCell ⟨g, j * 2 + 1, none⟩ (.int .i64 u)) (some g)) := by
  obtain ⟨e1, e2⟩ := prs_set hp u
  have s1 := h.1.stored (j * 2) (.int .i64 u)
  have s2 := h.1.stored (j * 2 + 1) (.int .i64 u)
  exact ⟨⟨⟨by rw [← e1]; exact s1.1, h.2⟩, s1.2⟩, ⟨⟨by rw [← e2]; exact s2.1, h.2⟩, s2.2⟩⟩
theorem CO.only {w w' : World} {B S B' S' : Nat} {a : Option Addr} {n c : Nat} {xs : List (Int × Int)} (h : CO w B S a n c xs) (ho : Only B' S' w w') (hd : S ≤ B' ∨ S' ≤ B) : CO w' B S a n c xs := by
  refine ⟨⟨h.1.1, ?_⟩, h.2⟩
  have hh := h.2
  have hl := h.lo
  rcases h.1.2 with h2 | ⟨g, cap, cur, hv, hg, hb, r⟩
  · exact .inl h2
  · simp only [Value.slice.injEq] at hv
    obtain ⟨rfl, _, rfl⟩ := hv
    have h1 := hh g rfl
    have h3 := hl g rfl
    exact .inr ⟨g, c, cur, rfl, hg, by rw [ho.block g (Array.getElem?_eq_some_iff.1 hb).1 (by omega)]; exact hb, r⟩
theorem CO.below {w w' : World} {B S : Nat} {a : Option Addr} {n c : Nat} {xs : List (Int × Int)} (h : CO w B S a n c xs) (hb : Below w.heap.size w w') : CO w' B S a n c xs := h.only (Only.of_below hb) (.inr (Nat.zero_le _))
theorem CO.mono {w : World} {B S B' S' : Nat} {a : Option Addr} {n c : Nat} {xs : List (Int × Int)} (h : CO w B S a n c xs) (hB : B' ≤ B) (hS : S ≤ S') : CO w B' S' a n c xs := by
  refine ⟨⟨h.1.1, ?_⟩, fun k hk => Nat.lt_of_lt_of_le (h.2 k hk) hS⟩
  rcases h.1.2 with h2 | ⟨g, cap, cur, hv, hg, r⟩
  · exact .inl h2
  · exact .inr ⟨g, cap, cur, hv, Nat.le_trans hB hg, r⟩

def sz_C (xs : List (Int × Int)) : Nat := xs.length * 2
def mk_C (xs : List (Int × Int)) (k : Int) : List (Int × Int) := (List.range xs.length).map fun (i : Nat) => (k + (i * 2 : Nat), k + (i * 2 : Nat) + 1)
theorem mk_C_length (xs : List (Int × Int)) (k : Int) : (mk_C xs k).length = xs.length := by simp [mk_C]
theorem mk_C_at {xs : List (Int × Int)} {k : Int} {n j : Nat} (h : xs.length = n) (hj : j < n) : (mk_C xs k)[j]? = some (k + (j * 2 : Nat), k + (j * 2 : Nat) + 1) := by
  subst h; simp [mk_C, hj]
def partC (xs : List (Int × Int)) (k : Int) (j : Nat) : List (Int × Int) := (mk_C xs k).take j ++ xs.drop j
theorem partC_at {xs : List (Int × Int)} {k : Int} {n j : Nat} {p : Int × Int} (h : xs.length = n) (hj : j < n) (hp : xs[j]? = some p) : (partC xs k j)[j]? = some p := by
  unfold partC
  have hl : ((mk_C xs k).take j).length = j := by rw [List.length_take, mk_C_length]; omega
  rw [List.getElem?_append_right (by omega), hl, Nat.sub_self, List.getElem?_drop, Nat.add_zero]
  exact hp
theorem partC_succ {xs : List (Int × Int)} {k : Int} {n j : Nat} (h : xs.length = n) (hj : j < n) : (partC xs k j).set j (k + (j * 2 : Nat), k + (j * 2 : Nat) + 1) = partC xs k (j + 1) := by
  obtain ⟨p, q, hp⟩ := pair_at h hj
  unfold partC
  have hl : ((mk_C xs k).take j).length = j := by rw [List.length_take, mk_C_length]; omega
  have e1 := List.take_add_one (l := mk_C xs k) (i := j)
  rw [mk_C_at h hj] at e1
  have hj' := (List.getElem?_eq_some_iff.1 hp).1
  rw [List.drop_eq_getElem_cons hj', List.set_append_right _ _ (by omega), hl, Nat.sub_self, List.set_cons_zero, e1]
  simp

set_option maxRecDepth 100000 in
set_option maxHeartbeats 1600000 in
theorem mark_C (B S : Nat) (a : Option Addr) (n c : Nat) (xs : List (Int × Int)) (k : Int) (w : World) {Z : Nat} (ho : CO w B S a n c xs) (hk0 : 0 ≤ k) (hk : k ≤ 4398046511104) (hb : Z ≤ 1099511627776) (hZ : sz_C xs = Z) (hbn : n ≤ 17592186044416) :
    Calls Try.prog 20 #[.slice a n c, .int .i64 k] w fun e w' => e = .returned (.int .i64 (k + Z)) ∧ CO w' B S a n c (mk_C xs k) ∧ Only B S w w' := by
  have hn := ho.len
  have hZn : Z = n * 2 := by rw [← hZ, sz_C, hn]
  have Hn := Lib.hid hn; clear hn
  clear hZ
  go_enter Try.func20, Try.ntmps20
  go_wp2
  go_loopw [1, 5] (fun kk i wr => Hid (∃ j : Nat, j ≤ n ∧ i = .int .i64 j ∧ kk = .int .i64 (k + (j * 2 : Nat)) ∧ CO wr B S a n c (partC xs k j)) ∧ Only B S w wr) (fun _ i _ => n - (intOf i).toNat)
  case atStart => exact ⟨⟨0, Nat.zero_le _, rfl, by simp, by simpa [partC] using ho⟩, Only.refl _ _ _⟩
  case round =>
    clear ho
    obtain ⟨HV, hg⟩ := hrel
    obtain ⟨wo, rfl⟩ : ∃ wo : World, wo = wr := ⟨_, rfl⟩
    obtain ⟨j, hj, rfl, rfl, hr⟩ := HV.out
    clear HV
    by_cases hlt : j < n
    · obtain ⟨p, q, hp⟩ := pair_at Hn.out hlt
      have hpj := partC_at (k := k) Hn.out hlt hp
      have hst := partC_succ (k := k) Hn.out hlt
      obtain ⟨g, rfl, hBg, hc1, hc2, hf1, hf2⟩ := hr.cons hpj
      have s1 := (hr.store hpj (k + (j * 2 : Nat))).1
      have hpj2 : ((partC xs k j).set j (k + (j * 2 : Nat), q))[j]? = some (k + (j * 2 : Nat), q) := by
        rw [List.getElem?_set, if_pos rfl, if_pos (List.getElem?_eq_some_iff.1 hpj).1]
      obtain ⟨g', e', _, hd1, hd2, hh1, hh2⟩ := s1.1.cons hpj2
      obtain rfl : g = g' := by simpa using e'
      have s2 := (s1.1.store hpj2 (k + (j * 2 : Nat) + 1)).2
      rw [List.set_set, hst] at s2
      have hgS : g < S := hr.2 g rfl
      have o1 : Only B S w _ := hg.trans (Only.of_grown (v := .slice (some ⟨g, 0, none⟩) n c) s1.2 hr.lo hr.2)
      have o2 := o1.trans (Only.of_grown (v := .slice (some ⟨g, 0, none⟩) n c) s2.2 hr.lo hr.2)
      have Hs := Lib.hid s2.1
      have Ho := Lib.hid o2
      clear s1 s2 o1 o2 hst hpj hpj2 hr hg hd1 hh1
      go_wp2
      go_roundw
      case rel => exact ⟨⟨j + 1, by omega, by go_num, by go_num, Hs.out⟩, Ho.out⟩
      case measure => simp [intOf]; omega
    · obtain rfl : j = n := by omega
      have hfin : partC xs k j = mk_C xs k := by
        unfold partC
        rw [List.take_of_length_le (by rw [mk_C_length, Hn.out]; exact Nat.le_refl _), List.drop_of_length_le (by rw [Hn.out]; exact Nat.le_refl _), List.append_nil]
      rw [hfin] at hr
      have HR := Lib.hid hr; clear hr
      go_wp2
      go_ret
      exact ⟨ret_int (by rw [hZn]), HR.out, hg⟩

set_option maxRecDepth 100000 in
set_option maxHeartbeats 1600000 in
theorem held_C {B S : Nat} (a : Option Addr) (n c : Nat) (xs : List (Int × Int)) (k : Int) (w : World) {Z : Nat} (ho : CO w B S a n c (mk_C xs k)) (hk0 : 0 ≤ k) (hk : k ≤ 4398046511104) (hb : Z ≤ 1099511627776) (hZ : sz_C xs = Z) (hbn : n ≤ 17592186044416) :
    Calls Try.prog 21 #[.slice a n c, .int .i64 k] w fun e w' => e = .returned (.int .i64 (k + Z)) ∧ Drew w w' := by
  have hn := ho.len
  rw [mk_C_length] at hn
  have hZn : Z = n * 2 := by rw [← hZ, sz_C, hn]
  have Hn := Lib.hid hn; clear hn
  clear hZ
  go_enter Try.func21, Try.ntmps21
  go_wp2
  go_loop [1, 5] (fun kk i => ∃ j : Nat, j ≤ n ∧ i = .int .i64 j ∧ kk = .int .i64 (k + (j * 2 : Nat))) (fun _ i => n - (intOf i).toNat)
  case atStart => exact ⟨0, Nat.zero_le _, rfl, by simp⟩
  case round =>
    obtain ⟨j, hj, rfl, rfl⟩ := hrel
    by_cases hlt : j < n
    · obtain ⟨g, rfl, hBg, hc1, hc2, _, _⟩ := ho.cons (mk_C_at (k := k) Hn.out hlt)
      have e1 : ((k + (j * 2 : Nat)) != (k + (j * 2 : Nat))) = false := by simp
      have e2 : ((k + (j * 2 : Nat) + 1) != (k + (j * 2 : Nat) + 1)) = false := by simp
      go_wp2
      go_round
      case rel => exact ⟨j + 1, by omega, by go_num, by go_num⟩
      case measure => simp [intOf]; omega
    · obtain rfl : j = n := by omega
      go_wp2
      go_ret
      exact ⟨ret_int (by first | rfl | (rw [hZn]; simp)), Drew.refl _⟩
theorem eq_C (a b : Option Addr) (n c m d : Nat) (xs ys : List (Int × Int)) (w : World) (hr : RC w a xs) (hs : RC w b ys) (hn : xs.length = n) (hm : ys.length = m) (hb : n ≤ 17592186044416) :
    Calls Try.prog 17 #[.slice a n c, .slice b m d] w fun e w' => e = .returned (.bool (decide (xs = ys))) ∧ Below w.heap.size w w' := eqCellS_any a b n c m d xs ys w hr hs hn hm hb
end Go.Proofs.Ytnjfbgdighaiiaa
