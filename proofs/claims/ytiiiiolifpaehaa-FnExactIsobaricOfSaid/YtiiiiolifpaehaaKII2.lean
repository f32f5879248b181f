/-
  Slices of slices of integers: marked, held, copied.
-/
import Derived.Test.YtiiiiolifpaehaaKII
namespace Go.Proofs.Ytiiiiolifpaehaa
open Go.RowKit

def mk_II : List (List Int) → Int → List (List Int)
  | [], _ => []
  | xs :: r, k => mk_I xs k :: mk_II r (k + (xs.length : Int))
def sz_II : List (List Int) → Nat
  | [] => 0
  | xs :: r => xs.length + sz_II r
theorem sz_II_append (xs ys : List (List Int)) : sz_II (xs ++ ys) = sz_II xs + sz_II ys := by
  induction xs with
  | nil => simp [sz_II]
  | cons x xs ih => rw [List.cons_append, sz_II, sz_II, ih]; omega
theorem mk_II_length (xs : List (List Int)) (k : Int) : (mk_II xs k).length = xs.length := by
  induction xs generalizing k with
  | nil => rfl
  | cons x xs ih => rw [mk_II, List.length_cons, List.length_cons, ih]
theorem mk_II_append (xs ys : List (List Int)) (k : Int) : mk_II (xs ++ ys) k = mk_II xs k ++ mk_II ys (k + (sz_II xs : Int)) := by
  induction xs generalizing k with
  | nil => simp [sz_II, mk_II]
  | cons x xs ih =>
    rw [List.cons_append, mk_II, mk_II, ih, sz_II, List.cons_append]
    congr 3
    simp; omega
theorem take_at {α : Type} {xs : List α} {i : Nat} {x : α} (h : xs[i]? = some x) : xs.take (i + 1) = xs.take i ++ [x] := by
  obtain ⟨hi, rfl⟩ := List.getElem?_eq_some_iff.1 h
  exact List.take_succ_eq_append_getElem hi
theorem drop_at {α : Type} {xs : List α} {i : Nat} {x : α} (h : xs[i]? = some x) : xs.drop i = x :: xs.drop (i + 1) := by
  obtain ⟨hi, rfl⟩ := List.getElem?_eq_some_iff.1 h
  exact List.drop_eq_getElem_cons hi
theorem sz_II_take {xs : List (List Int)} {i : Nat} {x : List Int} (h : xs[i]? = some x) : sz_II (xs.take (i + 1)) = sz_II (xs.take i) + x.length := by
  rw [take_at h, sz_II_append]; rfl
theorem sz_II_le (xs : List (List Int)) (i : Nat) : sz_II (xs.take i) ≤ sz_II xs := by
  conv => rhs; rw [← List.take_append_drop i xs, sz_II_append]
  omega
theorem sz_II_each {xs : List (List Int)} {x : List Int} (h : x ∈ xs) : x.length ≤ sz_II xs := by
  induction xs with
  | nil => cases h
  | cons y ys ih =>
    rw [sz_II]
    rcases List.mem_cons.1 h with rfl | h
    · omega
    · have := ih h; omega
def mark_part (xs : List (List Int)) (k : Int) (i : Nat) : List (List Int) := mk_II (xs.take i) k ++ xs.drop i
theorem mark_part_zero (xs : List (List Int)) (k : Int) : mark_part xs k 0 = xs := by simp [mark_part, mk_II]
theorem mark_part_all {xs : List (List Int)} {n : Nat} (h : xs.length = n) (k : Int) : mark_part xs k n = mk_II xs k := by simp [mark_part, ← h]
theorem mark_part_at {xs : List (List Int)} {i : Nat} {x : List Int} (h : xs[i]? = some x) (k : Int) : (mark_part xs k i)[i]? = some x := by
  have hi := lt_of_some h
  have hl : (mk_II (xs.take i) k).length = i := by rw [mk_II_length, List.length_take]; omega
  unfold mark_part
  rw [List.getElem?_append_right (by omega), hl, Nat.sub_self, List.getElem?_drop, Nat.add_zero]
  exact h
theorem mark_part_succ {xs : List (List Int)} {i : Nat} {x : List Int} (h : xs[i]? = some x) (k : Int) : (mark_part xs k i).set i (mk_I x (k + (sz_II (xs.take i) : Int))) = mark_part xs k (i + 1) := by
  have hi := lt_of_some h
  have hl : (mk_II (xs.take i) k).length = i := by rw [mk_II_length, List.length_take]; omega
  unfold mark_part
  rw [drop_at h, List.set_append_right _ _ (by omega), hl, Nat.sub_self, take_at h, mk_II_append]
  simp [mk_II]
theorem mk_II_at {xs : List (List Int)} {i : Nat} {x : List Int} (h : xs[i]? = some x) (k : Int) : (mk_II xs k)[i]? = some (mk_I x (k + (sz_II (xs.take i) : Int))) := by
  have hi := lt_of_some h
  have hl : (mk_II (xs.take i) k).length = i := by rw [mk_II_length, List.length_take]; omega
  conv => lhs; rw [← List.take_append_drop i xs, mk_II_append, drop_at h]
  rw [List.getElem?_append_right (by omega), hl, Nat.sub_self, mk_II]
  rfl
theorem mk_I_length (xs : List Int) (k : Int) : (mk_I xs k).length = xs.length := by simp [mk_I, iota_length]

/-- a row of integers lies in another block than a row of slices -/
theorem ne_block {w : World} {B S B' n l : Nat} {a a' : Option Addr} {c c' : Nat} {vs : List Value} {xs : List Int} (h : w.ownsRow B' 22 1 (.slice a n c) n vs) (hi : OwI w B S a' l c' xs) :
    ∀ k, (Value.slice a n c).ownBlock = some k → (Value.slice a' l c').ownBlock ≠ some k := by
  intro k hk hk'
  rcases ownsRow_shape h with ⟨_, rfl, _⟩ | ⟨g, rfl, _, _, _, cur, hg⟩
  · cases hk
  · rcases ownsRow_shape hi.1.own with ⟨_, rfl, _⟩ | ⟨g', rfl, _, _, _, cur', hg'⟩
    · cases hk'
    · have e1 : g = k := by simpa [Value.ownBlock] using hk
      have e2 : g' = k := by simpa [Value.ownBlock] using hk'
      subst e1 e2
      rw [hg] at hg'
      simp at hg'
theorem grown_keeps {w w' : World} {B e n : Nat} {v : Value} {vs : List Value} {row : Option Nat} (h : w.ownsRow B e 1 v n vs) (hg : w.grownBy w' row) (hne : ∀ k, v.ownBlock = some k → row ≠ some k) : w'.ownsRow B e 1 v n vs := by
  refine h.kept hg ?_
  cases hv : v.ownBlock with
  | none => exact .inl rfl
  | some k => exact .inr (fun e => hne k hv e.symm)
theorem IIO.open {w : World} {B S : Nat} {a : Option Addr} {n c : Nat} {yss : List (List Int)} (h : IIO w B S a n c yss) {i : Nat} {xs : List Int} (hi : yss[i]? = some xs) :
    ∃ g a' c', a = some ⟨g, 0, none⟩ ∧ w.cell? ⟨g, i, none⟩ = some (.slice a' xs.length c') ∧ OwI w B S a' xs.length c' xs ∧
      ∀ w' ys, ys.length = xs.length → OS w' B a' xs.length c' ys → w.grownBy w' (Value.slice a' xs.length c').ownBlock → IIO w' B S a n c (yss.set i ys) := by
  obtain ⟨vs, h1, h2, h3⟩ := h
  obtain ⟨a', c', hv, ho⟩ := h3.each i xs hi
  rcases ownsRow_shape h1 with ⟨_, _, _, hv0⟩ | ⟨g, rfl, hB, hlt, hc, _⟩
  · rw [hv0] at hv; cases hv
  · refine ⟨g, a', c', rfl, hc i _ hv, ho, fun w' ys hl hos hg => ?_⟩
    refine ⟨vs, grown_keeps h1 hg (fun k hk e => ne_block h1 ho k hk e), h2, ?_⟩
    refine ⟨by rw [List.length_set]; exact h3.len, fun k zs hz => ?_, h3.apart⟩
    rw [List.getElem?_set] at hz
    by_cases hk : i = k
    · subst hk
      rw [if_pos rfl, if_pos (lt_of_some hi)] at hz
      obtain rfl := Option.some.inj hz
      exact ⟨a', c', by rw [hl]; exact hv, by rw [hl]; exact ⟨hos, ho.2⟩⟩
    · rw [if_neg hk] at hz
      obtain ⟨a2, c2, hv2, ho2⟩ := h3.each k zs hz
      refine ⟨a2, c2, hv2, ho2.1.kept hg (fun q hq e => hk (h3.apart i k _ _ q hv hv2 e hq)), ho2.2⟩

set_option maxHeartbeats 800000 in
theorem markIntSS_any (B S : Nat) (a : Option Addr) (n c : Nat) (xs : List (List Int)) (k : Int) (w : World) {Z : Nat} (ho : IIO w B S a n c xs) (hk0 : 0 ≤ k) (hk : k ≤ 4398046511104) (hb : Z ≤ 1099511627776) (hZ : sz_II xs = Z) (hbn : n ≤ 17592186044416) :
    Calls Try.prog 41 #[.slice a n c, .int .i64 k] w fun e w' => e = .returned (.int .i64 (k + Z)) ∧ IIO w' B S a n c (mk_II xs k) ∧ Only B S w w' := by
  have hn := ho.len
  have Hn := Lib.hid hn; clear hn
  have HZ := Lib.hid hZ; clear hZ
  go_enter Try.func41, Try.ntmps41
  go_wp2
  go_loopw [1, 5] (fun kk i wr => ∃ j : Nat, j ≤ n ∧ i = .int .i64 j ∧ kk = .int .i64 (k + (sz_II (xs.take j) : Int)) ∧ IIO wr B S a n c (mark_part xs k j) ∧ Only B S w wr) (fun _ i _ => n - (intOf i).toNat)
  case atStart => exact ⟨0, Nat.zero_le _, rfl, by simp [sz_II], by rw [mark_part_zero]; exact ho, Only.refl _ _ _⟩
  case round =>
    obtain ⟨j, hj, rfl, rfl, hr, hg⟩ := hrel
    by_cases hlt : j < n
    · obtain ⟨x, hx⟩ := some_of (show j < xs.length by rw [Hn.out]; exact hlt)
      obtain ⟨g, a', c', rfl, hc, hio, hset⟩ := hr.open (mark_part_at hx k)
      have hs1 := sz_II_take hx
      have hs2 := sz_II_le xs j
      have hs3 := sz_II_le xs (j + 1)
      have hst := mark_part_succ hx k
      rw [HZ.out] at hs2 hs3
      obtain ⟨s, hs⟩ : ∃ s, sz_II (xs.take j) = s := ⟨_, rfl⟩
      obtain ⟨l, hl⟩ : ∃ l, x.length = l := ⟨_, rfl⟩
      rw [hs] at hs1 hs2 hst ⊢
      rw [hl] at hs1 hc hio hset
      have hsl : s + l ≤ 1099511627776 := by omega
      have Hs1 := Lib.hid hs1; clear hs1 hs3
      have Hs := Lib.hid hs; clear hs
      have Hl := Lib.hid hl; clear hl
      have Hst := Lib.hid hst; clear hst hx
      have Hset := Lib.hid hset; clear hset
      go_wp2_with fail
      refine (markIntS_any _ _ _ _ _ _ _ hio.1 (by omega) (by omega) (by omega)).mono ?_
      rintro e w1 ⟨rfl, hos, hgr⟩
      have hio' : IIO w1 B S (some ⟨g, 0, none⟩) n c (mark_part xs k (j + 1)) := by
        have := Hset.out w1 (mk_I x (k + (s : Int))) (by rw [mk_I_length, Hl.out]) (by unfold mk_I; rw [Hl.out]; exact hos) hgr
        rw [Hst.out] at this
        exact this
      have ho1 : Only B S w w1 := hg.trans (Only.of_grown hgr hio.1.lo hio.2)
      clear hos hgr hio hr hg
      go_wp2
      go_roundw
      case rel => exact ⟨j + 1, by omega, by go_num, by rw [Hs1.out]; go_num, hio', ho1⟩
      case measure => simp [intOf]; omega
    · obtain rfl : j = n := by omega
      go_wp2
      go_ret
      rw [mark_part_all Hn.out] at hr
      exact ⟨ret_int (by rw [List.take_of_length_le (by rw [Hn.out]; omega), HZ.out]), hr, hg⟩

set_option maxHeartbeats 800000 in
theorem heldIntSS_any (a : Option Addr) (n c : Nat) (xs : List (List Int)) (k : Int) (w : World) {Z : Nat} (hr : RII w a (mk_II xs k)) (hn : xs.length = n) (hk0 : 0 ≤ k) (hk : k ≤ 4398046511104) (hb : Z ≤ 1099511627776) (hZ : sz_II xs = Z) (hbn : n ≤ 17592186044416) :
    Calls Try.prog 43 #[.slice a n c, .int .i64 k] w fun e w' => e = .returned (.int .i64 (k + Z)) ∧ Drew w w' := by
  have Hn := Lib.hid hn; clear hn
  have HZ := Lib.hid hZ; clear hZ
  go_enter Try.func43, Try.ntmps43
  go_wp2
  go_loopw [1, 5] (fun kk i wr => ∃ j : Nat, j ≤ n ∧ i = .int .i64 j ∧ kk = .int .i64 (k + (sz_II (xs.take j) : Int)) ∧ Drew w wr) (fun _ i _ => n - (intOf i).toNat)
  case atStart => exact ⟨0, Nat.zero_le _, rfl, by simp [sz_II], Drew.refl _⟩
  case round =>
    obtain ⟨j, hj, rfl, rfl, hd⟩ := hrel
    by_cases hlt : j < n
    · obtain ⟨x, hx⟩ := some_of (show j < xs.length by rw [Hn.out]; exact hlt)
      obtain ⟨b, off, rfl, hcell⟩ := (hr.drew hd).at (k := j) (by rw [mk_II_length, Hn.out]; exact hlt)
      obtain ⟨a', c', hc, hri⟩ := hcell j _ (mk_II_at hx k)
      rw [mk_I_length] at hc
      have hs1 := sz_II_take hx
      have hs2 := sz_II_le xs j
      have hs3 := sz_II_le xs (j + 1)
      rw [HZ.out] at hs2 hs3
      obtain ⟨s, hs⟩ : ∃ s, sz_II (xs.take j) = s := ⟨_, rfl⟩
      obtain ⟨l, hl⟩ : ∃ l, x.length = l := ⟨_, rfl⟩
      unfold mk_I at hri
      rw [hs] at hs1 hs2 hri ⊢
      rw [hl] at hs1 hc hri
      have hsl : s + l ≤ 1099511627776 := by omega
      have Hs1 := Lib.hid hs1; clear hs1 hs3
      have Hs := Lib.hid hs; clear hs
      have Hl := Lib.hid hl; clear hl hx hcell
      go_wp2_with fail
      refine (heldIntS_any _ _ _ _ _ hri (by omega) (by omega) (by omega)).mono ?_
      rintro e w1 ⟨rfl, hd1⟩
      have hd' := hd.trans hd1
      clear hc hri hd hd1
      go_wp2
      go_roundw
      case rel => exact ⟨j + 1, by omega, by go_num, by rw [Hs1.out]; go_num, hd'⟩
      case measure => simp [intOf]; omega
    · obtain rfl : j = n := by omega
      go_wp2
      go_ret
      exact ⟨ret_int (by rw [List.take_of_length_le (by rw [Hn.out]; omega), HZ.out]), hd⟩

theorem eq_II (a b : Option Addr) (n c m d : Nat) (xs ys : List (List Int)) (w : World) (hr : RII w a xs) (hs : RII w b ys) (hn : xs.length = n) (hm : ys.length = m) (hb : n ≤ 17592186044416) (hsh : ShortII xs) :
    Calls Try.prog 40 #[.slice a n c, .slice b m d] w fun e w' => e = .returned (.bool (decide (xs = ys))) ∧ Drew w w' := eqIntSS_any a b n c m d xs ys w hr hs hn hm hb hsh
theorem mark_II (B S : Nat) (a : Option Addr) (n c : Nat) (xs : List (List Int)) (k : Int) (w : World) {Z : Nat} (ho : IIO w B S a n c xs) (hk0 : 0 ≤ k) (hk : k ≤ 4398046511104) (hb : Z ≤ 1099511627776) (hZ : sz_II xs = Z) (hbn : n ≤ 17592186044416) :
    Calls Try.prog 41 #[.slice a n c, .int .i64 k] w fun e w' => e = .returned (.int .i64 (k + Z)) ∧ IIO w' B S a n c (mk_II xs k) ∧ Only B S w w' := markIntSS_any B S a n c xs k w ho hk0 hk hb hZ hbn
theorem held_II {B S : Nat} (a : Option Addr) (n c : Nat) (xs : List (List Int)) (k : Int) (w : World) {Z : Nat} (ho : IIO w B S a n c (mk_II xs k)) (hk0 : 0 ≤ k) (hk : k ≤ 4398046511104) (hb : Z ≤ 1099511627776) (hZ : sz_II xs = Z) (hbn : n ≤ 17592186044416) :
    Calls Try.prog 43 #[.slice a n c, .int .i64 k] w fun e w' => e = .returned (.int .i64 (k + Z)) ∧ Drew w w' :=
  heldIntSS_any a n c xs k w ho.rd (by rw [← ho.len, mk_II_length]) hk0 hk hb hZ hbn
end Go.Proofs.Ytiiiiolifpaehaa
