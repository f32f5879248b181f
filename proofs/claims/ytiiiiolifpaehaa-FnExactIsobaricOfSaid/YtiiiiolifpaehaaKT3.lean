/-
  Slices of terms: marked, held, copied; their words for lawgen.py.
-/
import Derived.Test.YtiiiiolifpaehaaKT
namespace Go.Proofs.Ytiiiiolifpaehaa
open Go.RowKit

abbrev RT := RP
abbrev Wide_T := Wide_P
abbrev Wf_T := Wf_P
abbrev Short_T := Short_P
def sz_T : List (List Int × Int) → Nat
  | [] => 0
  | p :: r => p.1.length + 1 + sz_T r
def ms_T := ms_P
def mk_T : List (List Int × Int) → Int → List (List Int × Int)
  | [], _ => []
  | p :: r, k => (iota k p.1.length, k + p.1.length) :: mk_T r (k + p.1.length + 1)
theorem sz_T_eq (xs : List (List Int × Int)) : sz_T xs = xs.length + sz_II (heads xs) := by
  induction xs with
  | nil => rfl
  | cons p r ih =>
    show p.1.length + 1 + sz_T r = (p :: r).length + sz_II (p.1 :: heads r)
    rw [ih, List.length_cons, sz_II]
    omega
theorem ms_T_len (xs : List (List Int × Int)) : xs.length ≤ ms_T xs := Nat.le_add_right _ _
theorem ms_T_sz (xs : List (List Int × Int)) : sz_T xs ≤ ms_T xs := by rw [sz_T_eq]; exact Nat.le_refl _
theorem ms_T_short (xs : List (List Int × Int)) (h : ms_T xs ≤ 1048576) : Short_T xs := ms_P_short xs h
theorem szl_T (a : Option Addr) (n c : Nat) (xs : List (List Int × Int)) (left : Int) (w : World) (hr : RP w a xs) (hn : xs.length = n) (h0 : 0 ≤ left) (h1 : left ≤ 1048576) (hb : Wide_P n xs) :
    Calls Try.prog 51 #[.slice a n c, .int .i64 left] w fun e w' => e = .returned (.int .i64 (leftOf left (ms_T xs))) ∧ Below w.heap.size w w' := szl_P a n c xs left w hr hn h0 h1 hb
theorem eq_T (a b : Option Addr) (n c m d : Nat) (xs ys : List (List Int × Int)) (w : World) (hr : RP w a xs) (hs : RP w b ys) (hn : xs.length = n) (hm : ys.length = m) (hb : n ≤ 17592186044416) (hsh : ∀ p ∈ xs, p.1.length ≤ 1048576) :
    Calls Try.prog 55 #[.slice a n c, .slice b m d] w fun e w' => e = .returned (.bool (decide (xs = ys))) ∧ Below w.heap.size w w' := eq_P a b n c m d xs ys w hr hs hn hm hb hsh
theorem sz_T_append (xs ys : List (List Int × Int)) : sz_T (xs ++ ys) = sz_T xs + sz_T ys := by
  induction xs with
  | nil => simp [sz_T]
  | cons x xs ih => rw [List.cons_append, sz_T, sz_T, ih]; omega
theorem mk_T_length (xs : List (List Int × Int)) (k : Int) : (mk_T xs k).length = xs.length := by
  induction xs generalizing k with
  | nil => rfl
  | cons x xs ih => rw [mk_T, List.length_cons, List.length_cons, ih]
theorem mk_T_append (xs ys : List (List Int × Int)) (k : Int) : mk_T (xs ++ ys) k = mk_T xs k ++ mk_T ys (k + (sz_T xs : Int)) := by
  induction xs generalizing k with
  | nil => simp [sz_T, mk_T]
  | cons x xs ih =>
    rw [List.cons_append, mk_T, mk_T, ih, sz_T, List.cons_append]
    congr 3
    simp; omega
theorem sz_T_take {xs : List (List Int × Int)} {i : Nat} {x : List Int × Int} (h : xs[i]? = some x) : sz_T (xs.take (i + 1)) = sz_T (xs.take i) + (x.1.length + 1) := by
  rw [take_at h, sz_T_append]; rfl
theorem sz_T_le (xs : List (List Int × Int)) (i : Nat) : sz_T (xs.take i) ≤ sz_T xs := by
  conv => rhs; rw [← List.take_append_drop i xs, sz_T_append]
  omega
def markT (xs : List (List Int × Int)) (k : Int) (i : Nat) : List (List Int × Int) := mk_T (xs.take i) k ++ xs.drop i
theorem markT_zero (xs : List (List Int × Int)) (k : Int) : markT xs k 0 = xs := by simp [markT, mk_T]
theorem markT_all {xs : List (List Int × Int)} {n : Nat} (h : xs.length = n) (k : Int) : markT xs k n = mk_T xs k := by simp [markT, ← h]
theorem markT_at {xs : List (List Int × Int)} {i : Nat} {x : List Int × Int} (h : xs[i]? = some x) (k : Int) : (markT xs k i)[i]? = some x := by
  have hi := lt_of_some h
  have hl : (mk_T (xs.take i) k).length = i := by rw [mk_T_length, List.length_take]; omega
  unfold markT
  rw [List.getElem?_append_right (by omega), hl, Nat.sub_self, List.getElem?_drop, Nat.add_zero]
  exact h
theorem markT_succ {xs : List (List Int × Int)} {i : Nat} {x : List Int × Int} (h : xs[i]? = some x) (k : Int) : (markT xs k i).set i (iota (k + (sz_T (xs.take i) : Int)) x.1.length, k + (sz_T (xs.take i) : Int) + x.1.length) = markT xs k (i + 1) := by
  have hi := lt_of_some h
  have hl : (mk_T (xs.take i) k).length = i := by rw [mk_T_length, List.length_take]; omega
  unfold markT
  rw [drop_at h, List.set_append_right _ _ (by omega), hl, Nat.sub_self, take_at h, mk_T_append]
  simp [mk_T]
theorem mk_T_at {xs : List (List Int × Int)} {i : Nat} {x : List Int × Int} (h : xs[i]? = some x) (k : Int) : (mk_T xs k)[i]? = some (iota (k + (sz_T (xs.take i) : Int)) x.1.length, k + (sz_T (xs.take i) : Int) + x.1.length) := by
  have hi := lt_of_some h
  have hl : (mk_T (xs.take i) k).length = i := by rw [mk_T_length, List.length_take]; omega
  conv => lhs; rw [← List.take_append_drop i xs, mk_T_append, drop_at h]
  rw [List.getElem?_append_right (by omega), hl, Nat.sub_self, mk_T]
  rfl

theorem grown_keeps2 {w w' : World} {B e n : Nat} {v : Value} {vs : List Value} {row : Option Nat} (h : w.ownsRow B e 2 v n vs) (hg : w.grownBy w' row) (hne : ∀ k, v.ownBlock = some k → row ≠ some k) : w'.ownsRow B e 2 v n vs := by
  refine h.kept hg ?_
  cases hv : v.ownBlock with
  | none => exact .inl rfl
  | some k => exact .inr (fun e => hne k hv e.symm)
theorem row2_cell {w : World} {B e n g c : Nat} {vs : List Value} (h : w.ownsRow B e 2 (.slice (some ⟨g, 0, none⟩) n c) n vs) {j : Nat} {v : Value} (hv : vs[j]? = some v) : w.cell? ⟨g, j, none⟩ = some v ∧ w.frozen? ⟨g, j, none⟩ = false := by
  have hl := h.1
  have := lt_of_some hv
  exact ⟨by rw [h.cellAt _ (by omega)]; exact hv, h.frozenAt _⟩
theorem TO.at {w : World} {B S : Nat} {a : Option Addr} {n c : Nat} {xs : List (List Int × Int)} (h : TO w B S a n c xs) (hn : 0 < n) : ∃ g, a = some ⟨g, 0, none⟩ ∧ B ≤ g ∧ g < S := by
  obtain ⟨vs, h1, h2, _⟩ := h
  rcases row2_shape h1 with ⟨h0, _⟩ | ⟨g, rfl, hB, _⟩
  · omega
  · exact ⟨g, rfl, hB, h2 g rfl⟩
/-- one term's parts, and both of them put anew -/
theorem TO.open {w : World} {B S g n c : Nat} {xs : List (List Int × Int)} (h : TO w B S (some ⟨g, 0, none⟩) n c xs) {i : Nat} {p : List Int × Int} (hi : xs[i]? = some p) :
    ∃ a' c', w.cell? ⟨g, i * 2, none⟩ = some (.slice a' p.1.length c') ∧ w.cell? ⟨g, i * 2 + 1, none⟩ = some (.int .i64 p.2) ∧ OwI w B S a' p.1.length c' p.1 ∧
      ∀ w' ys (v : Int), ys.length = p.1.length → OS w' B a' p.1.length c' ys → w.grownBy w' (Value.slice a' p.1.length c').ownBlock →
        w'.cell? ⟨g, i * 2 + 1, none⟩ = some (.int .i64 p.2) ∧ w'.frozen? ⟨g, i * 2 + 1, none⟩ = false ∧
        TO (w'.setCell ⟨g, i * 2 + 1, none⟩ (.int .i64 v)) B S (some ⟨g, 0, none⟩) n c (xs.set i (ys, v)) ∧ w'.grownBy (w'.setCell ⟨g, i * 2 + 1, none⟩ (.int .i64 v)) (some g) := by
  obtain ⟨vs, h1, h2, h3⟩ := h
  obtain ⟨a', c', e1, e2, ho⟩ := h3.each i p hi
  have hlv : vs.length = n * 2 := h1.1
  have hil := lt_of_some hi
  have hln := h3.len
  refine ⟨a', c', (row2_cell h1 e1).1, (row2_cell h1 e2).1, ho, fun w' ys v hl hos hg => ?_⟩
  have h1' := grown_keeps2 h1 hg (fun k hk e => ne_blockT h1 ho k hk e)
  have s := h1'.stored (i * 2 + 1) (.int .i64 v)
  refine ⟨(row2_cell h1' e2).1, (row2_cell h1' e2).2, ⟨_, s.1, h2, ?_⟩, s.2⟩
  have fin : ∀ {b : Option Addr} {m d : Nat} {zs : List Int}, OwI w' B S b m d zs → OwI (w'.setCell ⟨g, i * 2 + 1, none⟩ (.int .i64 v)) B S b m d zs := fun hio => ⟨hio.1.kept s.2 (fun k hk e => ne_blockT h1' hio g rfl (by rw [hk, ← Option.some.inj e])), hio.2⟩
  refine ⟨by rw [List.length_set, List.length_set]; exact h3.len, fun k q hq => ?_, ?_⟩
  · rw [List.getElem?_set] at hq
    by_cases hk : i = k
    · subst hk
      rw [if_pos rfl, if_pos hil] at hq
      obtain rfl := Option.some.inj hq
      refine ⟨a', c', ?_, ?_, ?_⟩
      · rw [List.getElem?_set, if_neg (by omega), hl]; exact e1
      · rw [List.getElem?_set, if_pos rfl, if_pos (by omega)]
      · rw [hl]; exact fin ⟨hos, ho.2⟩
    · rw [if_neg hk] at hq
      obtain ⟨a2, c2, e3, e4, ho2⟩ := h3.each k q hq
      refine ⟨a2, c2, ?_, ?_, fin ⟨ho2.1.kept hg (fun r hr e => hk (h3.apart i k _ _ r e1 e3 e hr)), ho2.2⟩⟩
      · rw [List.getElem?_set, if_neg (by omega)]; exact e3
      · rw [List.getElem?_set, if_neg (by omega)]; exact e4
  · intro k j u v' r hu hv
    rw [List.getElem?_set, if_neg (by omega)] at hu hv
    exact h3.apart k j u v' r hu hv

set_option maxRecDepth 100000 in
set_option maxHeartbeats 1600000 in
theorem mark_T (B S : Nat) (a : Option Addr) (n c : Nat) (xs : List (List Int × Int)) (k : Int) (w : World) {Z : Nat} (ho : TO w B S a n c xs) (hk0 : 0 ≤ k) (hk : k ≤ 4398046511104) (hb : Z ≤ 1099511627776) (hZ : sz_T xs = Z) (hbn : n ≤ 17592186044416) :
    Calls Try.prog 58 #[.slice a n c, .int .i64 k] w fun e w' => e = .returned (.int .i64 (k + Z)) ∧ TO w' B S a n c (mk_T xs k) ∧ Only B S w w' := by
  have hn := ho.len
  have Hn := Lib.hid hn; clear hn
  have HZ := Lib.hid hZ; clear hZ
  go_enter Try.func58, Try.ntmps58
  go_wp2
  go_loopw [1, 5] (fun kk i wr => ∃ j : Nat, j ≤ n ∧ i = .int .i64 j ∧ kk = .int .i64 (k + (sz_T (xs.take j) : Int)) ∧ TO wr B S a n c (markT xs k j) ∧ Only B S w wr) (fun _ i _ => n - (intOf i).toNat)
  case atStart => exact ⟨0, Nat.zero_le _, rfl, by simp [sz_T], by rw [markT_zero]; exact ho, Only.refl _ _ _⟩
  case round =>
    obtain ⟨j, hj, rfl, rfl, hr, hg⟩ := hrel
    obtain ⟨wo, rfl⟩ : ∃ wo : World, wo = wr := ⟨_, rfl⟩
    by_cases hlt : j < n
    · obtain ⟨x, hx⟩ := some_of (show j < xs.length by rw [Hn.out]; exact hlt)
      obtain ⟨g, rfl, hBg, hgS⟩ := hr.at (by omega)
      obtain ⟨a', c', hc, hc2, hio, hset⟩ := hr.open (markT_at hx k)
      have hs1 := sz_T_take hx
      have hs2 := sz_T_le xs j
      have hs3 := sz_T_le xs (j + 1)
      have hst := markT_succ hx k
      rw [HZ.out] at hs2 hs3
      obtain ⟨s, hs⟩ : ∃ s, sz_T (xs.take j) = s := ⟨_, rfl⟩
      obtain ⟨l, hl⟩ : ∃ l, x.1.length = l := ⟨_, rfl⟩
      rw [hs] at hs1 hs2 hst ⊢
      rw [hl] at hs1 hc hio hset hst
      have hsl : s + l + 1 ≤ 1099511627776 := by omega
      have Hs1 := Lib.hid hs1; clear hs1 hs3
      have Hs := Lib.hid hs; clear hs
      have Hl := Lib.hid hl; clear hl
      have Hst := Lib.hid hst; clear hst hx
      have Hset := Lib.hid hset; clear hset
      go_wp2_with fail
      refine (markIntS_any _ _ _ _ _ _ _ hio.1 (by omega) (by omega) (by omega)).mono ?_
      rintro e w1 ⟨rfl, hos, hgr⟩
      obtain ⟨f1, f2, hto, hg2⟩ := Hset.out w1 (iota (k + (s : Int)) l) (k + (s : Int) + (l : Int)) (by rw [iota_length]) hos hgr
      rw [Hst.out] at hto
      have Hto := Lib.hid hto
      have ho1 := Lib.hid ((hg.trans (Only.of_grown hgr hio.1.lo hio.2)).trans (Only.setCell w1 g (j * 2 + 1) (.int .i64 (k + (s : Int) + (l : Int))) hBg hgS))
      clear hos hgr hio hr hg hto hg2 hc hc2
      go_wp2
      go_roundw
      case rel => exact ⟨j + 1, by omega, by go_num, by rw [Hs1.out]; go_num, Hto.out, ho1.out⟩
      case measure => simp [intOf]; omega
    · obtain rfl : j = n := by omega
      go_wp2
      go_ret
      rw [markT_all Hn.out] at hr
      exact ⟨ret_int (by rw [List.take_of_length_le (by rw [Hn.out]; omega), HZ.out]), hr, hg⟩

set_option maxRecDepth 100000 in
set_option maxHeartbeats 1600000 in
theorem heldT_any (a : Option Addr) (n c : Nat) (xs : List (List Int × Int)) (k : Int) (w : World) {Z : Nat} (hr : RP w a (mk_T xs k)) (hn : xs.length = n) (hk0 : 0 ≤ k) (hk : k ≤ 4398046511104) (hb : Z ≤ 1099511627776) (hZ : sz_T xs = Z) (hbn : n ≤ 17592186044416) :
    Calls Try.prog 59 #[.slice a n c, .int .i64 k] w fun e w' => e = .returned (.int .i64 (k + Z)) ∧ Drew w w' := by
  have Hn := Lib.hid hn; clear hn
  have HZ := Lib.hid hZ; clear hZ
  go_enter Try.func59, Try.ntmps59
  go_wp2
  go_loopw [1, 5] (fun kk i wr => ∃ j : Nat, j ≤ n ∧ i = .int .i64 j ∧ kk = .int .i64 (k + (sz_T (xs.take j) : Int)) ∧ Drew w wr) (fun _ i _ => n - (intOf i).toNat)
  case atStart => exact ⟨0, Nat.zero_le _, rfl, by simp [sz_T], Drew.refl _⟩
  case round =>
    obtain ⟨j, hj, rfl, rfl, hd⟩ := hrel
    obtain ⟨wo, rfl⟩ : ∃ wo : World, wo = wr := ⟨_, rfl⟩
    by_cases hlt : j < n
    · obtain ⟨x, hx⟩ := some_of (show j < xs.length by rw [Hn.out]; exact hlt)
      have hrw := hr.below (hd.below _)
      obtain ⟨b, off, rfl, hcell⟩ := hrw.at (k := j) (by rw [mk_T_length, Hn.out]; exact hlt)
      obtain ⟨a', c', hc, hc2, hri, _⟩ := hcell j _ (mk_T_at hx k)
      simp only at hc hc2 hri
      rw [iota_length] at hc
      have hs1 := sz_T_take hx
      have hs2 := sz_T_le xs j
      have hs3 := sz_T_le xs (j + 1)
      rw [HZ.out] at hs2 hs3
      obtain ⟨s, hs⟩ : ∃ s, sz_T (xs.take j) = s := ⟨_, rfl⟩
      obtain ⟨l, hl⟩ : ∃ l, x.1.length = l := ⟨_, rfl⟩
      rw [hs] at hs1 hs2 hri hc2 ⊢
      rw [hl] at hs1 hc hri hc2
      have hsl : s + l + 1 ≤ 1099511627776 := by omega
      have Hs1 := Lib.hid hs1; clear hs1 hs3
      have Hs := Lib.hid hs; clear hs
      have Hl := Lib.hid hl; clear hl hx hcell hrw
      go_wp2_with fail
      refine (heldIntS_any _ _ _ _ _ hri (by omega) (by omega) (by omega)).mono ?_
      rintro e w1 ⟨rfl, hd1⟩
      have hd' := hd.trans hd1
      have hB1 := hd1.below wo.heap.size
      have hc3 : w1.cell? ⟨b, off + j * 2 + 1, none⟩ = some (.int .i64 (k + (s : Int) + (l : Int))) := by rw [hB1.cell (World.block_lt_of_cell? _ _ hc2)]; exact hc2
      have hne : ((k + (s : Int) + (l : Int)) != (k + (s : Int) + (l : Int))) = false := by simp
      have hn0 : ¬ k + (s : Int) + (l : Int) < 0 := by omega
      clear hc hc2 hri hd hd1 hB1
      go_wp2
      go_roundw
      case rel => exact ⟨j + 1, by omega, by go_num, by rw [Hs1.out]; go_num, hd'⟩
      case measure => simp [intOf]; omega
    · obtain rfl : j = n := by omega
      go_wp2
      go_ret
      exact ⟨ret_int (by rw [List.take_of_length_le (by rw [Hn.out]; omega), HZ.out]), hd⟩
theorem held_T {B S : Nat} (a : Option Addr) (n c : Nat) (xs : List (List Int × Int)) (k : Int) (w : World) {Z : Nat} (ho : TO w B S a n c (mk_T xs k)) (hk0 : 0 ≤ k) (hk : k ≤ 4398046511104) (hb : Z ≤ 1099511627776) (hZ : sz_T xs = Z) (hbn : n ≤ 17592186044416) :
    Calls Try.prog 59 #[.slice a n c, .int .i64 k] w fun e w' => e = .returned (.int .i64 (k + Z)) ∧ Drew w w' :=
  heldT_any a n c xs k w ho.rd (by rw [← ho.len, mk_T_length]) hk0 hk hb hZ hbn
end Go.Proofs.Ytiiiiolifpaehaa
