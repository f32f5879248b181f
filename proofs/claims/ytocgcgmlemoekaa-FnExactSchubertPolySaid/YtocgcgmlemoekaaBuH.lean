/-
  Slices of terms: marked, held, copied; their words for lawgen.py.
  Contract of toTermS, the copy owned.
  Append of a term as a step of a region that draws its order; contract of l2Shut.
  DemazureOf, IsobaricOf and AtomOf of the reference; sizes of their results.
-/
import Derived.Test.YtocgcgmlemoekaaKT
import Derived.Test.YtocgcgmlemoekaaBuG
import Derived.Test.YtocgcgmlemoekaaBuF
import Derived.Test.YtocgcgmlemoekaaClosed
namespace Go.Proofs.Ytocgcgmlemoekaa
open Go.RowKit

abbrev RT := RP
abbrev Wide_T := Wide_P
abbrev Wf_T := Wf_P
abbrev Short_T := Short_P
def sz_T : List (List Int × Int) → Nat
  | [] => 0
  | p :: r => p.1.length + 1 + sz_T r
def ms_T := ms_P
def mk_T : List (List Int × Int) → Int → List (List Int × Int)
  | [], _ => []
  | p :: r, k => (iota k p.1.length, k + p.1.length) :: mk_T r (k + p.1.length + 1)
theorem sz_T_eq (xs : List (List Int × Int)) : sz_T xs = xs.length + sz_II (heads xs) := by
  induction xs with
  | nil => rfl
  | cons p r ih =>
    show p.1.length + 1 + sz_T r = (p :: r).length + sz_II (p.1 :: heads r)
    rw [ih, List.length_cons, sz_II]
    omega
theorem ms_T_len (xs : List (List Int × Int)) : xs.length ≤ ms_T xs := Nat.le_add_right _ _
theorem ms_T_sz (xs : List (List Int × Int)) : sz_T xs ≤ ms_T xs := by rw [sz_T_eq]; exact Nat.le_refl _
theorem ms_T_short (xs : List (List Int × Int)) (h : ms_T xs ≤ 1048576) : Short_T xs := ms_P_short xs h
theorem szl_T (a : Option Addr) (n c : Nat) (xs : List (List Int × Int)) (left : Int) (w : World) (hr : RP w a xs) (hn : xs.length = n) (h0 : 0 ≤ left) (h1 : left ≤ 1048576) (hb : Wide_P n xs) :
    Calls Try.prog 35 #[.slice a n c, .int .i64 left] w fun e w' => e = .returned (.int .i64 (leftOf left (ms_T xs))) ∧ Below w.heap.size w w' := szl_P a n c xs left w hr hn h0 h1 hb
theorem eq_T (a b : Option Addr) (n c m d : Nat) (xs ys : List (List Int × Int)) (w : World) (hr : RP w a xs) (hs : RP w b ys) (hn : xs.length = n) (hm : ys.length = m) (hb : n ≤ 17592186044416) (hsh : ∀ p ∈ xs, p.1.length ≤ 1048576) :
    Calls Try.prog 18 #[.slice a n c, .slice b m d] w fun e w' => e = .returned (.bool (decide (xs = ys))) ∧ Below w.heap.size w w' := eq_P a b n c m d xs ys w hr hs hn hm hb hsh
theorem sz_T_append (xs ys : List (List Int × Int)) : sz_T (xs ++ ys) = sz_T xs + sz_T ys := by
  induction xs with
  | nil => simp [sz_T]
  | cons x xs ih => rw [List.cons_append, sz_T, sz_T, ih]; omega
theorem mk_T_length (xs : List (List Int × Int)) (k : Int) : (mk_T xs k).length = xs.length := by
  induction xs generalizing k with
  | nil => rfl
  | cons x xs ih => rw [mk_T, List.length_cons, List.length_cons, ih]
theorem mk_T_append (xs ys : List (List Int × Int)) (k : Int) : mk_T (xs ++ ys) k = mk_T xs k ++ mk_T ys (k + (sz_T xs : Int)) := by
  induction xs generalizing k with
  | nil => simp [sz_T, mk_T]
  | cons x xs ih =>
    rw [List.cons_append, mk_T, mk_T, ih, sz_T, List.cons_append]
    congr 3
    simp; omega
theorem sz_T_take {xs : List (List Int × Int)} {i : Nat} {x : List Int × Int} (h : xs[i]? = some x) : sz_T (xs.take (i + 1)) = sz_T (xs.take i) + (x.1.length + 1) := by
  rw [take_at h, sz_T_append]; rfl
theorem sz_T_le (xs : List (List Int × Int)) (i : Nat) : sz_T (xs.take i) ≤ sz_T xs := by
  conv => rhs; rw [← List.take_append_drop i xs, sz_T_append]
  omega
def markT (xs : List (List Int × Int)) (k : Int) (i : Nat) : List (List Int × Int) := mk_T (xs.take i) k ++ xs.drop i
theorem markT_zero (xs : List (List Int × Int)) (k : Int) : markT xs k 0 = xs := by simp [markT, mk_T]
theorem markT_all {xs : List (List Int × Int)} {n : Nat} (h : xs.length = n) (k : Int) : markT xs k n = mk_T xs k := by simp [markT, ← h]
theorem markT_at {xs : List (List Int × Int)} {i : Nat} {x : List Int × Int} (h : xs[i]? = some x) (k : Int) : (markT xs k i)[i]? = some x := by
  have hi := lt_of_some h
  have hl : (mk_T (xs.take i) k).length = i := by rw [mk_T_length, List.length_take]; omega
  unfold markT
  rw [List.getElem?_append_right (by omega), hl, Nat.sub_self, List.getElem?_drop, Nat.add_zero]
  exact h
theorem markT_succ {xs : List (List Int × Int)} {i : Nat} {x : List Int × Int} (h : xs[i]? = some x) (k : Int) : (markT xs k i).set i (iota (k + (sz_T (xs.take i) : Int)) x.1.length, k + (sz_T (xs.take i) : Int) + x.1.length) = markT xs k (i + 1) := by
  have hi := lt_of_some h
  have hl : (mk_T (xs.take i) k).length = i := by rw [mk_T_length, List.length_take]; omega
  unfold markT
  rw [drop_at h, List.set_append_right _ _ (by omega), hl, Nat.sub_self, take_at h, mk_T_append]
  simp [mk_T]
theorem mk_T_at {xs : List (List Int × Int)} {i : Nat} {x : List Int × Int} (h : xs[i]? = some x) (k : Int) : (mk_T xs k)[i]? = some (iota (k + (sz_T (xs.take i) : Int)) x.1.length, k + (sz_T (xs.take i) : Int) + x.1.length) := by
  have hi := lt_of_some h
  have hl : (mk_T (xs.take i) k).length = i := by rw [mk_T_length, List.length_take]; omega
  conv => lhs; rw [← List.take_append_drop i xs, mk_T_append, drop_at h]
  rw [List.getElem?_append_right (by omega), hl, Nat.sub_self, mk_T]
  rfl

theorem grown_keeps2 {w w' : World} {B e n : Nat} {v : Value} {vs : List Value} {row : Option Nat} (h : w.ownsRow B e 2 v n vs) (hg : w.grownBy w' row) (hne : ∀ k, v.ownBlock = some k → row ≠ some k) : w'.ownsRow B e 2 v n vs := by
  refine h.kept hg ?_
  cases hv : v.ownBlock with
  | none => exact .inl rfl
  | some k => exact .inr (fun e => hne k hv e.symm)
theorem row2_cell {w : World} {B e n g c : Nat} {vs : List Value} (h : w.ownsRow B e 2 (.slice (some ⟨g, 0, none⟩) n c) n vs) {j : Nat} {v : Value} (hv : vs[j]? = some v) : w.cell? ⟨g, j, none⟩ = some v ∧ w.frozen? ⟨g, j, none⟩ = false := by
  have hl := h.1
  have := lt_of_some hv
  exact ⟨by rw [h.cellAt _ (by omega)]; exact hv, h.frozenAt _⟩
theorem TO.at {w : World} {B S : Nat} {a : Option Addr} {n c : Nat} {xs : List (List Int × Int)} (h : TO w B S a n c xs) (hn : 0 < n) : ∃ g, a = some ⟨g, 0, none⟩ ∧ B ≤ g ∧ g < S := by
  obtain ⟨vs, h1, h2, _⟩ := h
  rcases row2_shape h1 with ⟨h0, _⟩ | ⟨g, rfl, hB, _⟩
  · omega
  · exact ⟨g, rfl, hB, h2 g rfl⟩
/-- one term's parts, and both of them put anew -/
theorem TO.open {w : World} {B S g n c : Nat} {xs : List (List Int × Int)} (h : TO w B S (some ⟨g, 0, none⟩) n c xs) {i : Nat} {p : List Int × Int} (hi : xs[i]? = some p) :
    ∃ a' c', w.cell? ⟨g, i * 2, none⟩ = some (.slice a' p.1.length c') ∧ w.cell? ⟨g, i * 2 + 1, none⟩ = some (.int .i64 p.2) ∧ OwI w B S a' p.1.length c' p.1 ∧
      ∀ w' ys (v : Int), ys.length = p.1.length → OS w' B a' p.1.length c' ys → w.grownBy w' (Value.slice a' p.1.length c').ownBlock →
        w'.cell? ⟨g, i * 2 + 1, none⟩ = some (.int .i64 p.2) ∧ w'.frozen? ⟨g, i * 2 + 1, none⟩ = false ∧
        TO (w'.setCell ⟨g, i * 2 + 1, none⟩ (.int .i64 v)) B S (some ⟨g, 0, none⟩) n c (xs.set i (ys, v)) ∧ w'.grownBy (w'.setCell ⟨g, i * 2 + 1, none⟩ (.int .i64 v)) (some g) := by
  obtain ⟨vs, h1, h2, h3⟩ := h
  obtain ⟨a', c', e1, e2, ho⟩ := h3.each i p hi
  have hlv : vs.length = n * 2 := h1.1
  have hil := lt_of_some hi
  have hln := h3.len
  refine ⟨a', c', (row2_cell h1 e1).1, (row2_cell h1 e2).1, ho, fun w' ys v hl hos hg => ?_⟩
  have h1' := grown_keeps2 h1 hg (fun k hk e => ne_blockT h1 ho k hk e)
  have s := h1'.stored (i * 2 + 1) (.int .i64 v)
  refine ⟨(row2_cell h1' e2).1, (row2_cell h1' e2).2, ⟨_, s.1, h2, ?_⟩, s.2⟩
  have fin : ∀ {b : Option Addr} {m d : Nat} {zs : List Int}, OwI w' B S b m d zs → OwI (w'.setCell ⟨g, i * 2 + 1, none⟩ (.int .i64 v)) B S b m d zs := fun hio => ⟨hio.1.kept s.2 (fun k hk e => ne_blockT h1' hio g rfl (by rw [hk, ← Option.some.inj e])), hio.2⟩
  refine ⟨by rw [List.length_set, List.length_set]; exact h3.len, fun k q hq => ?_, ?_⟩
  · rw [List.getElem?_set] at hq
    by_cases hk : i = k
    · subst hk
      rw [if_pos rfl, if_pos hil] at hq
      obtain rfl := Option.some.inj hq
      refine ⟨a', c', ?_, ?_, ?_⟩
      · rw [List.getElem?_set, if_neg (by omega), hl]; exact e1
      · rw [List.getElem?_set, if_pos rfl, if_pos (by omega)]
      · rw [hl]; exact fin ⟨hos, ho.2⟩
    · rw [if_neg hk] at hq
      obtain ⟨a2, c2, e3, e4, ho2⟩ := h3.each k q hq
      refine ⟨a2, c2, ?_, ?_, fin ⟨ho2.1.kept hg (fun r hr e => hk (h3.apart i k _ _ r e1 e3 e hr)), ho2.2⟩⟩
      · rw [List.getElem?_set, if_neg (by omega)]; exact e3
      · rw [List.getElem?_set, if_neg (by omega)]; exact e4
  · intro k j u v' r hu hv
    rw [List.getElem?_set, if_neg (by omega)] at hu hv
    exact h3.apart k j u v' r hu hv

set_option maxRecDepth 100000 in
set_option maxHeartbeats 1600000 in
theorem mark_T (B S : Nat) (a : Option Addr) (n c : Nat) (xs : List (List Int × Int)) (k : Int) (w : World) {Z : Nat} (ho : TO w B S a n c xs) (hk0 : 0 ≤ k) (hk : k ≤ 4398046511104) (hb : Z ≤ 1099511627776) (hZ : sz_T xs = Z) (hbn : n ≤ 17592186044416) :
    Calls Try.prog 21 #[.slice a n c, .int .i64 k] w fun e w' => e = .returned (.int .i64 (k + Z)) ∧ TO w' B S a n c (mk_T xs k) ∧ Only B S w w' := by
  have hn := ho.len
  have Hn := Lib.hid hn; clear hn
  have HZ := Lib.hid hZ; clear hZ
  go_enter Try.func21, Try.ntmps21
  go_wp2
  go_loopw [1, 5] (fun kk i wr => ∃ j : Nat, j ≤ n ∧ i = .int .i64 j ∧ kk = .int .i64 (k + (sz_T (xs.take j) : Int)) ∧ TO wr B S a n c (markT xs k j) ∧ Only B S w wr) (fun _ i _ => n - (intOf i).toNat)
  case atStart => exact ⟨0, Nat.zero_le _, rfl, by simp [sz_T], by rw [markT_zero]; exact ho, Only.refl _ _ _⟩
  case round =>
    obtain ⟨j, hj, rfl, rfl, hr, hg⟩ := hrel
    obtain ⟨wo, rfl⟩ : ∃ wo : World, wo = wr := ⟨_, rfl⟩
    by_cases hlt : j < n
    · obtain ⟨x, hx⟩ := some_of (show j < xs.length by rw [Hn.out]; exact hlt)
      obtain ⟨g, rfl, hBg, hgS⟩ := hr.at (by omega)
      obtain ⟨a', c', hc, hc2, hio, hset⟩ := hr.open (markT_at hx k)
      have hs1 := sz_T_take hx
      have hs2 := sz_T_le xs j
      have hs3 := sz_T_le xs (j + 1)
      have hst := markT_succ hx k
      rw [HZ.out] at hs2 hs3
      obtain ⟨s, hs⟩ : ∃ s, sz_T (xs.take j) = s := ⟨_, rfl⟩
      obtain ⟨l, hl⟩ : ∃ l, x.1.length = l := ⟨_, rfl⟩
      rw [hs] at hs1 hs2 hst ⊢
      rw [hl] at hs1 hc hio hset hst
      have hsl : s + l + 1 ≤ 1099511627776 := by omega
      have Hs1 := Lib.hid hs1; clear hs1 hs3
      have Hs := Lib.hid hs; clear hs
      have Hl := Lib.hid hl; clear hl
      have Hst := Lib.hid hst; clear hst hx
      have Hset := Lib.hid hset; clear hset
      go_wp2_with fail
      refine (markIntS_any _ _ _ _ _ _ _ hio.1 (by omega) (by omega) (by omega)).mono ?_
      rintro e w1 ⟨rfl, hos, hgr⟩
      obtain ⟨f1, f2, hto, hg2⟩ := Hset.out w1 (iota (k + (s : Int)) l) (k + (s : Int) + (l : Int)) (by rw [iota_length]) hos hgr
      rw [Hst.out] at hto
      have Hto := Lib.hid hto
      have ho1 := Lib.hid ((hg.trans (Only.of_grown hgr hio.1.lo hio.2)).trans (Only.setCell w1 g (j * 2 + 1) (.int .i64 (k + (s : Int) + (l : Int))) hBg hgS))
      clear hos hgr hio hr hg hto hg2 hc hc2
      go_wp2
      go_roundw
      case rel => exact ⟨j + 1, by omega, by go_num, by rw [Hs1.out]; go_num, Hto.out, ho1.out⟩
      case measure => simp [intOf]; omega
    · obtain rfl : j = n := by omega
      go_wp2
      go_ret
      rw [markT_all Hn.out] at hr
      exact ⟨ret_int (by rw [List.take_of_length_le (by rw [Hn.out]; omega), HZ.out]), hr, hg⟩

set_option maxRecDepth 100000 in
set_option maxHeartbeats 1600000 in
theorem heldT_any (a : Option Addr) (n c : Nat) (xs : List (List Int × Int)) (k : Int) (w : World) {Z : Nat} (hr : RP w a (mk_T xs k)) (hn : xs.length = n) (hk0 : 0 ≤ k) (hk : k ≤ 4398046511104) (hb : Z ≤ 1099511627776) (hZ : sz_T xs = Z) (hbn : n ≤ 17592186044416) :
    Calls Try.prog 22 #[.slice a n c, .int .i64 k] w fun e w' => e = .returned (.int .i64 (k + Z)) ∧ Drew w w' := by
  have Hn := Lib.hid hn; clear hn
  have HZ := Lib.hid hZ; clear hZ
  go_enter Try.func22, Try.ntmps22
  go_wp2
  go_loopw [1, 5] (fun kk i wr => ∃ j : Nat, j ≤ n ∧ i = .int .i64 j ∧ kk = .int .i64 (k + (sz_T (xs.take j) : Int)) ∧ Drew w wr) (fun _ i _ => n - (intOf i).toNat)
  case atStart => exact ⟨0, Nat.zero_le _, rfl, by simp [sz_T], Drew.refl _⟩
  case round =>
    obtain ⟨j, hj, rfl, rfl, hd⟩ := hrel
    obtain ⟨wo, rfl⟩ : ∃ wo : World, wo = wr := ⟨_, rfl⟩
    by_cases hlt : j < n
    · obtain ⟨x, hx⟩ := some_of (show j < xs.length by rw [Hn.out]; exact hlt)
      have hrw := hr.below (hd.below _)
      obtain ⟨b, off, rfl, hcell⟩ := hrw.at (k := j) (by rw [mk_T_length, Hn.out]; exact hlt)
      obtain ⟨a', c', hc, hc2, hri, _⟩ := hcell j _ (mk_T_at hx k)
      simp only at hc hc2 hri
      rw [iota_length] at hc
      have hs1 := sz_T_take hx
      have hs2 := sz_T_le xs j
      have hs3 := sz_T_le xs (j + 1)
      rw [HZ.out] at hs2 hs3
      obtain ⟨s, hs⟩ : ∃ s, sz_T (xs.take j) = s := ⟨_, rfl⟩
      obtain ⟨l, hl⟩ : ∃ l, x.1.length = l := ⟨_, rfl⟩
      rw [hs] at hs1 hs2 hri hc2 ⊢
      rw [hl] at hs1 hc hri hc2
      have hsl : s + l + 1 ≤ 1099511627776 := by omega
      have Hs1 := Lib.hid hs1; clear hs1 hs3
      have Hs := Lib.hid hs; clear hs
      have Hl := Lib.hid hl; clear hl hx hcell hrw
      go_wp2_with fail
      refine (heldIntS_any _ _ _ _ _ hri (by omega) (by omega) (by omega)).mono ?_
      rintro e w1 ⟨rfl, hd1⟩
      have hd' := hd.trans hd1
      have hB1 := hd1.below wo.heap.size
      have hc3 : w1.cell? ⟨b, off + j * 2 + 1, none⟩ = some (.int .i64 (k + (s : Int) + (l : Int))) := by rw [hB1.cell (World.block_lt_of_cell? _ _ hc2)]; exact hc2
      have hne : ((k + (s : Int) + (l : Int)) != (k + (s : Int) + (l : Int))) = false := by simp
      have hn0 : ¬ k + (s : Int) + (l : Int) < 0 := by omega
      clear hc hc2 hri hd hd1 hB1
      go_wp2
      go_roundw
      case rel => exact ⟨j + 1, by omega, by go_num, by rw [Hs1.out]; go_num, hd'⟩
      case measure => simp [intOf]; omega
    · obtain rfl : j = n := by omega
      go_wp2
      go_ret
      exact ⟨ret_int (by rw [List.take_of_length_le (by rw [Hn.out]; omega), HZ.out]), hd⟩
theorem held_T {B S : Nat} (a : Option Addr) (n c : Nat) (xs : List (List Int × Int)) (k : Int) (w : World) {Z : Nat} (ho : TO w B S a n c (mk_T xs k)) (hk0 : 0 ≤ k) (hk : k ≤ 4398046511104) (hb : Z ≤ 1099511627776) (hZ : sz_T xs = Z) (hbn : n ≤ 17592186044416) :
    Calls Try.prog 22 #[.slice a n c, .int .i64 k] w fun e w' => e = .returned (.int .i64 (k + Z)) ∧ Drew w w' :=
  heldT_any a n c xs k w ho.rd (by rw [← ho.len, mk_T_length]) hk0 hk hb hZ hbn
end Go.Proofs.Ytocgcgmlemoekaa

namespace Go.Proofs.Ytocgcgmlemoekaa
open Go.RowKit

theorem TO.zeros {w : World} {B n : Nat} {vs : List Value} (h : w.ownsRow B 83 2 (.slice (some ⟨B, 0, none⟩) n n) n vs)
    (hv : ∀ k, k < n → vs[k * 2]? = some (.slice none 0 0) ∧ vs[k * 2 + 1]? = some (.int .i64 0)) : TO w B w.heap.size (some ⟨B, 0, none⟩) n n (List.replicate n ([], 0)) := by
  have hl : vs.length = n * 2 := h.1
  refine ⟨vs, h, fun k hk => (h.lt k hk).2, by simp; omega, fun k p hp => ?_, fun i j u v g hu hv' hug _ => ?_⟩
  · rw [List.getElem?_replicate] at hp
    split at hp
    · rename_i hk
      obtain rfl := Option.some.inj hp
      exact ⟨none, 0, (hv k hk).1, (hv k hk).2, ⟨rfl, World.ownsRow_nil _ _ _ _⟩, by simp [Value.ownBlock]⟩
    · cases hp
  · have hi := lt_of_some hu
    rw [(hv i (by omega)).1] at hu
    obtain rfl := Option.some.inj hu
    cases hug
theorem TO.put {w : World} {B S g n c : Nat} {xs : List (List Int × Int)} (h : TO w B S (some ⟨g, 0, none⟩) n c xs) {i : Nat} {p : List Int × Int} (hi : xs[i]? = some p) {S1 S' : Nat} {a' : Option Addr} {l c' : Nat} {ys : List Int} (hy : OwI w S1 S' a' l c' ys) (hS1 : S ≤ S1) (hB : B ≤ S1) (hSS : S ≤ S') (v : Int) :
    (∃ old, w.cell? ⟨g, i * 2, none⟩ = some old) ∧ w.frozen? ⟨g, i * 2, none⟩ = false ∧
    (∃ old, (w.setCell ⟨g, i * 2, none⟩ (.slice a' l c')).cell? ⟨g, i * 2 + 1, none⟩ = some old) ∧ (w.setCell ⟨g, i * 2, none⟩ (.slice a' l c')).frozen? ⟨g, i * 2 + 1, none⟩ = false ∧
    TO ((w.setCell ⟨g, i * 2, none⟩ (.slice a' l c')).setCell ⟨g, i * 2 + 1, none⟩ (.int .i64 v)) B S' (some ⟨g, 0, none⟩) n c (xs.set i (ys, v)) := by
  obtain ⟨vs, h1, h2, h3⟩ := h
  obtain ⟨b0, d0, e1, e2, ho⟩ := h3.each i p hi
  have hlv : vs.length = n * 2 := h1.1
  have hil := lt_of_some hi
  have hln := h3.len
  have s1 := h1.stored (i * 2) (.slice a' l c')
  have s2 := s1.1.stored (i * 2 + 1) (.int .i64 v)
  have e3 : (vs.set (i * 2) (.slice a' l c'))[i * 2 + 1]? = some (.int .i64 p.2) := by rw [List.getElem?_set, if_neg (by omega)]; exact e2
  refine ⟨⟨_, (row2_cell h1 e1).1⟩, (row2_cell h1 e1).2, ⟨_, (row2_cell s1.1 e3).1⟩, (row2_cell s1.1 e3).2, _, s2.1, fun k hk => Nat.lt_of_lt_of_le (h2 k hk) hSS, ?_⟩
  have fin : ∀ {B0 S0 : Nat} {b : Option Addr} {m d : Nat} {zs : List Int}, OwI w B0 S0 b m d zs → OwI ((w.setCell ⟨g, i * 2, none⟩ (.slice a' l c')).setCell ⟨g, i * 2 + 1, none⟩ (.int .i64 v)) B0 S0 b m d zs := fun hio => by
    have i1 : OwI (w.setCell ⟨g, i * 2, none⟩ (.slice a' l c')) _ _ _ _ _ _ := ⟨hio.1.kept s1.2 (fun k hk e => ne_blockT h1 hio g rfl (by rw [hk, ← Option.some.inj e])), hio.2⟩
    exact ⟨i1.1.kept s2.2 (fun k hk e => ne_blockT s1.1 i1 g rfl (by rw [hk, ← Option.some.inj e])), i1.2⟩
  have hold : ∀ k u, vs[k * 2]? = some u → ∀ r, u.ownBlock = some r → r < S := by
    intro k u hu r hur
    have hk := lt_of_some hu
    obtain ⟨q, hq⟩ := some_of (show k < xs.length by omega)
    obtain ⟨a2, c2, f1, _, f3⟩ := h3.each k q hq
    rw [hu] at f1
    obtain rfl := Option.some.inj f1
    exact f3.2 r hur
  have hnew : ∀ r, (Value.slice a' l c').ownBlock = some r → S1 ≤ r := fun r hr => hy.1.lo r hr
  refine ⟨by rw [List.length_set, List.length_set, List.length_set]; exact h3.len, fun k q hq => ?_, ?_⟩
  · rw [List.getElem?_set] at hq
    by_cases hk : i = k
    · subst hk
      rw [if_pos rfl, if_pos hil] at hq
      obtain rfl := Option.some.inj hq
      obtain rfl := hy.len
      refine ⟨a', c', ?_, ?_, ?_⟩
      · rw [List.getElem?_set, if_neg (by omega), List.getElem?_set, if_pos rfl, if_pos (by omega)]
      · rw [List.getElem?_set, if_pos rfl, if_pos (by rw [List.length_set]; omega)]
      · exact (fin hy).mono hB (Nat.le_refl _)
    · rw [if_neg hk] at hq
      obtain ⟨a2, c2, f1, f2, ho2⟩ := h3.each k q hq
      refine ⟨a2, c2, ?_, ?_, (fin ho2).mono (Nat.le_refl _) hSS⟩
      · rw [List.getElem?_set, if_neg (by omega), List.getElem?_set, if_neg (by omega)]; exact f1
      · rw [List.getElem?_set, if_neg (by omega), List.getElem?_set, if_neg (by omega)]; exact f2
  · have split : ∀ k u, ((vs.set (i * 2) (.slice a' l c')).set (i * 2 + 1) (.int .i64 v))[k * 2]? = some u → (k ≠ i ∧ vs[k * 2]? = some u) ∨ (k = i ∧ u = .slice a' l c') := by
      intro k u hu
      rw [List.getElem?_set, if_neg (by omega), List.getElem?_set] at hu
      by_cases hk : i = k
      · subst hk
        rw [if_pos rfl, if_pos (by omega)] at hu
        exact .inr ⟨rfl, (Option.some.inj hu).symm⟩
      · rw [if_neg (by omega)] at hu
        exact .inl ⟨fun e => hk e.symm, hu⟩
    intro k j u v' r hu hv hur hvr
    rcases split k u hu with ⟨_, hu2⟩ | ⟨ei, eu⟩ <;> rcases split j v' hv with ⟨_, hv2⟩ | ⟨ej, ev⟩
    · exact h3.apart k j u v' r hu2 hv2 hur hvr
    · rw [ev] at hvr
      have := hold k u hu2 r hur
      have := hnew r hvr
      omega
    · rw [eu] at hur
      have := hold j v' hv2 r hvr
      have := hnew r hur
      omega
    · omega

set_option maxRecDepth 100000 in
set_option maxHeartbeats 1600000 in
theorem conv_T (a : Option Addr) (n c : Nat) (xs : List (List Int × Int)) (w : World) (hr : RP w a xs) (hn : xs.length = n) (hb : n ≤ 1048576) (hsh : Short_P xs) :
    Calls Try.prog 37 #[.slice a n c] w fun e w' => ∃ a' c', e = .returned (.slice a' n c') ∧ TO w' w.heap.size w'.heap.size a' n c' xs ∧ Below w.heap.size w w' := by
  have Hn := Lib.hid hn; clear hn
  have HSh := Lib.hid hsh; clear hsh
  obtain ⟨i0, hi, hz0, hz1, hz2⟩ := info_parts Try.info83
  go_enter Try.func37, Try.ntmps37
  go_wp2_with (first | (at_make; refine wpList_make_full _ rfl _ _ 23 rfl w.heap.size 83 i0 (.agg #[.slice none 0 0, .int .i64 0]) 2 Try.underlying23 hi hz0 hz1 .i64 .i64 _ _ n rfl rfl ?m1 ?m2 ?m3 ?m4 ?m5 ?_))
  case m1 => rfl
  case m2 => rfl
  case m3 => rw [hz2]; omega
  case m4 => unfold maxLen; omega
  case m5 => exact Nat.le_refl _
  intro w1 hown hg
  have hB : Below w.heap.size w w1 := (Below.refl _ _).grown hg (Nat.le_refl _) (by simp)
  have hrow : TO w1 w.heap.size w1.heap.size (some ⟨w.heap.size, 0, none⟩) n n (fillP xs n 0) := by
    have h1 : fillP xs n 0 = List.replicate n ([], 0) := by simp [fillP]
    rw [h1]
    exact TO.zeros hown fun k hk => madeP_at hk
  clear hown hg
  go_wp2
  go_loopw [4] (fun i wr => ∃ k : Nat, k ≤ n ∧ i = .int .i64 k ∧ TO wr w.heap.size wr.heap.size (some ⟨w.heap.size, 0, none⟩) n n (fillP xs n k) ∧ Below w.heap.size w wr) (fun i _ => n - (intOf i).toNat)
  case atStart => exact ⟨0, Nat.zero_le _, rfl, hrow, hB⟩
  case round =>
    clear hrow hB
    obtain ⟨k, hk, rfl, ho, hbel⟩ := hrel
    obtain ⟨wo, rfl⟩ : ∃ wo : World, wo = wr := ⟨_, rfl⟩
    by_cases hlt : k < n
    · obtain ⟨b, off, rfl, hcell⟩ := (hr.below hbel).at (k := k) (by rw [Hn.out]; exact hlt)
      obtain ⟨x, y, hx⟩ := part_at Hn.out hlt
      obtain ⟨a1, c1, hc1, hc2, hri, _⟩ := hcell k _ hx
      have hxl : x.length ≤ 1048576 := HSh.out (x, y) (List.mem_of_getElem? hx)
      simp only at hc1 hc2 hri
      have Hx := Lib.hid hx; clear hx hcell
      obtain ⟨l, hl⟩ : ∃ l, x.length = l := ⟨_, rfl⟩
      rw [hl] at hc1 hxl
      have Hl := Lib.hid hl; clear hl
      have hs0 := hbel.size
      have hs1 : w.heap.size < wo.heap.size := by
        obtain ⟨vs, h1, _⟩ := ho
        exact (h1.lt _ rfl).2
      obtain ⟨pold, hpold⟩ := some_of (show k < (fillP xs n k).length by rw [fillP_length Hn.out (by omega)]; exact hlt)
      go_wp2_with fail
      refine (toPart_any _ _ _ x y _ hri Hl.out (by omega)).mono ?_
      rintro e w2 ⟨a2, c2, rfl, ho2, hb2⟩
      have ho1 := ho.below hb2
      obtain ⟨⟨old, hold⟩, hfz, ⟨old2, hold2⟩, hfz2, hput⟩ := ho1.put hpold ho2 (Nat.le_refl _) hs0 hb2.size y
      have hB2 := ((hbel.trans (hb2.mono hs0)).setCell (p := ⟨w.heap.size, k * 2, none⟩) (Nat.le_refl _) (.slice a2 l c2)).setCell (p := ⟨w.heap.size, k * 2 + 1, none⟩) (Nat.le_refl _) (.int .i64 y)
      rw [fillP_succ Hn.out hlt Hx.out] at hput
      have hput' : TO ((w2.setCell ⟨w.heap.size, k * 2, none⟩ (.slice a2 l c2)).setCell ⟨w.heap.size, k * 2 + 1, none⟩ (.int .i64 y)) w.heap.size ((w2.setCell ⟨w.heap.size, k * 2, none⟩ (.slice a2 l c2)).setCell ⟨w.heap.size, k * 2 + 1, none⟩ (.int .i64 y)).heap.size (some ⟨w.heap.size, 0, none⟩) n n (fillP xs n (k + 1)) := by simpa using hput
      have HP := Lib.hid hput'
      have HB := Lib.hid hB2
      clear ho ho1 ho2 hput hput' hri hb2 hB2 hpold
      go_wp2
      go_roundw
      case rel => exact ⟨k + 1, by omega, by go_num, HP.out, HB.out⟩
      case measure => simp [intOf]; omega
    · obtain rfl : k = n := by omega
      go_wp2
      go_ret
      rw [fillP_all Hn.out] at ho
      exact ⟨_, _, rfl, ho, hbel⟩
end Go.Proofs.Ytocgcgmlemoekaa

namespace Go.Proofs.Ytocgcgmlemoekaa
open Go.RowKit

theorem step_pushT {w W : World} {b : Option Addr} {m d : Nat} {y : Int} (hW : W = w.alloc (.cells #[.slice b m d, .int .i64 y] 83)) {ops : Array Oper} {o : Oper} {ac : Act} {K : Act → World → Prop} {Q : Exit → Act → World → Prop} (hwant : Region.wanted o (yielded ops ac.tmps) = true) (s x : Operand)
    (ho : o.op = .call { callee := .builtin .append, args := #[s, x], argTypes := #[23, 23] })
    {B S : Nat} {a : Option Addr} {n c : Nat} {xs : List (List Int × Int)} (hown : TO w B S a n c xs) (hs : ac.eval s = .slice a n c)
    {ys : List Int} {S' : Nat} (hr : OwI w S S' b m d ys) (hBS : B ≤ S) (hx : ac.eval x = .slice (some ⟨w.heap.size, 0, none⟩) 1 1) (hn : n + 1 ≤ 1048576) (hbase : B ≤ w.heap.size) (hS : S ≤ w.heap.size) (hS' : S' ≤ w.heap.size)
    (h : ∀ a' c' w', TO w' B w'.heap.size a' (n + 1) c' (xs ++ [(ys, y)]) → w.grownBy w' (Value.slice a n c).ownBlock → K (ac.put o.dst (.slice a' (n + 1) c')) w') :
    if Region.wanted o (yielded ops ac.tmps) = true then Oper.wp Try.prog o ac W K Q else K (ac.put o.dst undef) W := by
  rw [if_pos hwant]
  subst hW
  obtain ⟨i0, hi, hz0, hz1, hz2⟩ := info_parts Try.info83
  obtain ⟨vs, h1, h2, h3⟩ := hown
  have hlen := hr.len
  have hvl := h3.len
  have h10 := h1.1
  have h1a := h1.alloc (.cells #[.slice b m d, .int .i64 y] 83)
  obtain ⟨v', w', hrun, h4, h5, _⟩ := run_append_own (P := Try.prog) (w.alloc (.cells #[.slice b m d, .int .i64 y] 83)) B 23 o.type 83 i0 (.agg #[.slice none 0 0, .int .i64 0]) 2 32 Try.underlying23 hi hz0 hz1 hz2 rfl (by decide) (.slice a n c) n vs h1a ⟨w.heap.size, 0, none⟩ 1 1 [.slice b m d, .int .i64 y] rfl
    (by
      intro j u hj
      match j, hj with
      | 0, hj => simp at hj; subst hj; simp [Addr.add]
      | 1, hj => simp at hj; subst hj; simp [Addr.add])
    (by
      intro u hu
      simp at hu
      rcases hu with rfl | rfl <;> rfl) (by unfold maxLen; omega) (by omega) (by simp; omega)
  obtain ⟨a', c', rfl⟩ := slice_ofT h4
  unfold Oper.wp execOp
  simp only [ho, resolve, invoke, builtin, Sem.run_bind, Sem.run_pure, Result.andThen_ok, List.map_toArray, List.map_cons, List.map_nil, hs, hx, hrun]
  have hg := grownBy.trans (World.grownBy_alloc w (.cells #[.slice b m d, .int .i64 y] 83) (Value.slice a n c).ownBlock) h5
  have hsz := hg.size
  have keep : ∀ {B0 S0 : Nat} {a0 : Option Addr} {l0 c0 : Nat} {zs : List Int}, OwI w B0 S0 a0 l0 c0 zs → OwI w' B0 S0 a0 l0 c0 zs := fun hio => ⟨hio.1.kept hg (fun k hk e => ne_blockT h1 hio k e hk), hio.2⟩
  have hold : ∀ i v, vs[i * 2]? = some v → ∀ g, v.ownBlock = some g → g < S := by
    intro i v hv g hvg
    have hi := lt_of_some hv
    obtain ⟨p, hp⟩ := some_of (show i < xs.length by omega)
    obtain ⟨a2, c2, e1, _, e3⟩ := h3.each i p hp
    rw [hv] at e1
    obtain rfl := Option.some.inj e1
    exact e3.2 g hvg
  have hnew : ∀ g, (Value.slice b m d).ownBlock = some g → S ≤ g := fun g hg => hr.1.lo g hg
  refine h a' c' w' ⟨vs ++ [.slice b m d, .int .i64 y], h4, fun k hk => (h4.lt k hk).2, by simp; omega, fun k p hp => ?_, ?_⟩ hg
  · rcases Nat.lt_or_ge k xs.length with hk | hk
    · rw [List.getElem?_append_left hk] at hp
      obtain ⟨a2, c2, e1, e2, e3⟩ := h3.each k p hp
      exact ⟨a2, c2, by rw [List.getElem?_append_left (by omega)]; exact e1, by rw [List.getElem?_append_left (by omega)]; exact e2, (keep e3).mono (Nat.le_refl _) (by omega)⟩
    · rw [List.getElem?_append_right hk] at hp
      have hk0 : k - xs.length = 0 := by have := lt_of_some hp; simp at this; omega
      rw [hk0] at hp
      obtain rfl : (ys, y) = p := by simpa using hp
      have hkx : k = xs.length := by omega
      refine ⟨b, d, ?_, ?_, ?_⟩
      · rw [List.getElem?_append_right (by omega), show k * 2 - vs.length = 0 by omega, hlen]; rfl
      · rw [List.getElem?_append_right (by omega), show k * 2 + 1 - vs.length = 1 by omega]; rfl
      · show OwI w' B w'.heap.size b ys.length d ys
        rw [hlen]
        exact (keep hr).mono hBS (by omega)
  · intro i j u v g hu hv hug hvg
    have split : ∀ i u, (vs ++ [Value.slice b m d, .int .i64 y])[i * 2]? = some u → (i * 2 < vs.length ∧ vs[i * 2]? = some u) ∨ (i * 2 = vs.length ∧ u = .slice b m d) := by
      intro i u hu
      rcases Nat.lt_or_ge (i * 2) vs.length with hi | hi
      · rw [List.getElem?_append_left hi] at hu
        exact .inl ⟨hi, hu⟩
      · rw [List.getElem?_append_right hi] at hu
        have hlt := lt_of_some hu
        simp at hlt
        have e0 : i * 2 - vs.length = 0 := by omega
        rw [e0] at hu
        simp at hu
        exact .inr ⟨by omega, hu.symm⟩
    rcases split i u hu with ⟨_, hu⟩ | ⟨e1, rfl⟩ <;> rcases split j v hv with ⟨_, hv⟩ | ⟨e2, rfl⟩
    · exact h3.apart i j u v g hu hv hug hvg
    · have := hold i u hu g hug
      have := hnew g hvg
      omega
    · have := hold j v hv g hvg
      have := hnew g hug
      omega
    · omega

theorem term_take {l : Mons} {k : Nat} {p : Int × Int} (h : l[k]? = some p) : (l.take k).map term ++ [(digs p.1, p.2)] = (l.take (k + 1)).map term := by
  rw [take_at h, List.map_append]
  rfl
set_option maxRecDepth 100000 in
set_option maxHeartbeats 6400000 in
theorem l2Shut_any (a : Option Addr) (n c : Nat) (F : Mons) (w : World) (hr : RM w a (canon F)) (hn : (canon F).length = n) (hk : ∀ p ∈ canon F, inK p.1) :
    Calls Try.prog 67 #[.slice a n c] w fun e w' => ∃ a' n' c' r, e = .returned (.tuple #[.slice a' n' c', .bool r]) ∧ TO w' w.heap.size w'.heap.size a' n' c' (closedT F) ∧ Hid (r = polyOk (termsM F)) ∧ Below w.heap.size w w' := by
  have Hll := Lib.hid (show (termsM F).length = n by unfold termsM; rw [List.length_map, hn])
  have Hn := Lib.hid hn; clear hn
  have Hk := Lib.hid hk; clear hk
  by_cases h600 : n ≤ 600
  case neg =>
    have H0 := Lib.hid (polyOk_long (xs := termsM F) (by rw [Hll.out]; exact h600))
    have q1 : (600 : Int) < (n : Int) := by omega
    go_enter Try.func67, Try.ntmps67
    go_wp2
    go_ret2
    exact ⟨_, _, _, _, rfl, by rw [closedT_no H0.out]; exact TO.nil, by rw [H0.out]; rfl, Below.refl _ _⟩
  have q1 : ¬ (600 : Int) < (n : Int) := by omega
  have hB0 : Below w.heap.size w (w.alloc (.cells #[] 83)) := (Below.refl _ _).alloc (Nat.le_refl _) _
  have hm0 : TO (w.alloc (.cells #[] 83)) w.heap.size (w.alloc (.cells #[] 83)).heap.size (some ⟨w.heap.size, 0, none⟩) 0 0 [] := TO.made w
  go_enter Try.func67, Try.ntmps67
  go_wp2
  go_loopw [4, 5] (fun ov kv wr => Hid (∃ (k : Nat) (a' : Option Addr) (c' : Nat), kv = .int .i64 k ∧ k ≤ n ∧ ov = .slice a' k c' ∧ TO wr w.heap.size wr.heap.size a' k c' (((canon F).take k).map term)) ∧ Below w.heap.size w wr) (fun _ kv _ => n - (intOf kv).toNat)
  case atStart => exact ⟨⟨0, _, _, rfl, by omega, rfl, hm0⟩, hB0⟩
  case round =>
    clear hm0 hB0
    obtain ⟨HV, hB⟩ := hrel
    obtain ⟨wo, rfl⟩ : ∃ wo : World, wo = wr := ⟨_, rfl⟩
    obtain ⟨k, a1, c1, rfl, hk, rfl, ho⟩ := HV.out
    clear HV
    have hbs := hB.size
    by_cases hlt : k < n
    · have HO1 := Lib.hid (ho.below (Drew.below (Drew.drewN wo 1) _))
      obtain ⟨b, off, rfl, hcell⟩ := hr.at (k := k) (by rw [Hn.out]; exact hlt)
      obtain ⟨K, y, hx⟩ := pairM_at Hn.out hlt
      obtain ⟨p1, p2⟩ := hcell k _ hx
      simp only at p1 p2
      have HKk := Lib.hid (Hk.out _ (List.mem_of_getElem? hx))
      have Hst := Lib.hid (term_take hx)
      have hbz : b < w.heap.size := World.block_lt_of_cell? _ _ p1
      have S_of : ∀ w2, Below w.heap.size w w2 → w2.cell? ⟨b, off + k * 2, none⟩ = some (.int .i64 K) ∧ w2.cell? ⟨b, off + k * 2 + 1, none⟩ = some (.int .i64 y) := by
        intro w2 hb2
        exact ⟨by rw [hb2.cell (p := ⟨b, off + k * 2, none⟩) hbz]; exact p1, by rw [hb2.cell (p := ⟨b, off + k * 2 + 1, none⟩) hbz]; exact p2⟩
      have q1 : (k : Int) < (n : Int) := by omega
      have d1 : Below w.heap.size w wo.drew := hB.trans (Drew.below ⟨1, rfl⟩ _)
      have hds : wo.heap.size = wo.drew.heap.size := rfl
      clear p1 p2 ho hcell hx
      go_wp2
      go_region_held3 (fun w' => w'.cell? ⟨b, off + k * 2, none⟩ = some (.int .i64 K) ∧ w'.cell? ⟨b, off + k * 2 + 1, none⟩ = some (.int .i64 y)) ((first | exact S_of _ hB | exact S_of _ d1 | exact S_of _ hB2 | exact S_of _ (Below.alloc hB2 (Below.size hB2) _) | exact S_of _ ‹_›))
        ((first | (go_at_call 153; refine (l2Exp_any K _ HKk.out).mono ?_; rintro e w1 ⟨a2, c2, rfl, ho2, hb2⟩; have hB2 := d1.trans (hb2.mono (Below.size d1)); have HO2 := Lib.hid (TO.below HO1.out hb2); have Ho2 := Lib.hid ho2; have hs2 := hb2.size; clear ho2 hb2) | (refine step_pushT (by rfl) (by rfl) _ _ (by rfl) HO2.out (by rfl) Ho2.out hbs (by rfl) (by omega) (Below.size hB2) hs2 (Nat.le_refl _) ?_; intro a3 c3 w3 ho3 hg3; have hB3 := below_grown (v := .slice a1 k c1) hB2 hg3 (Below.size hB2) HO2.out.lo)))
      rw [Hst.out] at ho3
      have HO3 := Lib.hid ho3
      clear ho3 HO1 HO2 Ho2 hg3 S_of d1 hB2
      go_wp2
      go_roundw
      case rel => exact ⟨⟨k + 1, _, _, by go_num, by omega, rfl, HO3.out⟩, hB3⟩
      case measure => simp [intOf]; omega
    · obtain rfl : k = n := by omega
      rw [List.take_of_length_le (by rw [Hn.out]; exact Nat.le_refl _)] at ho
      change TO _ _ _ _ _ _ (termsM F) at ho
      have Ho3 := Lib.hid ho
      have hmb : k ≤ 1048576 := by omega
      have t1 : ¬ (k : Int) < (k : Int) := by omega
      clear ho
      cases hok : polyOk (termsM F)
      · have Hok := Lib.hid hok
        clear hok
        go_wp2_with fail
        refine (is (specPolyOk_any _ _ _ (termsM F) _ Ho3.out.rd Ho3.out.len hmb) Hok.out).mono ?_
        rintro e w3 ⟨rfl, hb3⟩
        have hB3 := hB.trans (hb3.mono hB.size)
        go_wp2
        go_ret2
        exact ⟨_, _, _, _, rfl, by rw [closedT_no Hok.out]; exact TO.nil, Hok.out.symm, hB3⟩
      · have Hok := Lib.hid hok
        clear hok
        go_wp2_with fail
        refine (is (specPolyOk_any _ _ _ (termsM F) _ Ho3.out.rd Ho3.out.len hmb) Hok.out).mono ?_
        rintro e w3 ⟨rfl, hb3⟩
        have hB3 := hB.trans (hb3.mono hB.size)
        have ho4 := (Ho3.out.below hb3).mono (B' := w.heap.size) (S' := w3.heap.size) (Nat.le_refl _) hb3.size
        have Ho4 := Lib.hid ho4
        clear ho4 Ho3
        go_wp2
        go_ret2
        exact ⟨_, _, _, _, rfl, by rw [closedT_ok Hok.out]; exact Ho4.out, Hok.out.symm, hB3⟩
end Go.Proofs.Ytocgcgmlemoekaa

namespace Go.Proofs.Ytocgcgmlemoekaa
open Go.RowKit

theorem closedT_each {F : Mons} : ∀ p ∈ closedT F, p.1.length = 7 := by
  intro p hp
  unfold closedT at hp
  split at hp
  · obtain ⟨q, _, rfl⟩ := List.mem_map.1 hp
    exact digs_length _
  · cases hp
theorem closedT_len (F : Mons) : (closedT F).length ≤ 600 := by
  unfold closedT
  split
  · rename_i h
    exact polyOk_len h
  · exact Nat.zero_le _
theorem sz_T_sevens {xs : List (List Int × Int)} (h : ∀ p ∈ xs, p.1.length = 7) : sz_T xs = xs.length * 8 := by
  induction xs with
  | nil => rfl
  | cons p r ih =>
    rw [sz_T, ih fun q hq => h q (List.mem_cons_of_mem _ hq), h p List.mem_cons_self, List.length_cons]
    omega
theorem opT_cases (op : Nat → Mons → Mons) (xs : List (List Int × Int)) (x : Int) : opT op xs x = [] ∨ ∃ F, opT op xs x = closedT F := by
  unfold opT
  split
  · exact .inr ⟨_, rfl⟩
  · exact .inl rfl
theorem opT_len (op : Nat → Mons → Mons) (xs : List (List Int × Int)) (x : Int) : (opT op xs x).length ≤ 1048576 := by
  rcases opT_cases op xs x with e | ⟨F, e⟩
  · rw [e]; exact Nat.zero_le _
  · rw [e]; have := closedT_len F; omega
theorem opT_sz (op : Nat → Mons → Mons) (xs : List (List Int × Int)) (x : Int) : sz_T (opT op xs x) ≤ 1099511627776 := by
  rcases opT_cases op xs x with e | ⟨F, e⟩
  · rw [e]; exact Nat.zero_le _
  · rw [e, sz_T_sevens closedT_each]; have := closedT_len F; omega
theorem opT_short (op : Nat → Mons → Mons) (xs : List (List Int × Int)) (x : Int) : ∀ p ∈ opT op xs x, p.1.length ≤ 1048576 := by
  rcases opT_cases op xs x with e | ⟨F, e⟩
  · rw [e]; simp
  · rw [e]; intro p hp; rw [closedT_each p hp]; omega



end Go.Proofs.Ytocgcgmlemoekaa
