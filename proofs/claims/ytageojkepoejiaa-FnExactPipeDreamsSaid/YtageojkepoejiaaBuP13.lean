/-
  Slices of slices of cells: what they read as, what a call owns of them; copied, compared, marked, held.
  Slices of slices of cells: marked, held, copied.
-/
import Derived.Test.YtageojkepoejiaaBuP2
import Derived.Test.YtageojkepoejiaaBuP5
namespace Go.Proofs.Ytageojkepoejiaa
open Go.RowKit

theorem Try.info36 : (Try.prog.info? 36).map (fun i => (i.zero, i.size, i.bytes)) = some (some (.slice none 0 0), 1, 24) := by kernel_rfl

/-- the slice at address a reads as xss -/
def RCC (w : World) (a : Option Addr) (xss : List (List (Int × Int))) : Prop :=
  xss = [] ∨ ∃ b off, a = some ⟨b, off, none⟩ ∧ ∀ k xs, xss[k]? = some xs → ∃ a' c', w.cell? ⟨b, off + k, none⟩ = some (.slice a' xs.length c') ∧ RC w a' xs
theorem RCC.at {w : World} {a : Option Addr} {xss : List (List (Int × Int))} (h : RCC w a xss) {k : Nat} (hk : k < xss.length) :
    ∃ b off, a = some ⟨b, off, none⟩ ∧ ∀ k xs, xss[k]? = some xs → ∃ a' c', w.cell? ⟨b, off + k, none⟩ = some (.slice a' xs.length c') ∧ RC w a' xs := by
  rcases h with rfl | h
  · simp at hk
  · exact h
theorem RCC.below {w w' : World} {a : Option Addr} {xss : List (List (Int × Int))} (h : RCC w a xss) (hb : Below w.heap.size w w') : RCC w' a xss := by
  rcases h with h | ⟨b, off, ha, hc⟩
  · exact .inl h
  · exact .inr ⟨b, off, ha, fun k xs hx => by
      obtain ⟨a', c', h1, h2⟩ := hc k xs hx
      exact ⟨a', c', by rw [hb.cell (World.block_lt_of_cell? w _ h1)]; exact h1, h2.below hb⟩⟩
theorem RCC.drew {w w' : World} {a : Option Addr} {xss : List (List (Int × Int))} (h : RCC w a xss) (d : Drew w w') : RCC w' a xss := h.below (d.below _)

/-- a row of slices: each holds its integers in a block of its own, from block B on and below S -/
structure InnerC (w : World) (B S : Nat) (vs : List Value) (xss : List (List (Int × Int))) : Prop where
  len : vs.length = xss.length
  each : ∀ (k : Nat) (xs : List (Int × Int)), xss[k]? = some xs → ∃ (a : Option Addr) (c : Nat), vs[k]? = some (Value.slice a xs.length c) ∧ CO w B S a xs.length c xs
  apart : ∀ (i j : Nat) (u v : Value) (g : Nat), vs[i]? = some u → vs[j]? = some v → u.ownBlock = some g → v.ownBlock = some g → i = j
/-- the slice is a row of the call's own and so are its rows -/
def CCO (w : World) (B S : Nat) (a : Option Addr) (n c : Nat) (xss : List (List (Int × Int))) : Prop :=
  ∃ vs, w.ownsRow B 36 1 (.slice a n c) n vs ∧ (∀ k, (Value.slice a n c).ownBlock = some k → k < S) ∧ InnerC w B S vs xss
theorem CCO.len {w : World} {B S : Nat} {a : Option Addr} {n c : Nat} {xss : List (List (Int × Int))} (h : CCO w B S a n c xss) : xss.length = n := by
  obtain ⟨vs, h1, _, h3⟩ := h
  rw [← h3.len]; have := h1.1; omega
theorem CCO.rd {w : World} {B S : Nat} {a : Option Addr} {n c : Nat} {xss : List (List (Int × Int))} (h : CCO w B S a n c xss) : RCC w a xss := by
  obtain ⟨vs, h1, _, h3⟩ := h
  rcases ownsRow_shape h1 with ⟨_, _, _, hv⟩ | ⟨g, rfl, _, _, hc, _⟩
  · left
    have := h3.len
    rw [hv] at this
    exact List.eq_nil_of_length_eq_zero this.symm
  · refine .inr ⟨g, 0, rfl, fun k xs hx => ?_⟩
    obtain ⟨a', c', hk, ho⟩ := h3.each k xs hx
    exact ⟨a', c', by rw [Nat.zero_add]; exact hc k _ hk, ho.rd⟩
theorem InnerC.only {w w' : World} {B S B' S' : Nat} {vs : List Value} {xss : List (List (Int × Int))} (h : InnerC w B S vs xss) (ho : Only B' S' w w') (hd : S ≤ B' ∨ S' ≤ B) : InnerC w' B S vs xss :=
  ⟨h.len, fun k xs hx => by obtain ⟨a, c, h1, h2⟩ := h.each k xs hx; exact ⟨a, c, h1, h2.only ho hd⟩, h.apart⟩
theorem CCO.only {w w' : World} {B S B' S' : Nat} {a : Option Addr} {n c : Nat} {xss : List (List (Int × Int))} (h : CCO w B S a n c xss) (ho : Only B' S' w w') (hd : S ≤ B' ∨ S' ≤ B) : CCO w' B S a n c xss := by
  obtain ⟨vs, h1, h2, h3⟩ := h
  exact ⟨vs, ownsRow_only h1 h2 ho hd, h2, h3.only ho hd⟩
theorem CCO.below {w w' : World} {B S : Nat} {a : Option Addr} {n c : Nat} {xss : List (List (Int × Int))} (h : CCO w B S a n c xss) (hb : Below w.heap.size w w') : CCO w' B S a n c xss := h.only (Only.of_below hb) (.inr (Nat.zero_le _))

/-! compared -/
theorem eqsC_of_all {xs ys : List (List (Int × Int))} (hl : xs.length = ys.length) (h : ∀ j, j < xs.length → xs[j]? = ys[j]?) : decide (xs = ys) = true := by
  rw [decide_eq_true_iff]
  apply List.ext_getElem?
  intro j
  rcases Nat.lt_or_ge j xs.length with h1 | h1
  · exact h j h1
  · rw [List.getElem?_eq_none h1, List.getElem?_eq_none (by omega)]
theorem nesC_of_at {xs ys : List (List (Int × Int))} {k : Nat} {x y : List (Int × Int)} (hx : xs[k]? = some x) (hy : ys[k]? = some y) (h : x ≠ y) : decide (xs = ys) = false := by
  rw [decide_eq_false_iff_not]
  rintro rfl
  rw [hx] at hy
  exact h (by simpa using hy)

/-- a row's length is no more than so -/
def ShortCC (xss : List (List (Int × Int))) : Prop := ∀ xs ∈ xss, xs.length ≤ 1048576

set_option maxRecDepth 100000 in
set_option maxHeartbeats 1600000 in
theorem eqCellSS_any (a b : Option Addr) (n c m d : Nat) (xs ys : List (List (Int × Int))) (w : World) (hr : RCC w a xs) (hs : RCC w b ys) (hn : xs.length = n) (hm : ys.length = m) (hb : n ≤ 17592186044416) (hsh : ShortCC xs) :
    Calls Try.prog 21 #[.slice a n c, .slice b m d] w fun e w' => e = .returned (.bool (decide (xs = ys))) ∧ Below w.heap.size w w' := by
  have Hn := Lib.hid hn; clear hn
  have Hm := Lib.hid hm; clear hm
  have HSh := Lib.hid hsh; clear hsh
  by_cases hnm : n = m
  · subst hnm
    go_enter Try.func21, Try.ntmps21
    go_wp2
    go_loopw [5] (fun i wr => ∃ k : Nat, k ≤ n ∧ i = .int .i64 k ∧ Hid (∀ j, j < k → xs[j]? = ys[j]?) ∧ Below w.heap.size w wr) (fun i _ => n - (intOf i).toNat)
    case atStart => exact ⟨0, Nat.zero_le _, rfl, by intro j hj; omega, Below.refl _ _⟩
    case round =>
      obtain ⟨k, hk, rfl, HA, hd⟩ := hrel
      by_cases hlt : k < n
      · obtain ⟨b, off, rfl, hcell⟩ := (hr.below hd).at (k := k) (by rw [Hn.out]; exact hlt)
        obtain ⟨b2, off2, rfl, hcell2⟩ := (hs.below hd).at (k := k) (by rw [Hm.out]; exact hlt)
        obtain ⟨x, hx⟩ := some_of (show k < xs.length by rw [Hn.out]; exact hlt)
        obtain ⟨y, hy⟩ := some_of (show k < ys.length by rw [Hm.out]; exact hlt)
        obtain ⟨a1, c1, hc, hr1⟩ := hcell k x hx
        obtain ⟨a2, c2, hc2, hr2⟩ := hcell2 k y hy
        have hxl := HSh.out x (List.mem_of_getElem? hx)
        have Hx := Lib.hid hx; clear hx
        have Hy := Lib.hid hy; clear hy
        clear hcell hcell2
        have hltI : (k : Int) < (n : Int) := by omega
        obtain ⟨lx, hlx⟩ : ∃ l, x.length = l := ⟨_, rfl⟩
        obtain ⟨ly, hly⟩ : ∃ l, y.length = l := ⟨_, rfl⟩
        rw [hlx] at hc hxl
        rw [hly] at hc2
        have Hlx := Lib.hid hlx; clear hlx
        have Hly := Lib.hid hly; clear hly
        by_cases h1 : x = y
        · go_wp2
          go_still_tail 8, (by kernel_rfl)
          go_wp2_with fail
          refine (is (eqCellS_any _ _ _ _ _ _ x y _ (hr1.below (Drew.below ⟨1, rfl⟩ _)) (hr2.below (Drew.below ⟨1, rfl⟩ _)) Hlx.out Hly.out (by omega)) (by simp [h1] : _ = true)).mono ?_
          rintro e w2 ⟨rfl, hb2⟩
          have hB2 := hd.trans ((Drew.below ⟨1, rfl⟩ w.heap.size).trans (hb2.mono hd.size))
          go_wp2
          go_roundw
          case rel => exact ⟨k + 1, by omega, by go_num, by
                intro j hj
                rcases Nat.lt_or_ge j k with h | h
                · exact HA.out j h
                · obtain rfl : j = k := by omega
                  rw [Hx.out, Hy.out, h1], hB2⟩
          case measure => simp [intOf]; omega
        · have H1 := Lib.hid h1; clear h1
          go_wp2
          go_still_tail 8, (by kernel_rfl)
          go_wp2_with fail
          refine (is (eqCellS_any _ _ _ _ _ _ x y _ (hr1.below (Drew.below ⟨1, rfl⟩ _)) (hr2.below (Drew.below ⟨1, rfl⟩ _)) Hlx.out Hly.out (by omega)) (by simp [H1.out] : _ = false)).mono ?_
          rintro e w2 ⟨rfl, hb2⟩
          have hB2 := hd.trans ((Drew.below ⟨1, rfl⟩ w.heap.size).trans (hb2.mono hd.size))
          go_wp2
          go_ret
          exact ⟨ret_bool (nesC_of_at Hx.out Hy.out H1.out).symm, hB2⟩
      · go_wp2
        go_ret
        exact ⟨ret_bool (eqsC_of_all (Hn.out.trans Hm.out.symm) (by intro j hj; exact HA.out j (by rw [Hn.out] at hj; omega))).symm, hd⟩
  · go_enter Try.func21, Try.ntmps21
    have hne : ((n : Int) != (m : Int)) = true := by rw [bne_iff_ne]; omega
    go_wp2
    go_ret
    exact ⟨ret_bool (by symm; rw [decide_eq_false_iff_not]; rintro rfl; exact hnm (Hn.out.symm.trans Hm.out)), Below.refl _ _⟩
end Go.Proofs.Ytageojkepoejiaa

namespace Go.Proofs.Ytageojkepoejiaa
open Go.RowKit

def mk_CC : List (List (Int × Int)) → Int → List (List (Int × Int))
  | [], _ => []
  | xs :: r, k => mk_C xs k :: mk_CC r (k + (sz_C xs : Int))
def sz_CC : List (List (Int × Int)) → Nat
  | [] => 0
  | xs :: r => sz_C xs + sz_CC r
theorem sz_CC_append (xs ys : List (List (Int × Int))) : sz_CC (xs ++ ys) = sz_CC xs + sz_CC ys := by
  induction xs with
  | nil => simp [sz_CC]
  | cons x xs ih => rw [List.cons_append, sz_CC, sz_CC, ih]; omega
theorem mk_CC_length (xs : List (List (Int × Int))) (k : Int) : (mk_CC xs k).length = xs.length := by
  induction xs generalizing k with
  | nil => rfl
  | cons x xs ih => rw [mk_CC, List.length_cons, List.length_cons, ih]
theorem mk_CC_append (xs ys : List (List (Int × Int))) (k : Int) : mk_CC (xs ++ ys) k = mk_CC xs k ++ mk_CC ys (k + (sz_CC xs : Int)) := by
  induction xs generalizing k with
  | nil => simp [sz_CC, mk_CC]
  | cons x xs ih =>
    rw [List.cons_append, mk_CC, mk_CC, ih, sz_CC, List.cons_append]
    congr 3
    simp; omega
theorem sz_CC_take {xs : List (List (Int × Int))} {i : Nat} {x : List (Int × Int)} (h : xs[i]? = some x) : sz_CC (xs.take (i + 1)) = sz_CC (xs.take i) + sz_C x := by
  rw [take_at h, sz_CC_append]; rfl
theorem sz_CC_le (xs : List (List (Int × Int))) (i : Nat) : sz_CC (xs.take i) ≤ sz_CC xs := by
  conv => rhs; rw [← List.take_append_drop i xs, sz_CC_append]
  omega
theorem sz_CC_each {xs : List (List (Int × Int))} {x : List (Int × Int)} (h : x ∈ xs) : sz_C x ≤ sz_CC xs := by
  induction xs with
  | nil => cases h
  | cons y ys ih =>
    rw [sz_CC]
    rcases List.mem_cons.1 h with rfl | h
    · omega
    · have := ih h; omega
def markC_part (xs : List (List (Int × Int))) (k : Int) (i : Nat) : List (List (Int × Int)) := mk_CC (xs.take i) k ++ xs.drop i
theorem markC_part_zero (xs : List (List (Int × Int))) (k : Int) : markC_part xs k 0 = xs := by simp [markC_part, mk_CC]
theorem markC_part_all {xs : List (List (Int × Int))} {n : Nat} (h : xs.length = n) (k : Int) : markC_part xs k n = mk_CC xs k := by simp [markC_part, ← h]
theorem markC_part_at {xs : List (List (Int × Int))} {i : Nat} {x : List (Int × Int)} (h : xs[i]? = some x) (k : Int) : (markC_part xs k i)[i]? = some x := by
  have hi := lt_of_some h
  have hl : (mk_CC (xs.take i) k).length = i := by rw [mk_CC_length, List.length_take]; omega
  unfold markC_part
  rw [List.getElem?_append_right (by omega), hl, Nat.sub_self, List.getElem?_drop, Nat.add_zero]
  exact h
theorem markC_part_succ {xs : List (List (Int × Int))} {i : Nat} {x : List (Int × Int)} (h : xs[i]? = some x) (k : Int) : (markC_part xs k i).set i (mk_C x (k + (sz_CC (xs.take i) : Int))) = markC_part xs k (i + 1) := by
  have hi := lt_of_some h
  have hl : (mk_CC (xs.take i) k).length = i := by rw [mk_CC_length, List.length_take]; omega
  unfold markC_part
  rw [drop_at h, List.set_append_right _ _ (by omega), hl, Nat.sub_self, take_at h, mk_CC_append]
  simp [mk_CC]
theorem mk_CC_at {xs : List (List (Int × Int))} {i : Nat} {x : List (Int × Int)} (h : xs[i]? = some x) (k : Int) : (mk_CC xs k)[i]? = some (mk_C x (k + (sz_CC (xs.take i) : Int))) := by
  have hi := lt_of_some h
  have hl : (mk_CC (xs.take i) k).length = i := by rw [mk_CC_length, List.length_take]; omega
  conv => lhs; rw [← List.take_append_drop i xs, mk_CC_append, drop_at h]
  rw [List.getElem?_append_right (by omega), hl, Nat.sub_self, mk_CC]
  rfl
/-- a row of integers lies in another block than a row of slices -/
theorem neC_block {w : World} {B S B' n l : Nat} {a a' : Option Addr} {c c' : Nat} {vs : List Value} {xs : List (Int × Int)} (h : w.ownsRow B' 36 1 (.slice a n c) n vs) (hi : CO w B S a' l c' xs) :
    ∀ k, (Value.slice a n c).ownBlock = some k → (Value.slice a' l c').ownBlock ≠ some k := by
  intro k hk hk'
  rcases ownsRow_shape h with ⟨_, rfl, _⟩ | ⟨g, rfl, _, _, _, cur, hg⟩
  · cases hk
  · have e1 : g = k := by simpa [Value.ownBlock] using hk
    rcases hi.1.2 with ⟨hv, _⟩ | ⟨g', cap', cur', hv, _, hh, _⟩
    · rw [hv] at hk'; cases hk'
    · rw [hv] at hk'
      have e2 : g' = k := by simpa [Value.ownBlock] using hk'
      subst e1 e2
      rw [hg] at hh
      simp at hh
theorem CCO.open {w : World} {B S : Nat} {a : Option Addr} {n c : Nat} {yss : List (List (Int × Int))} (h : CCO w B S a n c yss) {i : Nat} {xs : List (Int × Int)} (hi : yss[i]? = some xs) :
    ∃ g a' c', a = some ⟨g, 0, none⟩ ∧ w.cell? ⟨g, i, none⟩ = some (.slice a' xs.length c') ∧ CO w B S a' xs.length c' xs ∧
      ∀ w' ys, ys.length = xs.length → CO w' B S a' xs.length c' ys → w.grownBy w' (Value.slice a' xs.length c').ownBlock → CCO w' B S a n c (yss.set i ys) := by
  obtain ⟨vs, h1, h2, h3⟩ := h
  obtain ⟨a', c', hv, ho⟩ := h3.each i xs hi
  rcases ownsRow_shape h1 with ⟨_, _, _, hv0⟩ | ⟨g, rfl, hB, hlt, hc, _⟩
  · rw [hv0] at hv; cases hv
  · refine ⟨g, a', c', rfl, hc i _ hv, ho, fun w' ys hl hos hg => ?_⟩
    refine ⟨vs, grown_keeps h1 hg (fun k hk e => neC_block h1 ho k hk e), h2, ?_⟩
    refine ⟨by rw [List.length_set]; exact h3.len, fun k zs hz => ?_, h3.apart⟩
    rw [List.getElem?_set] at hz
    by_cases hk : i = k
    · subst hk
      rw [if_pos rfl, if_pos (lt_of_some hi)] at hz
      obtain rfl := Option.some.inj hz
      exact ⟨a', c', by rw [hl]; exact hv, by rw [hl]; exact hos⟩
    · rw [if_neg hk] at hz
      obtain ⟨a2, c2, hv2, ho2⟩ := h3.each k zs hz
      exact ⟨a2, c2, hv2, ho2.kept hg (fun q hq e => hk (h3.apart i k _ _ q hv hv2 e hq))⟩

set_option maxRecDepth 100000 in
set_option maxHeartbeats 1600000 in
theorem mark_Cg (B S : Nat) (a : Option Addr) (n c : Nat) (xs : List (Int × Int)) (k : Int) (w : World) {Z : Nat} (ho : CO w B S a n c xs) (hk0 : 0 ≤ k) (hk : k ≤ 4398046511104) (hb : Z ≤ 1099511627776) (hZ : sz_C xs = Z) (hbn : n ≤ 17592186044416) :
    Calls Try.prog 23 #[.slice a n c, .int .i64 k] w fun e w' => e = .returned (.int .i64 (k + Z)) ∧ CO w' B S a n c (mk_C xs k) ∧ w.grownBy w' (Value.slice a n c).ownBlock := by
  have hn := ho.len
  have hZn : Z = n * 2 := by rw [← hZ, sz_C, hn]
  have Hn := Lib.hid hn; clear hn
  clear hZ
  go_enter Try.func23, Try.ntmps23
  go_wp2
  go_loopw [1, 5] (fun kk i wr => Hid (∃ j : Nat, j ≤ n ∧ i = .int .i64 j ∧ kk = .int .i64 (k + (j * 2 : Nat)) ∧ CO wr B S a n c (partC xs k j)) ∧ w.grownBy wr (Value.slice a n c).ownBlock) (fun _ i _ => n - (intOf i).toNat)
  case atStart => exact ⟨⟨0, Nat.zero_le _, rfl, by simp, by simpa [partC] using ho⟩, (Grows.refl w (Value.slice a n c)).grown⟩
  case round =>
    clear ho
    obtain ⟨HV, hg⟩ := hrel
    obtain ⟨wo, rfl⟩ : ∃ wo : World, wo = wr := ⟨_, rfl⟩
    obtain ⟨j, hj, rfl, rfl, hr⟩ := HV.out
    clear HV
    by_cases hlt : j < n
    · obtain ⟨p, q, hp⟩ := pair_at Hn.out hlt
      have hpj := partC_at (k := k) Hn.out hlt hp
      have hst := partC_succ (k := k) Hn.out hlt
      obtain ⟨g, rfl, hBg, hc1, hc2, hf1, hf2⟩ := hr.cons hpj
      have s1 := (hr.store hpj (k + (j * 2 : Nat))).1
      have hpj2 : ((partC xs k j).set j (k + (j * 2 : Nat), q))[j]? = some (k + (j * 2 : Nat), q) := by
        rw [List.getElem?_set, if_pos rfl, if_pos (List.getElem?_eq_some_iff.1 hpj).1]
      obtain ⟨g', e', _, hd1, hd2, hh1, hh2⟩ := s1.1.cons hpj2
      obtain rfl : g = g' := by simpa using e'
      have s2 := (s1.1.store hpj2 (k + (j * 2 : Nat) + 1)).2
      rw [List.set_set, hst] at s2
      have hgS : g < S := hr.2 g rfl
      have o1 := grownBy.trans hg s1.2
      have o2 := grownBy.trans o1 s2.2
      have Hs := Lib.hid s2.1
      have Ho := Lib.hid o2
      clear s1 s2 o1 o2 hst hpj hpj2 hr hg hd1 hh1
      go_wp2
      go_roundw
      case rel => exact ⟨⟨j + 1, by omega, by go_num, by go_num, Hs.out⟩, Ho.out⟩
      case measure => simp [intOf]; omega
    · obtain rfl : j = n := by omega
      have hfin : partC xs k j = mk_C xs k := by
        unfold partC
        rw [List.take_of_length_le (by rw [mk_C_length, Hn.out]; exact Nat.le_refl _), List.drop_of_length_le (by rw [Hn.out]; exact Nat.le_refl _), List.append_nil]
      rw [hfin] at hr
      have HR := Lib.hid hr; clear hr
      go_wp2
      go_ret
      exact ⟨ret_int (by rw [hZn]), HR.out, hg⟩
set_option maxHeartbeats 800000 in
theorem markCellSS_any (B S : Nat) (a : Option Addr) (n c : Nat) (xs : List (List (Int × Int))) (k : Int) (w : World) {Z : Nat} (ho : CCO w B S a n c xs) (hk0 : 0 ≤ k) (hk : k ≤ 2199023255552) (hb : Z ≤ 1099511627776) (hZ : sz_CC xs = Z) (hbn : n ≤ 17592186044416) :
    Calls Try.prog 24 #[.slice a n c, .int .i64 k] w fun e w' => e = .returned (.int .i64 (k + Z)) ∧ CCO w' B S a n c (mk_CC xs k) ∧ Only B S w w' := by
  have hn := ho.len
  have Hn := Lib.hid hn; clear hn
  have HZ := Lib.hid hZ; clear hZ
  go_enter Try.func24, Try.ntmps24
  go_wp2
  go_loopw [1, 5] (fun kk i wr => ∃ j : Nat, j ≤ n ∧ i = .int .i64 j ∧ kk = .int .i64 (k + (sz_CC (xs.take j) : Int)) ∧ CCO wr B S a n c (markC_part xs k j) ∧ Only B S w wr) (fun _ i _ => n - (intOf i).toNat)
  case atStart => exact ⟨0, Nat.zero_le _, rfl, by simp [sz_CC], by rw [markC_part_zero]; exact ho, Only.refl _ _ _⟩
  case round =>
    obtain ⟨j, hj, rfl, rfl, hr, hg⟩ := hrel
    by_cases hlt : j < n
    · obtain ⟨x, hx⟩ := some_of (show j < xs.length by rw [Hn.out]; exact hlt)
      obtain ⟨g, a', c', rfl, hc, hio, hset⟩ := hr.open (markC_part_at hx k)
      have hs1 := sz_CC_take hx
      have hs2 := sz_CC_le xs j
      have hs3 := sz_CC_le xs (j + 1)
      have hst := markC_part_succ hx k
      rw [HZ.out] at hs2 hs3
      obtain ⟨s, hs⟩ : ∃ s, sz_CC (xs.take j) = s := ⟨_, rfl⟩
      obtain ⟨l, hl⟩ : ∃ l, x.length = l := ⟨_, rfl⟩
      have hlz : sz_C x = l * 2 := by rw [← hl]; rfl
      rw [hs] at hs1 hs2 hst ⊢
      rw [hl] at hc hio hset
      rw [hlz] at hs1
      have hsl : s + l * 2 ≤ 1099511627776 := by omega
      have Hs1 := Lib.hid hs1; clear hs1 hs3
      have Hs := Lib.hid hs; clear hs
      have Hl := Lib.hid hl; clear hl
      have Hlz := Lib.hid hlz; clear hlz
      have Hst := Lib.hid hst; clear hst hx
      have Hset := Lib.hid hset; clear hset
      go_wp2_with fail
      refine (mark_Cg _ _ _ _ _ _ _ _ hio (by omega) (by omega) (show l * 2 ≤ _ by omega) Hlz.out (by omega)).mono ?_
      rintro e w1 ⟨rfl, hos, hgr⟩
      have hio' : CCO w1 B S (some ⟨g, 0, none⟩) n c (markC_part xs k (j + 1)) := by
        have := Hset.out w1 (mk_C x (k + (s : Int))) (by rw [mk_C_length, Hl.out]) hos hgr
        rw [Hst.out] at this
        exact this
      have ho1 : Only B S w w1 := hg.trans (Only.of_grown hgr hio.lo hio.2)
      clear hos hgr hio hr hg
      go_wp2
      go_roundw
      case rel => exact ⟨j + 1, by omega, by go_num, by rw [Hs1.out]; go_num, hio', ho1⟩
      case measure => simp [intOf]; omega
    · obtain rfl : j = n := by omega
      go_wp2
      go_ret
      rw [markC_part_all Hn.out] at hr
      exact ⟨ret_int (by rw [List.take_of_length_le (by rw [Hn.out]; omega), HZ.out]), hr, hg⟩

set_option maxRecDepth 100000 in
set_option maxHeartbeats 1600000 in
theorem heldR_C (a : Option Addr) (n c : Nat) (xs : List (Int × Int)) (k : Int) (w : World) {Z : Nat} (hr : RC w a (mk_C xs k)) (hn : xs.length = n) (hk0 : 0 ≤ k) (hk : k ≤ 4398046511104) (hb : Z ≤ 1099511627776) (hZ : sz_C xs = Z) (hbn : n ≤ 17592186044416) :
    Calls Try.prog 57 #[.slice a n c, .int .i64 k] w fun e w' => e = .returned (.int .i64 (k + Z)) ∧ Drew w w' := by
  have hZn : Z = n * 2 := by rw [← hZ, sz_C, hn]
  have Hn := Lib.hid hn; clear hn
  clear hZ
  go_enter Try.func57, Try.ntmps57
  go_wp2
  go_loop [1, 5] (fun kk i => ∃ j : Nat, j ≤ n ∧ i = .int .i64 j ∧ kk = .int .i64 (k + (j * 2 : Nat))) (fun _ i => n - (intOf i).toNat)
  case atStart => exact ⟨0, Nat.zero_le _, rfl, by simp⟩
  case round =>
    obtain ⟨j, hj, rfl, rfl⟩ := hrel
    by_cases hlt : j < n
    · obtain ⟨g, off, rfl, hcell⟩ := hr.at (k := j) (by rw [mk_C_length, Hn.out]; exact hlt)
      obtain ⟨hc1, hc2⟩ := hcell j _ (mk_C_at (k := k) Hn.out hlt)
      clear hcell
      simp only at hc1 hc2
      have e1 : ((k + (j * 2 : Nat)) != (k + (j * 2 : Nat))) = false := by simp
      have e2 : ((k + (j * 2 : Nat) + 1) != (k + (j * 2 : Nat) + 1)) = false := by simp
      go_wp2
      go_round
      case rel => exact ⟨j + 1, by omega, by go_num, by go_num⟩
      case measure => simp [intOf]; omega
    · obtain rfl : j = n := by omega
      go_wp2
      go_ret
      exact ⟨ret_int (by first | rfl | (rw [hZn]; simp)), Drew.refl _⟩
set_option maxHeartbeats 800000 in
theorem heldCellSS_any (a : Option Addr) (n c : Nat) (xs : List (List (Int × Int))) (k : Int) (w : World) {Z : Nat} (hr : RCC w a (mk_CC xs k)) (hn : xs.length = n) (hk0 : 0 ≤ k) (hk : k ≤ 2199023255552) (hb : Z ≤ 1099511627776) (hZ : sz_CC xs = Z) (hbn : n ≤ 17592186044416) :
    Calls Try.prog 25 #[.slice a n c, .int .i64 k] w fun e w' => e = .returned (.int .i64 (k + Z)) ∧ Drew w w' := by
  have Hn := Lib.hid hn; clear hn
  have HZ := Lib.hid hZ; clear hZ
  go_enter Try.func25, Try.ntmps25
  go_wp2
  go_loopw [1, 5] (fun kk i wr => ∃ j : Nat, j ≤ n ∧ i = .int .i64 j ∧ kk = .int .i64 (k + (sz_CC (xs.take j) : Int)) ∧ Drew w wr) (fun _ i _ => n - (intOf i).toNat)
  case atStart => exact ⟨0, Nat.zero_le _, rfl, by simp [sz_CC], Drew.refl _⟩
  case round =>
    obtain ⟨j, hj, rfl, rfl, hd⟩ := hrel
    by_cases hlt : j < n
    · obtain ⟨x, hx⟩ := some_of (show j < xs.length by rw [Hn.out]; exact hlt)
      obtain ⟨b, off, rfl, hcell⟩ := (hr.drew hd).at (k := j) (by rw [mk_CC_length, Hn.out]; exact hlt)
      obtain ⟨a', c', hc, hri⟩ := hcell j _ (mk_CC_at hx k)
      rw [mk_C_length] at hc
      have hs1 := sz_CC_take hx
      have hs2 := sz_CC_le xs j
      have hs3 := sz_CC_le xs (j + 1)
      rw [HZ.out] at hs2 hs3
      obtain ⟨s, hs⟩ : ∃ s, sz_CC (xs.take j) = s := ⟨_, rfl⟩
      obtain ⟨l, hl⟩ : ∃ l, x.length = l := ⟨_, rfl⟩
      have hlz : sz_C x = l * 2 := by rw [← hl]; rfl
      rw [hs] at hs1 hs2 hri ⊢
      rw [hl] at hc
      rw [hlz] at hs1
      have hsl : s + l * 2 ≤ 1099511627776 := by omega
      have Hs1 := Lib.hid hs1; clear hs1 hs3
      have Hs := Lib.hid hs; clear hs
      have Hl := Lib.hid hl; clear hl hx hcell
      have Hlz := Lib.hid hlz; clear hlz
      go_wp2_with fail
      refine (heldR_C _ _ _ x _ _ hri Hl.out (by omega) (by omega) (show l * 2 ≤ _ by omega) Hlz.out (by omega)).mono ?_
      rintro e w1 ⟨rfl, hd1⟩
      have hd' := hd.trans hd1
      clear hc hri hd hd1
      go_wp2
      go_roundw
      case rel => exact ⟨j + 1, by omega, by go_num, by rw [Hs1.out]; go_num, hd'⟩
      case measure => simp [intOf]; omega
    · obtain rfl : j = n := by omega
      go_wp2
      go_ret
      exact ⟨ret_int (by rw [List.take_of_length_le (by rw [Hn.out]; omega), HZ.out]), hd⟩

theorem eq_CC (a b : Option Addr) (n c m d : Nat) (xs ys : List (List (Int × Int))) (w : World) (hr : RCC w a xs) (hs : RCC w b ys) (hn : xs.length = n) (hm : ys.length = m) (hb : n ≤ 17592186044416) (hsh : ShortCC xs) :
    Calls Try.prog 21 #[.slice a n c, .slice b m d] w fun e w' => e = .returned (.bool (decide (xs = ys))) ∧ Below w.heap.size w w' := eqCellSS_any a b n c m d xs ys w hr hs hn hm hb hsh
theorem mark_CC (B S : Nat) (a : Option Addr) (n c : Nat) (xs : List (List (Int × Int))) (k : Int) (w : World) {Z : Nat} (ho : CCO w B S a n c xs) (hk0 : 0 ≤ k) (hk : k ≤ 2199023255552) (hb : Z ≤ 1099511627776) (hZ : sz_CC xs = Z) (hbn : n ≤ 17592186044416) :
    Calls Try.prog 24 #[.slice a n c, .int .i64 k] w fun e w' => e = .returned (.int .i64 (k + Z)) ∧ CCO w' B S a n c (mk_CC xs k) ∧ Only B S w w' := markCellSS_any B S a n c xs k w ho hk0 hk hb hZ hbn
theorem held_CC {B S : Nat} (a : Option Addr) (n c : Nat) (xs : List (List (Int × Int))) (k : Int) (w : World) {Z : Nat} (ho : CCO w B S a n c (mk_CC xs k)) (hk0 : 0 ≤ k) (hk : k ≤ 2199023255552) (hb : Z ≤ 1099511627776) (hZ : sz_CC xs = Z) (hbn : n ≤ 17592186044416) :
    Calls Try.prog 25 #[.slice a n c, .int .i64 k] w fun e w' => e = .returned (.int .i64 (k + Z)) ∧ Drew w w' :=
  heldCellSS_any a n c xs k w ho.rd (by rw [← ho.len, mk_CC_length]) hk0 hk hb hZ hbn
end Go.Proofs.Ytageojkepoejiaa
