/-
  Slices of slices of slices of integers: what they read as, what a call owns of them; compared, marked, held.
-/
import Derived.Test.YtpjkhkoecgjjbaaApp
namespace Go.Proofs.Ytpjkhkoecgjjbaa
open Go.RowKit

/-- the slice at address a reads as xsss -/
def RIII (w : World) (a : Option Addr) (xsss : List (List (List Int))) : Prop :=
  xsss = [] ∨ ∃ b off, a = some ⟨b, off, none⟩ ∧ ∀ k xss, xsss[k]? = some xss → ∃ a' c', w.cell? ⟨b, off + k, none⟩ = some (.slice a' xss.length c') ∧ RII w a' xss
theorem RIII.at {w : World} {a : Option Addr} {xsss : List (List (List Int))} (h : RIII w a xsss) {k : Nat} (hk : k < xsss.length) :
    ∃ b off, a = some ⟨b, off, none⟩ ∧ ∀ k xss, xsss[k]? = some xss → ∃ a' c', w.cell? ⟨b, off + k, none⟩ = some (.slice a' xss.length c') ∧ RII w a' xss := by
  rcases h with rfl | h
  · simp at hk
  · exact h
theorem RIII.below {w w' : World} {a : Option Addr} {xsss : List (List (List Int))} (h : RIII w a xsss) (hb : Below w.heap.size w w') : RIII w' a xsss := by
  rcases h with h | ⟨b, off, ha, hc⟩
  · exact .inl h
  · exact .inr ⟨b, off, ha, fun k xss hx => by
      obtain ⟨a', c', h1, h2⟩ := hc k xss hx
      exact ⟨a', c', by rw [hb.cell (World.block_lt_of_cell? w _ h1)]; exact h1, h2.below hb⟩⟩
theorem RIII.drew {w w' : World} {a : Option Addr} {xsss : List (List (List Int))} (h : RIII w a xsss) (d : Drew w w') : RIII w' a xsss := h.below (d.below _)
/-- a row of slices of slices: each in blocks of its own, from lo on and below hi; the row itself in none of these -/
structure Inner3 (w : World) (B S : Nat) (v : Value) (vs : List Value) (xsss : List (List (List Int))) (lo hi : Nat → Nat) : Prop where
  len : vs.length = xsss.length
  each : ∀ (k : Nat) (xss : List (List Int)), xsss[k]? = some xss → ∃ (a : Option Addr) (c : Nat), vs[k]? = some (Value.slice a xss.length c) ∧ IIO w (lo k) (hi k) a xss.length c xss
  fit : ∀ k, k < xsss.length → B ≤ lo k ∧ hi k ≤ S ∧ ∀ q, v.ownBlock = some q → q < lo k ∨ hi k ≤ q
  apart : ∀ i j, i < j → j < xsss.length → hi i ≤ lo j
/-- the slice is a row of the call's own and so is all in it -/
def IIIO (w : World) (B S : Nat) (a : Option Addr) (n c : Nat) (xsss : List (List (List Int))) : Prop :=
  ∃ vs lo hi, w.ownsRow B 38 1 (.slice a n c) n vs ∧ (∀ k, (Value.slice a n c).ownBlock = some k → k < S) ∧ Inner3 w B S (.slice a n c) vs xsss lo hi
theorem IIIO.len {w : World} {B S : Nat} {a : Option Addr} {n c : Nat} {xsss : List (List (List Int))} (h : IIIO w B S a n c xsss) : xsss.length = n := by
  obtain ⟨vs, lo, hi, h1, _, h3⟩ := h
  rw [← h3.len]; have := h1.1; omega
theorem IIIO.rd {w : World} {B S : Nat} {a : Option Addr} {n c : Nat} {xsss : List (List (List Int))} (h : IIIO w B S a n c xsss) : RIII w a xsss := by
  obtain ⟨vs, lo, hi, h1, _, h3⟩ := h
  rcases ownsRow_shape h1 with ⟨_, _, _, hv⟩ | ⟨g, rfl, _, _, hc, _⟩
  · left
    have := h3.len
    rw [hv] at this
    exact List.eq_nil_of_length_eq_zero this.symm
  · refine .inr ⟨g, 0, rfl, fun k xs hx => ?_⟩
    obtain ⟨a', c', hk, ho⟩ := h3.each k xs hx
    exact ⟨a', c', by rw [Nat.zero_add]; exact hc k _ hk, ho.rd⟩
theorem IIIO.only {w w' : World} {B S B' S' : Nat} {a : Option Addr} {n c : Nat} {xsss : List (List (List Int))} (h : IIIO w B S a n c xsss) (ho : Only B' S' w w') (hd : S ≤ B' ∨ S' ≤ B) : IIIO w' B S a n c xsss := by
  obtain ⟨vs, lo, hi, h1, h2, h3⟩ := h
  refine ⟨vs, lo, hi, ownsRow_only h1 h2 ho hd, h2, h3.len, fun k xs hx => ?_, h3.fit, h3.apart⟩
  obtain ⟨a', c', e1, e2⟩ := h3.each k xs hx
  have hk := h3.fit k (lt_of_some hx)
  exact ⟨a', c', e1, e2.only ho (by omega)⟩
theorem IIIO.below {w w' : World} {B S : Nat} {a : Option Addr} {n c : Nat} {xsss : List (List (List Int))} (h : IIIO w B S a n c xsss) (hb : Below w.heap.size w w') : IIIO w' B S a n c xsss := h.only (Only.of_below hb) (.inr (Nat.zero_le _))
theorem IIIO.mono {w : World} {B S B' S' : Nat} {a : Option Addr} {n c : Nat} {xsss : List (List (List Int))} (h : IIIO w B S a n c xsss) (hB : B' ≤ B) (hS : S ≤ S') : IIIO w B' S' a n c xsss := by
  obtain ⟨vs, lo, hi, h1, h2, h3⟩ := h
  refine ⟨vs, lo, hi, ownsRow_base h1 hB, fun k hk => Nat.lt_of_lt_of_le (h2 k hk) hS, h3.len, h3.each, fun k hk => ?_, h3.apart⟩
  have := h3.fit k hk
  exact ⟨by omega, by omega, this.2.2⟩
theorem IIIO.nil {w : World} {B S : Nat} : IIIO w B S none 0 0 [] := ⟨[], fun _ => 0, fun _ => 0, World.ownsRow_nil _ _ _ _, by simp [Value.ownBlock], rfl, by simp, by simp, by simp⟩
/-- a row stays where writes go to other blocks -/
theorem ownsRow_off {w w' : World} {B L H e n : Nat} {v : Value} {vs : List Value} (h : w.ownsRow B e 1 v n vs) (ho : Only L H w w') (hq : ∀ q, v.ownBlock = some q → q < L ∨ H ≤ q) : w'.ownsRow B e 1 v n vs := by
  refine ⟨h.1, ?_⟩
  rcases h.2 with h2 | ⟨g, cap, cur, hv, hg, hb, r⟩
  · exact .inl h2
  · have := hq g (by rw [hv]; rfl)
    exact .inr ⟨g, cap, cur, hv, hg, by rw [ho.block g (Array.getElem?_eq_some_iff.1 hb).1 (by omega)]; exact hb, r⟩
theorem IIIO.open {w : World} {B S : Nat} {a : Option Addr} {n c : Nat} {ysss : List (List (List Int))} (h : IIIO w B S a n c ysss) {i : Nat} {xss : List (List Int)} (hi : ysss[i]? = some xss) :
    ∃ g a' c' L H, a = some ⟨g, 0, none⟩ ∧ w.cell? ⟨g, i, none⟩ = some (.slice a' xss.length c') ∧ IIO w L H a' xss.length c' xss ∧ B ≤ L ∧ H ≤ S ∧
      ∀ w' ys, ys.length = xss.length → IIO w' L H a' xss.length c' ys → Only L H w w' → IIIO w' B S a n c (ysss.set i ys) := by
  obtain ⟨vs, lo, hg, h1, h2, h3⟩ := h
  obtain ⟨a', c', hv, ho⟩ := h3.each i xss hi
  have hil := lt_of_some hi
  have hf := h3.fit i hil
  rcases ownsRow_shape h1 with ⟨_, _, _, hv0⟩ | ⟨g, rfl, hB, hlt, hc, _⟩
  · rw [hv0] at hv; cases hv
  · refine ⟨g, a', c', lo i, hg i, rfl, hc i _ hv, ho, hf.1, hf.2.1, fun w' ys hl hos hon => ?_⟩
    refine ⟨vs, lo, hg, ownsRow_off h1 hon hf.2.2, h2, by rw [List.length_set]; exact h3.len, fun k zs hz => ?_, fun k hk => h3.fit k (by rw [List.length_set] at hk; exact hk), fun p q hpq hq => h3.apart p q hpq (by rw [List.length_set] at hq; exact hq)⟩
    rw [List.getElem?_set] at hz
    by_cases hk : i = k
    · subst hk
      rw [if_pos rfl, if_pos hil] at hz
      obtain rfl := Option.some.inj hz
      exact ⟨a', c', by rw [hl]; exact hv, by rw [hl]; exact hos⟩
    · rw [if_neg hk] at hz
      obtain ⟨a2, c2, hv2, ho2⟩ := h3.each k zs hz
      refine ⟨a2, c2, hv2, ho2.only hon ?_⟩
      rcases Nat.lt_or_ge i k with h | h
      · exact .inr (h3.apart i k h (lt_of_some hz))
      · exact .inl (h3.apart k i (by omega) hil)

/-! compared -/
theorem eq3_of_all {xs ys : List (List (List Int))} (hl : xs.length = ys.length) (h : ∀ j, j < xs.length → xs[j]? = ys[j]?) : decide (xs = ys) = true := by
  rw [decide_eq_true_iff]
  apply List.ext_getElem?
  intro j
  rcases Nat.lt_or_ge j xs.length with h1 | h1
  · exact h j h1
  · rw [List.getElem?_eq_none h1, List.getElem?_eq_none (by omega)]
theorem ne3_of_at {xs ys : List (List (List Int))} {k : Nat} {x y : List (List Int)} (hx : xs[k]? = some x) (hy : ys[k]? = some y) (h : x ≠ y) : decide (xs = ys) = false := by
  rw [decide_eq_false_iff_not]
  rintro rfl
  rw [hx] at hy
  exact h (by simpa using hy)
/-- no list in it is long -/
def ShortIII (xsss : List (List (List Int))) : Prop := ∀ xss ∈ xsss, xss.length ≤ 1048576 ∧ ShortII xss

set_option maxRecDepth 100000 in
set_option maxHeartbeats 1600000 in
theorem eqIntSSS_any (a b : Option Addr) (n c m d : Nat) (xs ys : List (List (List Int))) (w : World) (hr : RIII w a xs) (hs : RIII w b ys) (hn : xs.length = n) (hm : ys.length = m) (hb : n ≤ 17592186044416) (hsh : ShortIII xs) :
    Calls Try.prog 8 #[.slice a n c, .slice b m d] w fun e w' => e = .returned (.bool (decide (xs = ys))) ∧ Drew w w' := by
  have Hn := Lib.hid hn; clear hn
  have Hm := Lib.hid hm; clear hm
  have HSh := Lib.hid hsh; clear hsh
  by_cases hnm : n = m
  · subst hnm
    go_enter Try.func8, Try.ntmps8
    go_wp2
    go_loopw [5] (fun i wr => ∃ k : Nat, k ≤ n ∧ i = .int .i64 k ∧ Hid (∀ j, j < k → xs[j]? = ys[j]?) ∧ Drew w wr) (fun i _ => n - (intOf i).toNat)
    case atStart => exact ⟨0, Nat.zero_le _, rfl, by intro j hj; omega, Drew.refl _⟩
    case round =>
      obtain ⟨k, hk, rfl, HA, hd⟩ := hrel
      by_cases hlt : k < n
      · obtain ⟨b, off, rfl, hcell⟩ := (hr.drew hd).at (k := k) (by rw [Hn.out]; exact hlt)
        obtain ⟨b2, off2, rfl, hcell2⟩ := (hs.drew hd).at (k := k) (by rw [Hm.out]; exact hlt)
        obtain ⟨x, hx⟩ := some_of (show k < xs.length by rw [Hn.out]; exact hlt)
        obtain ⟨y, hy⟩ := some_of (show k < ys.length by rw [Hm.out]; exact hlt)
        obtain ⟨a1, c1, hc, hr1⟩ := hcell k x hx
        obtain ⟨a2, c2, hc2, hr2⟩ := hcell2 k y hy
        have hxl := (HSh.out x (List.mem_of_getElem? hx)).1
        have Hxs := Lib.hid (HSh.out x (List.mem_of_getElem? hx)).2
        have Hx := Lib.hid hx; clear hx
        have Hy := Lib.hid hy; clear hy
        clear hcell hcell2
        have hltI : (k : Int) < (n : Int) := by omega
        obtain ⟨lx, hlx⟩ : ∃ l, x.length = l := ⟨_, rfl⟩
        obtain ⟨ly, hly⟩ : ∃ l, y.length = l := ⟨_, rfl⟩
        rw [hlx] at hc hxl
        rw [hly] at hc2
        have Hlx := Lib.hid hlx; clear hlx
        have Hly := Lib.hid hly; clear hly
        by_cases h1 : x = y
        · go_wp2
          go_quiet ((go_at_call 23; exact quiet (is (eqIntSS_any _ _ _ _ _ _ x y _ (hr1.drew (Drew.drewN _ _)) (hr2.drew (Drew.drewN _ _)) Hlx.out Hly.out (by omega) Hxs.out) (by simp [h1] : _ = true))))
          go_wp2
          go_roundw
          case rel => exact ⟨k + 1, by omega, by go_num, by
                intro j hj
                rcases Nat.lt_or_ge j k with h | h
                · exact HA.out j h
                · obtain rfl : j = k := by omega
                  rw [Hx.out, Hy.out, h1], hd.trans (Drew.drewN _ _)⟩
          case measure => simp [intOf]; omega
        · have H1 := Lib.hid h1; clear h1
          go_wp2
          go_quiet ((go_at_call 23; exact quiet (is (eqIntSS_any _ _ _ _ _ _ x y _ (hr1.drew (Drew.drewN _ _)) (hr2.drew (Drew.drewN _ _)) Hlx.out Hly.out (by omega) Hxs.out) (by simp [H1.out] : _ = false))))
          go_wp2
          go_ret
          exact ⟨ret_bool (ne3_of_at Hx.out Hy.out H1.out).symm, hd.trans (Drew.drewN _ _)⟩
      · go_wp2
        go_ret
        exact ⟨ret_bool (eq3_of_all (Hn.out.trans Hm.out.symm) (by intro j hj; exact HA.out j (by rw [Hn.out] at hj; omega))).symm, hd⟩
  · go_enter Try.func8, Try.ntmps8
    have hne : ((n : Int) != (m : Int)) = true := by rw [bne_iff_ne]; omega
    go_wp2
    go_ret
    exact ⟨ret_bool (by symm; rw [decide_eq_false_iff_not]; rintro rfl; exact hnm (Hn.out.symm.trans Hm.out)), Drew.refl _⟩
def mk_III : List (List (List Int)) → Int → List (List (List Int))
  | [], _ => []
  | xs :: r, k => mk_II xs k :: mk_III r (k + (sz_II xs : Int))
def sz_III : List (List (List Int)) → Nat
  | [] => 0
  | xs :: r => sz_II xs + sz_III r
theorem sz_III_append (xs ys : List (List (List Int))) : sz_III (xs ++ ys) = sz_III xs + sz_III ys := by
  induction xs with
  | nil => simp [sz_III]
  | cons x xs ih => rw [List.cons_append, sz_III, sz_III, ih]; omega
theorem mk_III_length (xs : List (List (List Int))) (k : Int) : (mk_III xs k).length = xs.length := by
  induction xs generalizing k with
  | nil => rfl
  | cons x xs ih => rw [mk_III, List.length_cons, List.length_cons, ih]
theorem mk_III_append (xs ys : List (List (List Int))) (k : Int) : mk_III (xs ++ ys) k = mk_III xs k ++ mk_III ys (k + (sz_III xs : Int)) := by
  induction xs generalizing k with
  | nil => simp [sz_III, mk_III]
  | cons x xs ih =>
    rw [List.cons_append, mk_III, mk_III, ih, sz_III, List.cons_append]
    congr 3
    simp; omega
theorem sz_III_take {xs : List (List (List Int))} {i : Nat} {x : List (List Int)} (h : xs[i]? = some x) : sz_III (xs.take (i + 1)) = sz_III (xs.take i) + sz_II x := by
  rw [take_at h, sz_III_append]; rfl
theorem sz_III_le (xs : List (List (List Int))) (i : Nat) : sz_III (xs.take i) ≤ sz_III xs := by
  conv => rhs; rw [← List.take_append_drop i xs, sz_III_append]
  omega
theorem sz_III_each {xs : List (List (List Int))} {x : List (List Int)} (h : x ∈ xs) : sz_II x ≤ sz_III xs := by
  induction xs with
  | nil => cases h
  | cons y ys ih =>
    rw [sz_III]
    rcases List.mem_cons.1 h with rfl | h
    · omega
    · have := ih h; omega
def mark3_part (xs : List (List (List Int))) (k : Int) (i : Nat) : List (List (List Int)) := mk_III (xs.take i) k ++ xs.drop i
theorem mark3_part_zero (xs : List (List (List Int))) (k : Int) : mark3_part xs k 0 = xs := by simp [mark3_part, mk_III]
theorem mark3_part_all {xs : List (List (List Int))} {n : Nat} (h : xs.length = n) (k : Int) : mark3_part xs k n = mk_III xs k := by simp [mark3_part, ← h]
theorem mark3_part_at {xs : List (List (List Int))} {i : Nat} {x : List (List Int)} (h : xs[i]? = some x) (k : Int) : (mark3_part xs k i)[i]? = some x := by
  have hi := lt_of_some h
  have hl : (mk_III (xs.take i) k).length = i := by rw [mk_III_length, List.length_take]; omega
  unfold mark3_part
  rw [List.getElem?_append_right (by omega), hl, Nat.sub_self, List.getElem?_drop, Nat.add_zero]
  exact h
theorem mark3_part_succ {xs : List (List (List Int))} {i : Nat} {x : List (List Int)} (h : xs[i]? = some x) (k : Int) : (mark3_part xs k i).set i (mk_II x (k + (sz_III (xs.take i) : Int))) = mark3_part xs k (i + 1) := by
  have hi := lt_of_some h
  have hl : (mk_III (xs.take i) k).length = i := by rw [mk_III_length, List.length_take]; omega
  unfold mark3_part
  rw [drop_at h, List.set_append_right _ _ (by omega), hl, Nat.sub_self, take_at h, mk_III_append]
  simp [mk_III]
theorem mk_III_at {xs : List (List (List Int))} {i : Nat} {x : List (List Int)} (h : xs[i]? = some x) (k : Int) : (mk_III xs k)[i]? = some (mk_II x (k + (sz_III (xs.take i) : Int))) := by
  have hi := lt_of_some h
  have hl : (mk_III (xs.take i) k).length = i := by rw [mk_III_length, List.length_take]; omega
  conv => lhs; rw [← List.take_append_drop i xs, mk_III_append, drop_at h]
  rw [List.getElem?_append_right (by omega), hl, Nat.sub_self, mk_III]
  rfl
set_option maxHeartbeats 800000 in
theorem markIntSSS_any (B S : Nat) (a : Option Addr) (n c : Nat) (xs : List (List (List Int))) (k : Int) (w : World) {Z : Nat} (ho : IIIO w B S a n c xs) (hk0 : 0 ≤ k) (hk : k ≤ 2199023255552) (hb : Z ≤ 1099511627776) (hZ : sz_III xs = Z) (hbn : n ≤ 17592186044416) (hsh : ShortIII xs) :
    Calls Try.prog 11 #[.slice a n c, .int .i64 k] w fun e w' => e = .returned (.int .i64 (k + Z)) ∧ IIIO w' B S a n c (mk_III xs k) ∧ Only B S w w' := by
  have hn := ho.len
  have Hn := Lib.hid hn; clear hn
  have Hsh := Lib.hid hsh; clear hsh
  have HZ := Lib.hid hZ; clear hZ
  go_enter Try.func11, Try.ntmps11
  go_wp2
  go_loopw [1, 5] (fun kk i wr => ∃ j : Nat, j ≤ n ∧ i = .int .i64 j ∧ kk = .int .i64 (k + (sz_III (xs.take j) : Int)) ∧ IIIO wr B S a n c (mark3_part xs k j) ∧ Only B S w wr) (fun _ i _ => n - (intOf i).toNat)
  case atStart => exact ⟨0, Nat.zero_le _, rfl, by simp [sz_III], by rw [mark3_part_zero]; exact ho, Only.refl _ _ _⟩
  case round =>
    obtain ⟨j, hj, rfl, rfl, hr, hg⟩ := hrel
    by_cases hlt : j < n
    · obtain ⟨x, hx⟩ := some_of (show j < xs.length by rw [Hn.out]; exact hlt)
      have hxl := (Hsh.out x (List.mem_of_getElem? hx)).1
      obtain ⟨g, a', c', L, H, rfl, hc, hio, hLB, hHS, hset⟩ := hr.open (mark3_part_at hx k)
      have hs1 := sz_III_take hx
      have hs2 := sz_III_le xs j
      have hs3 := sz_III_le xs (j + 1)
      have hst := mark3_part_succ hx k
      rw [HZ.out] at hs2 hs3
      obtain ⟨s, hs⟩ : ∃ s, sz_III (xs.take j) = s := ⟨_, rfl⟩
      obtain ⟨l, hl⟩ : ∃ l, x.length = l := ⟨_, rfl⟩
      obtain ⟨z, hlz⟩ : ∃ z, sz_II x = z := ⟨_, rfl⟩
      rw [hs] at hs1 hs2 hst ⊢
      rw [hl] at hc hio hset hxl
      rw [hlz] at hs1
      have hsl : s + z ≤ 1099511627776 := by omega
      have Hs1 := Lib.hid hs1; clear hs1 hs3
      have Hs := Lib.hid hs; clear hs
      have Hl := Lib.hid hl; clear hl
      have Hlz := Lib.hid hlz; clear hlz
      have Hst := Lib.hid hst; clear hst hx
      have Hset := Lib.hid hset; clear hset
      go_wp2_with fail
      refine (mark_II _ _ _ _ _ _ _ _ hio (by omega) (by omega) (show z ≤ _ by omega) Hlz.out (by omega)).mono ?_
      rintro e w1 ⟨rfl, hos, hgr⟩
      have hio' : IIIO w1 B S (some ⟨g, 0, none⟩) n c (mark3_part xs k (j + 1)) := by
        have := Hset.out w1 (mk_II x (k + (s : Int))) (by rw [mk_II_length, Hl.out]) hos hgr
        rw [Hst.out] at this
        exact this
      have ho1 : Only B S w w1 := hg.trans (hgr.mono hLB hHS)
      clear hos hgr hio hr hg
      go_wp2
      go_roundw
      case rel => exact ⟨j + 1, by omega, by go_num, by rw [Hs1.out]; go_num, hio', ho1⟩
      case measure => simp [intOf]; omega
    · obtain rfl : j = n := by omega
      go_wp2
      go_ret
      rw [mark3_part_all Hn.out] at hr
      exact ⟨ret_int (by rw [List.take_of_length_le (by rw [Hn.out]; omega), HZ.out]), hr, hg⟩

set_option maxHeartbeats 800000 in
theorem heldIntSSS_any (a : Option Addr) (n c : Nat) (xs : List (List (List Int))) (k : Int) (w : World) {Z : Nat} (hr : RIII w a (mk_III xs k)) (hn : xs.length = n) (hk0 : 0 ≤ k) (hk : k ≤ 2199023255552) (hb : Z ≤ 1099511627776) (hZ : sz_III xs = Z) (hbn : n ≤ 17592186044416) (hsh : ShortIII xs) :
    Calls Try.prog 12 #[.slice a n c, .int .i64 k] w fun e w' => e = .returned (.int .i64 (k + Z)) ∧ Drew w w' := by
  have Hn := Lib.hid hn; clear hn
  have Hsh := Lib.hid hsh; clear hsh
  have HZ := Lib.hid hZ; clear hZ
  go_enter Try.func12, Try.ntmps12
  go_wp2
  go_loopw [1, 5] (fun kk i wr => ∃ j : Nat, j ≤ n ∧ i = .int .i64 j ∧ kk = .int .i64 (k + (sz_III (xs.take j) : Int)) ∧ Drew w wr) (fun _ i _ => n - (intOf i).toNat)
  case atStart => exact ⟨0, Nat.zero_le _, rfl, by simp [sz_III], Drew.refl _⟩
  case round =>
    obtain ⟨j, hj, rfl, rfl, hd⟩ := hrel
    by_cases hlt : j < n
    · obtain ⟨x, hx⟩ := some_of (show j < xs.length by rw [Hn.out]; exact hlt)
      have hxl := (Hsh.out x (List.mem_of_getElem? hx)).1
      obtain ⟨b, off, rfl, hcell⟩ := (hr.drew hd).at (k := j) (by rw [mk_III_length, Hn.out]; exact hlt)
      obtain ⟨a', c', hc, hri⟩ := hcell j _ (mk_III_at hx k)
      rw [mk_II_length] at hc
      have hs1 := sz_III_take hx
      have hs2 := sz_III_le xs j
      have hs3 := sz_III_le xs (j + 1)
      rw [HZ.out] at hs2 hs3
      obtain ⟨s, hs⟩ : ∃ s, sz_III (xs.take j) = s := ⟨_, rfl⟩
      obtain ⟨l, hl⟩ : ∃ l, x.length = l := ⟨_, rfl⟩
      obtain ⟨z, hlz⟩ : ∃ z, sz_II x = z := ⟨_, rfl⟩
      rw [hs] at hs1 hs2 hri ⊢
      rw [hl] at hc hxl
      rw [hlz] at hs1
      have hsl : s + z ≤ 1099511627776 := by omega
      have Hs1 := Lib.hid hs1; clear hs1 hs3
      have Hs := Lib.hid hs; clear hs
      have Hl := Lib.hid hl; clear hl hx hcell
      have Hlz := Lib.hid hlz; clear hlz
      go_wp2_with fail
      refine (heldIntSS_any _ _ _ x _ _ hri Hl.out (by omega) (by omega) (show z ≤ _ by omega) Hlz.out (by omega)).mono ?_
      rintro e w1 ⟨rfl, hd1⟩
      have hd' := hd.trans hd1
      clear hc hri hd hd1
      go_wp2
      go_roundw
      case rel => exact ⟨j + 1, by omega, by go_num, by rw [Hs1.out]; go_num, hd'⟩
      case measure => simp [intOf]; omega
    · obtain rfl : j = n := by omega
      go_wp2
      go_ret
      exact ⟨ret_int (by rw [List.take_of_length_le (by rw [Hn.out]; omega), HZ.out]), hd⟩

theorem eq_III (a b : Option Addr) (n c m d : Nat) (xs ys : List (List (List Int))) (w : World) (hr : RIII w a xs) (hs : RIII w b ys) (hn : xs.length = n) (hm : ys.length = m) (hb : n ≤ 17592186044416) (hsh : ShortIII xs) :
    Calls Try.prog 8 #[.slice a n c, .slice b m d] w fun e w' => e = .returned (.bool (decide (xs = ys))) ∧ Drew w w' := eqIntSSS_any a b n c m d xs ys w hr hs hn hm hb hsh
theorem mark_III (B S : Nat) (a : Option Addr) (n c : Nat) (xs : List (List (List Int))) (k : Int) (w : World) {Z : Nat} (ho : IIIO w B S a n c xs) (hk0 : 0 ≤ k) (hk : k ≤ 2199023255552) (hb : Z ≤ 1099511627776) (hZ : sz_III xs = Z) (hbn : n ≤ 17592186044416) (hsh : ShortIII xs) :
    Calls Try.prog 11 #[.slice a n c, .int .i64 k] w fun e w' => e = .returned (.int .i64 (k + Z)) ∧ IIIO w' B S a n c (mk_III xs k) ∧ Only B S w w' := markIntSSS_any B S a n c xs k w ho hk0 hk hb hZ hbn hsh
theorem held_III {B S : Nat} (a : Option Addr) (n c : Nat) (xs : List (List (List Int))) (k : Int) (w : World) {Z : Nat} (ho : IIIO w B S a n c (mk_III xs k)) (hk0 : 0 ≤ k) (hk : k ≤ 2199023255552) (hb : Z ≤ 1099511627776) (hZ : sz_III xs = Z) (hbn : n ≤ 17592186044416) (hsh : ShortIII xs) :
    Calls Try.prog 12 #[.slice a n c, .int .i64 k] w fun e w' => e = .returned (.int .i64 (k + Z)) ∧ Drew w w' :=
  heldIntSSS_any a n c xs k w ho.rd (by rw [← ho.len, mk_III_length]) hk0 hk hb hZ hbn hsh
end Go.Proofs.Ytpjkhkoecgjjbaa
