/-
  Slices of pairs of a slice of integers and an integer, for classes beside terms. Printed by a program of ours (clsgen.py) from KP .. KT4.
-/
import Derived.Test.YtocgcgmlemoekaaGreatSzI
import Derived.StillTailTactics
import Derived.Laws.Rows
import Derived.Test.YtocgcgmlemoekaaGreatOpen
import Derived.Deep.SlicePairs
import Derived.Test.YtocgcgmlemoekaaGreatBuA
import Derived.Test.YtocgcgmlemoekaaGreatBuH
import Derived.Test.YtocgcgmlemoekaaGreatBuB
namespace Go.Proofs.YtocgcgmlemoekaaGreat
open Go.RowKit Go.ChangeShapes Go.ChangeAt

abbrev RK := RP
abbrev Wide_K := Wide_P
abbrev Wf_K := Wf_P
abbrev Short_K := Short_P
abbrev sz_K := sz_T
abbrev ms_K := ms_P
abbrev mk_K := mk_T
theorem ms_K_len (xs : List (List Int × Int)) : xs.length ≤ ms_K xs := ms_T_len xs
theorem ms_K_sz (xs : List (List Int × Int)) : sz_K xs ≤ ms_K xs := ms_T_sz xs
theorem ms_K_short (xs : List (List Int × Int)) (h : ms_K xs ≤ 1048576) : Short_K xs := ms_T_short xs h
set_option maxRecDepth 100000 in
set_option maxHeartbeats 800000 in
theorem eqPart_anyK (a b : Option Addr) (n c m d : Nat) (xs ys : List Int) (x y : Int) (w : World) (hr : RI w a xs) (hs : RI w b ys) (hn : xs.length = n) (hm : ys.length = m) (hb : n ≤ 1048576) :
    Calls Tryz.prog 18 #[.agg #[.slice a n c, .int .i64 x], .agg #[.slice b m d, .int .i64 y]] w fun e w' => e = .returned (.bool (decide ((xs, x) = (ys, y)))) ∧ Below w.heap.size w w' := by
  have hB := ((Below.refl w.heap.size w).alloc (Nat.le_refl _) (.cells #[.slice a n c, .int .i64 x] 38)).alloc (by simp only [World.alloc, Array.size_push]; omega) (.cells #[.slice b m d, .int .i64 y] 38)
  have hr1 := hr.below hB
  have hs1 := hs.below hB
  have HB := Lib.hid hB; clear hB
  by_cases h1 : xs = ys
  · have e0 := Lib.hid (show decide (xs = ys) = true by simp [h1])
    by_cases h2 : x = y
    · subst h2
      have e2 : (x != x) = false := by simp
      have Hres := Lib.hid (show decide ((xs, x) = (ys, x)) = true by simp [h1])
      clear h1
      go_enter Tryz.func18, Tryz.ntmps18
      go_wp2_with fail
      refine (is (eqIntS_any _ _ _ _ _ _ xs ys _ hr1 hs1 hn hm (by omega)) e0.out).mono ?_
      rintro e w1 ⟨rfl, ⟨q, rfl⟩⟩
      go_wp2
      go_ret
      exact ⟨ret_bool Hres.out.symm, HB.out.trans (Drew.below ⟨q, rfl⟩ _)⟩
    · have e2 : (x != y) = true := by simp [h2]
      have Hres := Lib.hid (show decide ((xs, x) = (ys, y)) = false by simp [h2])
      clear h1
      go_enter Tryz.func18, Tryz.ntmps18
      go_wp2_with fail
      refine (is (eqIntS_any _ _ _ _ _ _ xs ys _ hr1 hs1 hn hm (by omega)) e0.out).mono ?_
      rintro e w1 ⟨rfl, ⟨q, rfl⟩⟩
      go_wp2
      go_ret
      exact ⟨ret_bool Hres.out.symm, HB.out.trans (Drew.below ⟨q, rfl⟩ _)⟩
  · have e0 := Lib.hid (show decide (xs = ys) = false by simp [h1])
    have Hres := Lib.hid (show decide ((xs, x) = (ys, y)) = false by simp [h1])
    clear h1
    go_enter Tryz.func18, Tryz.ntmps18
    go_wp2_with fail
    refine (is (eqIntS_any _ _ _ _ _ _ xs ys _ hr1 hs1 hn hm (by omega)) e0.out).mono ?_
    rintro e w1 ⟨rfl, ⟨q, rfl⟩⟩
    go_wp2
    go_ret
    exact ⟨ret_bool Hres.out.symm, HB.out.trans (Drew.below ⟨q, rfl⟩ _)⟩

set_option maxRecDepth 100000 in
set_option maxHeartbeats 1600000 in
theorem eq_PK (a b : Option Addr) (n c m d : Nat) (xs ys : List (List Int × Int)) (w : World) (hr : RP w a xs) (hs : RP w b ys) (hn : xs.length = n) (hm : ys.length = m) (hb : n ≤ 17592186044416) (hsh : ∀ p ∈ xs, p.1.length ≤ 1048576) :
    Calls Tryz.prog 7 #[.slice a n c, .slice b m d] w fun e w' => e = .returned (.bool (decide (xs = ys))) ∧ Below w.heap.size w w' := by
  have Hn := Lib.hid hn; clear hn
  have Hm := Lib.hid hm; clear hm
  have HSh := Lib.hid hsh; clear hsh
  by_cases hnm : n = m
  · subst hnm
    go_enter Tryz.func7, Tryz.ntmps7
    go_wp2
    go_loopw [5] (fun i wr => ∃ k : Nat, k ≤ n ∧ i = .int .i64 k ∧ Hid (∀ j, j < k → xs[j]? = ys[j]?) ∧ Below w.heap.size w wr) (fun i _ => n - (intOf i).toNat)
    case atStart => exact ⟨0, Nat.zero_le _, rfl, by intro j hj; omega, Below.refl _ _⟩
    case round =>
      obtain ⟨k, hk, rfl, HA, hB⟩ := hrel
      by_cases hlt : k < n
      · obtain ⟨b1, off, rfl, hcell⟩ := (hr.below hB).at (k := k) (by rw [Hn.out]; exact hlt)
        obtain ⟨b2, off2, rfl, hcell2⟩ := (hs.below hB).at (k := k) (by rw [Hm.out]; exact hlt)
        obtain ⟨p, q, hx⟩ := part_at Hn.out hlt
        obtain ⟨u, v, hy⟩ := part_at Hm.out hlt
        obtain ⟨a1, c1, hc1, hc2, hr1, _⟩ := hcell k _ hx
        obtain ⟨a2, c2, hc3, hc4, hr2, _⟩ := hcell2 k _ hy
        have hpl : p.length ≤ 1048576 := HSh.out (p, q) (List.mem_of_getElem? hx)
        simp only at hc1 hc2 hc3 hc4 hr1 hr2
        have Hx := Lib.hid hx; clear hx
        have Hy := Lib.hid hy; clear hy
        obtain ⟨lp, hlp⟩ : ∃ l, p.length = l := ⟨_, rfl⟩
        obtain ⟨lu, hlu⟩ : ∃ l, u.length = l := ⟨_, rfl⟩
        rw [hlp] at hc1 hpl
        rw [hlu] at hc3
        have Hlp := Lib.hid hlp
        have Hlu := Lib.hid hlu
        clear hcell hcell2 hlp hlu
        have hltI : (k : Int) < (n : Int) := by omega
        cases h1 : decide ((p, q) = (u, v))
        · have hne : (p, q) ≠ (u, v) := by simpa using h1
          have Hne := Lib.hid hne
          have H1 := Lib.hid h1; clear h1 hne
          go_wp2
          go_still_tail 8, (by kernel_rfl)
          go_wp2_with fail
          refine (is (eqPart_anyK _ _ _ _ _ _ p u q v _ (hr1.drew ⟨1, rfl⟩) (hr2.drew ⟨1, rfl⟩) Hlp.out Hlu.out hpl) H1.out).mono ?_
          rintro e w2 ⟨rfl, hb2⟩
          have hB2 := hB.trans ((Drew.below ⟨1, rfl⟩ w.heap.size).trans (hb2.mono hB.size))
          go_wp2
          go_ret
          exact ⟨ret_bool (neq_of_at Hx.out Hy.out Hne.out).symm, hB2⟩
        · have heq : (p, q) = (u, v) := by simpa using h1
          have Heq := Lib.hid heq
          have H1 := Lib.hid h1; clear h1 heq
          go_wp2
          go_still_tail 8, (by kernel_rfl)
          go_wp2_with fail
          refine (is (eqPart_anyK _ _ _ _ _ _ p u q v _ (hr1.drew ⟨1, rfl⟩) (hr2.drew ⟨1, rfl⟩) Hlp.out Hlu.out hpl) H1.out).mono ?_
          rintro e w2 ⟨rfl, hb2⟩
          have hB2 := hB.trans ((Drew.below ⟨1, rfl⟩ w.heap.size).trans (hb2.mono hB.size))
          go_wp2
          go_roundw
          case rel => exact ⟨k + 1, by omega, by go_num, by
                intro j hj
                rcases Nat.lt_or_ge j k with h | h
                · exact HA.out j h
                · obtain rfl : j = k := by omega
                  rw [Hx.out, Hy.out, Heq.out], hB2⟩
          case measure => simp [intOf]; omega
      · obtain rfl : k = n := by omega
        go_wp2
        go_ret
        exact ⟨ret_bool (eqq_of_all (by rw [Hn.out, Hm.out]) (by rw [Hn.out]; exact HA.out)).symm, hB⟩
  · have hne : ((n : Int) != (m : Int)) = true := by simp; omega
    go_enter Tryz.func7, Tryz.ntmps7
    go_wp2
    go_ret
    exact ⟨ret_bool (by symm; rw [decide_eq_false_iff_not]; rintro rfl; exact hnm (by rw [← Hn.out, ← Hm.out])), Below.refl _ _⟩

theorem Tryz.sizePartK : (Tryz.prog.info? 38).map (·.size) = some 2 := by kernel_rfl

/-- the row in block B holds the pairs, their slices lie in blocks behind B and below S -/
def PRK (w : World) (B S n : Nat) (xs : List (List Int × Int)) : Prop :=
  ∃ vs, w.ownsRow B 38 2 (.slice (some ⟨B, 0, none⟩) n n) n vs ∧ xs.length = n ∧
    ∀ k p, xs[k]? = some p → ∃ a' c', vs[k * 2]? = some (.slice a' p.1.length c') ∧ vs[k * 2 + 1]? = some (.int .i64 p.2) ∧ OwI w (B + 1) S a' p.1.length c' p.1
theorem PRK.rd {w : World} {B S n : Nat} {xs : List (List Int × Int)} (h : PRK w B S n xs) : RP w (some ⟨B, 0, none⟩) xs := by
  obtain ⟨vs, h1, h2, h3⟩ := h
  refine .inr ⟨B, 0, rfl, fun k p hp => ?_⟩
  obtain ⟨a', c', e1, e2, e3⟩ := h3 k p hp
  have hk := (List.getElem?_eq_some_iff.1 hp).1
  exact ⟨a', c', by rw [Nat.zero_add, h1.cellAt _ (by omega)]; exact e1, by rw [Nat.zero_add, h1.cellAt _ (by omega)]; exact e2, e3.rd, e3.1.lt⟩
theorem PRK.below {w w' : World} {B S n : Nat} {xs : List (List Int × Int)} (h : PRK w B S n xs) (hb : Below w.heap.size w w') : PRK w' B S n xs := by
  obtain ⟨vs, h1, h2, h3⟩ := h
  refine ⟨vs, ⟨h1.1, ?_⟩, h2, fun k p hp => ?_⟩
  · rcases h1.2 with e | ⟨g, cap, cur, hv, hg, hh, r⟩
    · exact .inl e
    · exact .inr ⟨g, cap, cur, hv, hg, by rw [hb.block g (Array.getElem?_eq_some_iff.1 hh).1]; exact hh, r⟩
  · obtain ⟨a', c', e1, e2, e3⟩ := h3 k p hp
    exact ⟨a', c', e1, e2, e3.below hb⟩
theorem PRK.put {w : World} {B S n : Nat} {xs : List (List Int × Int)} (h : PRK w B S n xs) {k : Nat} (hk : k < n) {S1 S' : Nat} {a' : Option Addr} {l c' : Nat} {ys : List Int} (hy : OwI w S1 S' a' l c' ys) (hB : B + 1 ≤ S1) (hS : S ≤ S') (x : Int) :
    (∃ old, w.cell? ⟨B, k * 2, none⟩ = some old) ∧ w.frozen? ⟨B, k * 2, none⟩ = false ∧
    (∃ old, (w.setCell ⟨B, k * 2, none⟩ (.slice a' l c')).cell? ⟨B, k * 2 + 1, none⟩ = some old) ∧ (w.setCell ⟨B, k * 2, none⟩ (.slice a' l c')).frozen? ⟨B, k * 2 + 1, none⟩ = false ∧
    PRK ((w.setCell ⟨B, k * 2, none⟩ (.slice a' l c')).setCell ⟨B, k * 2 + 1, none⟩ (.int .i64 x)) B S' n (xs.set k (ys, x)) := by
  obtain ⟨vs, h1, h2, h3⟩ := h
  have hlv : vs.length = n * 2 := h1.1
  have s1 := h1.stored (k * 2) (.slice a' l c')
  have s2 := s1.1.stored (k * 2 + 1) (.int .i64 x)
  refine ⟨⟨vs[k * 2]'(by omega), by rw [h1.cellAt _ (by omega)]; exact List.getElem?_eq_getElem (by omega)⟩, h1.frozenAt _,
    ⟨(vs.set (k * 2) (.slice a' l c'))[k * 2 + 1]'(by rw [List.length_set]; omega), by rw [s1.1.cellAt _ (by omega)]; exact List.getElem?_eq_getElem _⟩, s1.1.frozenAt _, _, s2.1, by rw [List.length_set]; exact h2, fun j p hp => ?_⟩
  have hin : ∀ {b : Option Addr} {m d S2 S3 : Nat} {zs : List Int}, B + 1 ≤ S2 → OwI w S2 S3 b m d zs → OwI ((w.setCell ⟨B, k * 2, none⟩ (.slice a' l c')).setCell ⟨B, k * 2 + 1, none⟩ (.int .i64 x)) S2 S3 b m d zs := by
    intro b m d S2 S3 zs hb hz
    exact hz.only ((Only.setCell w B (k * 2) (.slice a' l c') (Nat.le_refl _) (Nat.lt_succ_self _)).trans (Only.setCell _ B (k * 2 + 1) (.int .i64 x) (Nat.le_refl _) (Nat.lt_succ_self _))) (.inr hb)
  rw [List.getElem?_set] at hp
  by_cases hj : k = j
  · subst hj
    rw [if_pos rfl, if_pos (by omega)] at hp
    obtain rfl := Option.some.inj hp
    obtain rfl := hy.len
    refine ⟨a', c', ?_, ?_, ?_⟩
    · rw [List.getElem?_set, if_neg (by omega), List.getElem?_set, if_pos rfl, if_pos (by omega)]
    · rw [List.getElem?_set, if_pos rfl, if_pos (by rw [List.length_set]; omega)]
    · exact (hin hB hy).mono hB (Nat.le_refl _)
  · rw [if_neg hj] at hp
    obtain ⟨a2, c2, e1, e2, e3⟩ := h3 j p hp
    refine ⟨a2, c2, ?_, ?_, (hin (Nat.le_refl _) e3).mono (Nat.le_refl _) hS⟩
    · rw [List.getElem?_set, if_neg (by omega), List.getElem?_set, if_neg (by omega)]; exact e1
    · rw [List.getElem?_set, if_neg (by omega), List.getElem?_set, if_neg (by omega)]; exact e2

theorem PRK.made {w : World} {B n : Nat} {vs : List Value} (h : w.ownsRow B 38 2 (.slice (some ⟨B, 0, none⟩) n n) n vs)
    (hv : ∀ k, k < n → vs[k * 2]? = some (.slice none 0 0) ∧ vs[k * 2 + 1]? = some (.int .i64 0)) : PRK w B w.heap.size n (List.replicate n ([], 0)) := by
  refine ⟨vs, h, by simp, fun k p hp => ?_⟩
  rw [List.getElem?_replicate] at hp
  split at hp
  · rename_i hk
    obtain rfl := Option.some.inj hp
    exact ⟨none, 0, (hv k hk).1, (hv k hk).2, ⟨rfl, World.ownsRow_nil _ _ _ _⟩, by simp [Value.ownBlock]⟩
  · cases hp

theorem Tryz.info38 : (Tryz.prog.info? 38).map (fun i => (i.zero, i.size, i.bytes)) = some (some (.agg #[.slice none 0 0, .int .i64 0]), 2, 32) := by kernel_rfl
def KO (w : World) (B S : Nat) (a : Option Addr) (n c : Nat) (xs : List (List Int × Int)) : Prop :=
  ∃ vs, w.ownsRow B 38 2 (.slice a n c) n vs ∧ (∀ k, (Value.slice a n c).ownBlock = some k → k < S) ∧ InT w B S vs xs
theorem KO.len {w : World} {B S : Nat} {a : Option Addr} {n c : Nat} {xs : List (List Int × Int)} (h : KO w B S a n c xs) : xs.length = n := by
  obtain ⟨vs, h1, _, h3⟩ := h
  have := h1.1
  have := h3.len
  omega
theorem KO.rd {w : World} {B S : Nat} {a : Option Addr} {n c : Nat} {xs : List (List Int × Int)} (h : KO w B S a n c xs) : RP w a xs := by
  obtain ⟨vs, h1, _, h3⟩ := h
  rcases row2_shape h1 with ⟨_, _, _, hv⟩ | ⟨g, rfl, _, _, _, hc, _⟩
  · left
    have := h3.len
    rw [hv] at this
    simp at this
    exact List.eq_nil_of_length_eq_zero (by omega)
  · refine .inr ⟨g, 0, rfl, fun k p hp => ?_⟩
    obtain ⟨a', c', e1, e2, ho⟩ := h3.each k p hp
    exact ⟨a', c', by rw [Nat.zero_add]; exact hc _ _ e1, by rw [Nat.zero_add]; exact hc _ _ e2, ho.rd, ho.1.lt⟩
theorem KO.only {w w' : World} {B S B' S' : Nat} {a : Option Addr} {n c : Nat} {xs : List (List Int × Int)} (h : KO w B S a n c xs) (ho : Only B' S' w w') (hd : S ≤ B' ∨ S' ≤ B) : KO w' B S a n c xs := by
  obtain ⟨vs, h1, h2, h3⟩ := h
  exact ⟨vs, row2_only h1 h2 ho hd, h2, h3.len, fun k p hp => by obtain ⟨a, c, e1, e2, e3⟩ := h3.each k p hp; exact ⟨a, c, e1, e2, e3.only ho hd⟩, h3.apart⟩
theorem KO.below {w w' : World} {B S : Nat} {a : Option Addr} {n c : Nat} {xs : List (List Int × Int)} (h : KO w B S a n c xs) (hb : Below w.heap.size w w') : KO w' B S a n c xs := h.only (Only.of_below hb) (.inr (Nat.zero_le _))
theorem KO.mono {w : World} {B S B' S' : Nat} {a : Option Addr} {n c : Nat} {xs : List (List Int × Int)} (h : KO w B S a n c xs) (hB : B' ≤ B) (hS : S ≤ S') : KO w B' S' a n c xs := by
  obtain ⟨vs, h1, h2, h3⟩ := h
  refine ⟨vs, ⟨h1.1, ?_⟩, fun k hk => Nat.lt_of_lt_of_le (h2 k hk) hS, h3.len, fun k p hp => by obtain ⟨a, c, e1, e2, e3⟩ := h3.each k p hp; exact ⟨a, c, e1, e2, e3.mono hB hS⟩, h3.apart⟩
  rcases h1.2 with h2 | ⟨g, cap, cur, hv, hg, r⟩
  · exact .inl h2
  · exact .inr ⟨g, cap, cur, hv, Nat.le_trans hB hg, r⟩
theorem KO.lo {w : World} {B S : Nat} {a : Option Addr} {n c : Nat} {xs : List (List Int × Int)} (h : KO w B S a n c xs) : ∀ k, (Value.slice a n c).ownBlock = some k → B ≤ k := by
  obtain ⟨vs, h1, _⟩ := h
  exact fun k hk => (h1.lt k hk).1
theorem KO.nil {w : World} {B S : Nat} : KO w B S none 0 0 [] := ⟨[], ⟨rfl, .inl ⟨rfl, rfl⟩⟩, fun k hk => by simp [Value.ownBlock] at hk, rfl, by simp, by simp⟩
theorem KO.made (w : World) : KO (w.alloc (.cells #[] 38)) w.heap.size (w.alloc (.cells #[] 38)).heap.size (some ⟨w.heap.size, 0, none⟩) 0 0 [] := by
  have h := World.ownsRow_made (base := w.heap.size) (e := 38) (size := 2) w #[] 0 (Nat.le_refl _) (Nat.zero_le _) rfl
  exact ⟨[], h, fun k hk => (h.lt k hk).2, rfl, by simp, by simp⟩
/-- a row of integers lies in another block than a row of terms -/
theorem ne_blockTK {w : World} {B S B' n l : Nat} {a a' : Option Addr} {c c' : Nat} {vs : List Value} {xs : List Int} (h : w.ownsRow B' 38 2 (.slice a n c) n vs) (hi : OwI w B S a' l c' xs) :
    ∀ k, (Value.slice a n c).ownBlock = some k → (Value.slice a' l c').ownBlock ≠ some k := by
  intro k hk hk'
  rcases row2_shape h with ⟨_, rfl, _⟩ | ⟨g, rfl, _, _, _, _, cur, hg⟩
  · cases hk
  · rcases ownsRow_shape hi.1.own with ⟨_, rfl, _⟩ | ⟨g', rfl, _, _, _, cur', hg'⟩
    · cases hk'
    · have e1 : g = k := by simpa [Value.ownBlock] using hk
      have e2 : g' = k := by simpa [Value.ownBlock] using hk'
      subst e1 e2
      rw [hg] at hg'
      simp at hg'
/-- append of one term whose list lies in a newer block than all that are there -/
theorem wpList_pushTK {w W : World} {b : Option Addr} {m d : Nat} {y : Int} (hW : W = w.alloc (.cells #[.slice b m d, .int .i64 y] 38)) {ops : Array Oper} {rest : List Oper} {o : Oper} {ac : Act} {Q : Exit → Act → World → Prop} (hgd : o.guard = none) (s x : Operand)
    (ho : o.op = .call { callee := .builtin .append, args := #[s, x], argTypes := #[23, 23] })
    {B S : Nat} {a : Option Addr} {n c : Nat} {xs : List (List Int × Int)} (hown : KO w B S a n c xs) (hs : ac.eval s = .slice a n c)
    {ys : List Int} {S' : Nat} (hr : OwI w S S' b m d ys) (hBS : B ≤ S) {z : Nat} (hx : ac.eval x = .slice (some ⟨z, 0, none⟩) 1 1) (hz : z = w.heap.size) (hn : n + 1 ≤ 1048576) (hbase : B ≤ w.heap.size) (hS : S ≤ w.heap.size) (hS' : S' ≤ w.heap.size)
    (h : ∀ a' c' w', KO w' B w'.heap.size a' (n + 1) c' (xs ++ [(ys, y)]) → w.grownBy w' (Value.slice a n c).ownBlock → wpList Tryz.prog ops Q rest (ac.put o.dst (.slice a' (n + 1) c')) w') :
    wpList Tryz.prog ops Q (o :: rest) ac W := by
  subst hW
  subst hz
  obtain ⟨i0, hi, hz0, hz1, hz2⟩ := info_parts Tryz.info38
  obtain ⟨vs, h1, h2, h3⟩ := hown
  have hlen := hr.len
  have hvl := h3.len
  have h10 := h1.1
  have h1a := h1.alloc (.cells #[.slice b m d, .int .i64 y] 38)
  refine wpList_append_own _ hgd s x 23 ho B 38 i0 (.agg #[.slice none 0 0, .int .i64 0]) 2 32 Tryz.underlying23 hi hz0 hz1 hz2 rfl (by decide) _ n vs hs h1a ⟨w.heap.size, 0, none⟩ 1 1 [.slice b m d, .int .i64 y] hx rfl ?_ ?_ (by unfold maxLen; omega) (by omega) (by simp; omega) ?_
  · intro j u hj
    match j, hj with
    | 0, hj => simp at hj; subst hj; simp [Addr.add]
    | 1, hj => simp at hj; subst hj; simp [Addr.add]
  · intro u hu
    simp at hu
    rcases hu with rfl | rfl <;> rfl
  · intro v' w' h4 h5 _
    obtain ⟨a', c', rfl⟩ := slice_ofT h4
    have hg := grownBy.trans (World.grownBy_alloc w (.cells #[.slice b m d, .int .i64 y] 38) (Value.slice a n c).ownBlock) h5
    have hsz := hg.size
    have keep : ∀ {B0 S0 : Nat} {a0 : Option Addr} {l0 c0 : Nat} {zs : List Int}, OwI w B0 S0 a0 l0 c0 zs → OwI w' B0 S0 a0 l0 c0 zs := fun hio => ⟨hio.1.kept hg (fun k hk e => ne_blockTK h1 hio k e hk), hio.2⟩
    have hold : ∀ i v, vs[i * 2]? = some v → ∀ g, v.ownBlock = some g → g < S := by
      intro i v hv g hvg
      have hi := lt_of_some hv
      obtain ⟨p, hp⟩ := some_of (show i < xs.length by omega)
      obtain ⟨a2, c2, e1, _, e3⟩ := h3.each i p hp
      rw [hv] at e1
      obtain rfl := Option.some.inj e1
      exact e3.2 g hvg
    have hnew : ∀ g, (Value.slice b m d).ownBlock = some g → S ≤ g := fun g hg => hr.1.lo g hg
    refine h a' c' w' ⟨vs ++ [.slice b m d, .int .i64 y], h4, fun k hk => (h4.lt k hk).2, by simp; omega, fun k p hp => ?_, ?_⟩ hg
    · rcases Nat.lt_or_ge k xs.length with hk | hk
      · rw [List.getElem?_append_left hk] at hp
        obtain ⟨a2, c2, e1, e2, e3⟩ := h3.each k p hp
        exact ⟨a2, c2, by rw [List.getElem?_append_left (by omega)]; exact e1, by rw [List.getElem?_append_left (by omega)]; exact e2, (keep e3).mono (Nat.le_refl _) (by omega)⟩
      · rw [List.getElem?_append_right hk] at hp
        have hk0 : k - xs.length = 0 := by have := lt_of_some hp; simp at this; omega
        rw [hk0] at hp
        obtain rfl : (ys, y) = p := by simpa using hp
        have hkx : k = xs.length := by omega
        refine ⟨b, d, ?_, ?_, ?_⟩
        · rw [List.getElem?_append_right (by omega), show k * 2 - vs.length = 0 by omega, hlen]; rfl
        · rw [List.getElem?_append_right (by omega), show k * 2 + 1 - vs.length = 1 by omega]; rfl
        · show OwI w' B w'.heap.size b ys.length d ys
          rw [hlen]
          exact (keep hr).mono hBS (by omega)
    · intro i j u v g hu hv hug hvg
      have split : ∀ i u, (vs ++ [Value.slice b m d, .int .i64 y])[i * 2]? = some u → (i * 2 < vs.length ∧ vs[i * 2]? = some u) ∨ (i * 2 = vs.length ∧ u = .slice b m d) := by
        intro i u hu
        rcases Nat.lt_or_ge (i * 2) vs.length with hi | hi
        · rw [List.getElem?_append_left hi] at hu
          exact .inl ⟨hi, hu⟩
        · rw [List.getElem?_append_right hi] at hu
          have hlt := lt_of_some hu
          simp at hlt
          have e0 : i * 2 - vs.length = 0 := by omega
          rw [e0] at hu
          simp at hu
          exact .inr ⟨by omega, hu.symm⟩
      rcases split i u hu with ⟨_, hu⟩ | ⟨e1, rfl⟩ <;> rcases split j v hv with ⟨_, hv⟩ | ⟨e2, rfl⟩
      · exact h3.apart i j u v g hu hv hug hvg
      · have := hold i u hu g hug
        have := hnew g hvg
        omega
      · have := hold j v hv g hvg
        have := hnew g hug
        omega
      · omega

theorem eq_K (a b : Option Addr) (n c m d : Nat) (xs ys : List (List Int × Int)) (w : World) (hr : RP w a xs) (hs : RP w b ys) (hn : xs.length = n) (hm : ys.length = m) (hb : n ≤ 17592186044416) (hsh : ∀ p ∈ xs, p.1.length ≤ 1048576) :
    Calls Tryz.prog 7 #[.slice a n c, .slice b m d] w fun e w' => e = .returned (.bool (decide (xs = ys))) ∧ Below w.heap.size w w' := eq_PK a b n c m d xs ys w hr hs hn hm hb hsh
theorem KO.at {w : World} {B S : Nat} {a : Option Addr} {n c : Nat} {xs : List (List Int × Int)} (h : KO w B S a n c xs) (hn : 0 < n) : ∃ g, a = some ⟨g, 0, none⟩ ∧ B ≤ g ∧ g < S := by
  obtain ⟨vs, h1, h2, _⟩ := h
  rcases row2_shape h1 with ⟨h0, _⟩ | ⟨g, rfl, hB, _⟩
  · omega
  · exact ⟨g, rfl, hB, h2 g rfl⟩
/-- one term's parts, and both of them put anew -/
theorem KO.open {w : World} {B S g n c : Nat} {xs : List (List Int × Int)} (h : KO w B S (some ⟨g, 0, none⟩) n c xs) {i : Nat} {p : List Int × Int} (hi : xs[i]? = some p) :
    ∃ a' c', w.cell? ⟨g, i * 2, none⟩ = some (.slice a' p.1.length c') ∧ w.cell? ⟨g, i * 2 + 1, none⟩ = some (.int .i64 p.2) ∧ OwI w B S a' p.1.length c' p.1 ∧
      ∀ w' ys (v : Int), ys.length = p.1.length → OS w' B a' p.1.length c' ys → w.grownBy w' (Value.slice a' p.1.length c').ownBlock →
        w'.cell? ⟨g, i * 2 + 1, none⟩ = some (.int .i64 p.2) ∧ w'.frozen? ⟨g, i * 2 + 1, none⟩ = false ∧
        KO (w'.setCell ⟨g, i * 2 + 1, none⟩ (.int .i64 v)) B S (some ⟨g, 0, none⟩) n c (xs.set i (ys, v)) ∧ w'.grownBy (w'.setCell ⟨g, i * 2 + 1, none⟩ (.int .i64 v)) (some g) := by
  obtain ⟨vs, h1, h2, h3⟩ := h
  obtain ⟨a', c', e1, e2, ho⟩ := h3.each i p hi
  have hlv : vs.length = n * 2 := h1.1
  have hil := lt_of_some hi
  have hln := h3.len
  refine ⟨a', c', (row2_cell h1 e1).1, (row2_cell h1 e2).1, ho, fun w' ys v hl hos hg => ?_⟩
  have h1' := grown_keeps2 h1 hg (fun k hk e => ne_blockTK h1 ho k hk e)
  have s := h1'.stored (i * 2 + 1) (.int .i64 v)
  refine ⟨(row2_cell h1' e2).1, (row2_cell h1' e2).2, ⟨_, s.1, h2, ?_⟩, s.2⟩
  have fin : ∀ {b : Option Addr} {m d : Nat} {zs : List Int}, OwI w' B S b m d zs → OwI (w'.setCell ⟨g, i * 2 + 1, none⟩ (.int .i64 v)) B S b m d zs := fun hio => ⟨hio.1.kept s.2 (fun k hk e => ne_blockTK h1' hio g rfl (by rw [hk, ← Option.some.inj e])), hio.2⟩
  refine ⟨by rw [List.length_set, List.length_set]; exact h3.len, fun k q hq => ?_, ?_⟩
  · rw [List.getElem?_set] at hq
    by_cases hk : i = k
    · subst hk
      rw [if_pos rfl, if_pos hil] at hq
      obtain rfl := Option.some.inj hq
      refine ⟨a', c', ?_, ?_, ?_⟩
      · rw [List.getElem?_set, if_neg (by omega), hl]; exact e1
      · rw [List.getElem?_set, if_pos rfl, if_pos (by omega)]
      · rw [hl]; exact fin ⟨hos, ho.2⟩
    · rw [if_neg hk] at hq
      obtain ⟨a2, c2, e3, e4, ho2⟩ := h3.each k q hq
      refine ⟨a2, c2, ?_, ?_, fin ⟨ho2.1.kept hg (fun r hr e => hk (h3.apart i k _ _ r e1 e3 e hr)), ho2.2⟩⟩
      · rw [List.getElem?_set, if_neg (by omega)]; exact e3
      · rw [List.getElem?_set, if_neg (by omega)]; exact e4
  · intro k j u v' r hu hv
    rw [List.getElem?_set, if_neg (by omega)] at hu hv
    exact h3.apart k j u v' r hu hv

set_option maxRecDepth 100000 in
set_option maxHeartbeats 1600000 in
theorem mark_K (B S : Nat) (a : Option Addr) (n c : Nat) (xs : List (List Int × Int)) (k : Int) (w : World) {Z : Nat} (ho : KO w B S a n c xs) (hk0 : 0 ≤ k) (hk : k ≤ 4398046511104) (hb : Z ≤ 1099511627776) (hZ : sz_T xs = Z) (hbn : n ≤ 17592186044416) :
    Calls Tryz.prog 10 #[.slice a n c, .int .i64 k] w fun e w' => e = .returned (.int .i64 (k + Z)) ∧ KO w' B S a n c (mk_T xs k) ∧ Only B S w w' := by
  have hn := ho.len
  have Hn := Lib.hid hn; clear hn
  have HZ := Lib.hid hZ; clear hZ
  go_enter Tryz.func10, Tryz.ntmps10
  go_wp2
  go_loopw [1, 5] (fun kk i wr => ∃ j : Nat, j ≤ n ∧ i = .int .i64 j ∧ kk = .int .i64 (k + (sz_T (xs.take j) : Int)) ∧ KO wr B S a n c (markT xs k j) ∧ Only B S w wr) (fun _ i _ => n - (intOf i).toNat)
  case atStart => exact ⟨0, Nat.zero_le _, rfl, by simp [sz_T], by rw [markT_zero]; exact ho, Only.refl _ _ _⟩
  case round =>
    obtain ⟨j, hj, rfl, rfl, hr, hg⟩ := hrel
    obtain ⟨wo, rfl⟩ : ∃ wo : World, wo = wr := ⟨_, rfl⟩
    by_cases hlt : j < n
    · obtain ⟨x, hx⟩ := some_of (show j < xs.length by rw [Hn.out]; exact hlt)
      obtain ⟨g, rfl, hBg, hgS⟩ := hr.at (by omega)
      obtain ⟨a', c', hc, hc2, hio, hset⟩ := hr.open (markT_at hx k)
      have hs1 := sz_T_take hx
      have hs2 := sz_T_le xs j
      have hs3 := sz_T_le xs (j + 1)
      have hst := markT_succ hx k
      rw [HZ.out] at hs2 hs3
      obtain ⟨s, hs⟩ : ∃ s, sz_T (xs.take j) = s := ⟨_, rfl⟩
      obtain ⟨l, hl⟩ : ∃ l, x.1.length = l := ⟨_, rfl⟩
      rw [hs] at hs1 hs2 hst ⊢
      rw [hl] at hs1 hc hio hset hst
      have hsl : s + l + 1 ≤ 1099511627776 := by omega
      have Hs1 := Lib.hid hs1; clear hs1 hs3
      have Hs := Lib.hid hs; clear hs
      have Hl := Lib.hid hl; clear hl
      have Hst := Lib.hid hst; clear hst hx
      have Hset := Lib.hid hset; clear hset
      go_wp2_with fail
      refine (markIntS_any _ _ _ _ _ _ _ hio.1 (by omega) (by omega) (by omega)).mono ?_
      rintro e w1 ⟨rfl, hos, hgr⟩
      obtain ⟨f1, f2, hto, hg2⟩ := Hset.out w1 (iota (k + (s : Int)) l) (k + (s : Int) + (l : Int)) (by rw [iota_length]) hos hgr
      rw [Hst.out] at hto
      have Hto := Lib.hid hto
      have ho1 := Lib.hid ((hg.trans (Only.of_grown hgr hio.1.lo hio.2)).trans (Only.setCell w1 g (j * 2 + 1) (.int .i64 (k + (s : Int) + (l : Int))) hBg hgS))
      clear hos hgr hio hr hg hto hg2 hc hc2
      go_wp2
      go_roundw
      case rel => exact ⟨j + 1, by omega, by go_num, by rw [Hs1.out]; go_num, Hto.out, ho1.out⟩
      case measure => simp [intOf]; omega
    · obtain rfl : j = n := by omega
      go_wp2
      go_ret
      rw [markT_all Hn.out] at hr
      exact ⟨ret_int (by rw [List.take_of_length_le (by rw [Hn.out]; omega), HZ.out]), hr, hg⟩

set_option maxRecDepth 100000 in
set_option maxHeartbeats 1600000 in
theorem heldT_anyK (a : Option Addr) (n c : Nat) (xs : List (List Int × Int)) (k : Int) (w : World) {Z : Nat} (hr : RP w a (mk_T xs k)) (hn : xs.length = n) (hk0 : 0 ≤ k) (hk : k ≤ 4398046511104) (hb : Z ≤ 1099511627776) (hZ : sz_T xs = Z) (hbn : n ≤ 17592186044416) :
    Calls Tryz.prog 11 #[.slice a n c, .int .i64 k] w fun e w' => e = .returned (.int .i64 (k + Z)) ∧ Drew w w' := by
  have Hn := Lib.hid hn; clear hn
  have HZ := Lib.hid hZ; clear hZ
  go_enter Tryz.func11, Tryz.ntmps11
  go_wp2
  go_loopw [1, 5] (fun kk i wr => ∃ j : Nat, j ≤ n ∧ i = .int .i64 j ∧ kk = .int .i64 (k + (sz_T (xs.take j) : Int)) ∧ Drew w wr) (fun _ i _ => n - (intOf i).toNat)
  case atStart => exact ⟨0, Nat.zero_le _, rfl, by simp [sz_T], Drew.refl _⟩
  case round =>
    obtain ⟨j, hj, rfl, rfl, hd⟩ := hrel
    obtain ⟨wo, rfl⟩ : ∃ wo : World, wo = wr := ⟨_, rfl⟩
    by_cases hlt : j < n
    · obtain ⟨x, hx⟩ := some_of (show j < xs.length by rw [Hn.out]; exact hlt)
      have hrw := hr.below (hd.below _)
      obtain ⟨b, off, rfl, hcell⟩ := hrw.at (k := j) (by rw [mk_T_length, Hn.out]; exact hlt)
      obtain ⟨a', c', hc, hc2, hri, _⟩ := hcell j _ (mk_T_at hx k)
      simp only at hc hc2 hri
      rw [iota_length] at hc
      have hs1 := sz_T_take hx
      have hs2 := sz_T_le xs j
      have hs3 := sz_T_le xs (j + 1)
      rw [HZ.out] at hs2 hs3
      obtain ⟨s, hs⟩ : ∃ s, sz_T (xs.take j) = s := ⟨_, rfl⟩
      obtain ⟨l, hl⟩ : ∃ l, x.1.length = l := ⟨_, rfl⟩
      rw [hs] at hs1 hs2 hri hc2 ⊢
      rw [hl] at hs1 hc hri hc2
      have hsl : s + l + 1 ≤ 1099511627776 := by omega
      have Hs1 := Lib.hid hs1; clear hs1 hs3
      have Hs := Lib.hid hs; clear hs
      have Hl := Lib.hid hl; clear hl hx hcell hrw
      go_wp2_with fail
      refine (heldIntS_any _ _ _ _ _ hri (by omega) (by omega) (by omega)).mono ?_
      rintro e w1 ⟨rfl, hd1⟩
      have hd' := hd.trans hd1
      have hB1 := hd1.below wo.heap.size
      have hc3 : w1.cell? ⟨b, off + j * 2 + 1, none⟩ = some (.int .i64 (k + (s : Int) + (l : Int))) := by rw [hB1.cell (World.block_lt_of_cell? _ _ hc2)]; exact hc2
      have hne : ((k + (s : Int) + (l : Int)) != (k + (s : Int) + (l : Int))) = false := by simp
      have hn0 : ¬ k + (s : Int) + (l : Int) < 0 := by omega
      clear hc hc2 hri hd hd1 hB1
      go_wp2
      go_roundw
      case rel => exact ⟨j + 1, by omega, by go_num, by rw [Hs1.out]; go_num, hd'⟩
      case measure => simp [intOf]; omega
    · obtain rfl : j = n := by omega
      go_wp2
      go_ret
      exact ⟨ret_int (by rw [List.take_of_length_le (by rw [Hn.out]; omega), HZ.out]), hd⟩
theorem held_K {B S : Nat} (a : Option Addr) (n c : Nat) (xs : List (List Int × Int)) (k : Int) (w : World) {Z : Nat} (ho : KO w B S a n c (mk_T xs k)) (hk0 : 0 ≤ k) (hk : k ≤ 4398046511104) (hb : Z ≤ 1099511627776) (hZ : sz_T xs = Z) (hbn : n ≤ 17592186044416) :
    Calls Tryz.prog 11 #[.slice a n c, .int .i64 k] w fun e w' => e = .returned (.int .i64 (k + Z)) ∧ Drew w w' :=
  heldT_anyK a n c xs k w ho.rd (by rw [← ho.len, mk_T_length]) hk0 hk hb hZ hbn

theorem KO.zeros {w : World} {B n : Nat} {vs : List Value} (h : w.ownsRow B 38 2 (.slice (some ⟨B, 0, none⟩) n n) n vs)
    (hv : ∀ k, k < n → vs[k * 2]? = some (.slice none 0 0) ∧ vs[k * 2 + 1]? = some (.int .i64 0)) : KO w B w.heap.size (some ⟨B, 0, none⟩) n n (List.replicate n ([], 0)) := by
  have hl : vs.length = n * 2 := h.1
  refine ⟨vs, h, fun k hk => (h.lt k hk).2, by simp; omega, fun k p hp => ?_, fun i j u v g hu hv' hug _ => ?_⟩
  · rw [List.getElem?_replicate] at hp
    split at hp
    · rename_i hk
      obtain rfl := Option.some.inj hp
      exact ⟨none, 0, (hv k hk).1, (hv k hk).2, ⟨rfl, World.ownsRow_nil _ _ _ _⟩, by simp [Value.ownBlock]⟩
    · cases hp
  · have hi := lt_of_some hu
    rw [(hv i (by omega)).1] at hu
    obtain rfl := Option.some.inj hu
    cases hug
theorem KO.put {w : World} {B S g n c : Nat} {xs : List (List Int × Int)} (h : KO w B S (some ⟨g, 0, none⟩) n c xs) {i : Nat} {p : List Int × Int} (hi : xs[i]? = some p) {S1 S' : Nat} {a' : Option Addr} {l c' : Nat} {ys : List Int} (hy : OwI w S1 S' a' l c' ys) (hS1 : S ≤ S1) (hB : B ≤ S1) (hSS : S ≤ S') (v : Int) :
    (∃ old, w.cell? ⟨g, i * 2, none⟩ = some old) ∧ w.frozen? ⟨g, i * 2, none⟩ = false ∧
    (∃ old, (w.setCell ⟨g, i * 2, none⟩ (.slice a' l c')).cell? ⟨g, i * 2 + 1, none⟩ = some old) ∧ (w.setCell ⟨g, i * 2, none⟩ (.slice a' l c')).frozen? ⟨g, i * 2 + 1, none⟩ = false ∧
    KO ((w.setCell ⟨g, i * 2, none⟩ (.slice a' l c')).setCell ⟨g, i * 2 + 1, none⟩ (.int .i64 v)) B S' (some ⟨g, 0, none⟩) n c (xs.set i (ys, v)) := by
  obtain ⟨vs, h1, h2, h3⟩ := h
  obtain ⟨b0, d0, e1, e2, ho⟩ := h3.each i p hi
  have hlv : vs.length = n * 2 := h1.1
  have hil := lt_of_some hi
  have hln := h3.len
  have s1 := h1.stored (i * 2) (.slice a' l c')
  have s2 := s1.1.stored (i * 2 + 1) (.int .i64 v)
  have e3 : (vs.set (i * 2) (.slice a' l c'))[i * 2 + 1]? = some (.int .i64 p.2) := by rw [List.getElem?_set, if_neg (by omega)]; exact e2
  refine ⟨⟨_, (row2_cell h1 e1).1⟩, (row2_cell h1 e1).2, ⟨_, (row2_cell s1.1 e3).1⟩, (row2_cell s1.1 e3).2, _, s2.1, fun k hk => Nat.lt_of_lt_of_le (h2 k hk) hSS, ?_⟩
  have fin : ∀ {B0 S0 : Nat} {b : Option Addr} {m d : Nat} {zs : List Int}, OwI w B0 S0 b m d zs → OwI ((w.setCell ⟨g, i * 2, none⟩ (.slice a' l c')).setCell ⟨g, i * 2 + 1, none⟩ (.int .i64 v)) B0 S0 b m d zs := fun hio => by
    have i1 : OwI (w.setCell ⟨g, i * 2, none⟩ (.slice a' l c')) _ _ _ _ _ _ := ⟨hio.1.kept s1.2 (fun k hk e => ne_blockTK h1 hio g rfl (by rw [hk, ← Option.some.inj e])), hio.2⟩
    exact ⟨i1.1.kept s2.2 (fun k hk e => ne_blockTK s1.1 i1 g rfl (by rw [hk, ← Option.some.inj e])), i1.2⟩
  have hold : ∀ k u, vs[k * 2]? = some u → ∀ r, u.ownBlock = some r → r < S := by
    intro k u hu r hur
    have hk := lt_of_some hu
    obtain ⟨q, hq⟩ := some_of (show k < xs.length by omega)
    obtain ⟨a2, c2, f1, _, f3⟩ := h3.each k q hq
    rw [hu] at f1
    obtain rfl := Option.some.inj f1
    exact f3.2 r hur
  have hnew : ∀ r, (Value.slice a' l c').ownBlock = some r → S1 ≤ r := fun r hr => hy.1.lo r hr
  refine ⟨by rw [List.length_set, List.length_set, List.length_set]; exact h3.len, fun k q hq => ?_, ?_⟩
  · rw [List.getElem?_set] at hq
    by_cases hk : i = k
    · subst hk
      rw [if_pos rfl, if_pos hil] at hq
      obtain rfl := Option.some.inj hq
      obtain rfl := hy.len
      refine ⟨a', c', ?_, ?_, ?_⟩
      · rw [List.getElem?_set, if_neg (by omega), List.getElem?_set, if_pos rfl, if_pos (by omega)]
      · rw [List.getElem?_set, if_pos rfl, if_pos (by rw [List.length_set]; omega)]
      · exact (fin hy).mono hB (Nat.le_refl _)
    · rw [if_neg hk] at hq
      obtain ⟨a2, c2, f1, f2, ho2⟩ := h3.each k q hq
      refine ⟨a2, c2, ?_, ?_, (fin ho2).mono (Nat.le_refl _) hSS⟩
      · rw [List.getElem?_set, if_neg (by omega), List.getElem?_set, if_neg (by omega)]; exact f1
      · rw [List.getElem?_set, if_neg (by omega), List.getElem?_set, if_neg (by omega)]; exact f2
  · have split : ∀ k u, ((vs.set (i * 2) (.slice a' l c')).set (i * 2 + 1) (.int .i64 v))[k * 2]? = some u → (k ≠ i ∧ vs[k * 2]? = some u) ∨ (k = i ∧ u = .slice a' l c') := by
      intro k u hu
      rw [List.getElem?_set, if_neg (by omega), List.getElem?_set] at hu
      by_cases hk : i = k
      · subst hk
        rw [if_pos rfl, if_pos (by omega)] at hu
        exact .inr ⟨rfl, (Option.some.inj hu).symm⟩
      · rw [if_neg (by omega)] at hu
        exact .inl ⟨fun e => hk e.symm, hu⟩
    intro k j u v' r hu hv hur hvr
    rcases split k u hu with ⟨_, hu2⟩ | ⟨ei, eu⟩ <;> rcases split j v' hv with ⟨_, hv2⟩ | ⟨ej, ev⟩
    · exact h3.apart k j u v' r hu2 hv2 hur hvr
    · rw [ev] at hvr
      have := hold k u hu2 r hur
      have := hnew r hvr
      omega
    · rw [eu] at hur
      have := hold j v' hv2 r hvr
      have := hnew r hur
      omega
    · omega

end Go.Proofs.YtocgcgmlemoekaaGreat
