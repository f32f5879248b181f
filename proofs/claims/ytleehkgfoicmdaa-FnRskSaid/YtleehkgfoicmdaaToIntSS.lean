/-
  Contracts of szIntS, szIntSS, toIntSS.
-/
import Derived.Test.YtleehkgfoicmdaaApp
namespace Go.Proofs.Ytleehkgfoicmdaa
open Go.RowKit

/-- what is left of a measure, or -1 -/
def leftOf (left t : Int) : Int := if left < t then -1 else left - t
theorem leftOf_lt {left t : Int} (h : left < t) : leftOf left t = -1 := if_pos h
theorem leftOf_ge {left t : Int} (h : ¬ left < t) : leftOf left t = left - t := if_neg h
set_option maxHeartbeats 400000 in
theorem szIntS_any (a : Option Addr) (n c : Nat) (left : Int) (w : World) (h0 : 0 ≤ left) (h1 : left ≤ 1048576) (hb : n ≤ 9223372036854775807) :
    Calls Try.prog 74 #[.slice a n c, .int .i64 left] w fun e w' => e = .returned (.int .i64 (leftOf left n)) ∧ w = w' := by
  by_cases h : left < n
  · go_enter Try.func74, Try.ntmps74
    go_wp2
    go_ret
    exact ⟨ret_int (leftOf_lt h).symm, rfl⟩
  · go_enter Try.func74, Try.ntmps74
    go_wp2
    go_ret
    exact ⟨ret_int (leftOf_ge (by omega)).symm, rfl⟩

set_option maxRecDepth 100000 in
set_option maxHeartbeats 800000 in
theorem szIntSS_any (a : Option Addr) (n c : Nat) (xs : List (List Int)) (left : Int) (w : World) (hr : RII w a xs) (hn : xs.length = n) (h0 : 0 ≤ left) (h1 : left ≤ 1048576) (hb : n ≤ 9223372036854775807) (hbs : ∀ x ∈ xs, x.length ≤ 9223372036854775807) :
    Calls Try.prog 38 #[.slice a n c, .int .i64 left] w fun e w' => e = .returned (.int .i64 (leftOf left (n + sz_II xs : Nat))) ∧ w = w' := by
  have Hn := Lib.hid hn; clear hn
  have Hbs := Lib.hid hbs; clear hbs
  by_cases h : left < n
  · go_enter Try.func38, Try.ntmps38
    go_wp2
    go_ret
    exact ⟨ret_int (leftOf_lt (by omega)).symm, rfl⟩
  · go_enter Try.func38, Try.ntmps38
    go_wp2
    go_loop [1, 5] (fun l i => ∃ j : Nat, j ≤ n ∧ i = .int .i64 j ∧ n + sz_II (xs.take j) ≤ left ∧ l = .int .i64 (left - (n + sz_II (xs.take j) : Nat))) (fun _ i => n - (intOf i).toNat)
    case atStart => exact ⟨0, Nat.zero_le _, rfl, by simp [sz_II]; omega, by simp [sz_II]⟩
    case round =>
      obtain ⟨j, hj, rfl, hle, rfl⟩ := hrel
      by_cases hlt : j < n
      · obtain ⟨x, hx⟩ := some_of (show j < xs.length by rw [Hn.out]; exact hlt)
        obtain ⟨b, off, rfl, hcell⟩ := hr.at (k := j) (by rw [Hn.out]; exact hlt)
        obtain ⟨a', c', hc, _⟩ := hcell j x hx
        have hxl := Hbs.out x (List.mem_of_getElem? hx)
        have hs1 := sz_II_take hx
        have hs2 := sz_II_le xs (j + 1)
        obtain ⟨s, hs⟩ : ∃ s, sz_II (xs.take j) = s := ⟨_, rfl⟩
        obtain ⟨l, hl⟩ : ∃ l, x.length = l := ⟨_, rfl⟩
        obtain ⟨Z, hZ⟩ : ∃ Z, sz_II xs = Z := ⟨_, rfl⟩
        rw [hs] at hs1 hle ⊢
        rw [hl] at hs1 hc hxl
        rw [hZ] at hs2
        have Hs1 := Lib.hid hs1
        have hs3 : s + l ≤ Z := by omega
        have HZ := Lib.hid hZ
        clear hs1 hs hl hcell hx hZ hs2
        by_cases h2 : left - (n + s : Nat) < l
        · have hq := Lib.hid (leftOf_lt h2)
          go_wp2_with fail
          refine (isInt (szIntS_any _ _ _ (left - (n + s : Nat)) _ (by omega) (by omega) hxl) hq.out).mono ?_
          rintro e w1 ⟨rfl, rfl⟩
          go_wp2
          go_ret
          exact ⟨ret_int (by rw [HZ.out]; exact (leftOf_lt (by omega)).symm), rfl⟩
        · have hq := Lib.hid (leftOf_ge h2)
          go_wp2_with fail
          refine (isInt (szIntS_any _ _ _ (left - (n + s : Nat)) _ (by omega) (by omega) hxl) hq.out).mono ?_
          rintro e w1 ⟨rfl, rfl⟩
          have hnn : ¬ (left - ((n : Int) + (s : Int)) - (l : Int) < 0) := by omega
          go_wp2
          go_round
          case rel => exact ⟨j + 1, by omega, by go_num, by rw [Hs1.out]; omega, by rw [Hs1.out]; go_num⟩
          case measure => simp [intOf]; omega
      · obtain rfl : j = n := by omega
        rw [List.take_of_length_le (by rw [Hn.out]; omega)] at hle ⊢
        obtain ⟨Z, hZ⟩ : ∃ Z, sz_II xs = Z := ⟨_, rfl⟩
        rw [hZ] at hle ⊢
        go_wp2
        go_ret
        exact ⟨ret_int (leftOf_ge (by omega)).symm, rfl⟩

/-- a row of slices, a new one in one place -/
theorem IIO.put {w : World} {B S : Nat} {a : Option Addr} {n c : Nat} {yss : List (List Int)} (h : IIO w B S a n c yss) {i : Nat} (hi : i < n) {S' : Nat} {a' : Option Addr} {l c' : Nat} {xs : List Int} (hx : OwI w S S' a' l c' xs) (hBS : B ≤ S) (hS : S ≤ S') :
    ∃ g, a = some ⟨g, 0, none⟩ ∧ B ≤ g ∧ g < S ∧ (∃ old, w.cell? ⟨g, i, none⟩ = some old) ∧ w.frozen? ⟨g, i, none⟩ = false ∧ IIO (w.setCell ⟨g, i, none⟩ (.slice a' l c')) B S' a n c (yss.set i xs) := by
  obtain ⟨vs, h1, h2, h3⟩ := h
  have hlv : vs.length = n := by have := h1.1; omega
  obtain ⟨v, hv⟩ := some_of (show i < vs.length by omega)
  rcases ownsRow_shape h1 with ⟨h0, _⟩ | ⟨g, rfl, hB, hlt, hc, _⟩
  · omega
  · have hst := h1.stored i (.slice a' l c')
    have hin : ∀ {b : Option Addr} {m d S1 S2 : Nat} {ys : List Int}, OwI w S1 S2 b m d ys → OwI (w.setCell ⟨g, i, none⟩ (.slice a' l c')) S1 S2 b m d ys := by
      intro b m d S1 S2 ys hy
      exact ⟨hy.1.kept hst.2 (fun k hk e => by have := ne_block h1 hy g rfl; rw [hk] at this; exact this (by simpa using e.symm)), hy.2⟩
    have hnew : ∀ q, (Value.slice a' l c').ownBlock = some q → S ≤ q := hx.1.lo
    have hold : ∀ (k : Nat) (u : Value), vs[k]? = some u → ∀ q, u.ownBlock = some q → q < S := by
      intro k u hu q hq
      obtain ⟨zs, hz⟩ := some_of (show k < yss.length by rw [← h3.len]; exact lt_of_some hu)
      obtain ⟨a2, c2, e1, e2⟩ := h3.each k zs hz
      rw [hu] at e1
      obtain rfl := Option.some.inj e1
      exact e2.2 q hq
    refine ⟨g, rfl, hB, h2 g rfl, ⟨v, hc i v hv⟩, h1.frozenAt i, vs.set i (.slice a' l c'), hst.1, fun k hk => Nat.lt_of_lt_of_le (h2 k hk) hS, by simp [h3.len], fun k zs hz => ?_, ?_⟩
    · rw [List.getElem?_set] at hz ⊢
      by_cases hk : i = k
      · subst hk
        rw [if_pos rfl, if_pos (by rw [← h3.len]; omega)] at hz
        obtain rfl := Option.some.inj hz
        rw [if_pos rfl, if_pos (by omega)]
        have := hx.len
        exact ⟨a', c', by rw [this], by rw [this]; exact (hin hx).mono hBS (Nat.le_refl _)⟩
      · rw [if_neg hk] at hz ⊢
        obtain ⟨a2, c2, e1, e2⟩ := h3.each k zs hz
        exact ⟨a2, c2, e1, (hin e2).mono (Nat.le_refl _) hS⟩
    · intro x y u v' q hu hv' huq hvq
      rw [List.getElem?_set] at hu hv'
      by_cases hxi : i = x <;> by_cases hyi : i = y
      · omega
      · rw [if_pos hxi, if_pos (by omega)] at hu
        rw [if_neg hyi] at hv'
        obtain rfl := Option.some.inj hu
        have := hold y v' hv' q hvq
        have := hnew q huq
        omega
      · rw [if_neg hxi] at hu
        rw [if_pos hyi, if_pos (by omega)] at hv'
        obtain rfl := Option.some.inj hv'
        have := hold x u hu q huq
        have := hnew q hvq
        omega
      · rw [if_neg hxi] at hu
        rw [if_neg hyi] at hv'
        exact h3.apart x y u v' q hu hv' huq hvq

def fillII (xs : List (List Int)) (n k : Nat) : List (List Int) := xs.take k ++ List.replicate (n - k) []
theorem fillII_length {xs : List (List Int)} {n k : Nat} (h : xs.length = n) (hk : k ≤ n) : (fillII xs n k).length = n := by
  simp [fillII]; omega
theorem fillII_all {xs : List (List Int)} {n : Nat} (h : xs.length = n) : fillII xs n n = xs := by simp [fillII, ← h]
theorem fillII_succ {xs : List (List Int)} {n k : Nat} {x : List Int} (h : xs.length = n) (hk : k < n) (hx : xs[k]? = some x) : (fillII xs n k).set k x = fillII xs n (k + 1) := by
  subst h
  apply List.ext_getElem?
  intro j
  obtain ⟨_, rfl⟩ := List.getElem?_eq_some_iff.1 hx
  rw [List.getElem?_set]
  by_cases hj : k = j
  · subst hj
    rw [if_pos rfl, if_pos (by rw [fillII_length rfl (by omega)]; exact hk)]
    unfold fillII
    rw [List.getElem?_append_left (by simp; omega), List.getElem?_take, if_pos (by omega), List.getElem?_eq_getElem hk]
  · simp only [if_neg hj, fillII]
    rw [List.getElem?_append, List.getElem?_append]
    simp only [List.length_take, List.getElem?_take, List.getElem?_replicate]
    repeat' split
    all_goals first | rfl | omega
theorem IIO.made {w : World} {B n : Nat} {g : Nat} (h : w.ownsRow B 22 1 (.slice (some ⟨g, 0, none⟩) n n) n (List.replicate n (.slice none 0 0))) : IIO w B w.heap.size (some ⟨g, 0, none⟩) n n (List.replicate n []) := by
  refine ⟨_, h, fun k hk => (h.lt k hk).2, by simp, fun k xs hx => ?_, ?_⟩
  · rw [List.getElem?_replicate] at hx
    split at hx
    · rename_i hk
      obtain rfl := Option.some.inj hx
      exact ⟨none, 0, by rw [List.getElem?_replicate, if_pos hk]; rfl, ⟨rfl, World.ownsRow_nil _ _ _ _⟩, by simp [Value.ownBlock]⟩
    · cases hx
  · intro i j u v q hu _ huq _
    rw [List.getElem?_replicate] at hu
    split at hu
    · obtain rfl := Option.some.inj hu
      cases huq
    · cases hu

set_option maxRecDepth 100000 in
set_option maxHeartbeats 800000 in
theorem conv_II (a : Option Addr) (n c : Nat) (xs : List (List Int)) (w : World) (hr : RII w a xs) (hn : xs.length = n) (hb : n ≤ 1048576) (hsh : ShortII xs) :
    Calls Try.prog 40 #[.slice a n c] w fun e w' => ∃ a' c', e = .returned (.slice a' n c') ∧ IIO w' w.heap.size w'.heap.size a' n c' xs ∧ Below w.heap.size w w' := by
  have Hn := Lib.hid hn; clear hn
  have HSh := Lib.hid hsh; clear hsh
  obtain ⟨i0, hi, hz0, hz1, hz2⟩ := info_parts Try.info22
  go_enter Try.func40, Try.ntmps40
  go_wp2_with (first | (at_make; refine wpList_make_full _ rfl _ _ 29 rfl w.heap.size 22 i0 (.slice none 0 0) 1 Try.underlying29 hi hz0 hz1 .i64 .i64 _ _ n rfl rfl ?m1 ?m2 ?m3 ?m4 ?m5 ?_))
  case m1 => rfl
  case m2 => rfl
  case m3 => rw [hz2]; omega
  case m4 => unfold maxLen; omega
  case m5 => exact Nat.le_refl _
  intro w1 hown hg
  have hB : Below w.heap.size w w1 := (Below.refl _ _).grown hg (Nat.le_refl _) (by simp)
  have hrow : IIO w1 w.heap.size w1.heap.size (some ⟨w.heap.size, 0, none⟩) n n (fillII xs n 0) := by
    have e := toList_madeCells_one (.slice none 0 0) n
    have h1 : fillII xs n 0 = List.replicate n [] := by simp [fillII]
    rw [h1]
    exact IIO.made (by simpa [Value.cells, e] using hown)
  clear hown hg
  go_wp2
  go_loopw [4] (fun i wr => ∃ k : Nat, k ≤ n ∧ i = .int .i64 k ∧ IIO wr w.heap.size wr.heap.size (some ⟨w.heap.size, 0, none⟩) n n (fillII xs n k) ∧ Below w.heap.size w wr) (fun i _ => n - (intOf i).toNat)
  case atStart => exact ⟨0, Nat.zero_le _, rfl, hrow, hB⟩
  case round =>
    clear hrow hB
    obtain ⟨k, hk, rfl, ho, hbel⟩ := hrel
    obtain ⟨wo, rfl⟩ : ∃ wo : World, wo = wr := ⟨_, rfl⟩
    by_cases hlt : k < n
    · obtain ⟨b, off, rfl, hcell⟩ := (hr.below hbel).at (k := k) (by rw [Hn.out]; exact hlt)
      obtain ⟨x, hx⟩ := some_of (show k < xs.length by rw [Hn.out]; exact hlt)
      obtain ⟨a1, c1, hc, hri⟩ := hcell k x hx
      have hxl := HSh.out x (List.mem_of_getElem? hx)
      have Hx := Lib.hid hx; clear hx hcell
      obtain ⟨l, hl⟩ : ∃ l, x.length = l := ⟨_, rfl⟩
      rw [hl] at hc hxl
      have Hl := Lib.hid hl; clear hl
      have hs0 := hbel.size
      go_wp2_with fail
      refine (conv_I _ _ _ x _ hri Hl.out (by omega)).mono ?_
      rintro e w2 ⟨a2, c2, rfl, ho2, hb2⟩
      have ho1 := ho.below hb2
      obtain ⟨g, hg, hgB, hgS, ⟨old, hold⟩, hfz, hput⟩ := ho1.put hlt ho2 hs0 hb2.size
      simp only [Option.some.injEq, Addr.mk.injEq, and_true] at hg
      subst hg
      have hB2 := (hbel.trans (hb2.mono hs0)).setCell (p := ⟨w.heap.size, k, none⟩) (Nat.le_refl _) (.slice a2 l c2)
      rw [fillII_succ Hn.out hlt Hx.out] at hput
      have hput' : IIO (w2.setCell ⟨w.heap.size, k, none⟩ (.slice a2 l c2)) w.heap.size (w2.setCell ⟨w.heap.size, k, none⟩ (.slice a2 l c2)).heap.size (some ⟨w.heap.size, 0, none⟩) n n (fillII xs n (k + 1)) := hput.mono (by simp [World.setCell])
      clear ho ho1 ho2 hput hri hb2
      go_wp2
      go_roundw
      case rel => exact ⟨k + 1, by omega, by go_num, hput', hB2⟩
      case measure => simp [intOf]; omega
    · obtain rfl : k = n := by omega
      go_wp2
      go_ret
      rw [fillII_all Hn.out] at ho
      exact ⟨_, _, rfl, ho, hbel⟩

/-- lengths that fit in a word -/
def Wide_II (n : Nat) (xss : List (List Int)) : Prop := n ≤ 9223372036854775807 ∧ ∀ xs ∈ xss, xs.length ≤ 9223372036854775807
def Wf_II (xss : List (List Int)) : Prop := ∀ xs ∈ xss, ∀ n ∈ xs, (Lit.int .i64 n).wf = true
def ms_II (xss : List (List Int)) : Nat := xss.length + sz_II xss
theorem ms_II_len (xss : List (List Int)) : xss.length ≤ ms_II xss := Nat.le_add_right _ _
theorem ms_II_sz (xss : List (List Int)) : sz_II xss ≤ ms_II xss := Nat.le_add_left _ _
theorem ms_II_short (xss : List (List Int)) (h : ms_II xss ≤ 1048576) : ShortII xss := by
  intro xs hx
  have := sz_II_each hx
  have := ms_II_sz xss
  omega
theorem szl_II (a : Option Addr) (n c : Nat) (xs : List (List Int)) (left : Int) (w : World) (hr : RII w a xs) (hn : xs.length = n) (h0 : 0 ≤ left) (h1 : left ≤ 1048576) (hb : Wide_II n xs) :
    Calls Try.prog 38 #[.slice a n c, .int .i64 left] w fun e w' => e = .returned (.int .i64 (leftOf left (ms_II xs))) ∧ w = w' := by
  unfold ms_II
  rw [hn]
  exact szIntSS_any a n c xs left w hr hn h0 h1 hb.1 hb.2
end Go.Proofs.Ytleehkgfoicmdaa
