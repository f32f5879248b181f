/-
  Contracts of l4Insert and l4Grown: the walks.
-/
import Derived.Test.YtleehkgfoicmdaaInsert
namespace Go.Proofs.Ytleehkgfoicmdaa
open Go.RowKit

theorem IIO.lo {w : World} {B S : Nat} {a : Option Addr} {n c : Nat} {xss : List (List Int)} (h : IIO w B S a n c xss) : ∀ k, (Value.slice a n c).ownBlock = some k → B ≤ k := by
  obtain ⟨vs, h1, _⟩ := h; exact fun k hk => (h1.lt k hk).1

set_option maxRecDepth 100000 in
set_option maxHeartbeats 3200000 in
theorem l4Insert_any (a : Option Addr) (n c : Nat) (xss : List (List Int)) (x : Int) (w : World) (hr : RII w a xss) (hn : xss.length = n) (hb : n ≤ 1048576) (hsh : ShortII xss) :
    Calls Try.prog 86 #[.slice a n c, .int .i64 x] w fun e w' => ∃ a' n' c' r, e = .returned (.tuple #[.slice a' n' c', .int .i64 r]) ∧ IIO w' w.heap.size w'.heap.size a' n' c' (insTab xss x).1 ∧ Hid (r = ((insTab xss x).2 : Int)) ∧ Below w.heap.size w w' := by
  have Hn := Lib.hid hn; clear hn
  have HSh := Lib.hid hsh
  go_enter Try.func86, Try.ntmps86
  go_wp2_with fail
  refine (l4Copy_any _ _ _ xss _ hr Hn.out hb hsh).mono ?_
  rintro e w1 ⟨a', c', rfl, ho1, hB1⟩
  clear hsh
  go_wp2
  go_loopw [1, 7] (fun xv iv wr => Hid (∃ (i : Nat) (x' : Int) (yss : List (List Int)), i ≤ n ∧ iv = .int .i64 i ∧ xv = .int .i64 x' ∧ IIO wr w.heap.size wr.heap.size a' n c' yss ∧ InsAt xss x i x' yss) ∧ Below w.heap.size w wr) (fun _ i _ => n - (intOf i).toNat)
  case atStart => exact ⟨⟨0, x, xss, Nat.zero_le _, rfl, rfl, ho1, InsAt.start _ _⟩, hB1⟩
  case round =>
    clear ho1 hB1
    obtain ⟨HV, hB⟩ := hrel
    obtain ⟨wo, rfl⟩ : ∃ wo : World, wo = wr := ⟨_, rfl⟩
    obtain ⟨i, x', yss, hi, rfl, rfl, ho, hat⟩ := HV.out
    clear HV
    have hbs := hB.size
    by_cases hlt : i < n
    · obtain ⟨row, hrow⟩ := some_of (show i < xss.length by rw [Hn.out]; exact hlt)
      have hyr : yss[i]? = some row := by rw [drop_get hat.rest]; exact hrow
      have hrl := HSh.out row (List.mem_of_getElem? hrow)
      obtain ⟨g, a1, c1, rfl, hc, hfz, hio, hgrow⟩ := ho.grow hyr (Nat.le_refl _)
      obtain ⟨g0, a10, c10, e1, hc0, hio0, hset⟩ := ho.open hyr
      obtain rfl : g = g0 := by simpa using e1
      rw [hc] at hc0
      obtain ⟨rfl, rfl⟩ : a1 = a10 ∧ c1 = c10 := by simpa using hc0
      clear e1 hc0 hio0
      have Hat := Lib.hid hat; clear hat
      have Hrow := Lib.hid hrow; clear hrow
      have Hyr := Lib.hid hyr; clear hyr
      have Hset := Lib.hid hset; clear hset
      have Hgrow := Lib.hid hgrow; clear hgrow
      have HO := Lib.hid ho; clear ho
      obtain ⟨l, hl⟩ : ∃ l, row.length = l := ⟨_, rfl⟩
      rw [hl] at hc hio hrl
      have Hl := Lib.hid hl; clear hl
      have hltI : (i : Int) < (n : Int) := by omega
      go_wp2
      go_loop [8] (fun kv => ∃ k : Nat, k ≤ l ∧ kv = .int .i64 k ∧ Hid (∀ j z, j < k → row[j]? = some z → z ≤ x')) (fun kv => l - (intOf kv).toNat)
      case atStart => exact ⟨0, Nat.zero_le _, rfl, by intro j z hj; omega⟩
      case round =>
        obtain ⟨k, hk, rfl, HA⟩ := hrel
        by_cases hkl : k < l
        · obtain ⟨b, off, hbo, hcell⟩ := hio.rd.at (k := k) (by rw [Hl.out]; exact hkl)
          subst hbo
          obtain ⟨y, hy⟩ := some_at Hl.out hkl
          have hcy := hcell k y hy
          have Hy := Lib.hid hy; clear hy
          clear hcell
          by_cases hyx : y ≤ x'
          · go_wp2
            go_round
            case rel => exact ⟨k + 1, by omega, by go_num, by
              intro j z hj hz
              rcases Nat.lt_or_ge j k with h | h
              · exact HA.out j z h hz
              · obtain rfl : j = k := by omega
                rw [Hy.out] at hz
                obtain rfl := Option.some.inj hz
                exact hyx⟩
            case measure => simp [intOf]; omega
          · have Hb := Lib.hid (bump_at HA.out Hy.out (by omega))
            have hkl2 : ((k : Int) == (l : Int)) = false := by rw [beq_eq_false_iff_ne]; omega
            obtain ⟨g1, hbo, hB1, ⟨y2, hy2, hc2⟩, hf1⟩ := OI.cons hio.1 hkl
            obtain ⟨rfl, rfl⟩ : b = g1 ∧ off = 0 := by simpa using hbo
            clear hbo hc2 hy2
            have hst := hio.1.store k x'
            have hio2 : IIO (wo.setCell ⟨b, k, none⟩ (.int .i64 x')) w.heap.size (wo.setCell ⟨b, k, none⟩ (.int .i64 x')).heap.size (some ⟨g, 0, none⟩) n c' (yss.set i (row.set k x')) := by
              have := Hset.out (wo.setCell ⟨b, k, none⟩ (.int .i64 x')) (row.set k x') (by simp) (by rw [Hl.out]; exact hst.1) (by rw [Hl.out]; exact hst.2)
              simpa using this
            have hgr : wo.grownBy (wo.setCell ⟨b, k, none⟩ (.int .i64 x')) (some b) := hst.2
            have hB2 : Below w.heap.size w (wo.setCell ⟨b, k, none⟩ (.int .i64 x')) := hB.grown hgr hbs (by intro q hq; obtain rfl := Option.some.inj hq; exact hB1)
            have HI := Lib.hid hio2; clear hio2 hst hgr
            simp only [Nat.zero_add] at hcy
            go_wp2
            go_roundw
            case rel => exact ⟨⟨i + 1, y, _, by omega, by go_num, rfl, HI.out, Hat.out.next Hrow.out Hb.out Hy.out⟩, hB2⟩
            case measure => simp [intOf]; omega
        · obtain rfl : k = l := by omega
          have Hb := Lib.hid (show bump row x' = row.length from bump_end (by rw [Hl.out]; exact HA.out))
          go_wp2_with (first | (at_builtin; go_loud (refine wpList_pushI (by rfl) (by rfl) _ _ (by rfl) (hio.mono (Nat.le_refl _) (Nat.le_refl _)) (by rfl) (by rfl) (by omega) (by omega) ?_)))
          intro a2 c2 w2 ho2 hg2
          obtain ⟨h1, h2, h3, h4⟩ := Hgrow.out w2 a2 _ c2 _ ho2 (by rw [Hl.out]; exact hg2)
          rw [Hl.out] at h1
          have hd := Hat.out.done Hrow.out Hb.out
          have H3 := Lib.hid h3; clear h3
          have H4 := Lib.hid (h4.below hB (Nat.le_refl _) hbs); clear h4
          go_wp2
          go_ret2
          exact ⟨_, _, _, _, rfl, by rw [← hd.1]; simpa using H3.out, by rw [hd.2]; exact rfl, H4.out⟩
    · obtain rfl : i = n := by omega
      have hml := ho.len
      have hd := hat.last Hn.out hml
      have H1 : OwI (wo.alloc (.cells #[.int .i64 x'] 3)) wo.heap.size (wo.alloc (.cells #[.int .i64 x'] 3)).heap.size (some ⟨wo.heap.size, 0, none⟩) 1 1 [x'] :=
        OwI.mk ⟨rfl, .inr ⟨wo.heap.size, 1, _, rfl, Nat.le_refl _, heap_alloc_new wo _, Nat.le_refl _, by unfold maxLen; omega, rfl, rfl⟩⟩
      have hb0 : Below wo.heap.size wo (wo.alloc (.cells #[.int .i64 x'] 3)) := (Below.refl _ _).alloc (Nat.le_refl _) _
      have hB1 := hB.trans (hb0.mono hbs)
      have ho1 := ho.below hb0
      have hsz1 : (wo.alloc (.cells #[.int .i64 x'] 3)).heap.size = wo.heap.size + 1 := by simp
      go_wp2_with (first | (at_builtin; go_loud (refine wpList_pushII (by rfl) (by rfl) _ _ (by rfl) ho1 (by rfl) H1 (by omega) (by rw [hsz1]; rfl) (by omega) (by omega) (by omega) (Nat.le_refl _) ?_)))
      intro a3 c3 w3 ho3 hg3
      have hB3 := hg3.below hB1 (by omega) ho1.lo
      clear ho1 H1 hB1 hb0 ho hB
      go_wp2
      go_ret2
      exact ⟨_, _, _, _, rfl, by first | exact ho3 | (rw [← hd.1]; exact ho3), by rw [hd.2]; exact rfl, hB3⟩

/-- a number put behind row r, or into a new row -/
def growTab (t : List (List Int)) (r : Nat) (x : Int) : List (List Int) := if r = t.length then t ++ [[x]] else t.set r (t.getD r [] ++ [x])
theorem growTab_end {t : List (List Int)} {n : Nat} (x : Int) (h : t.length = n) : growTab t n x = t ++ [[x]] := by rw [growTab, if_pos h.symm]
theorem growTab_row {t : List (List Int)} {r : Nat} {row : List Int} (x : Int) (h : t[r]? = some row) : growTab t r x = t.set r (row ++ [x]) := by
  have := (List.getElem?_eq_some_iff.1 h).1
  rw [growTab, if_neg (by omega), List.getD_eq_getElem?_getD, h]; rfl

set_option maxRecDepth 100000 in
set_option maxHeartbeats 1600000 in
theorem l4Grown_any (a : Option Addr) (n c : Nat) (xss : List (List Int)) (r : Nat) (R x : Int) (w : World) (hr : RII w a xss) (hn : xss.length = n) (hb : n ≤ 1048576) (hsh : ShortII xss) (hR : R = (r : Int)) (hrn : r ≤ n) :
    Calls Try.prog 87 #[.slice a n c, .int .i64 R, .int .i64 x] w fun e w' => ∃ a' n' c', e = .returned (.slice a' n' c') ∧ IIO w' w.heap.size w'.heap.size a' n' c' (growTab xss r x) ∧ Below w.heap.size w w' := by
  subst hR
  have Hn := Lib.hid hn; clear hn
  have HSh := Lib.hid hsh
  by_cases hlt : r < n
  · have hne : ((r : Int) == (n : Int)) = false := by rw [beq_eq_false_iff_ne]; omega
    have hltI : (r : Int) < (n : Int) := by omega
    go_enter Try.func87, Try.ntmps87
    go_wp2_with fail
    refine (l4Copy_any _ _ _ xss _ hr Hn.out hb hsh).mono ?_
    rintro e w1 ⟨a', c', rfl, ho, hB⟩
    clear hsh
    have hbs := hB.size
    obtain ⟨row, hrow⟩ := some_of (show r < xss.length by rw [Hn.out]; exact hlt)
    have hrl := HSh.out row (List.mem_of_getElem? hrow)
    obtain ⟨g, a1, c1, rfl, hc, hfz, hio, hgrow⟩ := ho.grow hrow (Nat.le_refl _)
    have Hm := Lib.hid (growTab_row x hrow); clear hrow
    have Hgrow := Lib.hid hgrow; clear hgrow
    obtain ⟨l, hl⟩ : ∃ l, row.length = l := ⟨_, rfl⟩
    rw [hl] at hc hio hrl
    have Hl := Lib.hid hl; clear hl
    go_wp2_with (first | (at_builtin; go_loud (refine wpList_pushI (by rfl) (by rfl) _ _ (by rfl) (hio.mono (Nat.le_refl _) (Nat.le_refl _)) (by rfl) (by rfl) (by omega) (by omega) ?_)))
    intro a2 c2 w2 ho2 hg2
    obtain ⟨h1, h2, h3, h4⟩ := Hgrow.out w2 a2 _ c2 _ ho2 (by rw [Hl.out]; exact hg2)
    rw [Hl.out] at h1
    have H3 := Lib.hid h3; clear h3
    have H4 := Lib.hid (h4.below hB (Nat.le_refl _) hbs); clear h4
    go_wp2
    go_ret
    exact ⟨_, _, _, rfl, by rw [Hm.out]; simpa using H3.out, H4.out⟩
  · obtain rfl : r = n := by omega
    have Hm := Lib.hid (growTab_end x Hn.out)
    go_enter Try.func87, Try.ntmps87
    go_wp2_with fail
    refine (l4Copy_any _ _ _ xss _ hr Hn.out hb hsh).mono ?_
    rintro e wo ⟨a', c', rfl, ho, hB⟩
    clear hsh
    have hbs := hB.size
    have H1 : OwI (wo.alloc (.cells #[.int .i64 x] 3)) wo.heap.size (wo.alloc (.cells #[.int .i64 x] 3)).heap.size (some ⟨wo.heap.size, 0, none⟩) 1 1 [x] :=
      OwI.mk ⟨rfl, .inr ⟨wo.heap.size, 1, _, rfl, Nat.le_refl _, heap_alloc_new wo _, Nat.le_refl _, by unfold maxLen; omega, rfl, rfl⟩⟩
    have hb0 : Below wo.heap.size wo (wo.alloc (.cells #[.int .i64 x] 3)) := (Below.refl _ _).alloc (Nat.le_refl _) _
    have hB1 := hB.trans (hb0.mono hbs)
    have ho1 := ho.below hb0
    have hsz1 : (wo.alloc (.cells #[.int .i64 x] 3)).heap.size = wo.heap.size + 1 := by simp
    go_wp2_with (first | (at_builtin; go_loud (refine wpList_pushII (by rfl) (by rfl) _ _ (by rfl) ho1 (by rfl) H1 (by omega) (by rw [hsz1]; rfl) (by omega) (by omega) (by omega) (Nat.le_refl _) ?_)))
    intro a3 c3 w3 ho3 hg3
    have hB3 := hg3.below hB1 (by omega) ho1.lo
    clear ho1 H1 hB1 hb0 ho hB
    go_wp2
    go_ret
    exact ⟨_, _, _, rfl, by rw [Hm.out]; exact ho3, hB3⟩
end Go.Proofs.Ytleehkgfoicmdaa
