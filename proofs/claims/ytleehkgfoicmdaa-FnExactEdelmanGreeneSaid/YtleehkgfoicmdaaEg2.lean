/-
  Contract of l4Edelman.
-/
import Derived.Test.YtleehkgfoicmdaaEg
namespace Go.Proofs.Ytleehkgfoicmdaa
open Go.RowKit

set_option maxHeartbeats 400000 in
theorem l1Has_same (a : Option Addr) (n c : Nat) (xs : List Int) (x : Int) (w : World) (hr : RI w a xs) (hn : xs.length = n) (hb : n ≤ 17592186044416) :
    Calls Try.prog 137 #[.slice a n c, .int .i64 x] w fun e w' => e = .returned (.bool (xs.contains x)) ∧ w = w' := by
  have Hn := Lib.hid hn; clear hn
  go_enter Try.func137, Try.ntmps137
  go_wp2
  go_loop [5] (fun i => ∃ k : Nat, k ≤ n ∧ i = .int .i64 k ∧ Hid ((xs.take k).contains x = false)) (fun i => n - (intOf i).toNat)
  case atStart => exact ⟨0, Nat.zero_le _, rfl, by exact rfl⟩
  case round =>
    obtain ⟨k, hk, rfl, HA⟩ := hrel
    by_cases hlt : k < n
    · obtain ⟨b, off, rfl, hcell⟩ := hr.at (k := k) (by rw [Hn.out]; exact hlt)
      obtain ⟨y, hy⟩ := some_at Hn.out hlt
      have hc := hcell k y hy
      have Hy := Lib.hid hy; clear hy
      clear hcell
      by_cases h1 : y = x
      · have hb1 : (y == x) = true := by simp [h1]
        go_wp2
        go_ret
        exact ⟨ret_bool (by have := List.mem_of_getElem? Hy.out; rw [h1] at this; simp [this]), rfl⟩
      · have hb1 : (y == x) = false := by simp [h1]
        go_wp2
        go_round
        case rel => exact ⟨k + 1, by omega, by go_num, by
          rw [List.take_add_one, Hy.out]
          have := HA.out
          simp only [List.contains_eq_mem, decide_eq_false_iff_not] at this
          simp [this]
          intro h; exact h1 h.symm⟩
        case measure => simp [intOf]; omega
    · obtain rfl : k = n := by omega
      go_wp2
      go_ret
      exact ⟨ret_bool (by have := HA.out; rw [List.take_of_length_le (by rw [Hn.out]; omega)] at this; rw [← this]; simp), rfl⟩

set_option maxRecDepth 100000 in
set_option maxHeartbeats 3200000 in
theorem l4Edelman_any (a : Option Addr) (n c : Nat) (xss : List (List Int)) (x : Int) (w : World) (hr : RII w a xss) (hn : xss.length = n) (hb : n ≤ 1048576) (hsh : ShortII xss) (hsm : AllSmall xss) (hris : AllRising xss) (hx : -1048576 ≤ x ∧ x ≤ 1048576) :
    Calls Try.prog 113 #[.slice a n c, .int .i64 x] w fun e w' => ∃ a' n' c' r, e = .returned (.tuple #[.slice a' n' c', .int .i64 r]) ∧ IIO w' w.heap.size w'.heap.size a' n' c' (egTab xss x).1 ∧ Hid (r = ((egTab xss x).2 : Int)) ∧ Below w.heap.size w w' := by
  have Hn := Lib.hid hn; clear hn
  have HSh := Lib.hid hsh
  have HSm := Lib.hid hsm; clear hsm
  have HRis := Lib.hid hris; clear hris
  go_enter Try.func113, Try.ntmps113
  go_wp2_with fail
  refine (l4Copy_any _ _ _ xss _ hr Hn.out hb hsh).mono ?_
  rintro e w1 ⟨a', c', rfl, ho1, hB1⟩
  clear hsh
  go_wp2
  go_loopw [1, 7] (fun xv iv wr => Hid (∃ (i : Nat) (x' : Int) (yss : List (List Int)), i ≤ n ∧ iv = .int .i64 i ∧ xv = .int .i64 x' ∧ (-1048576 ≤ x' ∧ x' ≤ 1048576) ∧ IIO wr w.heap.size wr.heap.size a' n c' yss ∧ EgAt xss x i x' yss) ∧ Below w.heap.size w wr) (fun _ i _ => n - (intOf i).toNat)
  case atStart => exact ⟨⟨0, x, xss, Nat.zero_le _, rfl, rfl, hx, ho1, EgAt.start _ _⟩, hB1⟩
  case round =>
    clear ho1 hB1
    obtain ⟨HV, hB⟩ := hrel
    obtain ⟨wo, rfl⟩ : ∃ wo : World, wo = wr := ⟨_, rfl⟩
    obtain ⟨i, x', yss, hi, rfl, rfl, hxb, ho, hat⟩ := HV.out
    clear HV
    have hbs := hB.size
    by_cases hlt : i < n
    · obtain ⟨row, hrow⟩ := some_of (show i < xss.length by rw [Hn.out]; exact hlt)
      have hyr : yss[i]? = some row := by rw [drop_get hat.rest]; exact hrow
      have hrl := HSh.out row (List.mem_of_getElem? hrow)
      obtain ⟨g, a1, c1, rfl, hc, hfz, hio, hgrow⟩ := ho.grow hyr (Nat.le_refl _)
      obtain ⟨g0, a10, c10, e1, hc0, hio0, hset⟩ := ho.open hyr
      obtain rfl : g = g0 := by simpa using e1
      rw [hc] at hc0
      obtain ⟨rfl, rfl⟩ : a1 = a10 ∧ c1 = c10 := by simpa using hc0
      clear e1 hc0 hio0
      have Hat := Lib.hid hat; clear hat
      have Hrow := Lib.hid hrow; clear hrow
      have Hyr := Lib.hid hyr; clear hyr
      have Hset := Lib.hid hset; clear hset
      have Hgrow := Lib.hid hgrow; clear hgrow
      have HO := Lib.hid ho; clear ho
      obtain ⟨l, hl⟩ : ∃ l, row.length = l := ⟨_, rfl⟩
      rw [hl] at hc hio hrl
      have Hl := Lib.hid hl; clear hl
      have hltI : (i : Int) < (n : Int) := by omega
      have Hsr := Lib.hid (HSm.out row (List.mem_of_getElem? Hrow.out))
      have q1 : IntKind.i64.wrap (x' + 1) = x' + 1 := IntWalk.i64_in _ (by omega)
      cases hm : row.contains x'
      · have HN := Lib.hid (show ∀ (y : Int) (k : Nat), row[k]? = some y → ¬ (y = x' + 1 ∧ x' ∈ row) by
          rintro y k hy ⟨_, h⟩; simp [h] at hm)
        go_wp2_with fail
        refine (is (l1Has_same _ _ _ row x' _ hio.rd Hl.out (by omega)) hm).mono ?_
        rintro e w2 ⟨rfl, rfl⟩
        go_wp2
        go_loop [8] (fun kv => ∃ k : Nat, k ≤ l ∧ kv = .int .i64 k ∧ Hid (∀ j z, j < k → row[j]? = some z → z ≤ x')) (fun kv => l - (intOf kv).toNat)
        case atStart => exact ⟨0, Nat.zero_le _, rfl, by intro j z hj; omega⟩
        case round =>
          obtain ⟨k, hk, rfl, HA⟩ := hrel
          by_cases hkl : k < l
          · obtain ⟨b, off, hbo, hcell⟩ := hio.rd.at (k := k) (by rw [Hl.out]; exact hkl)
            subst hbo
            obtain ⟨y, hy⟩ := some_at Hl.out hkl
            have hcy := hcell k y hy
            have Hy := Lib.hid hy; clear hy
            clear hcell
            by_cases hyx : y ≤ x'
            · go_wp2
              go_round
              case rel => exact ⟨k + 1, by omega, by go_num, by
                intro j z hj hz
                rcases Nat.lt_or_ge j k with h | h
                · exact HA.out j z h hz
                · obtain rfl : j = k := by omega
                  rw [Hy.out] at hz
                  obtain rfl := Option.some.inj hz
                  exact hyx⟩
              case measure => simp [intOf]; omega
            · have Hb := Lib.hid (bump_at HA.out Hy.out (by omega))
              have hkl2 : ((k : Int) == (l : Int)) = false := by rw [beq_eq_false_iff_ne]; omega
              obtain ⟨g1, hbo, hB1, ⟨y2, hy2, hc2⟩, hf1⟩ := OI.cons hio.1 hkl
              obtain ⟨rfl, rfl⟩ : b = g1 ∧ off = 0 := by simpa using hbo
              clear hbo hc2 hy2
              have hst := hio.1.store k x'
              have hio2 : IIO (wo.setCell ⟨b, k, none⟩ (.int .i64 x')) w.heap.size (wo.setCell ⟨b, k, none⟩ (.int .i64 x')).heap.size (some ⟨g, 0, none⟩) n c' (yss.set i (row.set k x')) := by
                have := Hset.out (wo.setCell ⟨b, k, none⟩ (.int .i64 x')) (row.set k x') (by simp) (by rw [Hl.out]; exact hst.1) (by rw [Hl.out]; exact hst.2)
                simpa using this
              have hgr : wo.grownBy (wo.setCell ⟨b, k, none⟩ (.int .i64 x')) (some b) := hst.2
              have hB2 : Below w.heap.size w (wo.setCell ⟨b, k, none⟩ (.int .i64 x')) := hB.grown hgr hbs (by intro q hq; obtain rfl := Option.some.inj hq; exact hB1)
              have HI := Lib.hid hio2; clear hio2 hst hgr
              simp only [Nat.zero_add] at hcy
              go_wp2
              go_roundw
              case rel => exact ⟨⟨i + 1, y, _, by omega, by go_num, rfl, Hsr.out y (List.mem_of_getElem? Hy.out), HI.out, Hat.out.next Hrow.out Hb.out Hy.out (HN.out y k Hy.out)⟩, hB2⟩
              case measure => simp [intOf]; omega
          · obtain rfl : k = l := by omega
            have Hb := Lib.hid (show bump row x' = row.length from bump_end (by rw [Hl.out]; exact HA.out))
            go_wp2_with (first | (at_builtin; go_loud (refine wpList_pushI (by rfl) (by rfl) _ _ (by rfl) (hio.mono (Nat.le_refl _) (Nat.le_refl _)) (by rfl) (by rfl) (by omega) (by omega) ?_)))
            intro a2 c2 w2 ho2 hg2
            obtain ⟨h1, h2, h3, h4⟩ := Hgrow.out w2 a2 _ c2 _ ho2 (by rw [Hl.out]; exact hg2)
            rw [Hl.out] at h1
            have hd := Hat.out.done Hrow.out Hb.out
            have H3 := Lib.hid h3; clear h3
            have H4 := Lib.hid (h4.below hB (Nat.le_refl _) hbs); clear h4
            go_wp2
            go_ret2
            exact ⟨_, _, _, _, rfl, by rw [← hd.1]; simpa using H3.out, by rw [hd.2]; exact rfl, H4.out⟩
      · cases hm1 : row.contains (x' + 1)
        · have HN := Lib.hid (show ∀ (y : Int) (k : Nat), row[k]? = some y → ¬ (y = x' + 1 ∧ x' ∈ row) by
            rintro y k hy ⟨h, _⟩
            have := List.mem_of_getElem? hy
            rw [h] at this
            simp [this] at hm1)
          go_wp2_with fail
          refine (is (l1Has_same _ _ _ row x' _ hio.rd Hl.out (by omega)) hm).mono ?_
          rintro e w2 ⟨rfl, rfl⟩
          go_wp2_with fail
          refine (is (l1Has_same _ _ _ row (x' + 1) _ hio.rd Hl.out (by omega)) hm1).mono ?_
          rintro e w2 ⟨rfl, rfl⟩
          go_wp2
          go_loop [8] (fun kv => ∃ k : Nat, k ≤ l ∧ kv = .int .i64 k ∧ Hid (∀ j z, j < k → row[j]? = some z → z ≤ x')) (fun kv => l - (intOf kv).toNat)
          case atStart => exact ⟨0, Nat.zero_le _, rfl, by intro j z hj; omega⟩
          case round =>
            obtain ⟨k, hk, rfl, HA⟩ := hrel
            by_cases hkl : k < l
            · obtain ⟨b, off, hbo, hcell⟩ := hio.rd.at (k := k) (by rw [Hl.out]; exact hkl)
              subst hbo
              obtain ⟨y, hy⟩ := some_at Hl.out hkl
              have hcy := hcell k y hy
              have Hy := Lib.hid hy; clear hy
              clear hcell
              by_cases hyx : y ≤ x'
              · go_wp2
                go_round
                case rel => exact ⟨k + 1, by omega, by go_num, by
                  intro j z hj hz
                  rcases Nat.lt_or_ge j k with h | h
                  · exact HA.out j z h hz
                  · obtain rfl : j = k := by omega
                    rw [Hy.out] at hz
                    obtain rfl := Option.some.inj hz
                    exact hyx⟩
                case measure => simp [intOf]; omega
              · have Hb := Lib.hid (bump_at HA.out Hy.out (by omega))
                have hkl2 : ((k : Int) == (l : Int)) = false := by rw [beq_eq_false_iff_ne]; omega
                obtain ⟨g1, hbo, hB1, ⟨y2, hy2, hc2⟩, hf1⟩ := OI.cons hio.1 hkl
                obtain ⟨rfl, rfl⟩ : b = g1 ∧ off = 0 := by simpa using hbo
                clear hbo hc2 hy2
                have hst := hio.1.store k x'
                have hio2 : IIO (wo.setCell ⟨b, k, none⟩ (.int .i64 x')) w.heap.size (wo.setCell ⟨b, k, none⟩ (.int .i64 x')).heap.size (some ⟨g, 0, none⟩) n c' (yss.set i (row.set k x')) := by
                  have := Hset.out (wo.setCell ⟨b, k, none⟩ (.int .i64 x')) (row.set k x') (by simp) (by rw [Hl.out]; exact hst.1) (by rw [Hl.out]; exact hst.2)
                  simpa using this
                have hgr : wo.grownBy (wo.setCell ⟨b, k, none⟩ (.int .i64 x')) (some b) := hst.2
                have hB2 : Below w.heap.size w (wo.setCell ⟨b, k, none⟩ (.int .i64 x')) := hB.grown hgr hbs (by intro q hq; obtain rfl := Option.some.inj hq; exact hB1)
                have HI := Lib.hid hio2; clear hio2 hst hgr
                simp only [Nat.zero_add] at hcy
                go_wp2
                go_roundw
                case rel => exact ⟨⟨i + 1, y, _, by omega, by go_num, rfl, Hsr.out y (List.mem_of_getElem? Hy.out), HI.out, Hat.out.next Hrow.out Hb.out Hy.out (HN.out y k Hy.out)⟩, hB2⟩
                case measure => simp [intOf]; omega
            · obtain rfl : k = l := by omega
              have Hb := Lib.hid (show bump row x' = row.length from bump_end (by rw [Hl.out]; exact HA.out))
              go_wp2_with (first | (at_builtin; go_loud (refine wpList_pushI (by rfl) (by rfl) _ _ (by rfl) (hio.mono (Nat.le_refl _) (Nat.le_refl _)) (by rfl) (by rfl) (by omega) (by omega) ?_)))
              intro a2 c2 w2 ho2 hg2
              obtain ⟨h1, h2, h3, h4⟩ := Hgrow.out w2 a2 _ c2 _ ho2 (by rw [Hl.out]; exact hg2)
              rw [Hl.out] at h1
              have hd := Hat.out.done Hrow.out Hb.out
              have H3 := Lib.hid h3; clear h3
              have H4 := Lib.hid (h4.below hB (Nat.le_refl _) hbs); clear h4
              go_wp2
              go_ret2
              exact ⟨_, _, _, _, rfl, by rw [← hd.1]; simpa using H3.out, by rw [hd.2]; exact rfl, H4.out⟩
        · have hmem : x' ∈ row := by simpa using hm
          have hmem1 : x' + 1 ∈ row := by simpa using hm1
          have Hnext := Lib.hid (Hat.out.skip Hrow.out rfl (eg_test (HRis.out row (List.mem_of_getElem? Hrow.out)) hmem hmem1) hmem)
          have hxb1 := Hsr.out _ hmem1
          clear hmem hmem1
          go_wp2_with fail
          refine (is (l1Has_same _ _ _ row x' _ hio.rd Hl.out (by omega)) hm).mono ?_
          rintro e w2 ⟨rfl, rfl⟩
          go_wp2_with fail
          refine (is (l1Has_same _ _ _ row (x' + 1) _ hio.rd Hl.out (by omega)) hm1).mono ?_
          rintro e w2 ⟨rfl, rfl⟩
          clear hm hm1 hio hc hfz
          go_wp2
          go_roundw
          case rel => exact ⟨⟨i + 1, x' + 1, yss, by omega, by go_num, by go_num, hxb1, HO.out, Hnext.out⟩, hB⟩
          case measure => simp [intOf]; omega
    · obtain rfl : i = n := by omega
      have hml := ho.len
      have hd := hat.last Hn.out hml
      have H1 : OwI (wo.alloc (.cells #[.int .i64 x'] 3)) wo.heap.size (wo.alloc (.cells #[.int .i64 x'] 3)).heap.size (some ⟨wo.heap.size, 0, none⟩) 1 1 [x'] :=
        OwI.mk ⟨rfl, .inr ⟨wo.heap.size, 1, _, rfl, Nat.le_refl _, heap_alloc_new wo _, Nat.le_refl _, by unfold maxLen; omega, rfl, rfl⟩⟩
      have hb0 : Below wo.heap.size wo (wo.alloc (.cells #[.int .i64 x'] 3)) := (Below.refl _ _).alloc (Nat.le_refl _) _
      have hB1 := hB.trans (hb0.mono hbs)
      have ho1 := ho.below hb0
      have hsz1 : (wo.alloc (.cells #[.int .i64 x'] 3)).heap.size = wo.heap.size + 1 := by simp
      go_wp2_with (first | (at_builtin; go_loud (refine wpList_pushII (by rfl) (by rfl) _ _ (by rfl) ho1 (by rfl) H1 (by omega) (by rw [hsz1]; rfl) (by omega) (by omega) (by omega) (Nat.le_refl _) ?_)))
      intro a3 c3 w3 ho3 hg3
      have hB3 := hg3.below hB1 (by omega) ho1.lo
      clear ho1 H1 hB1 hb0 ho hB
      go_wp2
      go_ret2
      exact ⟨_, _, _, _, rfl, by first | exact ho3 | (rw [← hd.1]; exact ho3), by rw [hd.2]; exact rfl, hB3⟩

end Go.Proofs.Ytleehkgfoicmdaa
