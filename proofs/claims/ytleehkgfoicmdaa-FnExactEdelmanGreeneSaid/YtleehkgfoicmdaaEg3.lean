/-
  Contracts of slices.Contains, and of inserted with coxeter true.
-/
import Derived.Test.YtleehkgfoicmdaaEg2
namespace Go.Proofs.Ytleehkgfoicmdaa
open Go.RowKit

set_option maxRecDepth 100000 in
set_option maxHeartbeats 800000 in
theorem indexOf_any (a : Option Addr) (n c : Nat) (xs : List Int) (x : Int) (w : World) (hr : RI w a xs) (hn : xs.length = n) (hb : n ≤ 17592186044416) :
    Calls Try.prog 147 #[.slice a n c, .int .i64 x] w fun e w' => ∃ r, e = .returned (.int .i64 r) ∧ Hid (decide (0 ≤ r) = xs.contains x) ∧ w = w' := by
  have Hn := Lib.hid hn; clear hn
  go_enter Try.func147, Try.ntmps147
  go_wp2
  go_loop [8] (fun i => ∃ k : Nat, k ≤ n ∧ i = .int .i64 k ∧ Hid (¬ x ∈ xs.take k)) (fun i => n - (intOf i).toNat)
  case atStart => exact ⟨0, Nat.zero_le _, rfl, by simp; exact trivial⟩
  case round =>
    obtain ⟨k, hk, rfl, HA⟩ := hrel
    by_cases hkl : k < n
    · obtain ⟨b, off, rfl, hcell⟩ := hr.at (k := k) (by rw [Hn.out]; exact hkl)
      obtain ⟨y, hy⟩ := some_at Hn.out hkl
      have hcy := hcell k y hy
      have Hy := Lib.hid hy; clear hy
      clear hcell
      by_cases hyx : x = y
      · have e1 : (x == y) = true := by simp [hyx]
        go_wp2
        go_ret
        have h1 : x ∈ xs := by rw [hyx]; exact List.mem_of_getElem? Hy.out
        have h2 : y ∈ xs := List.mem_of_getElem? Hy.out
        have h3 : (0 : Int) ≤ (k : Int) := by omega
        exact ⟨(k : Int), rfl, Lib.hid (by simp [h2, h3]), rfl⟩
      · have e1 : (x == y) = false := by simp [hyx]
        go_wp2
        go_round
        case rel => exact ⟨k + 1, by omega, by go_num, by
          show ¬ _
          rw [take_at Hy.out]
          simp only [List.mem_append, List.mem_singleton, not_or]
          exact ⟨HA.out, hyx⟩⟩
        case measure => simp [intOf]; omega
    · obtain rfl : k = n := by omega
      go_wp2
      go_ret
      have h1 : ¬ x ∈ xs := by have := HA.out; rw [List.take_of_length_le (by rw [Hn.out]; omega)] at this; exact this
      exact ⟨_, rfl, Lib.hid (by simp [h1]), rfl⟩
theorem contains_any (a : Option Addr) (n c : Nat) (xs : List Int) (x : Int) (w : World) (hr : RI w a xs) (hn : xs.length = n) (hb : n ≤ 17592186044416) :
    Calls Try.prog 128 #[.slice a n c, .int .i64 x] w fun e w' => e = .returned (.bool (xs.contains x)) ∧ Drew w w' := by
  go_enter Try.func128, Try.ntmps128
  go_wp2_with fail
  refine (indexOf_any _ _ _ xs x _ hr hn hb).mono ?_
  rintro e w1 ⟨r, rfl, Hr, rfl⟩
  go_wp2
  go_ret
  exact ⟨ret_bool Hr.out, Drew.refl _⟩

set_option maxRecDepth 100000 in
set_option maxHeartbeats 3200000 in
theorem insertedC_any (a : Option Addr) (n c : Nat) (xss : List (List Int)) (x : Int) (w : World) (hr : RII w a xss) (hn : xss.length = n) (hb : n ≤ 1048576) (hsh : ShortII xss) (hsm : AllSmall xss) (hx : -1048576 ≤ x ∧ x ≤ 1048576) :
    Calls Try.prog 97 #[.slice a n c, .int .i64 x, .bool true] w fun e w' => ∃ a' n' c' r, e = .returned (.tuple #[.slice a' n' c', .int .i64 r]) ∧ IIO w' w.heap.size w'.heap.size a' n' c' (egTab xss x).1 ∧ Hid (r = ((egTab xss x).2 : Int)) ∧ Below w.heap.size w w' := by
  have Hn := Lib.hid hn; clear hn
  have HSh := Lib.hid hsh
  have HSm := Lib.hid hsm; clear hsm
  have hb0 : Below w.heap.size w (w.alloc (.cells #[.int .i64 x] 3)) := (Below.refl _ _).alloc (Nat.le_refl _) _
  have hr0 := hr.below hb0
  have hsz0 : (w.alloc (.cells #[.int .i64 x] 3)).heap.size = w.heap.size + 1 := by simp
  have HX0 := Lib.hid (box_made w x)
  go_enter Try.func97, Try.ntmps97
  go_wp2_with fail
  refine (copyRows_any _ _ _ xss _ hr0 Hn.out hb hsh).mono ?_
  rintro e w1 ⟨a', c', rfl, ho1, hB1⟩
  have hX1 := HX0.out.below hB1
  rw [hsz0] at ho1 hB1
  have hB1' := hb0.trans (hB1.mono (by omega))
  clear hsh hb0 hr0 HX0
  go_wp2
  go_loopw [16] (fun iv wr => Hid (∃ (i : Nat) (x' : Int) (yss : List (List Int)), i ≤ n ∧ iv = .int .i64 i ∧ (-1048576 ≤ x' ∧ x' ≤ 1048576) ∧ OwI wr w.heap.size (w.heap.size + 1) (some ⟨w.heap.size, 0, none⟩) 1 1 [x'] ∧ IIO wr (w.heap.size + 1) wr.heap.size a' n c' yss ∧ EgAt xss x i x' yss) ∧ Below w.heap.size w wr ∧ w.heap.size + 1 ≤ wr.heap.size) (fun i _ => n - (intOf i).toNat)
  case atStart => exact ⟨⟨0, x, xss, Nat.zero_le _, rfl, hx, hX1, ho1, EgAt.start _ _⟩, hB1', by have := hB1.size; omega⟩
  case round =>
    clear ho1 hB1 hB1' hX1 hsz0
    obtain ⟨HV, hB, hbs⟩ := hrel
    obtain ⟨wo, rfl⟩ : ∃ wo : World, wo = wr := ⟨_, rfl⟩
    obtain ⟨i, x', yss, hi, rfl, hxb, hX, ho, hat⟩ := HV.out
    clear HV
    obtain ⟨hxc, hxf⟩ := box_cell hX
    by_cases hlt : i < n
    · obtain ⟨row, hrow⟩ := some_of (show i < xss.length by rw [Hn.out]; exact hlt)
      have hyr : yss[i]? = some row := by rw [drop_get hat.rest]; exact hrow
      have hrl := HSh.out row (List.mem_of_getElem? hrow)
      obtain ⟨g, a1, c1, rfl, hc, hfz, hio, hgrow⟩ := ho.grow hyr (Nat.le_refl _)
      obtain ⟨g0, a10, c10, e1, hc0, hio0, hset⟩ := ho.open hyr
      obtain rfl : g = g0 := by simpa using e1
      rw [hc] at hc0
      obtain ⟨rfl, rfl⟩ : a1 = a10 ∧ c1 = c10 := by simpa using hc0
      clear e1 hc0 hio0
      have Hat := Lib.hid hat; clear hat
      have Hrow := Lib.hid hrow; clear hrow
      have Hset := Lib.hid hset; clear hset
      have Hgrow := Lib.hid hgrow; clear hgrow
      have HO := Lib.hid ho; clear ho
      have HX := Lib.hid hX; clear hX
      obtain ⟨l, hl⟩ : ∃ l, row.length = l := ⟨_, rfl⟩
      rw [hl] at hc hio hrl
      have Hl := Lib.hid hl; clear hl
      have hltI : (i : Int) < (n : Int) := by omega
      have hle := bump_le row x'
      rw [Hl.out] at hle
      obtain ⟨k, hk⟩ : ∃ k, bump row x' = k := ⟨_, rfl⟩
      rw [hk] at hle
      have Hk := Lib.hid hk; clear hk
      by_cases hkl : k = l
      · go_wp2_with fail
        refine (isInt (indexFunc_any _ _ _ row x' _ _ hio.rd Hl.out (by omega) hxc) (show bumpOr row x' = -1 by rw [bumpOr, Hk.out, Hl.out, if_pos hkl])).mono ?_
        rintro e w2 ⟨rfl, rfl⟩
        have Hb := Lib.hid (show bump row x' = row.length by rw [Hk.out, Hl.out]; exact hkl)
        go_wp2_with (first | (at_builtin; go_loud (refine wpList_pushI (by rfl) (by rfl) _ _ (by rfl) hio (by rfl) (by rfl) (by omega) (by omega) ?_)))
        intro a2 c2 w2 ho2 hg2
        obtain ⟨h1, h2, h3, h4⟩ := Hgrow.out w2 a2 _ c2 _ ho2 (by rw [Hl.out]; exact hg2)
        rw [Hl.out] at h1
        have hd := Hat.out.done Hrow.out Hb.out
        have H3 := Lib.hid h3; clear h3
        have H4 := Lib.hid (h4.below hB (by omega) (by omega)); clear h4
        go_wp2
        go_ret2
        exact ⟨_, _, _, _, rfl, by rw [← hd.1]; simpa using H3.out.base (Nat.le_succ _), by rw [hd.2]; exact rfl, H4.out⟩
      · obtain ⟨y, hy⟩ := some_at (k := k) Hl.out (by omega)
        have hb2 : (k : Int) < (l : Int) := by omega
        have hk0 : ¬ (k : Int) < 0 := by omega
        obtain ⟨b, rfl, hBb, ⟨y2, hy2, hcy⟩, hf1⟩ := OI.cons hio.1 (show k < l by omega)
        obtain rfl : y = y2 := by rw [hy] at hy2; exact Option.some.inj hy2
        clear hy2
        have Hy := Lib.hid hy; clear hy
        have hyb2 := HSm.out row (List.mem_of_getElem? Hrow.out) y (List.mem_of_getElem? Hy.out)
        have q1 : IntKind.i64.wrap (x' + 1) = x' + 1 := IntWalk.i64_in _ (by omega)
        go_wp2_with fail
        refine (isInt (indexFunc_any _ _ _ row x' _ _ hio.rd Hl.out (by omega) hxc) (show bumpOr row x' = (k : Int) by rw [bumpOr, Hk.out, Hl.out, if_neg hkl])).mono ?_
        rintro e w2 ⟨rfl, rfl⟩
        by_cases hyx : y = x' + 1
        · subst hyx
          have heq : ((x' + 1 : Int) == x' + 1) = true := by simp
          cases hm : row.contains x'
          · have HN := Lib.hid (show ¬ x' ∈ row by intro h; simp [h] at hm)
            go_wp2
            go_quiet ((go_at_call 128; exact quiet (is (contains_any _ _ _ row x' _ (hio.rd.drew (Drew.drewN _ _)) Hl.out (by omega)) hm)))
            clear q1 heq
            go_wp2
            have hne : b ≠ w.heap.size := by omega
            have hxc' : (wo.drewN nq).cell? ⟨w.heap.size, 0, none⟩ = some (.int .i64 x') := by simpa using hxc
            have hxf' : (wo.drewN nq).frozen? ⟨w.heap.size, 0, none⟩ = false := by simpa using hxf
            have hcy' : (wo.drewN nq).cell? ⟨b, k, none⟩ = some (.int .i64 (x' + 1)) := by simpa using hcy
            have hf1' : (wo.drewN nq).frozen? ⟨b, k, none⟩ = false := by simpa using hf1
            have hB' : Below w.heap.size w (wo.drewN nq) := hB.trans (Drew.below ⟨nq, rfl⟩ _)
            have hod : IIO (wo.drewN nq) (w.heap.size + 1) wo.heap.size (some ⟨g, 0, none⟩) n c' yss := HO.out.below (Drew.below ⟨nq, rfl⟩ _)
            have hXd : OwI (wo.drewN nq) w.heap.size (w.heap.size + 1) (some ⟨w.heap.size, 0, none⟩) 1 1 [x'] := HX.out.below (Drew.below ⟨nq, rfl⟩ _)
            have hcd : (wo.drewN nq).cell? ⟨g, i, none⟩ = some (.slice (some ⟨b, 0, none⟩) l c1) := by simpa using hc
            have hsd : (wo.drewN nq).heap.size = wo.heap.size := rfl
            obtain ⟨wd, hwd⟩ : ∃ wd, wo.drewN nq = wd := ⟨_, rfl⟩
            rw [hwd] at hxc' hxf' hcy' hf1' hB' hod hXd hcd hsd ⊢
            obtain ⟨g0, a10, c10, e1, hc0, hio0, hset⟩ := hod.open hyr
            obtain rfl : g = g0 := by simpa using e1
            rw [hcd] at hc0
            obtain ⟨rfl, rfl⟩ : some ⟨b, 0, none⟩ = a10 ∧ c1 = c10 := by
              simp only [Option.some.injEq, Value.slice.injEq] at hc0
              exact ⟨hc0.1, hc0.2.2⟩
            rw [Hl.out] at hio0 hset
            have hst := hio0.1.store k x'
            have hw1 := hset _ (row.set k x') (by simp [Hl.out]) hst.1 hst.2
            have hX1 := hXd.only (Only.of_grown (v := .slice (some ⟨b, 0, none⟩) l c1) hst.2 hio0.1.lo hio0.2) (.inl (Nat.le_refl _))
            have hs2 := hX1.1.store 0 (x' + 1)
            have hX2 : OwI ((wd.setCell ⟨b, k, none⟩ (.int .i64 x')).setCell ⟨w.heap.size, 0, none⟩ (.int .i64 (x' + 1))) w.heap.size (w.heap.size + 1) (some ⟨w.heap.size, 0, none⟩) 1 1 [x' + 1] := ⟨hs2.1, hX1.2⟩
            have ho2 : Only w.heap.size (w.heap.size + 1) (wd.setCell ⟨b, k, none⟩ (.int .i64 x')) ((wd.setCell ⟨b, k, none⟩ (.int .i64 x')).setCell ⟨w.heap.size, 0, none⟩ (.int .i64 (x' + 1))) :=
              Only.of_grown (v := .slice (some ⟨w.heap.size, 0, none⟩) 1 1) hs2.2 hX1.1.lo hX1.2
            have hw2 := hw1.only ho2 (.inr (Nat.le_refl _))
            have hB1 : Below w.heap.size w (wd.setCell ⟨b, k, none⟩ (.int .i64 x')) := hB'.grown hst.2 (by omega) (by intro q hq; obtain rfl := Option.some.inj hq; omega)
            have hB2 := ho2.below hB1 (Nat.le_refl _) (by have := hst.2.size; omega)
            have hX3 := Lib.hid (hX2.below (Drew.below ⟨1, rfl⟩ _))
            have hw3 := Lib.hid (hw2.below (Drew.below ⟨1, rfl⟩ _))
            have hB3 := Lib.hid (hB2.trans (Drew.below ⟨1, rfl⟩ w.heap.size))
            clear hX2 hw2 hB2 hB1 ho2 hs2 hX1 hw1 hst hset hio0 hc0 hod hXd
            go_region
            go_wp2
            go_roundw
            case rel => exact ⟨⟨i + 1, x' + 1, _, by omega, by go_num, hyb2, hX3.out, hw3.out.mono (by simp; omega), Hat.out.next Hrow.out Hk.out Hy.out (fun h => HN.out h.2)⟩, hB3.out, by simp; omega⟩
            case measure => simp [intOf]; omega
          · have hmem : x' ∈ row := by simpa using hm
            have Hnext := Lib.hid (Hat.out.skip Hrow.out Hk.out Hy.out hmem)
            clear hmem
            go_wp2
            go_quiet ((go_at_call 128; exact quiet (is (contains_any _ _ _ row x' _ (hio.rd.drew (Drew.drewN _ _)) Hl.out (by omega)) hm)))
            clear heq
            have hB' : Below w.heap.size w (wo.drewN nq) := hB.trans (Drew.below ⟨nq, rfl⟩ _)
            have hod : IIO (wo.drewN nq) (w.heap.size + 1) wo.heap.size (some ⟨g, 0, none⟩) n c' yss := HO.out.below (Drew.below ⟨nq, rfl⟩ _)
            have hXd : OwI (wo.drewN nq) w.heap.size (w.heap.size + 1) (some ⟨w.heap.size, 0, none⟩) 1 1 [x'] := HX.out.below (Drew.below ⟨nq, rfl⟩ _)
            have hsd : (wo.drewN nq).heap.size = wo.heap.size := rfl
            obtain ⟨wd, hwd⟩ : ∃ wd, wo.drewN nq = wd := ⟨_, rfl⟩
            rw [hwd] at hB' hod hXd hsd ⊢
            obtain ⟨hxc2, hxf2⟩ := box_cell hXd
            have hs2 := hXd.1.store 0 (x' + 1)
            have hX2 : OwI (wd.setCell ⟨w.heap.size, 0, none⟩ (.int .i64 (x' + 1))) w.heap.size (w.heap.size + 1) (some ⟨w.heap.size, 0, none⟩) 1 1 [x' + 1] := ⟨hs2.1, hXd.2⟩
            have ho2 : Only w.heap.size (w.heap.size + 1) wd (wd.setCell ⟨w.heap.size, 0, none⟩ (.int .i64 (x' + 1))) :=
              Only.of_grown (v := .slice (some ⟨w.heap.size, 0, none⟩) 1 1) hs2.2 hXd.1.lo hXd.2
            have hw2 := hod.only ho2 (.inr (Nat.le_refl _))
            have hB2 := Lib.hid (ho2.below hB' (Nat.le_refl _) (by omega))
            have HX3 := Lib.hid hX2
            have HW3 := Lib.hid (hw2.mono (show wo.heap.size ≤ (wd.setCell ⟨w.heap.size, 0, none⟩ (.int .i64 (x' + 1))).heap.size by simp; omega))
            clear hX2 ho2 hs2 hw2 hod hXd
            go_wp2
            go_roundw
            case rel => exact ⟨⟨i + 1, x' + 1, yss, by omega, by go_num, hyb2, HX3.out, HW3.out, Hnext.out⟩, hB2.out, by simp; omega⟩
            case measure => simp [intOf]; omega
        · have heq : (y == x' + 1) = false := by simp [hyx]
          have HN := Lib.hid (show ¬ (y = x' + 1 ∧ x' ∈ row) from fun h => hyx h.1)
          go_wp2
          go_quiet (fail)
          clear q1 heq
          go_wp2
          have hne : b ≠ w.heap.size := by omega
          have hxc' : (wo.drewN nq).cell? ⟨w.heap.size, 0, none⟩ = some (.int .i64 x') := by simpa using hxc
          have hxf' : (wo.drewN nq).frozen? ⟨w.heap.size, 0, none⟩ = false := by simpa using hxf
          have hcy' : (wo.drewN nq).cell? ⟨b, k, none⟩ = some (.int .i64 y) := by simpa using hcy
          have hf1' : (wo.drewN nq).frozen? ⟨b, k, none⟩ = false := by simpa using hf1
          have hB' : Below w.heap.size w (wo.drewN nq) := hB.trans (Drew.below ⟨nq, rfl⟩ _)
          have hod : IIO (wo.drewN nq) (w.heap.size + 1) wo.heap.size (some ⟨g, 0, none⟩) n c' yss := HO.out.below (Drew.below ⟨nq, rfl⟩ _)
          have hXd : OwI (wo.drewN nq) w.heap.size (w.heap.size + 1) (some ⟨w.heap.size, 0, none⟩) 1 1 [x'] := HX.out.below (Drew.below ⟨nq, rfl⟩ _)
          have hcd : (wo.drewN nq).cell? ⟨g, i, none⟩ = some (.slice (some ⟨b, 0, none⟩) l c1) := by simpa using hc
          have hsd : (wo.drewN nq).heap.size = wo.heap.size := rfl
          obtain ⟨wd, hwd⟩ : ∃ wd, wo.drewN nq = wd := ⟨_, rfl⟩
          rw [hwd] at hxc' hxf' hcy' hf1' hB' hod hXd hcd hsd ⊢
          obtain ⟨g0, a10, c10, e1, hc0, hio0, hset⟩ := hod.open hyr
          obtain rfl : g = g0 := by simpa using e1
          rw [hcd] at hc0
          obtain ⟨rfl, rfl⟩ : some ⟨b, 0, none⟩ = a10 ∧ c1 = c10 := by
            simp only [Option.some.injEq, Value.slice.injEq] at hc0
            exact ⟨hc0.1, hc0.2.2⟩
          rw [Hl.out] at hio0 hset
          have hst := hio0.1.store k x'
          have hw1 := hset _ (row.set k x') (by simp [Hl.out]) hst.1 hst.2
          have hX1 := hXd.only (Only.of_grown (v := .slice (some ⟨b, 0, none⟩) l c1) hst.2 hio0.1.lo hio0.2) (.inl (Nat.le_refl _))
          have hs2 := hX1.1.store 0 y
          have hX2 : OwI ((wd.setCell ⟨b, k, none⟩ (.int .i64 x')).setCell ⟨w.heap.size, 0, none⟩ (.int .i64 y)) w.heap.size (w.heap.size + 1) (some ⟨w.heap.size, 0, none⟩) 1 1 [y] := ⟨hs2.1, hX1.2⟩
          have ho2 : Only w.heap.size (w.heap.size + 1) (wd.setCell ⟨b, k, none⟩ (.int .i64 x')) ((wd.setCell ⟨b, k, none⟩ (.int .i64 x')).setCell ⟨w.heap.size, 0, none⟩ (.int .i64 y)) :=
            Only.of_grown (v := .slice (some ⟨w.heap.size, 0, none⟩) 1 1) hs2.2 hX1.1.lo hX1.2
          have hw2 := hw1.only ho2 (.inr (Nat.le_refl _))
          have hB1 : Below w.heap.size w (wd.setCell ⟨b, k, none⟩ (.int .i64 x')) := hB'.grown hst.2 (by omega) (by intro q hq; obtain rfl := Option.some.inj hq; omega)
          have hB2 := ho2.below hB1 (Nat.le_refl _) (by have := hst.2.size; omega)
          have hX3 := Lib.hid (hX2.below (Drew.below ⟨1, rfl⟩ _))
          have hw3 := Lib.hid (hw2.below (Drew.below ⟨1, rfl⟩ _))
          have hB3 := Lib.hid (hB2.trans (Drew.below ⟨1, rfl⟩ w.heap.size))
          clear hX2 hw2 hB2 hB1 ho2 hs2 hX1 hw1 hst hset hio0 hc0 hod hXd
          go_region
          go_wp2
          go_roundw
          case rel => exact ⟨⟨i + 1, y, _, by omega, by go_num, hyb2, hX3.out, hw3.out.mono (by simp; omega), Hat.out.next Hrow.out Hk.out Hy.out HN.out⟩, hB3.out, by simp; omega⟩
          case measure => simp [intOf]; omega
    · obtain rfl : i = n := by omega
      have hml := ho.len
      have hd := hat.last Hn.out hml
      have H1 : OwI (wo.alloc (.cells #[.int .i64 x'] 3)) wo.heap.size (wo.alloc (.cells #[.int .i64 x'] 3)).heap.size (some ⟨wo.heap.size, 0, none⟩) 1 1 [x'] :=
        OwI.mk ⟨rfl, .inr ⟨wo.heap.size, 1, _, rfl, Nat.le_refl _, heap_alloc_new wo _, Nat.le_refl _, by unfold maxLen; omega, rfl, rfl⟩⟩
      have hb0 : Below wo.heap.size wo (wo.alloc (.cells #[.int .i64 x'] 3)) := (Below.refl _ _).alloc (Nat.le_refl _) _
      have hB1 := hB.trans (hb0.mono (by omega))
      have ho1 := ho.below hb0
      have hsz1 : (wo.alloc (.cells #[.int .i64 x'] 3)).heap.size = wo.heap.size + 1 := by simp
      clear hX
      go_wp2_with (first | (at_builtin; go_loud (refine wpList_pushII (by rfl) (by rfl) _ _ (by rfl) ho1 (by rfl) H1 (by omega) (by rw [hsz1]; rfl) (by omega) (by omega) (by omega) (Nat.le_refl _) ?_)))
      intro a3 c3 w3 ho3 hg3
      have hB3 := hg3.below hB1 (by omega) (fun k hk => by have := ho1.lo k hk; omega)
      clear ho1 H1 hB1 hb0 ho hB
      have ho4 := ho3.base (Nat.le_succ w.heap.size)
      clear ho3
      go_wp2
      go_ret2
      exact ⟨_, _, _, _, rfl, by first | exact ho4 | (rw [← hd.1]; exact ho4), by rw [hd.2]; exact rfl, hB3⟩
end Go.Proofs.Ytleehkgfoicmdaa
