/-
  Contracts of slices.IndexFunc with inserted's test, and of inserted.
-/
import Derived.Test.YtleehkgfoicmdaaInsert2
import Derived.RegionTactic
import Derived.ChangeAlike
namespace Go.Proofs.Ytleehkgfoicmdaa
open Go.RowKit

theorem inserted1_any (y x : Int) (g : Nat) (w : World) (h : w.cell? ⟨g, 0, none⟩ = some (.int .i64 x)) :
    Calls Try.prog 127 #[.int .i64 y, .pointer (some ⟨g, 0, none⟩)] w fun e w' => e = .returned (.bool (decide (x < y))) ∧ w = w' := by
  go_enter Try.func127, Try.ntmps127
  go_wp2
  go_ret
  exact ⟨rfl, rfl⟩

/-- where the first number above x lies, or -1 -/
def bumpOr (row : List Int) (x : Int) : Int := if bump row x = row.length then -1 else (bump row x : Int)
set_option maxRecDepth 100000 in
set_option maxHeartbeats 800000 in
theorem indexFunc_any (a : Option Addr) (n c : Nat) (xs : List Int) (x : Int) (g : Nat) (w : World) (hr : RI w a xs) (hn : xs.length = n) (hb : n ≤ 17592186044416) (hx : w.cell? ⟨g, 0, none⟩ = some (.int .i64 x)) :
    Calls Try.prog 124 #[.slice a n c, .func (.func 127) #[] #[.pointer (some ⟨g, 0, none⟩)]] w fun e w' => e = .returned (.int .i64 (bumpOr xs x)) ∧ w = w' := by
  have Hn := Lib.hid hn; clear hn
  go_enter Try.func124, Try.ntmps124
  go_wp2
  go_loop [8] (fun i => ∃ k : Nat, k ≤ n ∧ i = .int .i64 k ∧ Hid (∀ j z, j < k → xs[j]? = some z → z ≤ x)) (fun i => n - (intOf i).toNat)
  case atStart => exact ⟨0, Nat.zero_le _, rfl, by intro j z hj; omega⟩
  case round =>
    obtain ⟨k, hk, rfl, HA⟩ := hrel
    by_cases hkl : k < n
    · obtain ⟨b, off, rfl, hcell⟩ := hr.at (k := k) (by rw [Hn.out]; exact hkl)
      obtain ⟨y, hy⟩ := some_at Hn.out hkl
      have hcy := hcell k y hy
      have Hy := Lib.hid hy; clear hy
      clear hcell
      by_cases hyx : y ≤ x
      · have hd : decide (x < y) = false := by simp; omega
        go_wp2_with fail
        refine (is (inserted1_any y x g _ hx) hd).mono ?_
        rintro e w1 ⟨rfl, rfl⟩
        go_wp2
        go_round
        case rel => exact ⟨k + 1, by omega, by go_num, by
          intro j z hj hz
          rcases Nat.lt_or_ge j k with h | h
          · exact HA.out j z h hz
          · obtain rfl : j = k := by omega
            rw [Hy.out] at hz
            obtain rfl := Option.some.inj hz
            exact hyx⟩
        case measure => simp [intOf]; omega
      · have hd : decide (x < y) = true := by simp; omega
        go_wp2_with fail
        refine (is (inserted1_any y x g _ hx) hd).mono ?_
        rintro e w1 ⟨rfl, rfl⟩
        go_wp2
        go_ret
        exact ⟨ret_int (by rw [bumpOr, bump_at HA.out Hy.out (by omega), Hn.out, if_neg (by omega)]), rfl⟩
    · obtain rfl : k = n := by omega
      go_wp2
      go_ret
      exact ⟨ret_int (by rw [bumpOr, if_pos (bump_end (by rw [Hn.out]; exact HA.out))]), rfl⟩

theorem cell_after {w w' : World} {B S : Nat} (h : Only B S w w') {p : Addr} {v : Value} (hp : w.cell? p = some v) (hb : p.block < B) : w'.cell? p = some v := by
  have hl := World.block_lt_of_cell? w p hp
  have := h.block p.block hl (by omega)
  rw [← hp]
  unfold World.cell?
  rw [this]
theorem frozen_after {w w' : World} {B S : Nat} (h : Only B S w w') {p : Addr} {f : Bool} (hp : w.frozen? p = f) (hl : p.block < w.heap.size) (hb : p.block < B) : w'.frozen? p = f := by
  have := h.block p.block hl (by omega)
  rw [← hp]
  unfold World.frozen?
  rw [this]

theorem IIO.base {w : World} {B B' S : Nat} {a : Option Addr} {n c : Nat} {xss : List (List Int)} (h : IIO w B S a n c xss) (hB : B' ≤ B) : IIO w B' S a n c xss := by
  obtain ⟨vs, h1, h2, h3⟩ := h
  exact ⟨vs, ownsRow_base h1 hB, h2, h3.len, fun k xs hx => by obtain ⟨a, c, e, ho⟩ := h3.each k xs hx; exact ⟨a, c, e, ho.mono hB (Nat.le_refl _)⟩, h3.apart⟩
theorem box_made (w : World) (x : Int) : OwI (w.alloc (.cells #[.int .i64 x] 3)) w.heap.size (w.heap.size + 1) (some ⟨w.heap.size, 0, none⟩) 1 1 [x] :=
  ⟨OS.of ⟨rfl, .inr ⟨w.heap.size, 1, _, rfl, Nat.le_refl _, heap_alloc_new w _, Nat.le_refl _, by unfold maxLen; omega, rfl, rfl⟩⟩, fun k hk => by simp [Value.ownBlock] at hk; omega⟩
theorem box_cell {w : World} {B S : Nat} {g : Nat} {x : Int} (h : OwI w B S (some ⟨g, 0, none⟩) 1 1 [x]) : w.cell? ⟨g, 0, none⟩ = some (.int .i64 x) ∧ w.frozen? ⟨g, 0, none⟩ = false :=
  ⟨by rw [h.own.cellAt 0 (by omega)]; rfl, h.own.frozenAt 0⟩

set_option maxRecDepth 100000 in
set_option maxHeartbeats 3200000 in
theorem inserted_any (a : Option Addr) (n c : Nat) (xss : List (List Int)) (x : Int) (w : World) (hr : RII w a xss) (hn : xss.length = n) (hb : n ≤ 1048576) (hsh : ShortII xss) :
    Calls Try.prog 97 #[.slice a n c, .int .i64 x, .bool false] w fun e w' => ∃ a' n' c' r, e = .returned (.tuple #[.slice a' n' c', .int .i64 r]) ∧ IIO w' w.heap.size w'.heap.size a' n' c' (insTab xss x).1 ∧ Hid (r = ((insTab xss x).2 : Int)) ∧ Below w.heap.size w w' := by
  have Hn := Lib.hid hn; clear hn
  have HSh := Lib.hid hsh
  have hb0 : Below w.heap.size w (w.alloc (.cells #[.int .i64 x] 3)) := (Below.refl _ _).alloc (Nat.le_refl _) _
  have hr0 := hr.below hb0
  have hsz0 : (w.alloc (.cells #[.int .i64 x] 3)).heap.size = w.heap.size + 1 := by simp
  have HX0 := Lib.hid (box_made w x)
  go_enter Try.func97, Try.ntmps97
  go_wp2_with fail
  refine (copyRows_any _ _ _ xss _ hr0 Hn.out hb hsh).mono ?_
  rintro e w1 ⟨a', c', rfl, ho1, hB1⟩
  have hX1 := HX0.out.below hB1
  rw [hsz0] at ho1 hB1
  have hB1' := hb0.trans (hB1.mono (by omega))
  clear hsh hb0 hr0 HX0
  go_wp2
  go_loopw [16] (fun iv wr => Hid (∃ (i : Nat) (x' : Int) (yss : List (List Int)), i ≤ n ∧ iv = .int .i64 i ∧ OwI wr w.heap.size (w.heap.size + 1) (some ⟨w.heap.size, 0, none⟩) 1 1 [x'] ∧ IIO wr (w.heap.size + 1) wr.heap.size a' n c' yss ∧ InsAt xss x i x' yss) ∧ Below w.heap.size w wr ∧ w.heap.size + 1 ≤ wr.heap.size) (fun i _ => n - (intOf i).toNat)
  case atStart => exact ⟨⟨0, x, xss, Nat.zero_le _, rfl, hX1, ho1, InsAt.start _ _⟩, hB1', by have := hB1.size; omega⟩
  case round =>
    clear ho1 hB1 hB1' hX1 hsz0
    obtain ⟨HV, hB, hbs⟩ := hrel
    obtain ⟨wo, rfl⟩ : ∃ wo : World, wo = wr := ⟨_, rfl⟩
    obtain ⟨i, x', yss, hi, rfl, hX, ho, hat⟩ := HV.out
    clear HV
    obtain ⟨hxc, hxf⟩ := box_cell hX
    by_cases hlt : i < n
    · obtain ⟨row, hrow⟩ := some_of (show i < xss.length by rw [Hn.out]; exact hlt)
      have hyr : yss[i]? = some row := by rw [drop_get hat.rest]; exact hrow
      have hrl := HSh.out row (List.mem_of_getElem? hrow)
      obtain ⟨g, a1, c1, rfl, hc, hfz, hio, hgrow⟩ := ho.grow hyr (Nat.le_refl _)
      obtain ⟨g0, a10, c10, e1, hc0, hio0, hset⟩ := ho.open hyr
      obtain rfl : g = g0 := by simpa using e1
      rw [hc] at hc0
      obtain ⟨rfl, rfl⟩ : a1 = a10 ∧ c1 = c10 := by simpa using hc0
      clear e1 hc0 hio0
      have Hat := Lib.hid hat; clear hat
      have Hrow := Lib.hid hrow; clear hrow
      have Hset := Lib.hid hset; clear hset
      have Hgrow := Lib.hid hgrow; clear hgrow
      have HO := Lib.hid ho; clear ho
      have HX := Lib.hid hX; clear hX
      obtain ⟨l, hl⟩ : ∃ l, row.length = l := ⟨_, rfl⟩
      rw [hl] at hc hio hrl
      have Hl := Lib.hid hl; clear hl
      have hltI : (i : Int) < (n : Int) := by omega
      have hle := bump_le row x'
      rw [Hl.out] at hle
      obtain ⟨k, hk⟩ : ∃ k, bump row x' = k := ⟨_, rfl⟩
      rw [hk] at hle
      have Hk := Lib.hid hk; clear hk
      by_cases hkl : k = l
      · go_wp2_with fail
        refine (isInt (indexFunc_any _ _ _ row x' _ _ hio.rd Hl.out (by omega) hxc) (show bumpOr row x' = -1 by rw [bumpOr, Hk.out, Hl.out, if_pos hkl])).mono ?_
        rintro e w2 ⟨rfl, rfl⟩
        have Hb := Lib.hid (show bump row x' = row.length by rw [Hk.out, Hl.out]; exact hkl)
        go_wp2_with (first | (at_builtin; go_loud (refine wpList_pushI (by rfl) (by rfl) _ _ (by rfl) hio (by rfl) (by rfl) (by omega) (by omega) ?_)))
        intro a2 c2 w2 ho2 hg2
        obtain ⟨h1, h2, h3, h4⟩ := Hgrow.out w2 a2 _ c2 _ ho2 (by rw [Hl.out]; exact hg2)
        rw [Hl.out] at h1
        have hd := Hat.out.done Hrow.out Hb.out
        have H3 := Lib.hid h3; clear h3
        have H4 := Lib.hid (h4.below hB (by omega) (by omega)); clear h4
        go_wp2
        go_ret2
        exact ⟨_, _, _, _, rfl, by rw [← hd.1]; simpa using H3.out.base (Nat.le_succ _), by rw [hd.2]; exact rfl, H4.out⟩
      · obtain ⟨y, hy⟩ := some_at (k := k) Hl.out (by omega)
        have hb2 : (k : Int) < (l : Int) := by omega
        have hk0 : ¬ (k : Int) < 0 := by omega
        obtain ⟨b, rfl, hBb, ⟨y2, hy2, hcy⟩, hf1⟩ := OI.cons hio.1 (show k < l by omega)
        obtain rfl : y = y2 := by rw [hy] at hy2; exact Option.some.inj hy2
        clear hy2
        have Hy := Lib.hid hy; clear hy
        go_wp2_with fail
        refine (isInt (indexFunc_any _ _ _ row x' _ _ hio.rd Hl.out (by omega) hxc) (show bumpOr row x' = (k : Int) by rw [bumpOr, Hk.out, Hl.out, if_neg hkl])).mono ?_
        rintro e w2 ⟨rfl, rfl⟩
        go_wp2
        go_quiet (fail)
        go_wp2
        have hne : b ≠ w.heap.size := by omega
        have hxc' : (wo.drewN nq).cell? ⟨w.heap.size, 0, none⟩ = some (.int .i64 x') := by simpa using hxc
        have hxf' : (wo.drewN nq).frozen? ⟨w.heap.size, 0, none⟩ = false := by simpa using hxf
        have hcy' : (wo.drewN nq).cell? ⟨b, k, none⟩ = some (.int .i64 y) := by simpa using hcy
        have hf1' : (wo.drewN nq).frozen? ⟨b, k, none⟩ = false := by simpa using hf1
        have hB' : Below w.heap.size w (wo.drewN nq) := hB.trans (Drew.below ⟨nq, rfl⟩ _)
        have hod : IIO (wo.drewN nq) (w.heap.size + 1) wo.heap.size (some ⟨g, 0, none⟩) n c' yss := HO.out.below (Drew.below ⟨nq, rfl⟩ _)
        have hXd : OwI (wo.drewN nq) w.heap.size (w.heap.size + 1) (some ⟨w.heap.size, 0, none⟩) 1 1 [x'] := HX.out.below (Drew.below ⟨nq, rfl⟩ _)
        have hcd : (wo.drewN nq).cell? ⟨g, i, none⟩ = some (.slice (some ⟨b, 0, none⟩) l c1) := by simpa using hc
        have hsd : (wo.drewN nq).heap.size = wo.heap.size := rfl
        obtain ⟨wd, hwd⟩ : ∃ wd, wo.drewN nq = wd := ⟨_, rfl⟩
        rw [hwd] at hxc' hxf' hcy' hf1' hB' hod hXd hcd hsd ⊢
        obtain ⟨g0, a10, c10, e1, hc0, hio0, hset⟩ := hod.open hyr
        obtain rfl : g = g0 := by simpa using e1
        rw [hcd] at hc0
        obtain ⟨rfl, rfl⟩ : some ⟨b, 0, none⟩ = a10 ∧ c1 = c10 := by
          simp only [Option.some.injEq, Value.slice.injEq] at hc0
          exact ⟨hc0.1, hc0.2.2⟩
        rw [Hl.out] at hio0 hset
        have hst := hio0.1.store k x'
        have hw1 := hset _ (row.set k x') (by simp [Hl.out]) hst.1 hst.2
        have hX1 := hXd.only (Only.of_grown (v := .slice (some ⟨b, 0, none⟩) l c1) hst.2 hio0.1.lo hio0.2) (.inl (Nat.le_refl _))
        have hs2 := hX1.1.store 0 y
        have hX2 : OwI ((wd.setCell ⟨b, k, none⟩ (.int .i64 x')).setCell ⟨w.heap.size, 0, none⟩ (.int .i64 y)) w.heap.size (w.heap.size + 1) (some ⟨w.heap.size, 0, none⟩) 1 1 [y] := ⟨hs2.1, hX1.2⟩
        have ho2 : Only w.heap.size (w.heap.size + 1) (wd.setCell ⟨b, k, none⟩ (.int .i64 x')) ((wd.setCell ⟨b, k, none⟩ (.int .i64 x')).setCell ⟨w.heap.size, 0, none⟩ (.int .i64 y)) :=
          Only.of_grown (v := .slice (some ⟨w.heap.size, 0, none⟩) 1 1) hs2.2 hX1.1.lo hX1.2
        have hw2 := hw1.only ho2 (.inr (Nat.le_refl _))
        have hB1 : Below w.heap.size w (wd.setCell ⟨b, k, none⟩ (.int .i64 x')) := hB'.grown hst.2 (by omega) (by intro q hq; obtain rfl := Option.some.inj hq; omega)
        have hB2 := ho2.below hB1 (Nat.le_refl _) (by have := hst.2.size; omega)
        have hX3 := Lib.hid (hX2.below (Drew.below ⟨1, rfl⟩ _))
        have hw3 := Lib.hid (hw2.below (Drew.below ⟨1, rfl⟩ _))
        have hB3 := Lib.hid (hB2.trans (Drew.below ⟨1, rfl⟩ w.heap.size))
        clear hX2 hw2 hB2 hB1 ho2 hs2 hX1 hw1 hst hset hio0 hc0 hod hXd
        go_region
        go_wp2
        go_roundw
        case rel => exact ⟨⟨i + 1, y, _, by omega, by go_num, hX3.out, hw3.out.mono (by simp; omega), Hat.out.next Hrow.out Hk.out Hy.out⟩, hB3.out, by simp; omega⟩
        case measure => simp [intOf]; omega
    · obtain rfl : i = n := by omega
      have hml := ho.len
      have hd := hat.last Hn.out hml
      have H1 : OwI (wo.alloc (.cells #[.int .i64 x'] 3)) wo.heap.size (wo.alloc (.cells #[.int .i64 x'] 3)).heap.size (some ⟨wo.heap.size, 0, none⟩) 1 1 [x'] :=
        OwI.mk ⟨rfl, .inr ⟨wo.heap.size, 1, _, rfl, Nat.le_refl _, heap_alloc_new wo _, Nat.le_refl _, by unfold maxLen; omega, rfl, rfl⟩⟩
      have hb0 : Below wo.heap.size wo (wo.alloc (.cells #[.int .i64 x'] 3)) := (Below.refl _ _).alloc (Nat.le_refl _) _
      have hB1 := hB.trans (hb0.mono (by omega))
      have ho1 := ho.below hb0
      have hsz1 : (wo.alloc (.cells #[.int .i64 x'] 3)).heap.size = wo.heap.size + 1 := by simp
      clear hX
      go_wp2_with (first | (at_builtin; go_loud (refine wpList_pushII (by rfl) (by rfl) _ _ (by rfl) ho1 (by rfl) H1 (by omega) (by rw [hsz1]; rfl) (by omega) (by omega) (by omega) (Nat.le_refl _) ?_)))
      intro a3 c3 w3 ho3 hg3
      have hB3 := hg3.below hB1 (by omega) (fun k hk => by have := ho1.lo k hk; omega)
      clear ho1 H1 hB1 hb0 ho hB
      have ho4 := ho3.base (Nat.le_succ w.heap.size)
      clear ho3
      go_wp2
      go_ret2
      exact ⟨_, _, _, _, rfl, by first | exact ho4 | (rw [← hd.1]; exact ho4), by rw [hd.2]; exact rfl, hB3⟩
end Go.Proofs.Ytleehkgfoicmdaa
