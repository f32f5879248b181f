/-
  Contracts of the program's LrCount and what it calls.
  Contracts of the program's ShapeProduct, countOf and LrCount.
-/
import Derived.Test.YtpjkhkoecgjjbaaBuL10
import Derived.Test.YtpjkhkoecgjjbaaBuL11
import Derived.Lib.AppendZeros
namespace Go.Proofs.Ytpjkhkoecgjjbaa
open Go.RowKit

theorem run_appZ0 {w : World} {ty : TypeId} {B S : Nat} {a : Option Addr} {n c : Nat} {xs : List Int} (hown : OwI w B S a n c xs) (k : Nat) (hk : 0 < k) (hn : n + k ≤ 1000) (hbase : B ≤ w.heap.size) :
    ∃ a' c' w', (Builtin.append_ #[22, 3] ty #[.slice a n c, .int .i64 (k : Int)]).run Try.prog w = .ok (.slice a' (n + k) c') w' ∧ OwI w' B w'.heap.size a' (n + k) c' (xs ++ List.replicate k 0) ∧ w.grownBy w' (Value.slice a n c).ownBlock := by
  have hown1 := hown.1.own
  have hxl : (ints xs).length = n := by rw [hown1.1, Nat.mul_one]
  have hlz : (zs k).length = k := by simp [zs]
  have hlen : (ints xs ++ zs k).length = (n + k) * 1 := by simp [hxl, hlz]
  have e0 : ints (xs ++ List.replicate k 0) = ints xs ++ zs k := by rw [← zs_ints]; simp [ints]
  rcases hown1.2 with ⟨h0, hn0⟩ | ⟨g, cap, cur, hv, hbg, hg, hnc, hcm, hcs, htake⟩
  · simp only [Value.slice.injEq] at h0
    obtain ⟨rfl, _, rfl⟩ := h0
    subst hn0
    have hx : ints xs = [] := List.eq_nil_of_length_eq_zero hxl
    obtain ⟨i0, hi, hz, hz1, hz2⟩ := info_parts Try.info3
    have hr := Lib.run_append_nil_zeros (P := Try.prog) w 22 3 ty 3 i0 (.int .i64 0) .i64 .i64 Try.underlying22 undIntZ hi hz k hk (by omega) (by omega) (by rw [hz2]; omega)
    have hge := grownCap_ge w k 0 3
    have hcm2 : grownCap w k 0 3 ≤ maxLen := grownCap_le_maxLen w k 0 3 (by unfold maxLen; omega)
    refine ⟨some ⟨w.heap.size, 0, none⟩, grownCap w k 0 3, w.drew.alloc (.cells (Builtin.zeroCells (Value.cells (.int .i64 0)) k ++ Builtin.zeroCells (Value.cells (.int .i64 0)) (grownCap w k 0 3 - k)) 3), by rw [Nat.zero_add]; exact hr, OwI.mk ?_, ⟨rfl, rfl, rfl, by simp, fun j hj _ => heap_alloc_old w.drew _ (by simpa using hj)⟩⟩
    rw [e0]
    refine ⟨hlen, .inr ⟨w.heap.size, _, _, by rw [Nat.zero_add], hbase, heap_alloc_new w.drew _, by rw [Nat.zero_add]; exact hge, hcm2, ?_, ?_⟩⟩
    · simp only [Array.size_append, size_zeroCells]
      simp [Value.cells]
      omega
    · rw [hx, List.nil_append, zerosZ, Nat.zero_add, Nat.mul_one]
      simp only [Array.toList_append]
      have : (zs k).length = k := hlz
      rw [List.take_append_of_le_length (by omega), List.take_of_length_le (by omega)]
  · simp only [Value.slice.injEq] at hv
    obtain ⟨rfl, _, rfl⟩ := hv
    rw [Nat.mul_one] at hcs htake
    by_cases hroom : n + k ≤ c
    · refine ⟨_, _, _, run_appZ_room hk (by omega) hg hroom hcs, OwI.mk ?_, ⟨rfl, rfl, rfl, by simp, fun j _ hj => setRow_other w g j _ (fun e => hj (by simp [Value.ownBlock, e]))⟩⟩
      rw [e0]
      refine ⟨hlen, .inr ⟨g, c, _, rfl, hbg, setRow_heap w g cur _ 3 _ hg, hroom, hcm, ?_, ?_⟩⟩
      · simp only [List.size_toArray, List.length_append, List.length_take, List.length_drop, Array.length_toList, hlz]
        omega
      · rw [htake, ← hlen]
        exact List.take_left
    · have holds : ∀ j u, (ints xs)[j]? = some u → w.cell? ((⟨g, 0, none⟩ : Addr).add j) = some u := hown1.cells (g := g) rfl
      have hge := grownCap_ge w (n + k) c 3
      have hcm2 : grownCap w (n + k) c 3 ≤ maxLen := grownCap_le_maxLen w (n + k) c 3 (by unfold maxLen; omega)
      refine ⟨_, _, _, run_appZ_grow hk (by omega) hxl holds hroom (by omega) (by omega), OwI.mk ?_, ⟨rfl, rfl, rfl, by simp, fun j hj _ => heap_alloc_old w.drew _ (by simpa using hj)⟩⟩
      rw [e0]
      refine ⟨hlen, .inr ⟨w.heap.size, _, _, rfl, hbase, heap_alloc_new w.drew _, hge, hcm2, ?_, ?_⟩⟩
      · simp only [Array.size_append, List.size_toArray, size_zeroCells, hxl, hlz]
        simp [Value.cells]
        omega
      · simp only [Array.toList_append, List.append_assoc]
        rw [← List.append_assoc, ← hlen]
        exact List.take_left
theorem wpList_appZ0 {w : World} {ops : Array Oper} {rest : List Oper} {o : Oper} {ac : Act} {Q : Exit → Act → World → Prop} (hgd : o.guard = none) (s x : Operand)
    (ho : o.op = .call { callee := .builtin .append, args := #[s, x], argTypes := #[22, 3] })
    {B S : Nat} {a : Option Addr} {n c : Nat} {xs : List Int} (hown : OwI w B S a n c xs) (hs : ac.eval s = .slice a n c) {k : Nat} (hx : ac.eval x = .int .i64 (k : Int)) (hk : 0 < k) (hn : n + k ≤ 1000) (hbase : B ≤ w.heap.size)
    (h : ∀ a' c' w', OwI w' B w'.heap.size a' (n + k) c' (xs ++ List.replicate k 0) → w.grownBy w' (Value.slice a n c).ownBlock → wpList Try.prog ops Q rest (ac.put o.dst (.slice a' (n + k) c')) w') :
    wpList Try.prog ops Q (o :: rest) ac w :=
  wpList_plain hgd fun _ hK => by
    obtain ⟨a', c', w', hr, h2, h3⟩ := run_appZ0 (ty := o.type) hown k hk hn hbase
    unfold Oper.wp execOp
    simp only [ho, resolve, invoke, builtin, Sem.run_bind, Sem.run_pure, Result.andThen_ok, List.map_toArray, List.map_cons, List.map_nil, hs, hx, hr]
    exact hK _ _ (h a' c' w' h2 h3)

def FillPostL (w : World) (xs ys : List Int) (e : Ending) (w' : World) : Prop :=
  ∃ a' n' c', e = .returned (.slice a' n' c') ∧ Hid (RP w' a' (lrOf xs ys) ∧ (lrOf xs ys).length = n') ∧ Below w.heap.size w w'
/-- the state with which all begins -/
theorem LrState.start (w : World) : LrState (w.heap.size + 1) 0 [] (some ⟨w.heap.size, 0, none⟩) 0 0 ((w.alloc (.cells #[] 50)).alloc (.cells #[.slice (some ⟨w.heap.size, 0, none⟩) 0 0] 44)) := by
  have hb : Below (w.alloc (.cells #[] 50)).heap.size (w.alloc (.cells #[] 50)) ((w.alloc (.cells #[] 50)).alloc (.cells #[.slice (some ⟨w.heap.size, 0, none⟩) 0 0] 44)) := (Below.refl _ _).alloc (Nat.le_refl _) _
  refine ⟨?_, ?_, GoodL.nil, by omega⟩
  · unfold Box
    have := heap_alloc_new (w.alloc (.cells #[] 50)) (.cells #[.slice (some ⟨w.heap.size, 0, none⟩) 0 0] 44)
    rw [show (w.alloc (.cells #[] 50)).heap.size = w.heap.size + 1 by simp] at this
    exact this
  · exact ((KN.made w).below hb).mono (Nat.le_refl _) hb.size

def FillMid (A N : Nat) (L : List (List Int × Int)) (w : World) (p : Addr) (y : Int) (e : Ending) (w' : World) : Prop :=
  ∃ a' n' c', e = .returned (.tuple #[]) ∧ LrState A N L a' n' c' w' ∧ Lay A w w' ∧ w'.cell? p = some (.int .i64 y)
set_option maxRecDepth 100000 in
set_option maxHeartbeats 6400000 in
theorem fillings_any (a : Option Addr) (n c : Nat) (xs : List Int) (b : Option Addr) (m d : Nat) (ys : List Int) (w : World) (hr : RI w a xs) (hn : xs.length = n) (hr2 : RI w b ys) (hm : ys.length = m) (hmd : m ≤ d) (hx : smOk xs = true) (hy : smOk ys = true) :
    Calls Try.prog 39 #[.slice a n c, .slice b m d, .int .i64 16, .int .i64 16] w (FillPostL w xs ys) := by
  have hsx := smShape hx
  have hsy := smShape hy
  have hn8 : n ≤ 8 := by rw [← hn]; exact hsx.short
  have hm16 : m ≤ 16 := by rw [← hm]; exact hsy.few
  obtain ⟨k, hk⟩ : ∃ k : Nat, 16 - n = k := ⟨_, rfl⟩
  have z1 : IntKind.i64.wrap (16 - (n : Int)) = (k : Int) := by rw [IntWalk.i64_in _ (by omega)]; omega
  have hpad : xs ++ List.replicate k 0 = pad16 xs := by unfold pad16; rw [hn, hk]
  have hnk : n + k = 16 := by omega
  have Hn := Lib.hid hn
  have Hm := Lib.hid hm
  have HX := Lib.hid hsx
  have HY := Lib.hid hsy
  have Hpad := Lib.hid hpad
  have Hnk := Lib.hid hnk
  clear hn hm hpad hnk hx hy
  go_enter Try.func39, Try.ntmps39
  go_wp2_with fail
  refine (cloneI_any _ _ _ xs _ hr Hn.out (by omega)).mono ?_
  rintro e w1 ⟨a1, c1, rfl, ho1, hb1⟩
  have hs1 := hb1.size
  have Hb1 := Lib.hid hb1
  clear hb1
  go_wp2_with (first | (at_builtin; go_loud (refine wpList_appZ0 (by rfl) _ _ (by rfl) ho1 (by rfl) (k := k) (by rfl) (by omega) (by omega) hs1 ?_)))
  intro a2 c2 w2 ho2 hg2
  rw [Hpad.out, Hnk.out] at ho2
  have hb2 : Below w.heap.size w w2 := below_grown (v := .slice a1 n c1) Hb1.out hg2 hs1 ho1.1.lo
  have hs2 := hb2.size
  have hcap := ho2.1.lt
  rw [show n + k = 16 from Hnk.out]
  have hst := LrState.start w2
  obtain ⟨w3, hw3⟩ : ∃ w3, (w2.alloc (.cells #[] 50)).alloc (.cells #[.slice (some ⟨w2.heap.size, 0, none⟩) 0 0] 44) = w3 := ⟨_, rfl⟩
  have hb3 : Below w2.heap.size w2 w3 := by rw [← hw3]; exact ((Below.refl _ _).alloc (Nat.le_refl _) _).alloc (by simp) _
  rw [hw3] at hst
  have hs3 : w3.heap.size = w2.heap.size + 2 := by rw [← hw3]; simp
  have HST := Lib.hid hst
  have HB3 := Lib.hid (hb2.trans (hb3.mono hs2))
  have HRP := Lib.hid (show RT (w2.heap.size + 1) w3 a2 (pad16 xs) from (RT.of_os (A := w2.heap.size + 1) ho2.1 (fun q hq e => by have := (ho2.2 q hq); omega)).below hb3)
  have hlP : (pad16 xs).length = 16 := pad16_length hsx.few
  have HlP := Lib.hid hlP
  clear ho1 ho2 hg2 hb2 hb3 hst hsx hsy hlP Hb1
  by_cases hm0 : m = 0
  · have HD := Lib.hid (show lrOf xs ys = insL (bare (pad16 xs)) [] by
      have : ys = [] := List.eq_nil_of_length_eq_zero (by rw [Hm.out]; exact hm0)
      subst this
      unfold lrOf
      rw [lrAll, insAll_one])
    have z2 : ((m : Int) == 0) = true := by simp; omega
    clear hm0
    go_wp2_with fail
    refine (see_any (w2.heap.size + 1) 0 [] _ 0 0 a2 c2 (pad16 xs) w3 HST.out (by omega) HRP.out.rd HlP.out hcap (by omega)).mono ?_
    rintro e w4 ⟨a4, n4, c4, rfl, h4, hl4⟩
    have p4 := h4.box.cell
    have HL := Lib.hid (show RP w4 a4 (lrOf xs ys) ∧ (lrOf xs ys).length = n4 by rw [HD.out]; exact ⟨h4.list.rd, h4.list.len⟩)
    have HB := Lib.hid (HB3.out.trans ((hl4.below (by omega)).mono (show w.heap.size ≤ w2.heap.size + 1 - 1 by omega)))
    clear h4 hl4 HST
    go_wp2
    go_ret
    exact ⟨_, _, _, rfl, HL, HB.out⟩
  · obtain ⟨y0, rest, hys⟩ : ∃ y0 rest, ys = y0 :: rest := by
      cases ys with
      | nil => exact absurd (by rw [← Hm.out]; rfl) hm0
      | cons y r => exact ⟨y, r, rfl⟩
    subst hys
    obtain ⟨bb, ob, hbb, hcb⟩ := hr2.at (k := 0) (by simp)
    subst hbb
    have hc0 := hcb 0 y0 rfl
    have hbz : bb < w.heap.size := World.block_lt_of_cell? _ _ hc0
    have hyb := HY.out.each y0 (by simp)
    have z2 : ((m : Int) == 0) = false := by rw [beq_eq_false_iff_ne]; omega
    have z3 : (0 : Int) < (m : Int) := by omega
    have z4 : 0 < m := by omega
    have z5 : decide (0 < m) = true := by simp; omega
    have z6 : ¬ m = 0 := by omega
    have z7 : ¬ m ≤ 0 := by omega
    have hmk := mk16
    obtain ⟨cz, hcz⟩ : ∃ cz, madeCells #[.int .i64 0] 16 = cz := ⟨_, rfl⟩
    have hmz := fun w => made16 w
    rw [hcz] at hmz
    simp only [hcz] at hmk
    have Hmz := Lib.hid hmz
    have S_of := Lib.hid (show ∀ wX, Below w3.heap.size w3 wX → wX.cell? ⟨bb, ob, none⟩ = some (.int .i64 y0) from fun wX hb => by
      rw [(HB3.out.trans (hb.mono HB3.out.size)).cell (p := ⟨bb, ob, none⟩) hbz]; simpa using hc0)
    have e0 : Below w3.heap.size w3 w3 := Below.refl _ _
    have e1 : Below w3.heap.size w3 w3.drew := Drew.below ⟨1, rfl⟩ _
    have e2 : Below w3.heap.size w3 (w3.drew.alloc (.cells cz 3)) := e1.alloc (Nat.le_refl _) _
    have e3 : Below w3.heap.size w3 (w3.alloc (.cells cz 3)).drew := ((Below.refl _ _).alloc (Nat.le_refl _) _).trans (Drew.below ⟨1, rfl⟩ _)
    have HPr := Lib.hid (show ∀ wX, Below w3.heap.size w3 wX → RI wX a2 (pad16 xs) from fun wX hb => (HRP.out.below hb).rd)
    have hbig := lr_big HY.out true zeros16 (pad16 xs)
    have HPRE := Lib.hid (show ∀ wX a5 az, Below w3.heap.size w3 wX → RT (w2.heap.size + 1) wX a5 (pad16 xs) → RT (w2.heap.size + 1) wX az zeros16 → LayPre (w2.heap.size + 1) (y0 :: rest) true 16 0 0 [] (pad16 xs) (pad16 xs) zeros16 zeros16 y0 a2 (some ⟨bb, ob, none⟩) a5 none az (some ⟨w2.heap.size, 0, none⟩) c2 m 0 0 16 0 0 wX from fun wX a5 az hb h5 hz =>
      ⟨HST.out.below hb, HRP.out.below hb, (RT.of_ri (hr2.below (HB3.out.trans (hb.mono HB3.out.size))) (fun ad had _ => by
          simp only [Option.some.injEq] at had
          rw [← had]
          show bb < w2.heap.size + 1 - 1
          omega)), h5, hz, ⟨fun _ => ⟨rfl, rfl, rfl⟩, fun hf => (by cases hf)⟩, (smShL HX.out).ok true hyb.1 hyb.2, HlP.out, fun j => by rw [zeros16_getD]; omega, hcap, Nat.le_refl _, rfl, Hm.out, by omega, hm16, HY.out.each, by rw [Nat.zero_add]; exact hbig, by omega⟩)
    have hA3 : w2.heap.size + 1 < w3.heap.size := by omega
    have Hz3 := Lib.hid (show RT (w2.heap.size + 1) (w3.alloc (.cells cz 3)).drew (some ⟨w3.heap.size, 0, none⟩) zeros16 from (RT.of_os (A := w2.heap.size + 1) (Hmz.out w3) (by intro q hq; obtain rfl : w3.heap.size = q := (by simpa [Value.ownBlock] using hq); omega)).below (Drew.below ⟨1, rfl⟩ _))
    have HD := Lib.hid (show lrStrip (restP (y0 :: rest)) true zeros16 16 (pad16 xs) zeros16 y0 = lrAll (y0 :: rest) true zeros16 (pad16 xs) from rfl)
    obtain ⟨D, hDD⟩ : ∃ D, lrAll (y0 :: rest) true zeros16 (pad16 xs) = D := ⟨_, rfl⟩
    have HDD := Lib.hid hDD
    have HCALL := Lib.hid (show ∀ wX a5 c5 az, Below w3.heap.size w3 wX → RT (w2.heap.size + 1) wX a5 (pad16 xs) → RT (w2.heap.size + 1) wX az zeros16 → Calls Try.prog 49 #[.slice a2 16 c2, .slice (some ⟨bb, ob, none⟩) m d, .slice a5 16 c5, .int .i64 0, .int .i64 y0, .slice none 0 0, .slice az 16 16, .int .i64 16, .func (.func 43) #[] #[.pointer (some ⟨w2.heap.size + 1, 0, none⟩)]] wX (SeePost (w2.heap.size + 1) (0 + D.length) (insAll D []) wX) from fun wX a5 c5 az hb h5 hz => by
      have h := layer_any (m * 18 + 17) (w2.heap.size + 1) (y0 :: rest) true 16 0 0 [] (pad16 xs) (pad16 xs) zeros16 zeros16 y0 a2 (some ⟨bb, ob, none⟩) a5 none az (some ⟨w2.heap.size, 0, none⟩) c2 m d c5 0 0 16 0 0 wX (by omega) hmd (HPRE.out wX a5 az hb h5 hz)
      rw [HD.out, HDD.out] at h
      exact h)
    have HDO := Lib.hid (show ∀ wX a5 c5 az, Below w3.heap.size w3 wX → RT (w2.heap.size + 1) wX a5 (pad16 xs) → RT (w2.heap.size + 1) wX az zeros16 → Calls Try.prog 49 #[.slice a2 16 c2, .slice (some ⟨bb, ob, none⟩) m d, .slice a5 16 c5, .int .i64 0, .int .i64 y0, .slice none 0 0, .slice az 16 16, .int .i64 16, .func (.func 43) #[] #[.pointer (some ⟨w2.heap.size + 1, 0, none⟩)]] wX
        (FillMid (w2.heap.size + 1) (0 + D.length) (insAll D []) w3 ⟨bb, ob, none⟩ y0) from fun wX a5 c5 az hb h5 hz => (HCALL.out wX a5 c5 az hb h5 hz).mono fun e w6 h => by
      obtain ⟨a6, n6, c6, he, h6a, h6b⟩ := h
      have hl := (Lay.of_below (A := w2.heap.size + 1) hb).trans h6b
      exact ⟨a6, n6, c6, he, h6a, hl, by rw [(hl.below (by omega)).cell (p := ⟨bb, ob, none⟩) (show bb < w2.heap.size + 1 - 1 by omega)]; exact S_of.out _ e0⟩)
    have HzB := Lib.hid (fun w5 (hB5 : Below w3.heap.size w3 w5) => RT.of_os (A := w2.heap.size + 1) (Hmz.out w5) (by
      intro q hq
      obtain rfl : w5.heap.size = q := (by simpa [Value.ownBlock] using hq)
      have := hB5.size
      omega))
    clear hcb hc0 hmz hcz hbig hDD hr hr2 hm0 HPRE HD HCALL hs3
    go_wp2
    go_region_held3 (fun w' => w'.cell? ⟨bb, ob, none⟩ = some (.int .i64 y0)) ((first | with_reducible exact S_of.out _ e0 | with_reducible exact S_of.out _ e1 | with_reducible exact S_of.out _ e2 | with_reducible exact S_of.out _ e3 | with_reducible exact HS6.out | with_reducible exact S_of.out _ hB5 | exact S_of.out _ (Below.alloc hB5 (Below.size hB5) _)))
      ((first
        | (go_at_call 34; refine (cloneI_any _ _ _ (pad16 xs) _ (HPr.out _ (by first | with_reducible exact e1 | with_reducible exact e2 | with_reducible exact e3)) HlP.out (by omega)).mono ?_; rintro e w5 ⟨a5, c5, rfl, ho5, hb5⟩; have hB5 : Below w3.heap.size w3 w5 := (by first | with_reducible exact e1.trans (Below.mono hb5 e1.size) | with_reducible exact e2.trans (Below.mono hb5 e2.size) | with_reducible exact e3.trans (Below.mono hb5 e3.size)); have hn5 := hb5.size; have Ho5 := Lib.hid (RT.of_os (A := w2.heap.size + 1) ho5.1 (by intro q hq e; have := ho5.1.lo q hq; have := e1.size; have := e2.size; have := e3.size; omega)); clear ho5)
        | (go_at_call 49; refine (HDO.out _ _ _ _ (by with_reducible exact hB5) (by with_reducible exact Ho5.out) (by with_reducible exact Hz3.out.below hb5)).mono ?_; rintro e w6 ⟨a6, n6, c6, rfl, h6a, h6b, h6c⟩; have HS6 := Lib.hid h6c; have HL6 := Lib.hid h6b; have H6 := Lib.hid h6a; clear h6a h6b h6c)
        | (go_at_call 49; refine (HDO.out _ _ _ _ (by with_reducible exact hB5.alloc hB5.size _) (by with_reducible exact Ho5.out.below ((Below.refl _ _).alloc (Nat.le_refl _) _)) (by with_reducible exact HzB.out _ hB5)).mono ?_; rintro e w6 ⟨a6, n6, c6, rfl, h6a, h6b, h6c⟩; have HS6 := Lib.hid h6c; have HL6 := Lib.hid h6b; have H6 := Lib.hid h6a; clear h6a h6b h6c)))
    all_goals
      have p6 := H6.out.box.cell
      have HL := Lib.hid (show RP w6 a6 (lrOf xs (y0 :: rest)) ∧ (lrOf xs (y0 :: rest)).length = n6 by unfold lrOf; rw [HDD.out]; exact ⟨H6.out.list.rd, H6.out.list.len⟩)
      have HB := Lib.hid (HB3.out.trans ((HL6.out.below (by omega)).mono (show w.heap.size ≤ w2.heap.size + 1 - 1 by omega)))
      clear H6 HL6 S_of HDO HzB Hz3 HPr HST
      go_wp2
      go_ret
      exact ⟨_, _, _, rfl, HL, HB.out⟩
end Go.Proofs.Ytpjkhkoecgjjbaa

namespace Go.Proofs.Ytpjkhkoecgjjbaa
open Go.RowKit

set_option maxHeartbeats 1600000 in
theorem implProd_any (a : Option Addr) (n c : Nat) (xs : List Int) (b : Option Addr) (m d : Nat) (ys : List Int) (w : World) (hr : RI w a xs) (hn : xs.length = n) (hb : n ≤ 1048576) (hr2 : RI w b ys) (hm : ys.length = m) (hmb : m ≤ 1048576) (hmd : m ≤ d) :
    Calls Try.prog 28 #[.slice a n c, .slice b m d] w (ProdPost w xs ys) := by
  have Hn := Lib.hid hn; clear hn
  have Hm := Lib.hid hm; clear hm
  cases hx : smOk xs
  · have Hx := Lib.hid hx; clear hx
    go_enter Try.func28, Try.ntmps28
    go_wp2_with fail
    refine (is (implSmall_any _ _ _ xs _ hr Hn.out hb) Hx.out).mono ?_
    rintro e w1 ⟨rfl, hd⟩
    go_wp2
    go_ret2
    exact ⟨none, 0, 0, false, rfl, Lib.hid (by rw [Hx.out]; rfl), Lib.hid (fun h => by cases h), hd.below _⟩
  · cases hy : smOk ys
    · have Hx := Lib.hid hx; clear hx
      have Hy := Lib.hid hy; clear hy
      go_enter Try.func28, Try.ntmps28
      go_wp2_with fail
      refine (is (implSmall_any _ _ _ xs _ hr Hn.out hb) Hx.out).mono ?_
      rintro e w1 ⟨rfl, hd⟩
      go_wp2_with fail
      refine (is (implSmall_any _ _ _ ys _ (hr2.drew hd) Hm.out hmb) Hy.out).mono ?_
      rintro e w2 ⟨rfl, hd2⟩
      go_wp2
      go_ret2
      exact ⟨none, 0, 0, false, rfl, Lib.hid (by rw [Hx.out, Hy.out]; rfl), Lib.hid (fun h => by cases h), (hd.trans hd2).below _⟩
    · have Hx := Lib.hid hx; clear hx
      have Hy := Lib.hid hy; clear hy
      go_enter Try.func28, Try.ntmps28
      go_wp2_with fail
      refine (is (implSmall_any _ _ _ xs _ hr Hn.out hb) Hx.out).mono ?_
      rintro e w1 ⟨rfl, hd⟩
      go_wp2_with fail
      refine (is (implSmall_any _ _ _ ys _ (hr2.drew hd) Hm.out hmb) Hy.out).mono ?_
      rintro e w2 ⟨rfl, hd2⟩
      go_wp2_with fail
      refine (fillings_any _ _ _ xs _ _ _ ys _ (hr.drew (hd.trans hd2)) Hn.out (hr2.drew (hd.trans hd2)) Hm.out hmd Hx.out Hy.out).mono ?_
      rintro e w3 ⟨a3, n3, c3, rfl, h3, hb3⟩
      have H3 := Lib.hid h3.out
      have HB3 := Lib.hid (((hd.trans hd2).below w.heap.size).trans (hb3.mono ((hd.trans hd2).below w.heap.size).size))
      clear h3 hb3
      go_wp2
      go_ret2
      exact ⟨a3, n3, c3, true, rfl, Lib.hid (by rw [Hx.out, Hy.out]; rfl), Lib.hid (fun _ => H3.out), HB3.out⟩

set_option maxRecDepth 100000 in
set_option maxHeartbeats 1600000 in
theorem countOf_any (a : Option Addr) (n c : Nat) (xs : List (List Int × Int)) (b : Option Addr) (m d : Nat) (v : List Int) (w : World) (hr : RP w a xs) (hn : xs.length = n) (hb : n ≤ 4294967296) (hsh : ∀ p ∈ xs, p.1.length ≤ 16) (hrv : RI w b v) (hm : v.length = m) (_hmb : m ≤ 1048576) :
    Calls Try.prog 30 #[.slice a n c, .slice b m d] w fun e w' => e = .returned (.int .i64 (cntL v xs)) ∧ Below w.heap.size w w' := by
  have Hn := Lib.hid hn; clear hn
  have Hm := Lib.hid hm; clear hm
  have Hsh := Lib.hid hsh; clear hsh
  go_enter Try.func30, Try.ntmps30
  go_wp2
  go_loopw [9] (fun iv wr => Hid (∃ i : Nat, i ≤ n ∧ iv = .int .i64 i ∧ ∀ j p, j < i → xs[j]? = some p → p.1 ≠ v) ∧ Below w.heap.size w wr) (fun iv _ => n - (intOf iv).toNat)
  case atStart => exact ⟨⟨0, Nat.zero_le _, rfl, fun j p hj => by omega⟩, Below.refl _ _⟩
  case round =>
    obtain ⟨HV, hd⟩ := hrel
    obtain ⟨wo, rfl⟩ : ∃ wo : World, wo = wr := ⟨_, rfl⟩
    obtain ⟨i, hi, rfl, hA⟩ := HV.out
    have HA := Lib.hid hA
    have hbs := hd.size
    clear HV hA
    by_cases hlt : i < n
    · have hltI : (i : Int) < (n : Int) := by omega
      obtain ⟨s, y, hx⟩ := part_at Hn.out hlt
      obtain ⟨bb, off, rfl, hcell⟩ := (hr.below hd).at (k := i) (by rw [Hn.out]; exact hlt)
      obtain ⟨a2, c2, p1, p2, hri, _⟩ := hcell i _ hx
      simp only at p1 p2 hri
      have hsl : s.length ≤ 16 := Hsh.out (s, y) (List.mem_of_getElem? hx)
      obtain ⟨sl, hl⟩ : ∃ sl, s.length = sl := ⟨_, rfl⟩
      rw [hl] at p1 hsl
      have Hl := Lib.hid hl
      have Hx := Lib.hid hx
      have hal : Below wo.heap.size wo (wo.alloc (.cells #[.slice a2 sl c2, .int .i64 y] 50)) := (Below.refl _ _).alloc (Nat.le_refl _) _
      have Hri := Lib.hid (hri.below hal)
      have Hrv := Lib.hid ((hrv.below hd).below hal)
      have HB := Lib.hid (hd.trans (hal.mono hbs))
      clear hcell hx hl hri hal
      by_cases he : s = v
      · have Hs := Lib.hid (show decide (s = v) = true by simp [he])
        have HR := Lib.hid (show cntL v xs = y from cntL_at (k := i) HA.out Hx.out he)
        clear he
        go_wp2_with fail
        refine (is (slEqual_any _ _ _ _ _ _ s v _ Hri.out Hrv.out Hl.out Hm.out (by omega)) Hs.out).mono ?_
        rintro e w1 ⟨rfl, hd1⟩
        have HB1 := Lib.hid (HB.out.trans (hd1.below _))
        obtain ⟨q, rfl⟩ := hd1
        go_wp2
        go_ret
        exact ⟨ret_int HR.out.symm, HB1.out⟩
      · have Hs := Lib.hid (show decide (s = v) = false by simp [he])
        have He := Lib.hid he
        clear he
        go_wp2_with fail
        refine (is (slEqual_any _ _ _ _ _ _ s v _ Hri.out Hrv.out Hl.out Hm.out (by omega)) Hs.out).mono ?_
        rintro e w1 ⟨rfl, hd1⟩
        have HB1 := Lib.hid (HB.out.trans (hd1.below _))
        go_wp2
        go_roundw
        case rel => exact ⟨⟨i + 1, by omega, by go_num, fun j p hj hp => by
          rcases Nat.lt_or_ge j i with h | h
          · exact HA.out j p h hp
          · obtain rfl : j = i := by omega
            rw [Hx.out] at hp
            rw [← Option.some.inj hp]
            exact He.out⟩, HB1.out⟩
        case measure => simp [intOf]; omega
    · obtain rfl : i = n := by omega
      have hltI : ¬ (i : Int) < (i : Int) := by omega
      have HR := Lib.hid (show cntL v xs = 0 from cntL_none fun j p hj => HA.out j p (by rw [← Hn.out]; exact hj))
      go_wp2
      go_ret
      exact ⟨ret_int HR.out.symm, hd⟩

set_option maxHeartbeats 1600000 in
theorem implLr_any (a : Option Addr) (n c : Nat) (xs : List Int) (b : Option Addr) (m d : Nat) (ys : List Int) (a2 : Option Addr) (l f : Nat) (zs : List Int) (w : World) (hr : RI w a xs) (hn : xs.length = n) (hb : n ≤ 1048576) (_hnc : n ≤ c) (hr2 : RI w b ys) (hm : ys.length = m) (hmb : m ≤ 1048576) (hmd : m ≤ d) (hr3 : RI w a2 zs) (hl : zs.length = l) (hlb : l ≤ 1048576) (_hlf : l ≤ f) :
    Calls Try.prog 14 #[.slice a n c, .slice b m d, .slice a2 l f] w fun e w' => ∃ r, e = .returned (.int .i64 r) ∧ Hid (r = lrM xs ys zs) ∧ Below w.heap.size w w' := by
  suffices h : Calls Try.prog 14 #[.slice a n c, .slice b m d, .slice a2 l f] w fun e w' => e = .returned (.int .i64 (lrM xs ys zs)) ∧ Below w.heap.size w w' from h.mono fun _ _ h => ⟨_, h.1, rfl, h.2⟩
  have Hn := Lib.hid hn; clear hn
  have Hm := Lib.hid hm; clear hm
  have Hl := Lib.hid hl; clear hl
  cases hxy : smOk xs && smOk ys
  · have Hxy := Lib.hid (show lrM xs ys zs = -1 by unfold lrM; rw [hxy]; rfl)
    have HX := Lib.hid hxy; clear hxy
    go_enter Try.func14, Try.ntmps14
    go_wp2_with fail
    refine (implProd_any _ _ _ xs _ _ _ ys _ hr Hn.out hb hr2 Hm.out hmb hmd).mono ?_
    rintro e w1 ⟨a1, n1, c1, r1, rfl, h1, _, hb1⟩
    obtain rfl : r1 = false := by rw [h1.out]; exact HX.out
    clear h1
    go_wp2
    go_ret
    exact ⟨ret_int Hxy.out.symm, hb1⟩
  · have HG := Lib.hid (by simp only [Bool.and_eq_true] at hxy; exact lrOf_good hxy.1 hxy.2 : GoodL 4294967296 (lrOf xs ys))
    cases hz : isShape zs
    · have Hxy := Lib.hid (show lrM xs ys zs = -1 by unfold lrM; rw [hxy, hz]; rfl)
      have HX := Lib.hid hxy; clear hxy
      have HZ := Lib.hid hz; clear hz
      go_enter Try.func14, Try.ntmps14
      go_wp2_with fail
      refine (implProd_any _ _ _ xs _ _ _ ys _ hr Hn.out hb hr2 Hm.out hmb hmd).mono ?_
      rintro e w1 ⟨a1, n1, c1, r1, rfl, h1, _, hb1⟩
      obtain rfl : r1 = true := by rw [h1.out]; exact HX.out
      clear h1
      go_wp2_with fail
      refine (is (implIsShape_any _ _ _ zs _ (hr3.below hb1) Hl.out (by omega)) HZ.out).mono ?_
      rintro e w2 ⟨rfl, hd⟩
      go_wp2
      go_ret
      exact ⟨ret_int Hxy.out.symm, hb1.trans (hd.below _)⟩
    · have Hxy := Lib.hid (show lrM xs ys zs = cntL zs (lrOf xs ys) by unfold lrM; rw [hxy, hz]; rfl)
      have HX := Lib.hid hxy; clear hxy
      have HZ := Lib.hid hz; clear hz
      go_enter Try.func14, Try.ntmps14
      go_wp2_with fail
      refine (implProd_any _ _ _ xs _ _ _ ys _ hr Hn.out hb hr2 Hm.out hmb hmd).mono ?_
      rintro e w1 ⟨a1, n1, c1, r1, rfl, h1, h2, hb1⟩
      obtain rfl : r1 = true := by rw [h1.out]; exact HX.out
      have HR := Lib.hid (h2.out rfl).1
      have HRn := Lib.hid (h2.out rfl).2
      have hn1 : n1 ≤ 4294967296 := by rw [← HRn.out]; exact HG.out.len
      clear h1 h2
      go_wp2_with fail
      refine (is (implIsShape_any _ _ _ zs _ (hr3.below hb1) Hl.out (by omega)) HZ.out).mono ?_
      rintro e w2 ⟨rfl, hd⟩
      have HC := Lib.hid (countOf_any a1 n1 c1 (lrOf xs ys) a2 l f zs w2 (HR.out.below (hd.below _)) HRn.out hn1 (fun p hp => (HG.out.each p hp).2.2) ((hr3.below hb1).below (hd.below _)) Hl.out hlb)
      obtain ⟨q, hq⟩ : ∃ q, cntL zs (lrOf xs ys) = q := ⟨_, rfl⟩
      rw [hq] at HC Hxy
      have HBB := Lib.hid (hb1.trans (hd.below _))
      clear hq HR HRn
      go_wp2_with fail
      refine HC.out.mono ?_
      rintro e w3 ⟨rfl, hd3⟩
      have HB3 := Lib.hid (HBB.out.trans (hd3.mono HBB.out.size))
      go_wp2
      go_ret
      exact ⟨ret_int Hxy.out.symm, HB3.out⟩
theorem specLr_law (a : Option Addr) (n c : Nat) (xs : List Int) (b : Option Addr) (m d : Nat) (ys : List Int) (a2 : Option Addr) (l f : Nat) (zs : List Int) (w : World) (hr : RI w a xs) (hn : xs.length = n) (hb : n ≤ 1048576) (hnc : n ≤ c) (hr2 : RI w b ys) (hm : ys.length = m) (hmb : m ≤ 1048576) (hmd : m ≤ d) (hr3 : RI w a2 zs) (hl : zs.length = l) (hlb : l ≤ 1048576) (_hlf : l ≤ f) :
    Calls Try.prog 13 #[.slice a n c, .slice b m d, .slice a2 l f] w fun e w' => ∃ r, e = .returned (.int .i64 r) ∧ Hid (r = lrM xs ys zs) ∧ Below w.heap.size w w' :=
  (specLr_any a n c xs b m d ys a2 l f zs w hr hn hb hnc hr2 hm hmb hmd hr3 hl hlb).mono fun _ _ h => ⟨_, h.1, rfl, h.2⟩
end Go.Proofs.Ytpjkhkoecgjjbaa
