/-
  append of one integer, as a step of a region that draws its order.
  Contract of DreamWord, the program's.
  Contracts of byDreams and slices.CompareFunc at cells.
-/
import Derived.Test.YtomejjbkakpoiaaGreatBuY9
import Derived.Deep.RegionHeld3
import Derived.Test.YtomejjbkakpoiaaGreatBuY11
import Derived.Test.YtomejjbkakpoiaaGreatBuY10
namespace Go.Proofs.YtomejjbkakpoiaaGreat
open Go.RowKit

theorem step_pushI {w : World} {W : World} {x0 : Int} (hW : W = w.alloc (.cells #[.int .i64 x0] 3)) {ops : Array Oper} {o : Oper} {ac : Act} {K : Act → World → Prop} {Q : Exit → Act → World → Prop} (hwant : Region.wanted o (yielded ops ac.tmps) = true) (s x : Operand)
    (ho : o.op = .call { callee := .builtin .append, args := #[s, x], argTypes := #[24, 24] })
    {B S : Nat} {a : Option Addr} {n c : Nat} {l : List Int} (hown : OwI w B S a n c l) (hs : ac.eval s = .slice a n c)
    (hx : ac.eval x = .slice (some ⟨w.heap.size, 0, none⟩) 1 1) (hn : n + 1 ≤ 16777216) (hbase : B ≤ w.heap.size)
    (h : ∀ a' c' w', OwI w' B w'.heap.size a' (n + 1) c' (l ++ [x0]) → Grows w w' (.slice a n c) (.slice a' (n + 1) c') → K (ac.put o.dst (.slice a' (n + 1) c')) w') :
    if Region.wanted o (yielded ops ac.tmps) = true then Oper.wp Tryz.prog o ac W K Q else K (ac.put o.dst undef) W := by
  rw [if_pos hwant]
  subst hW
  obtain ⟨i0, hi, hz0, hz1, hz2⟩ := info_parts Tryz.info3
  obtain ⟨v', w', hr, h2, h3⟩ := run_app (P := Tryz.prog) (w.alloc (.cells #[.int .i64 x0] 3)) B 24 o.type 3 i0 (.int .i64 0) 8 Tryz.underlying24 hi hz0 hz1 hz2 rfl (.slice a n c) n (ints l) (hown.own.alloc _) (some ⟨w.heap.size, 0, none⟩) 1 1 [.int .i64 x0] rfl (by simp)
    (by
      intro ad had j u hu
      obtain rfl := Option.some.inj had
      match j, hu with
      | 0, hu => simp at hu; subst hu; simp [Addr.add])
    (by intro u hu; simp at hu; subst hu; rfl) hn (by omega) (by simp; omega)
  obtain ⟨a', c', rfl, _⟩ := slice_of h2
  unfold Oper.wp execOp
  simp only [ho, resolve, invoke, builtin, Sem.run_bind, Sem.run_pure, Result.andThen_ok, List.map_toArray, List.map_cons, List.map_nil, hs, hx, hr]
  exact h a' c' w' (OwI.mk (by simpa [ints] using h2)) ((Grows.of_below _ ((Below.refl _ _).alloc (Nat.le_refl _) _)).trans h3)
/-- .. where the size of the heap is written another way -/
theorem wpList_pushIs {w : World} {W : World} {x0 : Int} (hW : W = w.alloc (.cells #[.int .i64 x0] 3)) {ops : Array Oper} {rest : List Oper} {o : Oper} {ac : Act} {Q : Exit → Act → World → Prop} (hgd : o.guard = none) (s x : Operand)
    (ho : o.op = .call { callee := .builtin .append, args := #[s, x], argTypes := #[24, 24] })
    {B S z : Nat} {a : Option Addr} {n c : Nat} {xs : List Int} (hown : OwI w B S a n c xs) (hs : ac.eval s = .slice a n c)
    (hx : ac.eval x = .slice (some ⟨z, 0, none⟩) 1 1) (hz : z = w.heap.size) (hn : n + 1 ≤ 16777216) (hbase : B ≤ w.heap.size)
    (h : ∀ a' c' w', OwI w' B w'.heap.size a' (n + 1) c' (xs ++ [x0]) → Grows w w' (.slice a n c) (.slice a' (n + 1) c') → wpList Tryz.prog ops Q rest (ac.put o.dst (.slice a' (n + 1) c')) w') :
    wpList Tryz.prog ops Q (o :: rest) ac W := by
  subst hz
  exact wpList_pushI hW hgd s x ho hown hs hx hn hbase h
end Go.Proofs.YtomejjbkakpoiaaGreat

namespace Go.Proofs.YtomejjbkakpoiaaGreat
open Go.RowKit Go.Shelf Go.Sort

set_option maxRecDepth 100000 in
set_option maxHeartbeats 800000 in
theorem byCells_laid (a b c d : Int) (w : World) (ha : Low a) (hb : Low b) (hc : Low c) (hd : Low d) :
    Calls Tryz.prog 76 #[.agg #[.int .i64 a, .int .i64 b], .agg #[.int .i64 c, .int .i64 d]] w fun e w' => e = .returned (.int .i64 (cellCmp (a, b) (c, d))) ∧ Laid w w' := by
  obtain ⟨a1, a2⟩ := ha
  obtain ⟨b1, b2⟩ := hb
  obtain ⟨c1, c2⟩ := hc
  obtain ⟨d1, d2⟩ := hd
  have hB := Lib.hid (((Laid.refl w).alloc (.cells #[.int .i64 a, .int .i64 b] 36)).alloc (.cells #[.int .i64 c, .int .i64 d] 36))
  by_cases h1 : a = c
  · have e1 : (a != c) = false := by simp [h1]
    have Hr := Lib.hid (show cellCmp (a, b) (c, d) = b - d by unfold cellCmp; rw [if_pos h1])
    clear h1
    go_enter Tryz.func76, Tryz.ntmps76
    go_wp2
    go_ret
    exact ⟨ret_int Hr.out.symm, hB.out⟩
  · have e1 : (a != c) = true := by simp [h1]
    have Hr := Lib.hid (show cellCmp (a, b) (c, d) = a - c by unfold cellCmp; rw [if_neg h1])
    clear h1
    go_enter Tryz.func76, Tryz.ntmps76
    go_wp2
    go_ret
    exact ⟨ret_int Hr.out.symm, hB.out⟩

def wordCmp (x y : LowP) : Int := cellCmp (turned x.1) (turned y.1)
theorem wordCmp_lt (x y : LowP) : ltOf wordCmp x y = cellLess (turned x.1) (turned y.1) := cellCmp_less _ _
theorem wordCmp_swo : SWO (ltOf wordCmp) where
  irrefl x := by rw [wordCmp_lt, cellLess_no]; omega
  trans x y z h1 h2 := by rw [wordCmp_lt, cellLess_iff] at *; omega
  ntrans x y z h1 h2 := by rw [wordCmp_lt, cellLess_no] at *; omega
theorem wordCmp_one (x y : LowP) (h1 : ltOf wordCmp x y = false) (h2 : ltOf wordCmp y x = false) : x = y := by
  rw [wordCmp_lt, cellLess_no] at *
  unfold turned at *
  simp only at h1 h2
  exact Subtype.ext (Prod.ext (by omega) (by omega))
theorem wordCmp_le (x y : LowP) : wordLe x.1 y.1 = !(ltOf wordCmp) y x := by rw [wordCmp_lt]; rfl

set_option maxRecDepth 100000 in
set_option maxHeartbeats 800000 in
theorem wordCmp_laid (x y : LowP) (w : World) :
    Calls Tryz.prog 81 #[.agg (encP x).toArray, .agg (encP y).toArray] w fun e w' => e = .returned (.int .i64 (wordCmp x y)) ∧ Laid w w' := by
  obtain ⟨⟨a, b⟩, ⟨a1, a2⟩, b1, b2⟩ := x
  obtain ⟨⟨c, d⟩, ⟨c1, c2⟩, d1, d2⟩ := y
  simp only at a1 a2 b1 b2 c1 c2 d1 d2
  have hB := Lib.hid (((Laid.refl w).alloc (.cells #[.int .i64 a, .int .i64 b] 36)).alloc (.cells #[.int .i64 c, .int .i64 d] 36))
  unfold encP wordCmp turned
  simp only
  generalize hr : cellCmp (a, -b) (c, -d) = r
  have Hr := Lib.hid hr; clear hr
  go_enter Tryz.func81, Tryz.ntmps81
  go_wp2_with fail
  refine (byCells_laid a (-b) c (-d) _ (by unfold Low; omega) (by unfold Low; omega) (by unfold Low; omega) (by unfold Low; omega)).mono ?_
  rintro e w2 ⟨rfl, hl⟩
  rw [Hr.out]
  have hB2 := hB.out.trans hl
  go_wp2
  go_ret
  exact ⟨rfl, hB2⟩

def dreamWord (n : Int) (xs : List (Int × Int)) : List Int := if isDream n xs = true then wordOf xs else []
theorem dreamWord_no {n : Int} {xs : List (Int × Int)} (h : isDream n xs = false) : dreamWord n xs = [] := by rw [dreamWord, if_neg (by rw [h]; simp)]
theorem dreamWord_ok {n : Int} {xs : List (Int × Int)} (h : isDream n xs = true) : dreamWord n xs = wordOf xs := by rw [dreamWord, if_pos h]
theorem dreamWord_length (n : Int) (xs : List (Int × Int)) : (dreamWord n xs).length ≤ 15 := by
  cases h : isDream n xs
  · rw [dreamWord_no h]; simp
  · rw [dreamWord_ok h, wordOf, List.length_map, (wordCells_perm xs).length_eq]
    exact dream_short (dream_all h).1.2 (dream_all h).2

set_option maxRecDepth 100000 in
set_option maxHeartbeats 1600000 in
theorem implDW_any (N : Int) (a : Option Addr) (n c : Nat) (xs : List (Int × Int)) (w : World) (hl : -9223372036854775808 ≤ N) (hu : N ≤ 9223372036854775807) (hr : RC w a xs) (hn : xs.length = n) (hb : n ≤ 1048576) (_hs : Short_C xs) :
    Calls Tryz.prog 39 #[.int .i64 N, .slice a n c] w fun e w' => ∃ a' n' c' r, e = .returned (.tuple #[.slice a' n' c', .bool r]) ∧ OwI w' w.heap.size w'.heap.size a' n' c' (dreamWord N xs) ∧ Hid (r = isDream N xs) ∧ Below w.heap.size w w' := by
  have Hn := Lib.hid hn; clear hn
  cases hd : isDream N xs
  · have Hd := Lib.hid hd
    have Hw := Lib.hid (dreamWord_no hd); clear hd
    go_enter Tryz.func39, Tryz.ntmps39
    go_wp2_with fail
    refine (is (implDream_any N _ _ _ xs _ hl hu hr Hn.out hb) Hd.out).mono ?_
    rintro e w1 ⟨rfl, hb1⟩
    go_wp2
    go_ret2
    exact ⟨_, _, _, _, rfl, by rw [Hw.out]; exact OwI.nil, rfl, hb1⟩
  have Hd := Lib.hid hd
  have Hw := Lib.hid (dreamWord_ok hd)
  have hlow := dream_low hd
  have Hlow := Lib.hid (show ∀ p ∈ xs, Low p.1 ∧ Low p.2 from fun p hp => by obtain ⟨k, hk⟩ := List.getElem?_of_mem hp; exact hlow k p hk)
  have Hsort := Lib.hid (word_sorted hd)
  clear hd hlow
  go_enter Tryz.func39, Tryz.ntmps39
  go_wp2_with fail
  refine (is (implDream_any N _ _ _ xs _ hl hu hr Hn.out hb) Hd.out).mono ?_
  rintro e w1 ⟨rfl, hb1⟩
  have hr1 := hr.below hb1
  go_wp2_with fail
  refine (cloneC_any _ _ _ xs _ hr1 Hn.out hb).mono ?_
  rintro e w2 ⟨al, cl, rfl, hol, hb2⟩
  have hB2 := hb1.trans (hb2.mono hb1.size)
  have hz1 := hb1.size
  have hz2 := hb2.size
  clear hr1
  go_wp2_with fail
  refine (sortC_any wordCmp wordCmp_swo wordCmp_one wordLe wordCmp_le 81 (fun args w => by kernel_rfl) wordCmp_laid _ _ _ _ _ xs _ hol Hlow.out hb).mono ?_
  rintro e w3 ⟨rfl, hos, hon⟩
  rw [Hsort.out] at hos
  have hB3 := hon.below hB2 hz1 (Nat.le_trans hz1 hz2)
  have hz3 := hon.size
  have hrs := hos.rd
  have hln := Lib.hid hos.len
  have Hlow2 := Lib.hid (show ∀ p ∈ wordCells xs, Low p.1 ∧ Low p.2 from fun p hp => Hlow.out p ((wordCells_perm xs).mem_iff.1 hp))
  clear hol hos hon hb1 hb2 hB2
  have h1 : OwI (w3.alloc (.cells #[] 3)) w3.heap.size (w3.alloc (.cells #[] 3)).heap.size (some ⟨w3.heap.size, 0, none⟩) 0 0 [] := OwI.mk (World.ownsRow_made _ #[] 0 (Nat.le_refl _) (Nat.zero_le _) rfl)
  have hB0 : Below w3.heap.size w3 (w3.alloc (.cells #[] 3)) := (Below.refl _ _).alloc (Nat.le_refl _) _
  go_wp2
  go_loopw [7, 21] (fun ov kv wr => Hid (∃ (k : Nat) (a' : Option Addr) (c' : Nat), k ≤ n ∧ kv = .int .i64 k ∧ ov = .slice a' k c' ∧ OwI wr w3.heap.size wr.heap.size a' k c' (((wordCells xs).map csum).take k)) ∧ Below w3.heap.size w3 wr) (fun _ k _ => n - (intOf k).toNat)
  case atStart => exact ⟨⟨0, _, _, Nat.zero_le _, rfl, rfl, h1⟩, hB0⟩
  case round =>
    clear h1 hB0
    obtain ⟨HV, hB⟩ := hrel
    obtain ⟨wo, rfl⟩ : ∃ wo : World, wo = wr := ⟨_, rfl⟩
    obtain ⟨k, a1, c1, hk, rfl, rfl, ho⟩ := HV.out
    clear HV
    have hbs := hB.size
    by_cases hlt : k < n
    · obtain ⟨b, off, rfl, hcell⟩ := (hrs.below hB).at (k := k) (by rw [hln.out]; exact hlt)
      obtain ⟨x, y, hx⟩ := pair_at hln.out hlt
      obtain ⟨hc1, hc2⟩ := hcell _ _ hx
      clear hcell
      simp only at hc1 hc2
      obtain ⟨⟨l1, l2⟩, l3, l4⟩ := Hlow2.out _ (List.mem_of_getElem? hx)
      simp only at l1 l2 l3 l4
      have Hstep := Lib.hid (show ((wordCells xs).map csum).take k ++ [x + y] = ((wordCells xs).map csum).take (k + 1) by rw [List.take_add_one, List.getElem?_map, hx]; rfl)
      clear hx
      have hBc : Below wo.heap.size wo (wo.alloc (.cells #[.int .i64 x, .int .i64 y] 36)) := (Below.refl _ _).alloc (Nat.le_refl _) _
      have HO := Lib.hid (ho.below hBc)
      have hB1 := hB.trans (hBc.mono hbs)
      have hs1 : w3.heap.size ≤ (wo.alloc (.cells #[.int .i64 x, .int .i64 y] 36)).heap.size := hB1.size
      clear ho
      have q1 : (k : Int) < (n : Int) := by omega
      go_wp2_with (first | (at_builtin; go_loud (refine wpList_pushIs (by rfl) (by rfl) _ _ (by rfl) HO.out (by rfl) (by rfl) (by simp) (by omega) hs1 ?_)))
      intro a3 c3 w4 ho3 hg3
      have hB4 := below_grown hB1 hg3.grown hs1 HO.out.1.lo
      rw [Hstep.out] at ho3
      have HO3 := Lib.hid ho3
      clear ho3 HO hg3 hB1 hBc
      go_wp2
      go_roundw
      case rel => exact ⟨⟨k + 1, _, _, by omega, by go_num, rfl, HO3.out⟩, hB4⟩
      case measure => simp [intOf]; omega
    · obtain rfl : k = n := by omega
      rw [List.take_of_length_le (by rw [List.length_map, hln.out]; exact Nat.le_refl _)] at ho
      have HO := Lib.hid (ho.mono (B' := w.heap.size) (S' := wo.heap.size) hB3.size (Nat.le_refl _))
      have hB5 := hB3.trans (hB.mono hB3.size)
      clear ho
      go_wp2
      go_ret2
      exact ⟨_, _, _, _, rfl, by rw [Hw.out]; exact HO.out, rfl, hB5⟩
end Go.Proofs.YtomejjbkakpoiaaGreat

namespace Go.Proofs.YtomejjbkakpoiaaGreat
open Go.RowKit Go.Shelf Go.Sort

theorem Laid.below {w w' : World} (h : Laid w w') : Below w.heap.size w w' := by
  obtain ⟨q, os, rfl⟩ := h
  refine (Drew.below (Drew.drewN w q) w.heap.size).trans ?_
  have hz : (w.drewN q).heap.size = w.heap.size := rfl
  exact ⟨rfl, rfl, rfl, by simp [grow], fun k hk => by simp [grow, Array.getElem?_append, hk]⟩
def LowL (xs : List (Int × Int)) : Prop := ∀ p ∈ xs, Low p.1 ∧ Low p.2
theorem cmpD_skip : ∀ {xs ys : List (Int × Int)} {k : Nat}, SameTo xs ys k → k ≤ xs.length → k ≤ ys.length → cmpD xs ys = cmpD (xs.drop k) (ys.drop k)
  | xs, ys, 0, _, _, _ => by rw [List.drop_zero, List.drop_zero]
  | [], _, k + 1, _, h, _ => by simp at h
  | _ :: _, [], k + 1, _, _, h => by simp at h
  | x :: xs, y :: ys, k + 1, h, h1, h2 => by
    have e : x = y := by have := h 0 (by omega); simpa using this
    have h' : SameTo xs ys k := fun j hj => by have := h (j + 1) (by omega); simpa using this
    rw [cmpD, if_pos (cellCmp_zero.2 e), List.drop_succ_cons, List.drop_succ_cons]
    exact cmpD_skip h' (by simpa using h1) (by simpa using h2)
theorem cmpD_at {xs ys : List (Int × Int)} {k : Nat} {x y : Int × Int} (h : SameTo xs ys k) (hx : xs[k]? = some x) (hy : ys[k]? = some y) (hne : cellCmp x y ≠ 0) : cmpD xs ys = cellCmp x y := by
  obtain ⟨h1, e1⟩ := List.getElem?_eq_some_iff.1 hx
  obtain ⟨h2, e2⟩ := List.getElem?_eq_some_iff.1 hy
  rw [cmpD_skip h (by omega) (by omega), List.drop_eq_getElem_cons h1, List.drop_eq_getElem_cons h2, cmpD, e1, e2, if_neg hne]
theorem cmpD_over {xs ys : List (Int × Int)} {n m : Nat} (hn : xs.length = n) (hm : ys.length = m) (h : SameTo xs ys m) (hl : m < n) : cmpD xs ys = 1 := by
  rw [cmpD_skip h (by omega) (by omega), List.drop_of_length_le (l := ys) (by omega), List.drop_eq_getElem_cons (by omega), cmpD]
theorem cmpD_end {xs ys : List (Int × Int)} {n m : Nat} (hn : xs.length = n) (hm : ys.length = m) (h : SameTo xs ys n) (hl : n ≤ m) : cmpD xs ys = if n < m then -1 else 0 := by
  rw [cmpD_skip h (by omega) (by omega), List.drop_of_length_le (l := xs) (by omega)]
  by_cases h1 : n < m
  · rw [if_pos h1, List.drop_eq_getElem_cons (by omega), cmpD]
  · rw [if_neg h1, List.drop_of_length_le (by omega), cmpD]

set_option maxRecDepth 100000 in
set_option maxHeartbeats 1600000 in
theorem compareC_any (a b : Option Addr) (n c m d : Nat) (xs ys : List (Int × Int)) (w : World) (hr : RC w a xs) (hs : RC w b ys) (hn : xs.length = n) (hm : ys.length = m) (hb : n ≤ 1048576) (_hb2 : m ≤ 1048576) (hl1 : LowL xs) (hl2 : LowL ys) :
    Calls Tryz.prog 112 #[.slice a n c, .slice b m d, .func (.func 76) #[] #[]] w fun e w' => e = .returned (.int .i64 (cmpD xs ys)) ∧ Laid w w' := by
  have Hn := Lib.hid hn; clear hn
  have Hm := Lib.hid hm; clear hm
  have HL1 := Lib.hid hl1; clear hl1
  have HL2 := Lib.hid hl2; clear hl2
  go_enter Tryz.func112, Tryz.ntmps112
  go_wp2
  go_loopw [13] (fun iv wr => Hid (∃ k : Nat, k ≤ n ∧ k ≤ m ∧ iv = .int .i64 k ∧ SameTo xs ys k) ∧ Laid w wr) (fun iv _ => n - (intOf iv).toNat)
  case atStart => exact ⟨⟨0, Nat.zero_le _, Nat.zero_le _, rfl, fun j hj => by omega⟩, Laid.refl _⟩
  case round =>
    obtain ⟨HV, hd⟩ := hrel
    obtain ⟨wo, rfl⟩ : ∃ wo : World, wo = wr := ⟨_, rfl⟩
    obtain ⟨k, hkn, hkm, rfl, hsame⟩ := HV.out
    clear HV
    have Hsame := Lib.hid hsame
    clear hsame
    have hBo := Laid.below hd
    by_cases hlt : k < n
    · have q1 : (k : Int) < (n : Int) := by omega
      by_cases hlm : k < m
      · have q2 : (k : Int) < (m : Int) := by omega
        obtain ⟨b1, off, rfl, hcell⟩ := (hr.below hBo).at (k := k) (by rw [Hn.out]; exact hlt)
        obtain ⟨b2, off2, rfl, hcell2⟩ := (hs.below hBo).at (k := k) (by rw [Hm.out]; exact hlm)
        obtain ⟨u, v, hx⟩ := pair_at Hn.out hlt
        obtain ⟨p, q, hy⟩ := pair_at Hm.out hlm
        obtain ⟨hc1, hc2⟩ := hcell _ _ hx
        obtain ⟨hc3, hc4⟩ := hcell2 _ _ hy
        simp only at hc1 hc2 hc3 hc4
        have HU := Lib.hid (HL1.out _ (List.mem_of_getElem? hx))
        have HP := Lib.hid (HL2.out _ (List.mem_of_getElem? hy))
        have Hx := Lib.hid hx
        have Hy := Lib.hid hy
        have hBW : Below wo.heap.size wo (wo.alloc (.cells #[.int .i64 u, .int .i64 v] 36)) := (Below.refl _ _).alloc (Nat.le_refl _) _
        have z3 : (wo.alloc (.cells #[.int .i64 u, .int .i64 v] 36)).cell? ⟨b2, off2 + k * 2, none⟩ = some (.int .i64 p) := by rw [hBW.cell (World.block_lt_of_cell? _ _ hc3)]; exact hc3
        have z4 : (wo.alloc (.cells #[.int .i64 u, .int .i64 v] 36)).cell? ⟨b2, off2 + k * 2 + 1, none⟩ = some (.int .i64 q) := by rw [hBW.cell (World.block_lt_of_cell? _ _ hc4)]; exact hc4
        clear hcell hcell2 hx hy hBW
        obtain ⟨r, hr0⟩ : ∃ r, cellCmp (u, v) (p, q) = r := ⟨_, rfl⟩
        have Hr := Lib.hid hr0
        have hA := Lib.hid (((Laid.refl wo).alloc (.cells #[.int .i64 u, .int .i64 v] 36)).alloc (.cells #[.int .i64 p, .int .i64 q] 36))
        by_cases hz : r = 0
        · have Hnx := Lib.hid (Hsame.out.succ Hx.out (by rw [Hy.out, cellCmp_zero.1 (hr0.trans hz)]))
          subst hz
          clear hr0
          go_wp2_with fail
          refine (isInt (byCells_laid u v p q _ HU.out.1 HU.out.2 HP.out.1 HP.out.2) Hr.out).mono ?_
          rintro e w3 ⟨rfl, hl3⟩
          have hd3 := (hd.trans hA.out).trans hl3
          go_wp2
          go_roundw
          case rel => exact ⟨⟨k + 1, by omega, by omega, by go_num, Hnx.out⟩, hd3⟩
          case measure => simp [intOf]; omega
        · have Hfin := Lib.hid (show cmpD xs ys = r by rw [cmpD_at Hsame.out Hx.out Hy.out (by rw [hr0]; exact hz), hr0])
          have e1 : (r != 0) = true := by simpa using hz
          clear hr0 hz
          go_wp2_with fail
          refine (isInt (byCells_laid u v p q _ HU.out.1 HU.out.2 HP.out.1 HP.out.2) Hr.out).mono ?_
          rintro e w3 ⟨rfl, hl3⟩
          have hd3 := (hd.trans hA.out).trans hl3
          go_wp2
          go_ret
          exact ⟨ret_int Hfin.out.symm, hd3⟩
      · have q2 : ¬ (k : Int) < (m : Int) := by omega
        have q3 : (m : Int) ≤ (k : Int) := by omega
        obtain ⟨b1, off, rfl, hcell⟩ := (hr.below hBo).at (k := k) (by rw [Hn.out]; exact hlt)
        obtain ⟨u, v, hx⟩ := pair_at Hn.out hlt
        obtain ⟨hc1, hc2⟩ := hcell _ _ hx
        simp only at hc1 hc2
        have Hfin := Lib.hid (show cmpD xs ys = 1 from cmpD_over Hn.out Hm.out (by rw [show m = k by omega]; exact Hsame.out) (by omega))
        have hA := Lib.hid ((Laid.refl wo).alloc (.cells #[.int .i64 u, .int .i64 v] 36))
        have hd3 := hd.trans hA.out
        clear hcell hx
        go_wp2
        go_ret
        exact ⟨ret_int Hfin.out.symm, hd3⟩
    · obtain rfl : k = n := by omega
      have he := cmpD_end Hn.out Hm.out Hsame.out hkm
      by_cases hl : k < m
      · rw [if_pos hl] at he
        have q2 : (k : Int) < (m : Int) := by omega
        have He := Lib.hid he
        clear he
        go_wp2
        go_ret
        exact ⟨ret_int He.out.symm, hd⟩
      · rw [if_neg hl] at he
        have q2 : ¬ (k : Int) < (m : Int) := by omega
        have He := Lib.hid he
        clear he
        go_wp2
        go_ret
        exact ⟨ret_int He.out.symm, hd⟩
set_option maxRecDepth 100000 in
set_option maxHeartbeats 1600000 in
theorem byDreams_any (a b : Option Addr) (n c m d : Nat) (xs ys : List (Int × Int)) (w : World) (hr : RC w a xs) (hs : RC w b ys) (hn : xs.length = n) (hm : ys.length = m) (hb : n ≤ 1048576) (hb2 : m ≤ 1048576) (hl1 : LowL xs) (hl2 : LowL ys) :
    Calls Tryz.prog 79 #[.slice a n c, .slice b m d] w fun e w' => e = .returned (.int .i64 (cmpD xs ys)) ∧ Laid w w' := by
  have Hn := Lib.hid hn; clear hn
  have Hm := Lib.hid hm; clear hm
  have HL1 := Lib.hid hl1; clear hl1
  have HL2 := Lib.hid hl2; clear hl2
  obtain ⟨r, hr0⟩ : ∃ r, cmpD xs ys = r := ⟨_, rfl⟩
  have Hr := Lib.hid hr0
  rw [hr0]
  clear hr0
  go_enter Tryz.func79, Tryz.ntmps79
  go_wp2_with fail
  refine (isInt (compareC_any _ _ _ _ _ _ xs ys _ hr hs Hn.out Hm.out hb hb2 HL1.out HL2.out) Hr.out).mono ?_
  rintro e w3 ⟨rfl, hl3⟩
  go_wp2
  go_ret
  exact ⟨rfl, hl3⟩
end Go.Proofs.YtomejjbkakpoiaaGreat
