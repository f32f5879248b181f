/-
  append of one integer, as a step of a region that draws its order.
  Contract of DreamWord, the program's.
  Contracts of byDreams and slices.CompareFunc at cells.
  Ladder moves of dreams: plain.
  slices.SortFunc at []impl.Cell: the kit's shelf, laid at this program's numbers.
  slices.SortFunc at []impl.Cell: the kit's shelf, laid at this program's numbers.
-/
import Derived.Test.YtdpjcjnednmoeaaBuM3
import Derived.Deep.RegionHeld3
import Derived.Test.YtdpjcjnednmoeaaBuM12
import Derived.Test.YtdpjcjnednmoeaaBuM10
import Derived.Test.YtdpjcjnednmoeaaBuM11
import Derived.Test.YtdpjcjnednmoeaaBuM9
import Derived.Test.YtdpjcjnednmoeaaBuM8
import Derived.Test.YtdpjcjnednmoeaaFacts
import Derived.Shelf.SlSortCmp.NoneTotal
namespace Go.Proofs.Ytdpjcjnednmoeaa
open Go.RowKit

theorem step_pushI {w : World} {W : World} {x0 : Int} (hW : W = w.alloc (.cells #[.int .i64 x0] 3)) {ops : Array Oper} {o : Oper} {ac : Act} {K : Act → World → Prop} {Q : Exit → Act → World → Prop} (hwant : Region.wanted o (yielded ops ac.tmps) = true) (s x : Operand)
    (ho : o.op = .call { callee := .builtin .append, args := #[s, x], argTypes := #[24, 24] })
    {B S : Nat} {a : Option Addr} {n c : Nat} {l : List Int} (hown : OwI w B S a n c l) (hs : ac.eval s = .slice a n c)
    (hx : ac.eval x = .slice (some ⟨w.heap.size, 0, none⟩) 1 1) (hn : n + 1 ≤ 16777216) (hbase : B ≤ w.heap.size)
    (h : ∀ a' c' w', OwI w' B w'.heap.size a' (n + 1) c' (l ++ [x0]) → Grows w w' (.slice a n c) (.slice a' (n + 1) c') → K (ac.put o.dst (.slice a' (n + 1) c')) w') :
    if Region.wanted o (yielded ops ac.tmps) = true then Oper.wp Try.prog o ac W K Q else K (ac.put o.dst undef) W := by
  rw [if_pos hwant]
  subst hW
  obtain ⟨i0, hi, hz0, hz1, hz2⟩ := info_parts Try.info3
  obtain ⟨v', w', hr, h2, h3⟩ := run_app (P := Try.prog) (w.alloc (.cells #[.int .i64 x0] 3)) B 24 o.type 3 i0 (.int .i64 0) 8 Try.underlying24 hi hz0 hz1 hz2 rfl (.slice a n c) n (ints l) (hown.own.alloc _) (some ⟨w.heap.size, 0, none⟩) 1 1 [.int .i64 x0] rfl (by simp)
    (by
      intro ad had j u hu
      obtain rfl := Option.some.inj had
      match j, hu with
      | 0, hu => simp at hu; subst hu; simp [Addr.add])
    (by intro u hu; simp at hu; subst hu; rfl) hn (by omega) (by simp; omega)
  obtain ⟨a', c', rfl, _⟩ := slice_of h2
  unfold Oper.wp execOp
  simp only [ho, resolve, invoke, builtin, Sem.run_bind, Sem.run_pure, Result.andThen_ok, List.map_toArray, List.map_cons, List.map_nil, hs, hx, hr]
  exact h a' c' w' (OwI.mk (by simpa [ints] using h2)) ((Grows.of_below _ ((Below.refl _ _).alloc (Nat.le_refl _) _)).trans h3)
/-- .. where the size of the heap is written another way -/
theorem wpList_pushIs {w : World} {W : World} {x0 : Int} (hW : W = w.alloc (.cells #[.int .i64 x0] 3)) {ops : Array Oper} {rest : List Oper} {o : Oper} {ac : Act} {Q : Exit → Act → World → Prop} (hgd : o.guard = none) (s x : Operand)
    (ho : o.op = .call { callee := .builtin .append, args := #[s, x], argTypes := #[24, 24] })
    {B S z : Nat} {a : Option Addr} {n c : Nat} {xs : List Int} (hown : OwI w B S a n c xs) (hs : ac.eval s = .slice a n c)
    (hx : ac.eval x = .slice (some ⟨z, 0, none⟩) 1 1) (hz : z = w.heap.size) (hn : n + 1 ≤ 16777216) (hbase : B ≤ w.heap.size)
    (h : ∀ a' c' w', OwI w' B w'.heap.size a' (n + 1) c' (xs ++ [x0]) → Grows w w' (.slice a n c) (.slice a' (n + 1) c') → wpList Try.prog ops Q rest (ac.put o.dst (.slice a' (n + 1) c')) w') :
    wpList Try.prog ops Q (o :: rest) ac W := by
  subst hz
  exact wpList_pushI hW hgd s x ho hown hs hx hn hbase h
end Go.Proofs.Ytdpjcjnednmoeaa

namespace Go.Proofs.Ytdpjcjnednmoeaa
open Go.RowKit Go.Shelf Go.Sort

set_option maxRecDepth 100000 in
set_option maxHeartbeats 800000 in
theorem byCells_laid (a b c d : Int) (w : World) (ha : Low a) (hb : Low b) (hc : Low c) (hd : Low d) :
    Calls Try.prog 51 #[.agg #[.int .i64 a, .int .i64 b], .agg #[.int .i64 c, .int .i64 d]] w fun e w' => e = .returned (.int .i64 (cellCmp (a, b) (c, d))) ∧ Laid w w' := by
  obtain ⟨a1, a2⟩ := ha
  obtain ⟨b1, b2⟩ := hb
  obtain ⟨c1, c2⟩ := hc
  obtain ⟨d1, d2⟩ := hd
  have hB := Lib.hid (((Laid.refl w).alloc (.cells #[.int .i64 a, .int .i64 b] 52)).alloc (.cells #[.int .i64 c, .int .i64 d] 52))
  by_cases h1 : a = c
  · have e1 : (a != c) = false := by simp [h1]
    have Hr := Lib.hid (show cellCmp (a, b) (c, d) = b - d by unfold cellCmp; rw [if_pos h1])
    clear h1
    go_enter Try.func51, Try.ntmps51
    go_wp2
    go_ret
    exact ⟨ret_int Hr.out.symm, hB.out⟩
  · have e1 : (a != c) = true := by simp [h1]
    have Hr := Lib.hid (show cellCmp (a, b) (c, d) = a - c by unfold cellCmp; rw [if_neg h1])
    clear h1
    go_enter Try.func51, Try.ntmps51
    go_wp2
    go_ret
    exact ⟨ret_int Hr.out.symm, hB.out⟩

def wordCmp (x y : LowP) : Int := cellCmp (turned x.1) (turned y.1)
theorem wordCmp_lt (x y : LowP) : ltOf wordCmp x y = cellLess (turned x.1) (turned y.1) := cellCmp_less _ _
theorem wordCmp_swo : SWO (ltOf wordCmp) where
  irrefl x := by rw [wordCmp_lt, cellLess_no]; omega
  trans x y z h1 h2 := by rw [wordCmp_lt, cellLess_iff] at *; omega
  ntrans x y z h1 h2 := by rw [wordCmp_lt, cellLess_no] at *; omega
theorem wordCmp_one (x y : LowP) (h1 : ltOf wordCmp x y = false) (h2 : ltOf wordCmp y x = false) : x = y := by
  rw [wordCmp_lt, cellLess_no] at *
  unfold turned at *
  simp only at h1 h2
  exact Subtype.ext (Prod.ext (by omega) (by omega))
theorem wordCmp_le (x y : LowP) : wordLe x.1 y.1 = !(ltOf wordCmp) y x := by rw [wordCmp_lt]; rfl

def dreamWord (n : Int) (xs : List (Int × Int)) : List Int := if isDream n xs = true then wordOf xs else []
theorem dreamWord_no {n : Int} {xs : List (Int × Int)} (h : isDream n xs = false) : dreamWord n xs = [] := by rw [dreamWord, if_neg (by rw [h]; simp)]
theorem dreamWord_ok {n : Int} {xs : List (Int × Int)} (h : isDream n xs = true) : dreamWord n xs = wordOf xs := by rw [dreamWord, if_pos h]
theorem dreamWord_length (n : Int) (xs : List (Int × Int)) : (dreamWord n xs).length ≤ 15 := by
  cases h : isDream n xs
  · rw [dreamWord_no h]; simp
  · rw [dreamWord_ok h, wordOf, List.length_map, (wordCells_perm xs).length_eq]
    exact dream_short (dream_all h).1.2 (dream_all h).2

end Go.Proofs.Ytdpjcjnednmoeaa

namespace Go.Proofs.Ytdpjcjnednmoeaa
open Go.RowKit Go.Shelf Go.Sort

theorem Laid.below {w w' : World} (h : Laid w w') : Below w.heap.size w w' := by
  obtain ⟨q, os, rfl⟩ := h
  refine (Drew.below (Drew.drewN w q) w.heap.size).trans ?_
  have hz : (w.drewN q).heap.size = w.heap.size := rfl
  exact ⟨rfl, rfl, rfl, by simp [grow], fun k hk => by simp [grow, Array.getElem?_append, hk]⟩
def LowL (xs : List (Int × Int)) : Prop := ∀ p ∈ xs, Low p.1 ∧ Low p.2
theorem cmpD_skip : ∀ {xs ys : List (Int × Int)} {k : Nat}, SameTo xs ys k → k ≤ xs.length → k ≤ ys.length → cmpD xs ys = cmpD (xs.drop k) (ys.drop k)
  | xs, ys, 0, _, _, _ => by rw [List.drop_zero, List.drop_zero]
  | [], _, k + 1, _, h, _ => by simp at h
  | _ :: _, [], k + 1, _, _, h => by simp at h
  | x :: xs, y :: ys, k + 1, h, h1, h2 => by
    have e : x = y := by have := h 0 (by omega); simpa using this
    have h' : SameTo xs ys k := fun j hj => by have := h (j + 1) (by omega); simpa using this
    rw [cmpD, if_pos (cellCmp_zero.2 e), List.drop_succ_cons, List.drop_succ_cons]
    exact cmpD_skip h' (by simpa using h1) (by simpa using h2)
theorem cmpD_at {xs ys : List (Int × Int)} {k : Nat} {x y : Int × Int} (h : SameTo xs ys k) (hx : xs[k]? = some x) (hy : ys[k]? = some y) (hne : cellCmp x y ≠ 0) : cmpD xs ys = cellCmp x y := by
  obtain ⟨h1, e1⟩ := List.getElem?_eq_some_iff.1 hx
  obtain ⟨h2, e2⟩ := List.getElem?_eq_some_iff.1 hy
  rw [cmpD_skip h (by omega) (by omega), List.drop_eq_getElem_cons h1, List.drop_eq_getElem_cons h2, cmpD, e1, e2, if_neg hne]
theorem cmpD_over {xs ys : List (Int × Int)} {n m : Nat} (hn : xs.length = n) (hm : ys.length = m) (h : SameTo xs ys m) (hl : m < n) : cmpD xs ys = 1 := by
  rw [cmpD_skip h (by omega) (by omega), List.drop_of_length_le (l := ys) (by omega), List.drop_eq_getElem_cons (by omega), cmpD]
theorem cmpD_end {xs ys : List (Int × Int)} {n m : Nat} (hn : xs.length = n) (hm : ys.length = m) (h : SameTo xs ys n) (hl : n ≤ m) : cmpD xs ys = if n < m then -1 else 0 := by
  rw [cmpD_skip h (by omega) (by omega), List.drop_of_length_le (l := xs) (by omega)]
  by_cases h1 : n < m
  · rw [if_pos h1, List.drop_eq_getElem_cons (by omega), cmpD]
  · rw [if_neg h1, List.drop_of_length_le (by omega), cmpD]

set_option maxRecDepth 100000 in
set_option maxHeartbeats 1600000 in
theorem compareC_any (a b : Option Addr) (n c m d : Nat) (xs ys : List (Int × Int)) (w : World) (hr : RC w a xs) (hs : RC w b ys) (hn : xs.length = n) (hm : ys.length = m) (hb : n ≤ 1048576) (_hb2 : m ≤ 1048576) (hl1 : LowL xs) (hl2 : LowL ys) :
    Calls Try.prog 63 #[.slice a n c, .slice b m d, .func (.func 51) #[] #[]] w fun e w' => e = .returned (.int .i64 (cmpD xs ys)) ∧ Laid w w' := by
  have Hn := Lib.hid hn; clear hn
  have Hm := Lib.hid hm; clear hm
  have HL1 := Lib.hid hl1; clear hl1
  have HL2 := Lib.hid hl2; clear hl2
  go_enter Try.func63, Try.ntmps63
  go_wp2
  go_loopw [13] (fun iv wr => Hid (∃ k : Nat, k ≤ n ∧ k ≤ m ∧ iv = .int .i64 k ∧ SameTo xs ys k) ∧ Laid w wr) (fun iv _ => n - (intOf iv).toNat)
  case atStart => exact ⟨⟨0, Nat.zero_le _, Nat.zero_le _, rfl, fun j hj => by omega⟩, Laid.refl _⟩
  case round =>
    obtain ⟨HV, hd⟩ := hrel
    obtain ⟨wo, rfl⟩ : ∃ wo : World, wo = wr := ⟨_, rfl⟩
    obtain ⟨k, hkn, hkm, rfl, hsame⟩ := HV.out
    clear HV
    have Hsame := Lib.hid hsame
    clear hsame
    have hBo := Laid.below hd
    by_cases hlt : k < n
    · have q1 : (k : Int) < (n : Int) := by omega
      by_cases hlm : k < m
      · have q2 : (k : Int) < (m : Int) := by omega
        obtain ⟨b1, off, rfl, hcell⟩ := (hr.below hBo).at (k := k) (by rw [Hn.out]; exact hlt)
        obtain ⟨b2, off2, rfl, hcell2⟩ := (hs.below hBo).at (k := k) (by rw [Hm.out]; exact hlm)
        obtain ⟨u, v, hx⟩ := pair_at Hn.out hlt
        obtain ⟨p, q, hy⟩ := pair_at Hm.out hlm
        obtain ⟨hc1, hc2⟩ := hcell _ _ hx
        obtain ⟨hc3, hc4⟩ := hcell2 _ _ hy
        simp only at hc1 hc2 hc3 hc4
        have HU := Lib.hid (HL1.out _ (List.mem_of_getElem? hx))
        have HP := Lib.hid (HL2.out _ (List.mem_of_getElem? hy))
        have Hx := Lib.hid hx
        have Hy := Lib.hid hy
        have hBW : Below wo.heap.size wo (wo.alloc (.cells #[.int .i64 u, .int .i64 v] 52)) := (Below.refl _ _).alloc (Nat.le_refl _) _
        have z3 : (wo.alloc (.cells #[.int .i64 u, .int .i64 v] 52)).cell? ⟨b2, off2 + k * 2, none⟩ = some (.int .i64 p) := by rw [hBW.cell (World.block_lt_of_cell? _ _ hc3)]; exact hc3
        have z4 : (wo.alloc (.cells #[.int .i64 u, .int .i64 v] 52)).cell? ⟨b2, off2 + k * 2 + 1, none⟩ = some (.int .i64 q) := by rw [hBW.cell (World.block_lt_of_cell? _ _ hc4)]; exact hc4
        clear hcell hcell2 hx hy hBW
        obtain ⟨r, hr0⟩ : ∃ r, cellCmp (u, v) (p, q) = r := ⟨_, rfl⟩
        have Hr := Lib.hid hr0
        have hA := Lib.hid (((Laid.refl wo).alloc (.cells #[.int .i64 u, .int .i64 v] 52)).alloc (.cells #[.int .i64 p, .int .i64 q] 52))
        by_cases hz : r = 0
        · have Hnx := Lib.hid (Hsame.out.succ Hx.out (by rw [Hy.out, cellCmp_zero.1 (hr0.trans hz)]))
          subst hz
          clear hr0
          go_wp2_with fail
          refine (isInt (byCells_laid u v p q _ HU.out.1 HU.out.2 HP.out.1 HP.out.2) Hr.out).mono ?_
          rintro e w3 ⟨rfl, hl3⟩
          have hd3 := (hd.trans hA.out).trans hl3
          go_wp2
          go_roundw
          case rel => exact ⟨⟨k + 1, by omega, by omega, by go_num, Hnx.out⟩, hd3⟩
          case measure => simp [intOf]; omega
        · have Hfin := Lib.hid (show cmpD xs ys = r by rw [cmpD_at Hsame.out Hx.out Hy.out (by rw [hr0]; exact hz), hr0])
          have e1 : (r != 0) = true := by simpa using hz
          clear hr0 hz
          go_wp2_with fail
          refine (isInt (byCells_laid u v p q _ HU.out.1 HU.out.2 HP.out.1 HP.out.2) Hr.out).mono ?_
          rintro e w3 ⟨rfl, hl3⟩
          have hd3 := (hd.trans hA.out).trans hl3
          go_wp2
          go_ret
          exact ⟨ret_int Hfin.out.symm, hd3⟩
      · have q2 : ¬ (k : Int) < (m : Int) := by omega
        have q3 : (m : Int) ≤ (k : Int) := by omega
        obtain ⟨b1, off, rfl, hcell⟩ := (hr.below hBo).at (k := k) (by rw [Hn.out]; exact hlt)
        obtain ⟨u, v, hx⟩ := pair_at Hn.out hlt
        obtain ⟨hc1, hc2⟩ := hcell _ _ hx
        simp only at hc1 hc2
        have Hfin := Lib.hid (show cmpD xs ys = 1 from cmpD_over Hn.out Hm.out (by rw [show m = k by omega]; exact Hsame.out) (by omega))
        have hA := Lib.hid ((Laid.refl wo).alloc (.cells #[.int .i64 u, .int .i64 v] 52))
        have hd3 := hd.trans hA.out
        clear hcell hx
        go_wp2
        go_ret
        exact ⟨ret_int Hfin.out.symm, hd3⟩
    · obtain rfl : k = n := by omega
      have he := cmpD_end Hn.out Hm.out Hsame.out hkm
      by_cases hl : k < m
      · rw [if_pos hl] at he
        have q2 : (k : Int) < (m : Int) := by omega
        have He := Lib.hid he
        clear he
        go_wp2
        go_ret
        exact ⟨ret_int He.out.symm, hd⟩
      · rw [if_neg hl] at he
        have q2 : ¬ (k : Int) < (m : Int) := by omega
        have He := Lib.hid he
        clear he
        go_wp2
        go_ret
        exact ⟨ret_int He.out.symm, hd⟩
set_option maxRecDepth 100000 in
set_option maxHeartbeats 1600000 in
theorem byDreams_any (a b : Option Addr) (n c m d : Nat) (xs ys : List (Int × Int)) (w : World) (hr : RC w a xs) (hs : RC w b ys) (hn : xs.length = n) (hm : ys.length = m) (hb : n ≤ 1048576) (hb2 : m ≤ 1048576) (hl1 : LowL xs) (hl2 : LowL ys) :
    Calls Try.prog 54 #[.slice a n c, .slice b m d] w fun e w' => e = .returned (.int .i64 (cmpD xs ys)) ∧ Laid w w' := by
  have Hn := Lib.hid hn; clear hn
  have Hm := Lib.hid hm; clear hm
  have HL1 := Lib.hid hl1; clear hl1
  have HL2 := Lib.hid hl2; clear hl2
  obtain ⟨r, hr0⟩ : ∃ r, cmpD xs ys = r := ⟨_, rfl⟩
  have Hr := Lib.hid hr0
  rw [hr0]
  clear hr0
  go_enter Try.func54, Try.ntmps54
  go_wp2_with fail
  refine (isInt (compareC_any _ _ _ _ _ _ xs ys _ hr hs Hn.out Hm.out hb hb2 HL1.out HL2.out) Hr.out).mono ?_
  rintro e w3 ⟨rfl, hl3⟩
  go_wp2
  go_ret
  exact ⟨rfl, hl3⟩
end Go.Proofs.Ytdpjcjnednmoeaa

namespace Go.Proofs.Ytdpjcjnednmoeaa
open Go.RowKit Go.Shelf Go.Sort

/-! cells in order -/
def cellLe (p q : Int × Int) : Bool := !(cellLess q p)
theorem cellLe_iff (p q : Int × Int) : cellLe p q = true ↔ p.1 < q.1 ∨ p.1 = q.1 ∧ p.2 ≤ q.2 := by
  unfold cellLe
  rw [Bool.not_eq_true', cellLess_no]
  omega
theorem cellLe_trans (a b c : Int × Int) (h : cellLe a b = true) (k : cellLe b c = true) : cellLe a c = true := by
  rw [cellLe_iff] at *; omega
theorem cellLe_total (a b : Int × Int) : (cellLe a b || cellLe b a) = true := by
  rw [Bool.or_eq_true, cellLe_iff, cellLe_iff]; omega
theorem cellLe_antisymm (a b : Int × Int) (h : cellLe a b = true) (k : cellLe b a = true) : a = b := by
  rw [cellLe_iff] at *
  exact Prod.ext (by omega) (by omega)
def sortD (l : List (Int × Int)) : List (Int × Int) := l.mergeSort cellLe
theorem sortD_perm (l : List (Int × Int)) : (sortD l).Perm l := List.mergeSort_perm l cellLe
theorem sortD_unique {xs ys : List (Int × Int)} (hp : ys.Perm xs) (hs : ys.Pairwise (fun a b => cellLe a b = true)) : sortD xs = ys := by
  refine List.Perm.eq_of_pairwise (le := fun a b => cellLe a b = true) ?_ (List.pairwise_mergeSort cellLe_trans cellLe_total xs) hs ((List.mergeSort_perm xs cellLe).trans hp.symm)
  intro a b _ _ h k
  exact cellLe_antisymm a b h k
theorem sortD_congr {xs ys : List (Int × Int)} (hp : xs.Perm ys) : sortD xs = sortD ys :=
  sortD_unique ((sortD_perm ys).trans hp.symm) (List.pairwise_mergeSort cellLe_trans cellLe_total ys)
theorem sortD_length (l : List (Int × Int)) : (sortD l).length = l.length := (sortD_perm l).length_eq
theorem insC_perm (x : Int × Int) (l : List (Int × Int)) : (insC x l).Perm (x :: l) := by
  unfold insC
  rw [List.append_assoc, List.singleton_append]
  refine List.perm_middle.trans ?_
  rw [List.take_append_drop]
theorem cellsTo_perm (xs : List (Int × Int)) : ∀ i, i ≤ xs.length → (cellsTo xs i).Perm (xs.take i)
  | 0, _ => by simp [cellsTo]
  | i + 1, h => by
    rw [cellsTo]
    have hx : xs[i]? = some (cellOf xs i) := by rw [cellOf, List.getD_eq_getElem?_getD, List.getElem?_eq_getElem (by omega)]; rfl
    rw [List.take_add_one, hx]
    refine (insC_perm _ _).trans ?_
    refine ((cellsTo_perm xs i (by omega)).cons _).trans ?_
    exact (List.perm_append_singleton _ _).symm
theorem cutR_lo {x : Int × Int} {l : List (Int × Int)} : ∀ {k : Nat} {j : Nat}, cutR x l k ≤ j → j < k → cellLess x (cellOf l j) = true
  | 0, _, _, h => by omega
  | k + 1, j, h, hj => by
    unfold cutR at h
    split at h
    · rename_i hc
      rcases Nat.lt_or_ge j k with h1 | h1
      · exact cutR_lo h h1
      · obtain rfl : j = k := by omega
        exact hc
    · omega
theorem cutR_hi {x : Int × Int} {l : List (Int × Int)} : ∀ {k : Nat}, 0 < cutR x l k → cellLess x (cellOf l (cutR x l k - 1)) = false
  | 0, h => by simp [cutR] at h
  | k + 1, h => by
    unfold cutR at h ⊢
    split
    · rename_i hc
      rw [if_pos hc] at h
      exact cutR_hi h
    · rename_i hc
      simpa using hc
def SortedC (l : List (Int × Int)) : Prop := l.Pairwise fun a b => cellLe a b = true
theorem insC_sorted {x : Int × Int} {l : List (Int × Int)} (h : SortedC l) : SortedC (insC x l) := by
  have hle := cutR_le x l l.length
  have hof : ∀ j, (hj : j < l.length) → cellOf l j = l[j] := fun j hj => by rw [cellOf, List.getD_eq_getElem?_getD, List.getElem?_eq_getElem hj]; rfl
  unfold insC SortedC
  generalize hk : cutR x l l.length = k at hle
  rw [List.append_assoc, List.pairwise_append]
  have hp : ∀ a ∈ l.take k, cellLe a x = true := by
    intro a ha
    obtain ⟨j, hj⟩ := List.getElem?_of_mem ha
    have hjk : j < k := by have := (List.getElem?_eq_some_iff.1 hj).1; rw [List.length_take] at this; omega
    rw [List.getElem?_take_of_lt hjk] at hj
    have hhi := cutR_hi (x := x) (l := l) (k := l.length) (by omega)
    rw [hk, hof (k - 1) (by omega)] at hhi
    have hxa : cellLe l[k - 1] x = true := by unfold cellLe; rw [hhi]; rfl
    obtain ⟨h1, h2⟩ := List.getElem?_eq_some_iff.1 hj
    rcases Nat.lt_or_ge j (k - 1) with h3 | h3
    · have := List.pairwise_iff_getElem.1 h j (k - 1) h1 (by omega) h3
      rw [h2] at this
      exact cellLe_trans _ _ _ this hxa
    · have : j = k - 1 := by omega
      subst this
      rw [← h2]
      exact hxa
  have hq : ∀ a ∈ l.drop k, cellLe x a = true := by
    intro a ha
    obtain ⟨j, hj⟩ := List.getElem?_of_mem ha
    rw [List.getElem?_drop] at hj
    obtain ⟨h1, h2⟩ := List.getElem?_eq_some_iff.1 hj
    have := cutR_lo (x := x) (l := l) (k := l.length) (j := k + j) (by omega) h1
    rw [hof _ h1, h2, cellLess_iff] at this
    rw [cellLe_iff]
    omega
  refine ⟨List.Pairwise.sublist (List.take_sublist k l) h, ?_, fun a ha b hb => ?_⟩
  · rw [List.singleton_append, List.pairwise_cons]
    exact ⟨hq, List.Pairwise.sublist (List.drop_sublist k l) h⟩
  · rcases List.mem_append.1 hb with hb | hb
    · rw [List.mem_singleton] at hb
      rw [hb]
      exact hp a ha
    · exact cellLe_trans _ _ _ (hp a ha) (hq b hb)
theorem cellsTo_sorted (xs : List (Int × Int)) : ∀ i, SortedC (cellsTo xs i)
  | 0 => List.Pairwise.nil
  | i + 1 => insC_sorted (cellsTo_sorted xs i)
theorem cellsTo_eq (xs : List (Int × Int)) : cellsTo xs xs.length = sortD xs :=
  (sortD_unique (by have := cellsTo_perm xs xs.length (Nat.le_refl _); rwa [List.take_of_length_le (Nat.le_refl _)] at this) (cellsTo_sorted xs _)).symm

theorem ascD_length (L : List (List (Int × Int))) : (ascD L).length ≤ L.length := by
  have h : ∀ l : List (List (Int × Int)), (L.foldl (fun l x => insD x l) l).length ≤ l.length + L.length := by
    induction L with
    | nil => intro l; exact Nat.le_refl _
    | cons x L ih =>
      intro l
      have h1 := ih (insD x l)
      have h2 := insD_length x l
      rw [List.foldl_cons, List.length_cons]
      omega
  have h0 := h []
  rw [List.length_nil, Nat.zero_add] at h0
  exact h0
theorem rest_perm {xs : List (Int × Int)} {i : Nat} (h : i < xs.length) (y : Int × Int) : (xs.take i ++ xs.drop (i + 1) ++ [y]).Perm (xs.set i y) := by
  rw [List.set_eq_take_append_cons_drop, if_pos h]
  refine (List.perm_append_singleton _ _).trans ?_
  exact List.perm_middle.symm

/-! the moves -/
def upTo (xs : List (Int × Int)) (q : Int) : Nat → Nat
  | 0 => 0
  | t + 1 => if (hasC xs t q && hasC xs t (q + 1)) = true then upTo xs q t else t + 1
theorem upTo_le (xs : List (Int × Int)) (q : Int) : ∀ t, upTo xs q t ≤ t
  | 0 => Nat.le_refl _
  | t + 1 => by
    unfold upTo
    split
    · have := upTo_le xs q t; omega
    · exact Nat.le_refl _
/-- where the cell may go: its row, one more -/
def ladAt (xs : List (Int × Int)) (p : Int × Int) : Nat :=
  if hasC xs p.1 (p.2 + 1) = true then 0
  else if (hasC xs ((upTo xs p.2 p.1.toNat : Nat) - 1 : Int) p.2 || hasC xs ((upTo xs p.2 p.1.toNat : Nat) - 1 : Int) (p.2 + 1)) = true then 0
  else upTo xs p.2 p.1.toNat
def movC (xs : List (Int × Int)) (k : Nat) : List (List (Int × Int)) :=
  match ladAt xs (cellOf xs k) with
  | 0 => []
  | s + 1 => [sortD (xs.set k (((s : Nat) : Int), (cellOf xs k).2 + 1))]
def ladTo (xs : List (Int × Int)) : Nat → List (List (Int × Int))
  | 0 => []
  | k + 1 => ladTo xs k ++ movC xs k
def ladders (n : Int) (xs : List (Int × Int)) : List (List (Int × Int)) := if isDream n xs = true then ascD (ladTo xs xs.length) else []
theorem movC_len (xs : List (Int × Int)) (k : Nat) : (movC xs k).length ≤ 1 := by
  unfold movC
  split <;> simp
theorem ladTo_len (xs : List (Int × Int)) : ∀ k, (ladTo xs k).length ≤ k
  | 0 => Nat.le_refl _
  | k + 1 => by
    have := ladTo_len xs k
    have := movC_len xs k
    rw [ladTo, List.length_append]
    omega
theorem movC_mem {xs d : List (Int × Int)} {k : Nat} (h : d ∈ movC xs k) : ∃ s : Nat, s + 1 ≤ (cellOf xs k).1.toNat ∧ d = sortD (xs.set k ((s : Int), (cellOf xs k).2 + 1)) := by
  unfold movC at h
  split at h
  · cases h
  · rename_i s hs
    rw [List.mem_singleton] at h
    refine ⟨s, ?_, h⟩
    unfold ladAt at hs
    split at hs
    · omega
    · split at hs
      · omega
      · have := upTo_le xs (cellOf xs k).2 (cellOf xs k).1.toNat
        omega
theorem ladTo_mem {xs d : List (Int × Int)} : ∀ {k : Nat}, d ∈ ladTo xs k → ∃ j, j < k ∧ d ∈ movC xs j
  | 0, h => by cases h
  | k + 1, h => by
    rw [ladTo, List.mem_append] at h
    rcases h with h | h
    · obtain ⟨j, hj, h⟩ := ladTo_mem h
      exact ⟨j, by omega, h⟩
    · exact ⟨k, by omega, h⟩
theorem cell_some {xs : List (Int × Int)} {k : Nat} (h : k < xs.length) : xs[k]? = some (cellOf xs k) := by
  rw [cellOf, List.getD_eq_getElem?_getD, List.getElem?_eq_getElem h]; rfl
theorem mov_low {n : Int} {xs d : List (Int × Int)} {k : Nat} (hd : isDream n xs = true) (hk : k < xs.length) (h : d ∈ movC xs k) : LowL d ∧ d.length = xs.length := by
  obtain ⟨s, hs, rfl⟩ := movC_mem h
  refine ⟨fun p hp => ?_, by rw [sortD_length, List.length_set]⟩
  have hp2 := (sortD_perm _).mem_iff.1 hp
  rcases List.mem_or_eq_of_mem_set hp2 with h1 | h1
  · obtain ⟨j, hj⟩ := List.getElem?_of_mem h1
    exact dream_low hd j p hj
  · have h2 := dream_low hd k _ (cell_some hk)
    have h3 := dream_in hd hk
    have hn := (dream_all hd).1
    unfold inStair at h3
    simp only [Bool.and_eq_true, decide_eq_true_eq] at h3
    subst h1
    unfold Low at *
    simp only
    omega
theorem mov_differ {n : Int} {xs d : List (Int × Int)} {i j : Nat} (hd : isDream n xs = true) (hij : i < j) (hj : j < xs.length) (h1 : d ∈ movC xs i) (h2 : d ∈ movC xs j) : False := by
  obtain ⟨s, hs, e1⟩ := movC_mem h1
  obtain ⟨t, ht, e2⟩ := movC_mem h2
  have hl := dream_less hd hij hj
  have hm : cellOf xs j ∈ xs.set i ((s : Int), (cellOf xs i).2 + 1) := List.mem_of_getElem? (i := j) (by rw [List.getElem?_set_ne (by omega)]; exact cell_some hj)
  have hm2 : cellOf xs j ∈ d := by rw [e1]; exact (sortD_perm _).mem_iff.2 hm
  rw [e2] at hm2
  have hm3 := (sortD_perm _).mem_iff.1 hm2
  obtain ⟨r, hr⟩ := List.getElem?_of_mem hm3
  by_cases hrj : j = r
  · subst hrj
    rw [List.getElem?_set_self hj] at hr
    have := congrArg Prod.fst (Option.some.inj hr)
    simp only at this
    omega
  · rw [List.getElem?_set_ne hrj] at hr
    have hrl := (List.getElem?_eq_some_iff.1 hr).1
    have e := cellOf_at hr
    rcases Nat.lt_or_ge r j with h3 | h3
    · have := dream_less hd h3 hj
      rw [e] at this
      omega
    · have := dream_less hd (show j < r by omega) hrl
      rw [e] at this
      omega
theorem ladTo_good {n : Int} {xs : List (Int × Int)} (hd : isDream n xs = true) : ∀ {k : Nat}, k ≤ xs.length → (∀ d ∈ ladTo xs k, LowL d ∧ d.length = xs.length) ∧ (ladTo xs k).Nodup
  | 0, _ => ⟨fun d h => (by cases h), List.nodup_nil⟩
  | k + 1, h => by
    obtain ⟨h1, h2⟩ := ladTo_good hd (k := k) (by omega)
    refine ⟨fun d hm => ?_, ?_⟩
    · rw [ladTo, List.mem_append] at hm
      rcases hm with hm | hm
      · exact h1 d hm
      · exact mov_low hd (by omega) hm
    · rw [ladTo, List.nodup_append]
      refine ⟨h2, ?_, fun a ha b hb hab => ?_⟩
      · unfold movC
        split <;> simp
      · subst hab
        obtain ⟨j, hj, hm⟩ := ladTo_mem ha
        exact mov_differ hd hj (by omega) hm hb
theorem ladTo_GoodCC {n : Int} {xs : List (Int × Int)} (hd : isDream n xs = true) (hl : xs.length ≤ 1000) : GoodCC (ladTo xs xs.length) := by
  obtain ⟨h1, h2⟩ := ladTo_good hd (Nat.le_refl _)
  refine ⟨fun p hp => by have := (h1 p hp).2; omega, fun i j p q hi hj e => ?_⟩
  subst e
  have hil := (List.getElem?_eq_some_iff.1 hi).1
  exact (List.getElem?_inj hil h2).1 (hi.trans hj.symm)
end Go.Proofs.Ytdpjcjnednmoeaa

namespace Go.Proofs.Ytdpjcjnednmoeaa
open Go.RowKit Go.Shelf

def renSortCC : Ren := ⟨fun k => if k = 6 then 53 else if k = 14 then 62 else if k = 15 then 61 else if k = 20 then 75 else if k = 21 then 76 else if k = 22 then 77 else if k = 23 then 78 else if k = 24 then 79 else if k = 25 then 80 else if k = 26 then 81 else if k = 27 then 82 else if k = 28 then 73 else if k = 29 then 74 else if k = 46 then 88 else if k = 47 then 84 else if k = 48 then 85 else if k = 49 then 89 else if k = 50 then 90 else if k = 57 then 92 else 0, fun k => if k = 22 then 31 else if k = 24 then 44 else if k = 25 then 75 else if k = 39 then 77 else if k = 45 then 85 else if k = 46 then 86 else if k = 50 then 63 else if k = 53 then 92 else if k = 55 then 94 else if k = 66 then 100 else if k = 70 then 104 else if k = 76 then 108 else if k = 77 then 109 else k, fun k => k⟩
theorem laysSortCC : SlLaysF.n6 Try.prog renSortCC where
  mixed := by kernel_rfl
  f6 := ⟨Try.f53.name, by kernel_rfl, by kernel_rfl⟩
  f14 := ⟨Try.f62.name, by kernel_rfl, by kernel_rfl⟩
  f15 := by kernel_rfl
  f20 := ⟨Try.f75.name, by kernel_rfl, by kernel_rfl⟩
  f21 := ⟨Try.f76.name, by kernel_rfl, by kernel_rfl⟩
  f22 := ⟨Try.f77.name, by kernel_rfl, by kernel_rfl⟩
  f23 := ⟨Try.f78.name, by kernel_rfl, by kernel_rfl⟩
  f24 := ⟨Try.f79.name, by kernel_rfl, by kernel_rfl⟩
  f25 := ⟨Try.f80.name, by kernel_rfl, by kernel_rfl⟩
  f26 := ⟨Try.f81.name, by kernel_rfl, by kernel_rfl⟩
  f27 := ⟨Try.f82.name, by kernel_rfl, by kernel_rfl⟩
  f28 := by kernel_rfl
  f29 := by kernel_rfl
  f46 := ⟨Try.f88.name, by kernel_rfl, by kernel_rfl⟩
  f47 := by kernel_rfl
  f48 := by kernel_rfl
  f49 := ⟨Try.f89.name, by kernel_rfl, by kernel_rfl⟩
  f50 := ⟨Try.f90.name, by kernel_rfl, by kernel_rfl⟩
  f57 := ⟨Try.f92.name, by kernel_rfl, by kernel_rfl⟩
  t0 := by kernel_rfl
  a0 := fun w => by kernel_rfl
  z0 := fun w => by kernel_rfl
  v0 := fun w => by kernel_rfl
  t3 := by kernel_rfl
  a3 := fun w => by kernel_rfl
  z3 := fun w => by kernel_rfl
  v3 := fun w => by kernel_rfl
  t4 := by kernel_rfl
  a4 := fun w => by kernel_rfl
  z4 := fun w => by kernel_rfl
  v4 := fun w => by kernel_rfl
  t5 := by kernel_rfl
  a5 := fun w => by kernel_rfl
  z5 := fun w => by kernel_rfl
  v5 := fun w => by kernel_rfl
  t9 := by kernel_rfl
  a9 := fun w => by kernel_rfl
  z9 := fun w => by kernel_rfl
  v9 := fun w => by kernel_rfl
  t22 := by kernel_rfl
  a22 := fun w => by kernel_rfl
  z22 := fun w => by kernel_rfl
  v22 := fun w => by kernel_rfl
  a24 := fun w => by kernel_rfl
  z24 := fun w => by kernel_rfl
  t25 := by kernel_rfl
  a25 := fun w => by kernel_rfl
  z25 := fun w => by kernel_rfl
  v25 := fun w => by kernel_rfl
  t39 := by kernel_rfl
  a39 := fun w => by kernel_rfl
  z39 := fun w => by kernel_rfl
  v39 := fun w => by kernel_rfl
  t45 := by kernel_rfl
  a45 := fun w => by kernel_rfl
  z45 := fun w => by kernel_rfl
  v45 := fun w => by kernel_rfl
  t46 := by kernel_rfl
  a46 := fun w => by kernel_rfl
  z46 := fun w => by kernel_rfl
  v46 := fun w => by kernel_rfl
  t50 := by kernel_rfl
  a50 := fun w => by kernel_rfl
  z50 := fun w => by kernel_rfl
  v50 := fun w => by kernel_rfl
  t53 := by kernel_rfl
  a53 := fun w => by kernel_rfl
  z53 := fun w => by kernel_rfl
  v53 := fun w => by kernel_rfl
  t55 := by kernel_rfl
  a55 := fun w => by kernel_rfl
  z55 := fun w => by kernel_rfl
  v55 := fun w => by kernel_rfl
  t66 := by kernel_rfl
  a66 := fun w => by kernel_rfl
  z66 := fun w => by kernel_rfl
  v66 := fun w => by kernel_rfl
  t70 := by kernel_rfl
  a70 := fun w => by kernel_rfl
  z70 := fun w => by kernel_rfl
  v70 := fun w => by kernel_rfl
  t76 := by kernel_rfl
  a76 := fun w => by kernel_rfl
  z76 := fun w => by kernel_rfl
  v76 := fun w => by kernel_rfl
  t77 := by kernel_rfl
  a77 := fun w => by kernel_rfl
  z77 := fun w => by kernel_rfl
  v77 := fun w => by kernel_rfl
end Go.Proofs.Ytdpjcjnednmoeaa

namespace Go.Proofs.Ytdpjcjnednmoeaa
open Go.RowKit Go.Shelf

def renSortCC0 : Ren := ⟨fun k => if k = 6 then 53 else if k = 14 then 62 else if k = 15 then 61 else if k = 20 then 75 else if k = 21 then 76 else if k = 22 then 77 else if k = 23 then 78 else if k = 24 then 79 else if k = 25 then 80 else if k = 26 then 81 else if k = 27 then 82 else if k = 28 then 73 else if k = 29 then 74 else if k = 46 then 88 else if k = 47 then 84 else if k = 48 then 85 else if k = 49 then 89 else if k = 50 then 90 else if k = 57 then 92 else 0, fun k => if k = 22 then 31 else if k = 24 then 44 else if k = 25 then 75 else if k = 39 then 77 else if k = 45 then 85 else if k = 46 then 86 else if k = 50 then 63 else if k = 53 then 92 else if k = 55 then 94 else if k = 66 then 100 else if k = 70 then 104 else if k = 76 then 108 else if k = 77 then 109 else k, fun k => k⟩
theorem laysSortCC0 : SlLaysF0.n6 Try.prog renSortCC0 where
  mixed := by kernel_rfl
  f6 := ⟨Try.f53.name, by kernel_rfl, by kernel_rfl⟩
  f14 := ⟨Try.f62.name, by kernel_rfl, by kernel_rfl⟩
  f15 := by kernel_rfl
  f20 := ⟨Try.f75.name, by kernel_rfl, by kernel_rfl⟩
  f21 := ⟨Try.f76.name, by kernel_rfl, by kernel_rfl⟩
  f22 := ⟨Try.f77.name, by kernel_rfl, by kernel_rfl⟩
  f23 := ⟨Try.f78.name, by kernel_rfl, by kernel_rfl⟩
  f24 := ⟨Try.f79.name, by kernel_rfl, by kernel_rfl⟩
  f25 := ⟨Try.f80.name, by kernel_rfl, by kernel_rfl⟩
  f26 := ⟨Try.f81.name, by kernel_rfl, by kernel_rfl⟩
  f27 := ⟨Try.f82.name, by kernel_rfl, by kernel_rfl⟩
  f28 := by kernel_rfl
  f29 := by kernel_rfl
  f46 := ⟨Try.f88.name, by kernel_rfl, by kernel_rfl⟩
  f47 := by kernel_rfl
  f48 := by kernel_rfl
  f49 := ⟨Try.f89.name, by kernel_rfl, by kernel_rfl⟩
  f50 := ⟨Try.f90.name, by kernel_rfl, by kernel_rfl⟩
  f57 := ⟨Try.f92.name, by kernel_rfl, by kernel_rfl⟩
  t0 := by kernel_rfl
  a0 := fun w => by kernel_rfl
  z0 := fun w => by kernel_rfl
  v0 := fun w => by kernel_rfl
  t3 := by kernel_rfl
  a3 := fun w => by kernel_rfl
  z3 := fun w => by kernel_rfl
  v3 := fun w => by kernel_rfl
  t4 := by kernel_rfl
  a4 := fun w => by kernel_rfl
  z4 := fun w => by kernel_rfl
  v4 := fun w => by kernel_rfl
  t5 := by kernel_rfl
  a5 := fun w => by kernel_rfl
  z5 := fun w => by kernel_rfl
  v5 := fun w => by kernel_rfl
  t9 := by kernel_rfl
  a9 := fun w => by kernel_rfl
  z9 := fun w => by kernel_rfl
  v9 := fun w => by kernel_rfl
  t22 := by kernel_rfl
  a22 := fun w => by kernel_rfl
  z22 := fun w => by kernel_rfl
  v22 := fun w => by kernel_rfl
  t25 := by kernel_rfl
  a25 := fun w => by kernel_rfl
  z25 := fun w => by kernel_rfl
  v25 := fun w => by kernel_rfl
  t39 := by kernel_rfl
  a39 := fun w => by kernel_rfl
  z39 := fun w => by kernel_rfl
  v39 := fun w => by kernel_rfl
  t45 := by kernel_rfl
  a45 := fun w => by kernel_rfl
  z45 := fun w => by kernel_rfl
  v45 := fun w => by kernel_rfl
  t46 := by kernel_rfl
  a46 := fun w => by kernel_rfl
  z46 := fun w => by kernel_rfl
  v46 := fun w => by kernel_rfl
  t50 := by kernel_rfl
  a50 := fun w => by kernel_rfl
  z50 := fun w => by kernel_rfl
  v50 := fun w => by kernel_rfl
  t53 := by kernel_rfl
  a53 := fun w => by kernel_rfl
  z53 := fun w => by kernel_rfl
  v53 := fun w => by kernel_rfl
  t55 := by kernel_rfl
  a55 := fun w => by kernel_rfl
  z55 := fun w => by kernel_rfl
  v55 := fun w => by kernel_rfl
  t66 := by kernel_rfl
  a66 := fun w => by kernel_rfl
  z66 := fun w => by kernel_rfl
  v66 := fun w => by kernel_rfl
  t70 := by kernel_rfl
  a70 := fun w => by kernel_rfl
  z70 := fun w => by kernel_rfl
  v70 := fun w => by kernel_rfl
  t76 := by kernel_rfl
  a76 := fun w => by kernel_rfl
  z76 := fun w => by kernel_rfl
  v76 := fun w => by kernel_rfl
  t77 := by kernel_rfl
  a77 := fun w => by kernel_rfl
  z77 := fun w => by kernel_rfl
  v77 := fun w => by kernel_rfl
end Go.Proofs.Ytdpjcjnednmoeaa
