/-
  Contract of slices.SortFunc at a row of cells of the call's own, by an order that parts whatever two cells; given by the kit's shelf: AnyQ.slices_SortFunc_total.
  append of one integer, as a step of a region that draws its order.
  Contract of DreamWord, the program's.
  Contracts of byDreams and slices.CompareFunc at cells.
-/
import Derived.Test.YtageojkepoejiaaBuP8
import Derived.Test.YtageojkepoejiaaBuP10
import Derived.Test.YtageojkepoejiaaBuP6
import Derived.Deep.RegionHeld3
import Derived.Test.YtageojkepoejiaaBuP9
import Derived.Test.YtageojkepoejiaaBuP7
namespace Go.Proofs.Ytageojkepoejiaa
open Go.RowKit Go.Shelf Go.Sort

/-- cells whose numbers are small -/
def LowP : Type := { p : Int × Int // Low p.1 ∧ Low p.2 }
instance : Inhabited LowP := ⟨⟨(0, 0), by unfold Low; omega, by unfold Low; omega⟩⟩
def encP (p : LowP) : List Value := [.int .i64 p.1.1, .int .i64 p.1.2]
def lowed (xs : List (Int × Int)) (h : ∀ p ∈ xs, Low p.1 ∧ Low p.2) : List LowP := xs.attachWith _ h
theorem lowed_val (xs : List (Int × Int)) (h : ∀ p ∈ xs, Low p.1 ∧ Low p.2) : (lowed xs h).map (fun p => p.1) = xs := by
  unfold lowed
  exact List.attachWith_map_subtype_val h
theorem lowed_length (xs : List (Int × Int)) (h : ∀ p ∈ xs, Low p.1 ∧ Low p.2) : (lowed xs h).length = xs.length := by
  unfold lowed; exact List.length_attachWith
theorem flat_prs (ys : List LowP) : flatK encP 2 ys.toArray = (prs (ys.map fun p => p.1)).toArray := by
  apply Array.ext_getElem?
  intro t
  by_cases ht : t < ys.length * 2
  · have h1 : (flatK encP 2 ys.toArray)[t]? = some (flatK encP 2 ys.toArray)[t]! := by
      rw [getElem!_pos _ t (by simpa using ht)]; exact Array.getElem?_eq_getElem _
    rw [h1, get_flatK _ _ _ _ (by simpa using ht)]
    have hk : t / 2 < ys.length := by omega
    have hp : (ys.map fun p => p.1)[t / 2]? = some (ys[t / 2]'hk).1 := by simp [hk]
    obtain ⟨e1, e2⟩ := prs_at hp
    have e3 : ys.toArray[t / 2]! = ys[t / 2]'hk := by simp [hk]
    rw [e3]
    rw [List.getElem?_toArray]
    rcases Nat.mod_two_eq_zero_or_one t with h | h
    · rw [h]
      have : t = t / 2 * 2 := by omega
      rw [show (prs (ys.map fun p => p.1))[t]? = (prs (ys.map fun p => p.1))[t / 2 * 2]? by rw [← this], e1]
      rfl
    · rw [h]
      have : t = t / 2 * 2 + 1 := by omega
      rw [show (prs (ys.map fun p => p.1))[t]? = (prs (ys.map fun p => p.1))[t / 2 * 2 + 1]? by rw [← this], e2]
      rfl
  · rw [Array.getElem?_eq_none (by simp; omega), Array.getElem?_eq_none (by simp [prs_length]; omega)]

theorem sizeOf_Cell (w : World) : (Go.sizeOf 60).run Try.prog w = .ok 2 w := by kernel_rfl
theorem isAgg_Cell (w : World) : (isAgg 60).run Try.prog w = .ok true w := by kernel_rfl

theorem sortC_any (cf : LowP → LowP → Int) (hO : SWO (ltOf cf)) (hT : ∀ x y, (ltOf cf) x y = false → (ltOf cf) y x = false → x = y) (le : (Int × Int) → (Int × Int) → Bool) (hle : ∀ x y : LowP, le x.1 y.1 = !(ltOf cf) y x)
    (f : Nat) (ef : ∀ args w, (callFunc f args).run Try.prog w = .ok (.enter f args) w) (hcmp : ∀ (x y : LowP) (w : World), Calls Try.prog f #[.agg (encP x).toArray, .agg (encP y).toArray] w fun e w' => e = .returned (.int .i64 (cf x y)) ∧ Laid w w')
    (B S : Nat) (a : Option Addr) (n c : Nat) (xs : List (Int × Int)) (w : World) (ho : CO w B S a n c xs) (hlow : ∀ p ∈ xs, Low p.1 ∧ Low p.2) (hb : n ≤ 1048576) :
    Calls Try.prog 53 #[.slice a n c, .func (.func f) #[] #[]] w fun e w' => e = .returned (.tuple #[]) ∧ CO w' B S a n c (xs.mergeSort le) ∧ Only B S w w' := by
  have hl := ho.len
  rcases Nat.eq_zero_or_pos n with h0 | h0
  · subst h0
    have hx : xs = [] := List.length_eq_zero_iff.1 hl
    subst hx
    refine Calls.mono (AnyF.slices_SortFunc_none laysSortC a c _ w) ?_
    rintro e w' ⟨rfl, rfl⟩
    refine ⟨rfl, ?_, Only.refl _ _ _⟩
    rw [List.mergeSort_nil]
    exact ho
  · have hlo := ho.lo
    have hhi := ho.2
    rcases ho.1.2 with ⟨_, h2⟩ | ⟨g, cap, cur, hv, hg, hh, hn, hm, hs, ht⟩
    · omega
    · simp only [Value.slice.injEq] at hv
      obtain ⟨rfl, _, rfl⟩ := hv
      have hgz : g < w.heap.size := (Array.getElem?_eq_some_iff.1 hh).1
      have hgS := hhi g rfl
      have hll : (lowed xs hlow).toArray.size = n := by simp [lowed_length, hl]
      have hfl : flatK encP 2 (lowed xs hlow).toArray = (prs xs).toArray := by rw [flat_prs, lowed_val]
      have hH : HoldsK encP 2 w g 0 (lowed xs hlow).toArray := by
        unfold HoldsK
        rw [hfl]
        intro j hj
        have hj' : j < n * 2 := by simpa [prs_length, hl] using hj
        rw [Nat.zero_add]
        refine ⟨?_, ho.1.frozenAt _⟩
        rw [ho.1.cellAt _ (by simpa using hj')]
        simp [prs_length, hl, hj']
      have key := AnyQ.slices_SortFunc_total laysSortC 2 isAgg_Cell sizeOf_Cell encP (fun _ => rfl) (by intro x v hv; simp [encP] at hv; rcases hv with rfl | rfl <;> rfl) cf hO f #[] g 0 c (lowed xs hlow).toArray w ef
        (by
          intro m os dk hdk x y
          refine (hcmp x y _).mono ?_
          rintro e w' ⟨he, q, os', hw⟩
          exact ⟨he, q, os', hw⟩) hH hgz (by rw [hll]; omega) hT
      rw [hll] at key
      refine Calls.mono key ?_
      rintro e w' ⟨rfl, m, os, rfl⟩
      have hms : ((lowed xs hlow).mergeSort (fun x y => !(ltOf cf) y x)).map (fun p => p.1) = xs.mergeSort le := by
        rw [List.map_mergeSort (s := le), lowed_val]
        intro x _ y _
        exact (hle x y).symm
      have hfs : flatK encP 2 ((lowed xs hlow).mergeSort (fun x y => !(ltOf cf) y x)).toArray = (prs (xs.mergeSort le)).toArray := by rw [flat_prs, hms]
      have hlen : (prs (xs.mergeSort le)).length = n * 2 := by rw [prs_length, List.length_mergeSort, hl]
      have hnew := heap_sortedV (n := m) (os := os) (prs (xs.mergeSort le)).toArray hh
      have hgr := grownBy_sortedV (w := w) (g := g) (n := m) (os := os) (prs (xs.mergeSort le)).toArray
      unfold sortWorldK putRowK
      rw [show ((lowed xs hlow).toArray.toList.mergeSort fun x y => !(ltOf cf) y x) = (lowed xs hlow).mergeSort (fun x y => !(ltOf cf) y x) from rfl, hfs]
      refine ⟨rfl, ⟨⟨hlen, .inr ⟨g, c, _, rfl, hg, hnew, hn, hm, by simp [putCells, hs], ?_⟩⟩, hhi⟩, Only.of_grown (v := .slice (some ⟨g, 0, none⟩) n c) hgr hlo hhi⟩
      rw [← hlen]
      exact take_putCellsV cur _ (by rw [hlen, hs]; exact Nat.mul_le_mul_right 2 hn)
end Go.Proofs.Ytageojkepoejiaa

namespace Go.Proofs.Ytageojkepoejiaa
open Go.RowKit

theorem step_pushI {w : World} {W : World} {x0 : Int} (hW : W = w.alloc (.cells #[.int .i64 x0] 3)) {ops : Array Oper} {o : Oper} {ac : Act} {K : Act → World → Prop} {Q : Exit → Act → World → Prop} (hwant : Region.wanted o (yielded ops ac.tmps) = true) (s x : Operand)
    (ho : o.op = .call { callee := .builtin .append, args := #[s, x], argTypes := #[22, 22] })
    {B S : Nat} {a : Option Addr} {n c : Nat} {l : List Int} (hown : OwI w B S a n c l) (hs : ac.eval s = .slice a n c)
    (hx : ac.eval x = .slice (some ⟨w.heap.size, 0, none⟩) 1 1) (hn : n + 1 ≤ 16777216) (hbase : B ≤ w.heap.size)
    (h : ∀ a' c' w', OwI w' B w'.heap.size a' (n + 1) c' (l ++ [x0]) → Grows w w' (.slice a n c) (.slice a' (n + 1) c') → K (ac.put o.dst (.slice a' (n + 1) c')) w') :
    if Region.wanted o (yielded ops ac.tmps) = true then Oper.wp Try.prog o ac W K Q else K (ac.put o.dst undef) W := by
  rw [if_pos hwant]
  subst hW
  obtain ⟨i0, hi, hz0, hz1, hz2⟩ := info_parts Try.info3
  obtain ⟨v', w', hr, h2, h3⟩ := run_app (P := Try.prog) (w.alloc (.cells #[.int .i64 x0] 3)) B 22 o.type 3 i0 (.int .i64 0) 8 Try.underlying22 hi hz0 hz1 hz2 rfl (.slice a n c) n (ints l) (hown.own.alloc _) (some ⟨w.heap.size, 0, none⟩) 1 1 [.int .i64 x0] rfl (by simp)
    (by
      intro ad had j u hu
      obtain rfl := Option.some.inj had
      match j, hu with
      | 0, hu => simp at hu; subst hu; simp [Addr.add])
    (by intro u hu; simp at hu; subst hu; rfl) hn (by omega) (by simp; omega)
  obtain ⟨a', c', rfl, _⟩ := slice_of h2
  unfold Oper.wp execOp
  simp only [ho, resolve, invoke, builtin, Sem.run_bind, Sem.run_pure, Result.andThen_ok, List.map_toArray, List.map_cons, List.map_nil, hs, hx, hr]
  exact h a' c' w' (OwI.mk (by simpa [ints] using h2)) ((Grows.of_below _ ((Below.refl _ _).alloc (Nat.le_refl _) _)).trans h3)
/-- .. where the size of the heap is written another way -/
theorem wpList_pushIs {w : World} {W : World} {x0 : Int} (hW : W = w.alloc (.cells #[.int .i64 x0] 3)) {ops : Array Oper} {rest : List Oper} {o : Oper} {ac : Act} {Q : Exit → Act → World → Prop} (hgd : o.guard = none) (s x : Operand)
    (ho : o.op = .call { callee := .builtin .append, args := #[s, x], argTypes := #[22, 22] })
    {B S z : Nat} {a : Option Addr} {n c : Nat} {xs : List Int} (hown : OwI w B S a n c xs) (hs : ac.eval s = .slice a n c)
    (hx : ac.eval x = .slice (some ⟨z, 0, none⟩) 1 1) (hz : z = w.heap.size) (hn : n + 1 ≤ 16777216) (hbase : B ≤ w.heap.size)
    (h : ∀ a' c' w', OwI w' B w'.heap.size a' (n + 1) c' (xs ++ [x0]) → Grows w w' (.slice a n c) (.slice a' (n + 1) c') → wpList Try.prog ops Q rest (ac.put o.dst (.slice a' (n + 1) c')) w') :
    wpList Try.prog ops Q (o :: rest) ac W := by
  subst hz
  exact wpList_pushI hW hgd s x ho hown hs hx hn hbase h
end Go.Proofs.Ytageojkepoejiaa

namespace Go.Proofs.Ytageojkepoejiaa
open Go.RowKit Go.Shelf Go.Sort

set_option maxRecDepth 100000 in
set_option maxHeartbeats 800000 in
theorem byCells_laid (a b c d : Int) (w : World) (ha : Low a) (hb : Low b) (hc : Low c) (hd : Low d) :
    Calls Try.prog 54 #[.agg #[.int .i64 a, .int .i64 b], .agg #[.int .i64 c, .int .i64 d]] w fun e w' => e = .returned (.int .i64 (cellCmp (a, b) (c, d))) ∧ Laid w w' := by
  obtain ⟨a1, a2⟩ := ha
  obtain ⟨b1, b2⟩ := hb
  obtain ⟨c1, c2⟩ := hc
  obtain ⟨d1, d2⟩ := hd
  have hB := Lib.hid (((Laid.refl w).alloc (.cells #[.int .i64 a, .int .i64 b] 60)).alloc (.cells #[.int .i64 c, .int .i64 d] 60))
  by_cases h1 : a = c
  · have e1 : (a != c) = false := by simp [h1]
    have Hr := Lib.hid (show cellCmp (a, b) (c, d) = b - d by unfold cellCmp; rw [if_pos h1])
    clear h1
    go_enter Try.func54, Try.ntmps54
    go_wp2
    go_ret
    exact ⟨ret_int Hr.out.symm, hB.out⟩
  · have e1 : (a != c) = true := by simp [h1]
    have Hr := Lib.hid (show cellCmp (a, b) (c, d) = a - c by unfold cellCmp; rw [if_neg h1])
    clear h1
    go_enter Try.func54, Try.ntmps54
    go_wp2
    go_ret
    exact ⟨ret_int Hr.out.symm, hB.out⟩

def wordCmp (x y : LowP) : Int := cellCmp (turned x.1) (turned y.1)
theorem wordCmp_lt (x y : LowP) : ltOf wordCmp x y = cellLess (turned x.1) (turned y.1) := cellCmp_less _ _
theorem wordCmp_swo : SWO (ltOf wordCmp) where
  irrefl x := by rw [wordCmp_lt, cellLess_no]; omega
  trans x y z h1 h2 := by rw [wordCmp_lt, cellLess_iff] at *; omega
  ntrans x y z h1 h2 := by rw [wordCmp_lt, cellLess_no] at *; omega
theorem wordCmp_one (x y : LowP) (h1 : ltOf wordCmp x y = false) (h2 : ltOf wordCmp y x = false) : x = y := by
  rw [wordCmp_lt, cellLess_no] at *
  unfold turned at *
  simp only at h1 h2
  exact Subtype.ext (Prod.ext (by omega) (by omega))
theorem wordCmp_le (x y : LowP) : wordLe x.1 y.1 = !(ltOf wordCmp) y x := by rw [wordCmp_lt]; rfl

def dreamWord (n : Int) (xs : List (Int × Int)) : List Int := if isDream n xs = true then wordOf xs else []
theorem dreamWord_no {n : Int} {xs : List (Int × Int)} (h : isDream n xs = false) : dreamWord n xs = [] := by rw [dreamWord, if_neg (by rw [h]; simp)]
theorem dreamWord_ok {n : Int} {xs : List (Int × Int)} (h : isDream n xs = true) : dreamWord n xs = wordOf xs := by rw [dreamWord, if_pos h]
theorem dreamWord_length (n : Int) (xs : List (Int × Int)) : (dreamWord n xs).length ≤ 15 := by
  cases h : isDream n xs
  · rw [dreamWord_no h]; simp
  · rw [dreamWord_ok h, wordOf, List.length_map, (wordCells_perm xs).length_eq]
    exact dream_short (dream_all h).1.2 (dream_all h).2

end Go.Proofs.Ytageojkepoejiaa

namespace Go.Proofs.Ytageojkepoejiaa
open Go.RowKit Go.Shelf Go.Sort

theorem Laid.below {w w' : World} (h : Laid w w') : Below w.heap.size w w' := by
  obtain ⟨q, os, rfl⟩ := h
  refine (Drew.below (Drew.drewN w q) w.heap.size).trans ?_
  have hz : (w.drewN q).heap.size = w.heap.size := rfl
  exact ⟨rfl, rfl, rfl, by simp [grow], fun k hk => by simp [grow, Array.getElem?_append, hk]⟩
def LowL (xs : List (Int × Int)) : Prop := ∀ p ∈ xs, Low p.1 ∧ Low p.2
theorem cmpD_skip : ∀ {xs ys : List (Int × Int)} {k : Nat}, SameTo xs ys k → k ≤ xs.length → k ≤ ys.length → cmpD xs ys = cmpD (xs.drop k) (ys.drop k)
  | xs, ys, 0, _, _, _ => by rw [List.drop_zero, List.drop_zero]
  | [], _, k + 1, _, h, _ => by simp at h
  | _ :: _, [], k + 1, _, _, h => by simp at h
  | x :: xs, y :: ys, k + 1, h, h1, h2 => by
    have e : x = y := by have := h 0 (by omega); simpa using this
    have h' : SameTo xs ys k := fun j hj => by have := h (j + 1) (by omega); simpa using this
    rw [cmpD, if_pos (cellCmp_zero.2 e), List.drop_succ_cons, List.drop_succ_cons]
    exact cmpD_skip h' (by simpa using h1) (by simpa using h2)
theorem cmpD_at {xs ys : List (Int × Int)} {k : Nat} {x y : Int × Int} (h : SameTo xs ys k) (hx : xs[k]? = some x) (hy : ys[k]? = some y) (hne : cellCmp x y ≠ 0) : cmpD xs ys = cellCmp x y := by
  obtain ⟨h1, e1⟩ := List.getElem?_eq_some_iff.1 hx
  obtain ⟨h2, e2⟩ := List.getElem?_eq_some_iff.1 hy
  rw [cmpD_skip h (by omega) (by omega), List.drop_eq_getElem_cons h1, List.drop_eq_getElem_cons h2, cmpD, e1, e2, if_neg hne]
theorem cmpD_over {xs ys : List (Int × Int)} {n m : Nat} (hn : xs.length = n) (hm : ys.length = m) (h : SameTo xs ys m) (hl : m < n) : cmpD xs ys = 1 := by
  rw [cmpD_skip h (by omega) (by omega), List.drop_of_length_le (l := ys) (by omega), List.drop_eq_getElem_cons (by omega), cmpD]
theorem cmpD_end {xs ys : List (Int × Int)} {n m : Nat} (hn : xs.length = n) (hm : ys.length = m) (h : SameTo xs ys n) (hl : n ≤ m) : cmpD xs ys = if n < m then -1 else 0 := by
  rw [cmpD_skip h (by omega) (by omega), List.drop_of_length_le (l := xs) (by omega)]
  by_cases h1 : n < m
  · rw [if_pos h1, List.drop_eq_getElem_cons (by omega), cmpD]
  · rw [if_neg h1, List.drop_of_length_le (by omega), cmpD]

set_option maxRecDepth 100000 in
set_option maxHeartbeats 1600000 in
theorem compareC_any (a b : Option Addr) (n c m d : Nat) (xs ys : List (Int × Int)) (w : World) (hr : RC w a xs) (hs : RC w b ys) (hn : xs.length = n) (hm : ys.length = m) (hb : n ≤ 1048576) (_hb2 : m ≤ 1048576) (hl1 : LowL xs) (hl2 : LowL ys) :
    Calls Try.prog 127 #[.slice a n c, .slice b m d, .func (.func 54) #[] #[]] w fun e w' => e = .returned (.int .i64 (cmpD xs ys)) ∧ Laid w w' := by
  have Hn := Lib.hid hn; clear hn
  have Hm := Lib.hid hm; clear hm
  have HL1 := Lib.hid hl1; clear hl1
  have HL2 := Lib.hid hl2; clear hl2
  go_enter Try.func127, Try.ntmps127
  go_wp2
  go_loopw [13] (fun iv wr => Hid (∃ k : Nat, k ≤ n ∧ k ≤ m ∧ iv = .int .i64 k ∧ SameTo xs ys k) ∧ Laid w wr) (fun iv _ => n - (intOf iv).toNat)
  case atStart => exact ⟨⟨0, Nat.zero_le _, Nat.zero_le _, rfl, fun j hj => by omega⟩, Laid.refl _⟩
  case round =>
    obtain ⟨HV, hd⟩ := hrel
    obtain ⟨wo, rfl⟩ : ∃ wo : World, wo = wr := ⟨_, rfl⟩
    obtain ⟨k, hkn, hkm, rfl, hsame⟩ := HV.out
    clear HV
    have Hsame := Lib.hid hsame
    clear hsame
    have hBo := Laid.below hd
    by_cases hlt : k < n
    · have q1 : (k : Int) < (n : Int) := by omega
      by_cases hlm : k < m
      · have q2 : (k : Int) < (m : Int) := by omega
        obtain ⟨b1, off, rfl, hcell⟩ := (hr.below hBo).at (k := k) (by rw [Hn.out]; exact hlt)
        obtain ⟨b2, off2, rfl, hcell2⟩ := (hs.below hBo).at (k := k) (by rw [Hm.out]; exact hlm)
        obtain ⟨u, v, hx⟩ := pair_at Hn.out hlt
        obtain ⟨p, q, hy⟩ := pair_at Hm.out hlm
        obtain ⟨hc1, hc2⟩ := hcell _ _ hx
        obtain ⟨hc3, hc4⟩ := hcell2 _ _ hy
        simp only at hc1 hc2 hc3 hc4
        have HU := Lib.hid (HL1.out _ (List.mem_of_getElem? hx))
        have HP := Lib.hid (HL2.out _ (List.mem_of_getElem? hy))
        have Hx := Lib.hid hx
        have Hy := Lib.hid hy
        have hBW : Below wo.heap.size wo (wo.alloc (.cells #[.int .i64 u, .int .i64 v] 60)) := (Below.refl _ _).alloc (Nat.le_refl _) _
        have z3 : (wo.alloc (.cells #[.int .i64 u, .int .i64 v] 60)).cell? ⟨b2, off2 + k * 2, none⟩ = some (.int .i64 p) := by rw [hBW.cell (World.block_lt_of_cell? _ _ hc3)]; exact hc3
        have z4 : (wo.alloc (.cells #[.int .i64 u, .int .i64 v] 60)).cell? ⟨b2, off2 + k * 2 + 1, none⟩ = some (.int .i64 q) := by rw [hBW.cell (World.block_lt_of_cell? _ _ hc4)]; exact hc4
        clear hcell hcell2 hx hy hBW
        obtain ⟨r, hr0⟩ : ∃ r, cellCmp (u, v) (p, q) = r := ⟨_, rfl⟩
        have Hr := Lib.hid hr0
        have hA := Lib.hid (((Laid.refl wo).alloc (.cells #[.int .i64 u, .int .i64 v] 60)).alloc (.cells #[.int .i64 p, .int .i64 q] 60))
        by_cases hz : r = 0
        · have Hnx := Lib.hid (Hsame.out.succ Hx.out (by rw [Hy.out, cellCmp_zero.1 (hr0.trans hz)]))
          subst hz
          clear hr0
          go_wp2_with fail
          refine (isInt (byCells_laid u v p q _ HU.out.1 HU.out.2 HP.out.1 HP.out.2) Hr.out).mono ?_
          rintro e w3 ⟨rfl, hl3⟩
          have hd3 := (hd.trans hA.out).trans hl3
          go_wp2
          go_roundw
          case rel => exact ⟨⟨k + 1, by omega, by omega, by go_num, Hnx.out⟩, hd3⟩
          case measure => simp [intOf]; omega
        · have Hfin := Lib.hid (show cmpD xs ys = r by rw [cmpD_at Hsame.out Hx.out Hy.out (by rw [hr0]; exact hz), hr0])
          have e1 : (r != 0) = true := by simpa using hz
          clear hr0 hz
          go_wp2_with fail
          refine (isInt (byCells_laid u v p q _ HU.out.1 HU.out.2 HP.out.1 HP.out.2) Hr.out).mono ?_
          rintro e w3 ⟨rfl, hl3⟩
          have hd3 := (hd.trans hA.out).trans hl3
          go_wp2
          go_ret
          exact ⟨ret_int Hfin.out.symm, hd3⟩
      · have q2 : ¬ (k : Int) < (m : Int) := by omega
        have q3 : (m : Int) ≤ (k : Int) := by omega
        obtain ⟨b1, off, rfl, hcell⟩ := (hr.below hBo).at (k := k) (by rw [Hn.out]; exact hlt)
        obtain ⟨u, v, hx⟩ := pair_at Hn.out hlt
        obtain ⟨hc1, hc2⟩ := hcell _ _ hx
        simp only at hc1 hc2
        have Hfin := Lib.hid (show cmpD xs ys = 1 from cmpD_over Hn.out Hm.out (by rw [show m = k by omega]; exact Hsame.out) (by omega))
        have hA := Lib.hid ((Laid.refl wo).alloc (.cells #[.int .i64 u, .int .i64 v] 60))
        have hd3 := hd.trans hA.out
        clear hcell hx
        go_wp2
        go_ret
        exact ⟨ret_int Hfin.out.symm, hd3⟩
    · obtain rfl : k = n := by omega
      have he := cmpD_end Hn.out Hm.out Hsame.out hkm
      by_cases hl : k < m
      · rw [if_pos hl] at he
        have q2 : (k : Int) < (m : Int) := by omega
        have He := Lib.hid he
        clear he
        go_wp2
        go_ret
        exact ⟨ret_int He.out.symm, hd⟩
      · rw [if_neg hl] at he
        have q2 : ¬ (k : Int) < (m : Int) := by omega
        have He := Lib.hid he
        clear he
        go_wp2
        go_ret
        exact ⟨ret_int He.out.symm, hd⟩
set_option maxRecDepth 100000 in
set_option maxHeartbeats 1600000 in
theorem byDreams_any (a b : Option Addr) (n c m d : Nat) (xs ys : List (Int × Int)) (w : World) (hr : RC w a xs) (hs : RC w b ys) (hn : xs.length = n) (hm : ys.length = m) (hb : n ≤ 1048576) (hb2 : m ≤ 1048576) (hl1 : LowL xs) (hl2 : LowL ys) :
    Calls Try.prog 95 #[.slice a n c, .slice b m d] w fun e w' => e = .returned (.int .i64 (cmpD xs ys)) ∧ Laid w w' := by
  have Hn := Lib.hid hn; clear hn
  have Hm := Lib.hid hm; clear hm
  have HL1 := Lib.hid hl1; clear hl1
  have HL2 := Lib.hid hl2; clear hl2
  obtain ⟨r, hr0⟩ : ∃ r, cmpD xs ys = r := ⟨_, rfl⟩
  have Hr := Lib.hid hr0
  rw [hr0]
  clear hr0
  go_enter Try.func95, Try.ntmps95
  go_wp2_with fail
  refine (isInt (compareC_any _ _ _ _ _ _ xs ys _ hr hs Hn.out Hm.out hb hb2 HL1.out HL2.out) Hr.out).mono ?_
  rintro e w3 ⟨rfl, hl3⟩
  go_wp2
  go_ret
  exact ⟨rfl, hl3⟩
end Go.Proofs.Ytageojkepoejiaa
