/-
  ClassesPoly of the program.
  append of zeros to a slice of ints of the call's own: append(s, make([]int, k)...).
-/
import Derived.Test.YtomejjbkakpoiaaGreatBuE16
import Derived.Test.YtomejjbkakpoiaaGreatBuE17
import Derived.Test.YtomejjbkakpoiaaGreatKK
import Derived.Deep.RegionHeld3
import Derived.Test.YtomejjbkakpoiaaGreatBuE5
namespace Go.Proofs.YtomejjbkakpoiaaGreat
open Go.RowKit Go.MapKept

/-- the Schubert polynomial of a permutation -/
def schOf (p : List Int) : Mons := schM (p.take (trimLen p p.length)) (trimLen p p.length)
def clsTo (xs : List (List Int × Int)) : Nat → Mons
  | 0 => []
  | k + 1 => plusM (clsTo xs k) (partOf xs k).2 (schOf (partOf xs k).1)
def clsM (xs : List (List Int × Int)) : Mons := clsTo xs xs.length
def clsT (xs : List (List Int × Int)) : List (List Int × Int) := if classesOk xs = true then closedT (clsM xs) else []
def clsOk (xs : List (List Int × Int)) : Bool := classesOk xs && polyOk (termsM (clsM xs))
theorem cls_no {xs : List (List Int × Int)} (h : classesOk xs = false) : clsT xs = [] ∧ clsOk xs = false := by
  unfold clsT clsOk
  rw [h]
  exact ⟨rfl, rfl⟩
theorem cls_yes {xs : List (List Int × Int)} (h : classesOk xs = true) : clsT xs = closedT (clsM xs) ∧ clsOk xs = polyOk (termsM (clsM xs)) := by
  unfold clsT clsOk
  rw [h]
  exact ⟨if_pos rfl, rfl⟩
theorem B7.nil : B7 [] := fun p hp => by cases hp
theorem B7.plus {F G : Mons} {c : Int} (h : B7 F) (h' : B7 G) : B7 (plusM F c G) := fun p hp => by
  rcases List.mem_append.1 hp with hp | hp
  · exact h p hp
  · obtain ⟨q, hq, rfl⟩ := List.mem_map.1 hp
    exact h' q hq
theorem schOf_b7 {p : List Int} (h : p.length ≤ 7) : B7 (schOf p) := by
  have := trimLen_le p p.length
  exact sch_b7 _ (by omega) (by rw [List.length_take]; omega)
theorem classes_each {xs : List (List Int × Int)} (h : classesOk xs = true) {k : Nat} {p : List Int × Int} (hx : xs[k]? = some p) : isPerm p.1 = true ∧ p.1.length ≤ 7 := by
  unfold classesOk at h
  simp only [Bool.and_eq_true, decide_eq_true_eq, List.all_eq_true, List.mem_range] at h
  have h1 := h.2 k (lt_of_some hx)
  unfold classAt isClass at h1
  rw [partOf_at hx] at h1
  simp only [Bool.and_eq_true] at h1
  exact ⟨h1.1.1.1.1, ((isPerm_iff _).1 h1.1.1.1.1).2.1⟩
theorem clsTo_b7 {xs : List (List Int × Int)} (h : classesOk xs = true) : ∀ k, k ≤ xs.length → B7 (clsTo xs k) := by
  intro k
  induction k with
  | zero => intro _; exact B7.nil
  | succ k ih =>
    intro hk
    obtain ⟨p, hp⟩ := some_of (show k < xs.length by omega)
    refine (ih (by omega)).plus ?_
    rw [partOf_at hp]
    exact schOf_b7 (classes_each h hp).2
theorem classes_len {xs : List (List Int × Int)} (h : classesOk xs = true) : xs.length ≤ 100 := by
  unfold classesOk at h
  simp only [Bool.and_eq_true, decide_eq_true_eq] at h
  exact h.1

set_option maxRecDepth 100000 in
set_option maxHeartbeats 3200000 in
theorem implClsPoly_post (a : Option Addr) (n c : Nat) (xs : List (List Int × Int)) (w : World) (hr : RP w a xs) (hn : xs.length = n) (hb : n ≤ 1048576) (hsh : Short_P xs) :
    Calls Tryz.prog 16 #[.slice a n c] w (PostT w (clsT xs) (clsOk xs)) := by
  have Hn := Lib.hid hn
  cases hok : classesOk xs
  · have H0 := Lib.hid (cls_no hok)
    have Hok := Lib.hid hok
    clear hok hn
    go_enter Tryz.func16, Tryz.ntmps16
    go_wp2_with fail
    refine (is (implClassesOk_any _ _ _ xs _ hr Hn.out hb hsh) Hok.out).mono ?_
    rintro e w1 ⟨rfl, hB1⟩
    go_wp2
    go_ret2
    exact ⟨_, _, _, _, rfl, by rw [H0.out.1]; exact TO.nil, H0.out.2.symm, hB1⟩
  have H0 := Lib.hid (cls_yes hok)
  have Hok := Lib.hid hok
  have hn100 : n ≤ 100 := by rw [← hn]; exact classes_len hok
  have hmm := @run_makeMap Tryz.prog
  clear hok hn
  go_enter Tryz.func16, Tryz.ntmps16
  go_wp2_with fail
  refine (is (implClassesOk_any _ _ _ xs _ hr Hn.out hb hsh) Hok.out).mono ?_
  rintro e w1 ⟨rfl, hB1⟩
  obtain ⟨U, hU⟩ : ∃ U, w1.alloc (.map #[] 0) = U := ⟨_, rfl⟩
  have hBU : Below w1.heap.size w1 U := by rw [← hU]; exact (Below.refl _ _).alloc (Nat.le_refl _) _
  have HM0 := Lib.hid (show PF U w1.heap.size (clsTo xs 0) by rw [← hU]; exact PF.made w1)
  have hB2 := hB1.trans (hBU.mono hB1.size)
  clear hBU hB1
  go_wp2
  go_loopw [4, 13] (fun fv iv wr => Hid (∃ (k r : Nat), iv = .int .i64 k ∧ k ≤ n ∧ fv = .map (some r) ∧ PF wr r (clsTo xs k)) ∧ Below w.heap.size w wr) (fun _ iv _ => n - (intOf iv).toNat)
  case atStart => exact ⟨⟨0, _, rfl, Nat.zero_le _, rfl, HM0.out⟩, hB2⟩
  case round =>
    clear HM0 hB2 hU
    obtain ⟨HV, hB⟩ := hrel
    obtain ⟨wo, rfl⟩ : ∃ wo : World, wo = wr := ⟨_, rfl⟩
    obtain ⟨k, r, rfl, hk, rfl, hM⟩ := HV.out
    clear HV
    by_cases hlt : k < n
    · obtain ⟨s, x, hx⟩ := part_at Hn.out hlt
      obtain ⟨b, off, rfl, hcell⟩ := (hr.below hB).at (k := k) (by rw [Hn.out]; exact hlt)
      obtain ⟨a2, c2, p1, p2, hri, hcap⟩ := hcell k _ hx
      simp only at p1 p2 hri hcap
      obtain ⟨hsp, hs7⟩ := classes_each Hok.out hx
      simp only at hs7 hsp
      have Hpo := Lib.hid (partOf_at hx)
      obtain ⟨l, hl⟩ : ∃ l, s.length = l := ⟨_, rfl⟩
      rw [hl] at p1 hs7 hcap
      have Hl := Lib.hid hl
      have Hsp := Lib.hid hsp
      obtain ⟨W, hW⟩ : ∃ W, wo.alloc (.cells #[.slice a2 l c2, .int .i64 x] 52) = W := ⟨_, rfl⟩
      have hBW : Below wo.heap.size wo W := by rw [← hW]; exact (Below.refl _ _).alloc (Nat.le_refl _) _
      have g0 : W.heap[wo.heap.size]? = some (.cells #[.slice a2 l c2, .int .i64 x] 52) := by rw [← hW]; exact heap_alloc_new wo _
      have y0 : W.cell? ⟨wo.heap.size, 0, none⟩ = some (.slice a2 l c2) := by rw [cell_of_row W _ 0 _ _ (0, 0) g0]; rfl
      have y1 : W.cell? ⟨wo.heap.size, 1, none⟩ = some (.int .i64 x) := by rw [cell_of_row W _ 1 _ _ (0, 0) g0]; rfl
      have S_of : ∀ w2, Below W.heap.size W w2 → w2.cell? ⟨wo.heap.size, 0, none⟩ = some (.slice a2 l c2) ∧ w2.cell? ⟨wo.heap.size, 1, none⟩ = some (.int .i64 x) := fun w2 hb => ⟨by rw [hb.cell (World.block_lt_of_cell? _ _ y0)]; exact y0, by rw [hb.cell (World.block_lt_of_cell? _ _ y1)]; exact y1⟩
      have hriW := hri.below hBW
      have hMW := hM.below hBW
      have HR := Lib.hid (fun w2 (h : Below W.heap.size W w2) => hriW.below h)
      have HM := Lib.hid (fun w2 (h : Below W.heap.size W w2) => hMW.below h)
      have Hst := Lib.hid (show clsTo xs (k + 1) = plusM (clsTo xs k) x (schM (s.take (trimLen s l)) (trimLen s l)) by
        rw [clsTo, Hpo.out]
        unfold schOf
        rw [hl])
      have q1 : (k : Int) < (n : Int) := by omega
      have hdW := hB.trans (hBW.mono hB.size)
      have d0 : Below W.heap.size W W := Below.refl _ _
      have d1 : Below W.heap.size W W.drew := Drew.below ⟨1, rfl⟩ _
      clear hcell hx hri hM hl hsp g0 hriW hMW
      go_wp2
      go_region_held3 (fun w' => w'.cell? ⟨wo.heap.size, 0, none⟩ = some (.slice a2 l c2) ∧ w'.cell? ⟨wo.heap.size, 1, none⟩ = some (.int .i64 x)) ((first | exact S_of _ d0 | exact S_of _ d1 | exact S_of _ ‹_›))
        ((first | (go_at_call 48; refine (implSchub_any _ _ _ s _ (HR.out _ (by first | exact d0 | exact d1)) Hl.out (by omega) hcap Hsp.out).mono ?_; rintro e w5 ⟨r5, rfl, hF5, hb5⟩; have d2 := Below.trans d1 (hb5.mono (Below.size d1))) | (go_at_call 47; refine (plus_any _ _ _ _ _ _ (HM.out _ d2) hF5).mono ?_; rintro e w6 ⟨r6, rfl, _, hF6, hb6⟩; have d3 := d2.trans (hb6.mono d2.size))))
      have hB3 := hdW.trans (d3.mono hdW.size)
      have HM6 := Lib.hid (show PF w6 r6 (clsTo xs (k + 1)) by rw [Hst.out]; exact hF6)
      clear hF5 hF6 S_of d0 d1 d2 d3 hb5 hb6 HM HR hBW hdW
      go_wp2
      go_roundw
      case rel => exact ⟨⟨k + 1, _, by go_num, by omega, rfl, HM6.out⟩, hB3⟩
      case measure => simp [intOf]; omega
    · obtain rfl : k = n := by omega
      have HM := Lib.hid (show PF wo r (clsM xs) by unfold clsM; rw [Hn.out]; exact hM)
      clear hM
      go_wp2_with fail
      refine (closed_any r _ _ HM.out).mono ?_
      rintro e w9 ⟨a9, n9, c9, r9, rfl, ho9, hh9, hb9⟩
      have hB9 := hB.trans (hb9.mono hB.size)
      have Ho9 := Lib.hid (ho9.mono (B' := w.heap.size) (S' := w9.heap.size) hB.size (Nat.le_refl _))
      clear ho9
      go_wp2
      go_ret2
      exact ⟨_, _, _, _, rfl, by rw [H0.out.1]; exact Ho9.out, by rw [H0.out.2]; exact hh9, hB9⟩
theorem implClsPoly_any (a : Option Addr) (n c : Nat) (xs : List (List Int × Int)) (w : World) (hr : RP w a xs) (hn : xs.length = n) (hb : n ≤ 1048576) (hsh : Short_P xs) :
    Calls Tryz.prog 16 #[.slice a n c] w fun e w' => ∃ a' n' c' r, e = .returned (.tuple #[.slice a' n' c', .bool r]) ∧ TO w' w.heap.size w'.heap.size a' n' c' (clsT xs) ∧ Hid (r = clsOk xs) ∧ Below w.heap.size w w' :=
  (implClsPoly_post a n c xs w hr hn hb hsh).mono fun _ _ h => h
end Go.Proofs.YtomejjbkakpoiaaGreat

namespace Go.Proofs.YtomejjbkakpoiaaGreat
open Go.RowKit

theorem undIntZ : Tryz.prog.underlying 3 = some (.int .i64) := by kernel_rfl
def zs (k : Nat) : List Value := List.replicate k (Value.int .i64 0)
theorem zerosZ (k : Nat) : Builtin.zeroCells (Value.cells (.int .i64 0)) k = (zs k).toArray := by
  apply Array.ext'
  apply List.ext_getElem?
  intro j
  simp only [Builtin.zeroCells, zs, Value.cells]
  simp [List.getElem?_replicate]
  by_cases h : j < k <;> simp [h, Nat.mod_one]
theorem zs_ints (k : Nat) : ints (List.replicate k 0) = zs k := by simp [ints, zs]
theorem zs_one (k : Nat) : ∀ u ∈ zs k, u.oneCell' = true := fun u hu => by rw [List.eq_of_mem_replicate hu]; rfl
section
variable {w : World} {ty : TypeId} {k : Nat} (hk : 0 < k) (hk2 : k ≤ 1000)
include hk hk2
theorem run_appZ_room {g n c : Nat} {cur : Array Value} (hg : w.heap[g]? = some (.cells cur 3 (0, 0))) (hroom : n + k ≤ c) (hcs : cur.size = c) :
    (Builtin.append_ #[24, 3] ty #[.slice (some ⟨g, 0, none⟩) n c, .int .i64 (k : Int)]).run Tryz.prog w = .ok (.slice (some ⟨g, 0, none⟩) (n + k) c) (w.setRow g (cur.toList.take n ++ zs k ++ cur.toList.drop (n + k)).toArray) := by
  obtain ⟨i0, hi, hz, hz1, hz2⟩ := info_parts Tryz.info3
  have hwrap : IntKind.i64.wrap (k : Int) = (k : Int) := IntWalk.i64_in _ (by omega)
  have hneg : ¬ (k : Int) < 0 := by omega
  have h48 : ¬ (281474976710656 : Int) < (k : Int) * 8 := by omega
  have hk0 : ¬ k = 0 := by omega
  have hst := run_storeCells_at Tryz.prog g n 3 (zs k) 0 cur w hg (by simp [zs]; omega) (zs_one k)
  have hl : (zs k).length = k := by simp [zs]
  simp only [Nat.add_zero, hl] at hst
  simp [Builtin.append_, run_underlying undIntZ, run_underlying Tryz.underlying24, sizeOf, typeInfo, zeroValue, hi, hz, hz1, hz2, hroom, Addr.add_lit, hst, hwrap, hneg, h48, hk0, zerosZ, asInt, asIntOf]
theorem run_appZ_grow {g n c : Nat} {xs : List Value} (hxl : xs.length = n) (holds : ∀ j v, xs[j]? = some v → w.cell? ((⟨g, 0, none⟩ : Addr).add j) = some v) (hroom : ¬ n + k ≤ c) (hn : n ≤ 1000) (_hc : c ≤ 1000) :
    (Builtin.append_ #[24, 3] ty #[.slice (some ⟨g, 0, none⟩) n c, .int .i64 (k : Int)]).run Tryz.prog w = .ok (.slice (some ⟨w.heap.size, 0, none⟩) (n + k) (grownCap w (n + k) c 3))
      (w.drew.alloc (.cells (xs.toArray ++ (zs k).toArray ++ Builtin.zeroCells (Value.cells (.int .i64 0)) (grownCap w (n + k) c 3 - (n + k))) 3)) := by
  obtain ⟨i0, hi, hz, hz1, hz2⟩ := info_parts Tryz.info3
  have hwrap : IntKind.i64.wrap (k : Int) = (k : Int) := IntWalk.i64_in _ (by omega)
  have hneg : ¬ (k : Int) < 0 := by omega
  have h48 : ¬ (281474976710656 : Int) < (k : Int) * 8 := by omega
  have hk0 : ¬ k = 0 := by omega
  have hfo := run_firstCells_some (P := Tryz.prog) w.drew 1 n ⟨g, 0, none⟩ n c xs (by omega) (by simpa using holds)
  have h63' : ¬ (9223372036854775807 < ((n : Int) + (k : Int))) := by omega
  have h48' : ¬ (281474976710656 < Builtin.nextslicecap (n + k) c * 8) := by have := growslice_fits (need := n + k) (old := c) (bytes := 8) (by omega) (by omega); omega
  simp [Builtin.append_, run_underlying undIntZ, run_underlying Tryz.underlying24, sizeOf, typeInfo, zeroValue, hi, hz, hz1, hz2, hroom, hwrap, hneg, h48, hk0, zerosZ, asInt, asIntOf, h63', h48', Question.forced, hfo, newRow, grownCap]
end
theorem run_appZ {w : World} {ty : TypeId} {B S : Nat} {a : Option Addr} {n c : Nat} {xs : List Int} (hown : OwI w B S a n c xs) (k : Nat) (hn0 : 0 < n) (hk : 0 < k) (hn : n + k ≤ 1000) (hbase : B ≤ w.heap.size) :
    ∃ a' c' w', (Builtin.append_ #[24, 3] ty #[.slice a n c, .int .i64 (k : Int)]).run Tryz.prog w = .ok (.slice a' (n + k) c') w' ∧ OwI w' B w'.heap.size a' (n + k) c' (xs ++ List.replicate k 0) ∧ w.grownBy w' (Value.slice a n c).ownBlock := by
  have hown1 := hown.1.own
  have hxl : (ints xs).length = n := by rw [hown1.1, Nat.mul_one]
  have hlz : (zs k).length = k := by simp [zs]
  have hlen : (ints xs ++ zs k).length = (n + k) * 1 := by simp [hxl, hlz]
  have e0 : ints (xs ++ List.replicate k 0) = ints xs ++ zs k := by rw [← zs_ints]; simp [ints]
  rcases hown1.2 with ⟨h0, _⟩ | ⟨g, cap, cur, hv, hbg, hg, hnc, hcm, hcs, htake⟩
  · simp only [Value.slice.injEq] at h0
    omega
  · simp only [Value.slice.injEq] at hv
    obtain ⟨rfl, _, rfl⟩ := hv
    rw [Nat.mul_one] at hcs htake
    by_cases hroom : n + k ≤ c
    · refine ⟨_, _, _, run_appZ_room hk (by omega) hg hroom hcs, OwI.mk ?_, ⟨rfl, rfl, rfl, by simp, fun j _ hj => setRow_other w g j _ (fun e => hj (by simp [Value.ownBlock, e]))⟩⟩
      rw [e0]
      refine ⟨hlen, .inr ⟨g, c, _, rfl, hbg, setRow_heap w g cur _ 3 _ hg, hroom, hcm, ?_, ?_⟩⟩
      · simp only [List.size_toArray, List.length_append, List.length_take, List.length_drop, Array.length_toList, hlz]
        omega
      · rw [htake, ← hlen]
        exact List.take_left
    · have holds : ∀ j u, (ints xs)[j]? = some u → w.cell? ((⟨g, 0, none⟩ : Addr).add j) = some u := hown1.cells (g := g) rfl
      have hge := grownCap_ge w (n + k) c 3
      have hcm2 : grownCap w (n + k) c 3 ≤ maxLen := grownCap_le_maxLen w (n + k) c 3 (by unfold maxLen; omega)
      refine ⟨_, _, _, run_appZ_grow hk (by omega) hxl holds hroom (by omega) (by omega), OwI.mk ?_, ⟨rfl, rfl, rfl, by simp, fun j hj _ => heap_alloc_old w.drew _ (by simpa using hj)⟩⟩
      rw [e0]
      refine ⟨hlen, .inr ⟨w.heap.size, _, _, rfl, hbase, heap_alloc_new w.drew _, hge, hcm2, ?_, ?_⟩⟩
      · simp only [Array.size_append, List.size_toArray, size_zeroCells, hxl, hlz]
        simp [Value.cells]
        omega
      · simp only [Array.toList_append, List.append_assoc]
        rw [← List.append_assoc, ← hlen]
        exact List.take_left
theorem wpList_appZ {w : World} {ops : Array Oper} {rest : List Oper} {o : Oper} {ac : Act} {Q : Exit → Act → World → Prop} (hgd : o.guard = none) (s x : Operand)
    (ho : o.op = .call { callee := .builtin .append, args := #[s, x], argTypes := #[24, 3] })
    {B S : Nat} {a : Option Addr} {n c : Nat} {xs : List Int} (hown : OwI w B S a n c xs) (hs : ac.eval s = .slice a n c) {k : Nat} (hx : ac.eval x = .int .i64 (k : Int)) (hn0 : 0 < n) (hk : 0 < k) (hn : n + k ≤ 1000) (hbase : B ≤ w.heap.size)
    (h : ∀ a' c' w', OwI w' B w'.heap.size a' (n + k) c' (xs ++ List.replicate k 0) → w.grownBy w' (Value.slice a n c).ownBlock → wpList Tryz.prog ops Q rest (ac.put o.dst (.slice a' (n + k) c')) w') :
    wpList Tryz.prog ops Q (o :: rest) ac w :=
  wpList_plain hgd fun _ hK => by
    obtain ⟨a', c', w', hr, h2, h3⟩ := run_appZ (ty := o.type) hown k hn0 hk hn hbase
    unfold Oper.wp execOp
    simp only [ho, resolve, invoke, builtin, Sem.run_bind, Sem.run_pure, Result.andThen_ok, List.map_toArray, List.map_cons, List.map_nil, hs, hx, hr]
    exact hK _ _ (h a' c' w' h2 h3)
end Go.Proofs.YtomejjbkakpoiaaGreat
