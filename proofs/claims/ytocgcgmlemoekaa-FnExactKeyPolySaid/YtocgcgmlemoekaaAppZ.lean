/-
  append of zeros to a slice of ints of the call's own: append(s, make([]int, k)...).
-/
import Derived.Test.YtocgcgmlemoekaaKT
namespace Go.Proofs.Ytocgcgmlemoekaa
open Go.RowKit

theorem undIntZ : Try.prog.underlying 3 = some (.int .i64) := by kernel_rfl
def zs (k : Nat) : List Value := List.replicate k (Value.int .i64 0)
theorem zerosZ (k : Nat) : Builtin.zeroCells (Value.cells (.int .i64 0)) k = (zs k).toArray := by
  apply Array.ext'
  apply List.ext_getElem?
  intro j
  simp only [Builtin.zeroCells, zs, Value.cells]
  simp [List.getElem?_replicate]
  by_cases h : j < k <;> simp [h, Nat.mod_one]
theorem zs_ints (k : Nat) : ints (List.replicate k 0) = zs k := by simp [ints, zs]
theorem zs_one (k : Nat) : ∀ u ∈ zs k, u.oneCell' = true := fun u hu => by rw [List.eq_of_mem_replicate hu]; rfl
section
variable {w : World} {ty : TypeId} {k : Nat} (hk : 0 < k) (hk2 : k ≤ 1000)
include hk hk2
theorem run_appZ_room {g n c : Nat} {cur : Array Value} (hg : w.heap[g]? = some (.cells cur 3 (0, 0))) (hroom : n + k ≤ c) (hcs : cur.size = c) :
    (Builtin.append_ #[22, 3] ty #[.slice (some ⟨g, 0, none⟩) n c, .int .i64 (k : Int)]).run Try.prog w = .ok (.slice (some ⟨g, 0, none⟩) (n + k) c) (w.setRow g (cur.toList.take n ++ zs k ++ cur.toList.drop (n + k)).toArray) := by
  obtain ⟨i0, hi, hz, hz1, hz2⟩ := info_parts Try.info3
  have hwrap : IntKind.i64.wrap (k : Int) = (k : Int) := IntWalk.i64_in _ (by omega)
  have hneg : ¬ (k : Int) < 0 := by omega
  have h48 : ¬ (281474976710656 : Int) < (k : Int) * 8 := by omega
  have hk0 : ¬ k = 0 := by omega
  have hst := run_storeCells_at Try.prog g n 3 (zs k) 0 cur w hg (by simp [zs]; omega) (zs_one k)
  have hl : (zs k).length = k := by simp [zs]
  simp only [Nat.add_zero, hl] at hst
  simp [Builtin.append_, run_underlying undIntZ, run_underlying Try.underlying22, sizeOf, typeInfo, zeroValue, hi, hz, hz1, hz2, hroom, Addr.add_lit, hst, hwrap, hneg, h48, hk0, zerosZ, asInt, asIntOf]
theorem run_appZ_grow {g n c : Nat} {xs : List Value} (hxl : xs.length = n) (holds : ∀ j v, xs[j]? = some v → w.cell? ((⟨g, 0, none⟩ : Addr).add j) = some v) (hroom : ¬ n + k ≤ c) (hn : n ≤ 1000) (_hc : c ≤ 1000) :
    (Builtin.append_ #[22, 3] ty #[.slice (some ⟨g, 0, none⟩) n c, .int .i64 (k : Int)]).run Try.prog w = .ok (.slice (some ⟨w.heap.size, 0, none⟩) (n + k) (grownCap w (n + k) c 3))
      (w.drew.alloc (.cells (xs.toArray ++ (zs k).toArray ++ Builtin.zeroCells (Value.cells (.int .i64 0)) (grownCap w (n + k) c 3 - (n + k))) 3)) := by
  obtain ⟨i0, hi, hz, hz1, hz2⟩ := info_parts Try.info3
  have hwrap : IntKind.i64.wrap (k : Int) = (k : Int) := IntWalk.i64_in _ (by omega)
  have hneg : ¬ (k : Int) < 0 := by omega
  have h48 : ¬ (281474976710656 : Int) < (k : Int) * 8 := by omega
  have hk0 : ¬ k = 0 := by omega
  have hfo := run_firstCells_some (P := Try.prog) w.drew 1 n ⟨g, 0, none⟩ n c xs (by omega) (by simpa using holds)
  have h63' : ¬ (9223372036854775807 < ((n : Int) + (k : Int))) := by omega
  have h48' : ¬ (281474976710656 < Builtin.nextslicecap (n + k) c * 8) := by have := growslice_fits (need := n + k) (old := c) (bytes := 8) (by omega) (by omega); omega
  simp [Builtin.append_, run_underlying undIntZ, run_underlying Try.underlying22, sizeOf, typeInfo, zeroValue, hi, hz, hz1, hz2, hroom, hwrap, hneg, h48, hk0, zerosZ, asInt, asIntOf, h63', h48', Question.forced, hfo, newRow, grownCap]
end
theorem run_appZ {w : World} {ty : TypeId} {B S : Nat} {a : Option Addr} {n c : Nat} {xs : List Int} (hown : OwI w B S a n c xs) (k : Nat) (hn0 : 0 < n) (hk : 0 < k) (hn : n + k ≤ 1000) (hbase : B ≤ w.heap.size) :
    ∃ a' c' w', (Builtin.append_ #[22, 3] ty #[.slice a n c, .int .i64 (k : Int)]).run Try.prog w = .ok (.slice a' (n + k) c') w' ∧ OwI w' B w'.heap.size a' (n + k) c' (xs ++ List.replicate k 0) ∧ w.grownBy w' (Value.slice a n c).ownBlock := by
  have hown1 := hown.1.own
  have hxl : (ints xs).length = n := by rw [hown1.1, Nat.mul_one]
  have hlz : (zs k).length = k := by simp [zs]
  have hlen : (ints xs ++ zs k).length = (n + k) * 1 := by simp [hxl, hlz]
  have e0 : ints (xs ++ List.replicate k 0) = ints xs ++ zs k := by rw [← zs_ints]; simp [ints]
  rcases hown1.2 with ⟨h0, _⟩ | ⟨g, cap, cur, hv, hbg, hg, hnc, hcm, hcs, htake⟩
  · simp only [Value.slice.injEq] at h0
    omega
  · simp only [Value.slice.injEq] at hv
    obtain ⟨rfl, _, rfl⟩ := hv
    rw [Nat.mul_one] at hcs htake
    by_cases hroom : n + k ≤ c
    · refine ⟨_, _, _, run_appZ_room hk (by omega) hg hroom hcs, OwI.mk ?_, ⟨rfl, rfl, rfl, by simp, fun j _ hj => setRow_other w g j _ (fun e => hj (by simp [Value.ownBlock, e]))⟩⟩
      rw [e0]
      refine ⟨hlen, .inr ⟨g, c, _, rfl, hbg, setRow_heap w g cur _ 3 _ hg, hroom, hcm, ?_, ?_⟩⟩
      · simp only [List.size_toArray, List.length_append, List.length_take, List.length_drop, Array.length_toList, hlz]
        omega
      · rw [htake, ← hlen]
        exact List.take_left
    · have holds : ∀ j u, (ints xs)[j]? = some u → w.cell? ((⟨g, 0, none⟩ : Addr).add j) = some u := hown1.cells (g := g) rfl
      have hge := grownCap_ge w (n + k) c 3
      have hcm2 : grownCap w (n + k) c 3 ≤ maxLen := grownCap_le_maxLen w (n + k) c 3 (by unfold maxLen; omega)
      refine ⟨_, _, _, run_appZ_grow hk (by omega) hxl holds hroom (by omega) (by omega), OwI.mk ?_, ⟨rfl, rfl, rfl, by simp, fun j hj _ => heap_alloc_old w.drew _ (by simpa using hj)⟩⟩
      rw [e0]
      refine ⟨hlen, .inr ⟨w.heap.size, _, _, rfl, hbase, heap_alloc_new w.drew _, hge, hcm2, ?_, ?_⟩⟩
      · simp only [Array.size_append, List.size_toArray, size_zeroCells, hxl, hlz]
        simp [Value.cells]
        omega
      · simp only [Array.toList_append, List.append_assoc]
        rw [← List.append_assoc, ← hlen]
        exact List.take_left
theorem wpList_appZ {w : World} {ops : Array Oper} {rest : List Oper} {o : Oper} {ac : Act} {Q : Exit → Act → World → Prop} (hgd : o.guard = none) (s x : Operand)
    (ho : o.op = .call { callee := .builtin .append, args := #[s, x], argTypes := #[22, 3] })
    {B S : Nat} {a : Option Addr} {n c : Nat} {xs : List Int} (hown : OwI w B S a n c xs) (hs : ac.eval s = .slice a n c) {k : Nat} (hx : ac.eval x = .int .i64 (k : Int)) (hn0 : 0 < n) (hk : 0 < k) (hn : n + k ≤ 1000) (hbase : B ≤ w.heap.size)
    (h : ∀ a' c' w', OwI w' B w'.heap.size a' (n + k) c' (xs ++ List.replicate k 0) → w.grownBy w' (Value.slice a n c).ownBlock → wpList Try.prog ops Q rest (ac.put o.dst (.slice a' (n + k) c')) w') :
    wpList Try.prog ops Q (o :: rest) ac w :=
  wpList_plain hgd fun _ hK => by
    obtain ⟨a', c', w', hr, h2, h3⟩ := run_appZ (ty := o.type) hown k hn0 hk hn hbase
    unfold Oper.wp execOp
    simp only [ho, resolve, invoke, builtin, Sem.run_bind, Sem.run_pure, Result.andThen_ok, List.map_toArray, List.map_cons, List.map_nil, hs, hx, hr]
    exact hK _ _ (h a' c' w' h2 h3)
end Go.Proofs.Ytocgcgmlemoekaa
