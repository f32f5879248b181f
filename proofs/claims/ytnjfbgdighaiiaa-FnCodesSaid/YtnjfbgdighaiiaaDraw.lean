/-
  Contracts of the draws: the cursor made, a byte, a number below another.
-/
import Derived.Test.YtnjfbgdighaiiaaCloneI
import Derived.Test.YtnjfbgdighaiiaaBytes
import Derived.Test.YtnjfbgdighaiiaaPerm
import Derived.Laws.Rows
import Derived.Laws.BitsAllLaws
import Derived.BigQuiet
namespace Go.Proofs.Ytnjfbgdighaiiaa
open Go.RowKit

theorem Only.setCell' {B S : Nat} (w : World) (g j : Nat) (v : Value) (h1 : B ≤ g) (h2 : g < S) : Only B S w (w.setCell ⟨g, j, none⟩ v) :=
  ⟨rfl, rfl, rfl, by simp, fun k _ hk => heap_setCell_other w ⟨g, j, none⟩ k v (fun e => hk (by simp at e; omega))⟩
/-- the cursor in block g, over the bytes at address a -/
structure Cur (w : World) (g : Nat) (a : Option Addr) (n c : Nat) (xs : List Int) : Prop where
  cells : ∃ i h : Int, 0 ≤ i ∧ w.heap[g]? = some (.cells #[.slice a n c, .int .i64 i, .int .i64 h] 122 (0, 0))
  rd : RB w a xs
  len : xs.length = n
  bytes : Bytes xs
  small : n ≤ 1048576
  apart : xs = [] ∨ ∀ ad, a = some ad → ad.block < g
theorem RB.only {w w' : World} {a : Option Addr} {xs : List Int} {B S : Nat} (h : RB w a xs) (ho : Only B S w w') (hd : xs = [] ∨ ∀ ad, a = some ad → ad.block < B) : RB w' a xs := by
  rcases h with h | ⟨b, off, ha, hc⟩
  · exact .inl h
  · rcases hd with hd | hd
    · exact .inl hd
    refine .inr ⟨b, off, ha, fun k x hx => ?_⟩
    have h1 := hc k x hx
    have h2 := World.block_lt_of_cell? w _ h1
    have h3 := hd _ ha
    rw [← h1]
    unfold World.cell?
    simp only
    rw [ho.block b h2 (by simp only at h3; omega)]
theorem Cur.below {w w' : World} {g : Nat} {a : Option Addr} {n c : Nat} {xs : List Int} (h : Cur w g a n c xs) (hb : Below w.heap.size w w') : Cur w' g a n c xs := by
  obtain ⟨⟨i, hh, h0, h1⟩, h2, h3, h4, h5, h6⟩ := h
  exact ⟨⟨i, hh, h0, by rw [hb.block g (Array.getElem?_eq_some_iff.1 h1).1]; exact h1⟩, h2.below hb, h3, h4, h5, h6⟩

theorem Cur.new {w : World} {a : Option Addr} {n c : Nat} {xs : List Int} (hr : RB w a xs) (hn : xs.length = n) (hb : n ≤ 1048576) (hx : Bytes xs) (h : Int) :
    Cur (w.alloc (.cells #[.slice a n c, .int .i64 0, .int .i64 h] 122)) w.heap.size a n c xs := by
  refine ⟨⟨0, h, by omega, heap_alloc_new w _⟩, hr.below ((Below.refl _ _).alloc (Nat.le_refl _) _), hn, hx, hb, ?_⟩
  rcases hr with h | ⟨b, off, ha, hc⟩
  · exact .inl h
  · rcases xs with _ | ⟨x, xs⟩
    · exact .inl rfl
    · refine .inr fun ad had => ?_
      have h1 := World.block_lt_of_cell? w _ (hc 0 x rfl)
      rw [ha] at had
      obtain rfl := Option.some.inj had
      exact h1

set_option maxRecDepth 100000 in
set_option maxHeartbeats 1600000 in
theorem l1New_any (a : Option Addr) (n c : Nat) (xs : List Int) (w : World) (hr : RB w a xs) (hn : xs.length = n) (hb : n ≤ 1048576) (hx : Bytes xs) :
    Calls Try.prog 78 #[.slice a n c] w fun e w' => e = .returned (.pointer (some ⟨w.heap.size, 0, none⟩)) ∧ Cur w' w.heap.size a n c xs ∧ Below w.heap.size w w' ∧ w'.heap.size = w.heap.size + 1 := by
  have Hn := Lib.hid hn; clear hn
  have HX := Lib.hid hx; clear hx
  go_enter Try.func78, Try.ntmps78
  go_wp2
  go_loop [3, 4] (fun h i => ∃ k : Nat, k ≤ n ∧ i = .int .i64 k ∧ Hid (∃ x : Int, h = .int .i64 x)) (fun _ i => n - (intOf i).toNat)
  case atStart => exact ⟨0, Nat.zero_le _, rfl, ⟨_, rfl⟩⟩
  case round =>
    obtain ⟨k, hk, rfl, HV⟩ := hrel
    obtain ⟨x, rfl⟩ := HV.out
    clear HV
    by_cases hlt : k < n
    · by_cases h4 : k < 4000
      · obtain ⟨b, off, rfl, hcell⟩ := hr.at (k := k) (by rw [Hn.out]; exact hlt)
        obtain ⟨y, hy⟩ := some_at Hn.out hlt
        have hc := hcell k y hy
        have hy2 := HX.out y (List.mem_of_getElem? hy)
        clear hcell hy
        go_wp2
        go_round
        case rel => exact ⟨k + 1, by omega, by go_num, ⟨_, rfl⟩⟩
        case measure => simp [intOf]; omega
      · go_wp2
        go_ret
        exact ⟨rfl, Cur.new hr Hn.out hb HX.out _, (Below.refl _ _).alloc (Nat.le_refl _) _, by simp⟩
    · go_wp2
      go_ret
      exact ⟨rfl, Cur.new hr Hn.out hb HX.out _, (Below.refl _ _).alloc (Nat.le_refl _) _, by simp⟩

theorem and255 (x : Int) : 0 ≤ bits .and .i64 x 255 ∧ bits .and .i64 x 255 ≤ 255 := by
  have h : (BitVec.ofInt 64 x &&& BitVec.ofInt 64 255).toNat ≤ 255 := by
    rw [BitVec.toNat_and]
    exact Nat.le_trans Nat.and_le_right (by decide)
  have e : bits .and .i64 x 255 = IntKind.i64.wrap ((BitVec.ofInt 64 x &&& BitVec.ofInt 64 255).toNat : Int) := rfl
  rw [e]
  generalize (BitVec.ofInt 64 x &&& BitVec.ofInt 64 255).toNat = r at h
  rw [IntWalk.i64_in _ (by omega)]
  omega
/-- one of the fields written -/
theorem Cur.put {w : World} {g : Nat} {a : Option Addr} {n c : Nat} {xs : List Int} {i h : Int} (hg : w.heap[g]? = some (.cells #[.slice a n c, .int .i64 i, .int .i64 h] 122 (0, 0))) (hi : 0 ≤ i)
    (hr : RB w a xs) (hn : xs.length = n) (hx : Bytes xs) (hb : n ≤ 1048576) (ha : xs = [] ∨ ∀ ad, a = some ad → ad.block < g) :
    Cur w g a n c xs ∧ Cur (w.setCell ⟨g, 1, none⟩ (.int .i64 (i + 1))) g a n c xs :=
  ⟨⟨⟨i, h, hi, hg⟩, hr, hn, hx, hb, ha⟩, ⟨⟨i + 1, h, by omega, heap_setCell_same _ g 1 _ _ _ hg⟩, hr.only (Only.setCell' _ g 1 _ (Nat.le_refl _) (Nat.lt_succ_self _)) ha, hn, hx, hb, ha⟩⟩

set_option maxRecDepth 100000 in
set_option maxHeartbeats 1600000 in
theorem l1Byte_any (g : Nat) (a : Option Addr) (n c : Nat) (xs : List Int) (w : World) (hc : Cur w g a n c xs) :
    Calls Try.prog 134 #[.pointer (some ⟨g, 0, none⟩)] w fun e w' => ∃ r : Int, e = .returned (.int .i64 r) ∧ Hid (0 ≤ r ∧ r ≤ 255) ∧ Cur w' g a n c xs ∧ Only g (g + 1) w w' := by
  obtain ⟨⟨i, h, hi, hg⟩, hr, hn, hx, hb, ha⟩ := hc
  have c0 : w.cell? ⟨g, 0, none⟩ = some (.slice a n c) := by rw [cell_of_row w _ 0 _ _ (0, 0) hg]; rfl
  have c1 : w.cell? ⟨g, 1, none⟩ = some (.int .i64 i) := by rw [cell_of_row w _ 1 _ _ (0, 0) hg]; rfl
  have c2 : w.cell? ⟨g, 2, none⟩ = some (.int .i64 h) := by rw [cell_of_row w _ 2 _ _ (0, 0) hg]; rfl
  have f1 := frozen_of_row w g 1 _ _ hg
  have f2 := frozen_of_row w g 2 _ _ hg
  go_enter Try.func134, Try.ntmps134
  go_wp2
  generalize wrap64 (wrap64 (h * 6364136223846793005) + 1442695040888963407) = h1
  have g1 : (w.setCell ⟨g, 2, none⟩ (.int .i64 h1)).heap[g]? = some (.cells #[.slice a n c, .int .i64 i, .int .i64 h1] 122 (0, 0)) := heap_setCell_same _ g 2 _ _ _ hg
  have o1 : Only g (g + 1) w (w.setCell ⟨g, 2, none⟩ (.int .i64 h1)) := Only.setCell' _ _ _ _ (Nat.le_refl _) (Nat.lt_succ_self _)
  have hr1 := hr.only o1 ha
  obtain ⟨W, hW⟩ : ∃ W, w.setCell ⟨g, 2, none⟩ (.int .i64 h1) = W := ⟨_, rfl⟩
  rw [hW] at g1 o1 hr1 ⊢
  clear c0 c1 c2 f1 f2 hg hr hW
  have c0 : W.cell? ⟨g, 0, none⟩ = some (.slice a n c) := by rw [cell_of_row W _ 0 _ _ (0, 0) g1]; rfl
  have c1 : W.cell? ⟨g, 1, none⟩ = some (.int .i64 i) := by rw [cell_of_row W _ 1 _ _ (0, 0) g1]; rfl
  have c2 : W.cell? ⟨g, 2, none⟩ = some (.int .i64 h1) := by rw [cell_of_row W _ 2 _ _ (0, 0) g1]; rfl
  have f1 := frozen_of_row W g 1 _ _ g1
  have Hn := Lib.hid hn; clear hn
  obtain ⟨k, rfl⟩ : ∃ k : Nat, i = k := ⟨i.toNat, by omega⟩
  have dB : ∀ m, Below W.heap.size W (W.drewN m) := fun m => (Drew.drewN W m).below _
  have dO : ∀ m, Only g (g + 1) W (W.drewN m) := fun m => ⟨rfl, rfl, rfl, Nat.le_refl _, fun _ _ _ => rfl⟩
  have y := fun m => Cur.put (w := W.drewN m) g1 hi (hr1.below (dB m)) Hn.out hx hb ha
  have Y := Lib.hid y
  have o3 := fun m => o1.trans ((dO m).trans (Only.setCell' (W.drewN m) g 1 (.int .i64 ((k : Int) + 1)) (Nat.le_refl _) (Nat.lt_succ_self _)))
  have O1 := Lib.hid (fun m => o1.trans (dO m))
  have O2 := Lib.hid o3
  clear y o1 o3 dB dO
  by_cases hlt : (k : Int) < n
  · have hlt' : k < n := by omega
    obtain ⟨b, off, rfl, hcell⟩ := hr1.at (k := k) (by rw [Hn.out]; exact hlt')
    obtain ⟨y, hy⟩ := some_at Hn.out hlt'
    have hc := hcell k y hy
    have hy2 := hx y (List.mem_of_getElem? hy)
    clear hcell hy
    go_quiet (fail)
    go_wp2
    go_quiet (fail)
    go_wp2
    go_quiet (fail)
    go_wp2
    go_ret
    exact ⟨_, rfl, and255 _, (Y.out _).2, O2.out _⟩
  · go_quiet (fail)
    go_wp2
    go_quiet (fail)
    go_wp2
    go_ret
    rw [World.drewN_drewN]
    exact ⟨_, rfl, and255 _, (Y.out _).1, O1.out _⟩

/-- what a call with the cursor at hand may leave -/
def BelowPost (n : Int) (g : Nat) (a : Option Addr) (m c : Nat) (xs : List Int) (w : World) (e : Ending) (w' : World) : Prop :=
  ∃ r : Nat, e = .returned (.int .i64 r) ∧ (r : Int) < n ∧ Cur w' g a m c xs ∧ Only g (g + 1) w w'
set_option maxRecDepth 100000 in
set_option maxHeartbeats 1600000 in
theorem l1Below_any (n : Int) (h1 : 1 ≤ n) (h2 : n ≤ 256) (g : Nat) (a : Option Addr) (m c : Nat) (xs : List Int) (w : World) (hc : Cur w g a m c xs) :
    Calls Try.prog 79 #[.pointer (some ⟨g, 0, none⟩), .int .i64 n] w (BelowPost n g a m c xs w) := by
  have hn0 : n ≠ 0 := by omega
  go_enter Try.func79, Try.ntmps79
  go_wp2_with fail
  refine (l1Byte_any _ _ _ _ _ _ hc).mono ?_
  rintro e w1 ⟨r, rfl, hr, hc1, ho⟩
  obtain ⟨k, rfl⟩ : ∃ k : Nat, r = k := ⟨r.toNat, by have := hr.out; omega⟩
  have hr2 := hr.out
  have q1 : (k : Int).tmod n = ((k % n.toNat : Nat) : Int) := by
    obtain ⟨d, rfl⟩ : ∃ d : Nat, n = d := ⟨n.toNat, by omega⟩
    rw [Int.toNat_natCast]
    exact (Int.ofNat_tmod k d).symm
  have q2 : ((k % n.toNat : Nat) : Int) < n := by
    have := Nat.mod_lt k (show 0 < n.toNat by omega)
    omega
  obtain ⟨d, hd⟩ : ∃ d, k % n.toNat = d := ⟨_, rfl⟩
  rw [hd] at q1 q2
  have hdk : d ≤ 255 := by have := Nat.mod_le k n.toNat; omega
  clear hd hr
  go_wp2
  go_ret
  exact ⟨d, rfl, q2, hc1, ho⟩

def OncePost (g : Nat) (a : Option Addr) (m c : Nat) (xs : List Int) (w : World) (e : Ending) (w' : World) : Prop :=
  ∃ b : Bool, e = .returned (.bool b) ∧ Cur w' g a m c xs ∧ Only g (g + 1) w w'
set_option maxHeartbeats 800000 in
theorem l1Once_any (n : Int) (h1 : 1 ≤ n) (h2 : n ≤ 256) (g : Nat) (a : Option Addr) (m c : Nat) (xs : List Int) (w : World) (hc : Cur w g a m c xs) :
    Calls Try.prog 81 #[.pointer (some ⟨g, 0, none⟩), .int .i64 n] w (OncePost g a m c xs w) := by
  go_enter Try.func81, Try.ntmps81
  go_wp2_with fail
  refine (l1Below_any n h1 h2 g a m c xs _ hc).mono ?_
  rintro e w1 ⟨r, rfl, hr, hc1, ho⟩
  go_wp2
  go_ret
  exact ⟨_, rfl, hc1, ho⟩
end Go.Proofs.Ytnjfbgdighaiiaa
