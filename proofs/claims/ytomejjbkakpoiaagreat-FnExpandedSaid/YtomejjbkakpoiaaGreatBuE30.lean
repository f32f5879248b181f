/-
  One polynomial in two lists, to the last coefficient; lists gathered by hand; sums of sizes of coefficients. Plain.
  Schubert polynomials that the kernel can reckon. Plain.
  Contracts of the draws: the cursor made, a byte, a number below another.
  Contract of dPerm: a permutation drawn.
-/
import Derived.Test.YtomejjbkakpoiaaGreatGoodM
import Derived.Test.YtomejjbkakpoiaaGreatBuE17
import Derived.Test.YtomejjbkakpoiaaGreatBuE10
import Derived.Test.YtomejjbkakpoiaaGreatBuE4
import Derived.Test.YtomejjbkakpoiaaGreatBuE12
import Derived.Laws.Rows
import Derived.Laws.BitsAllLaws
import Derived.BigQuiet
import Derived.Test.YtomejjbkakpoiaaGreatBuE14
namespace Go.Proofs.YtomejjbkakpoiaaGreat
open Go.RowKit

def Same (F G : Mons) : Prop := ∀ v, wsum F v = wsum G v
theorem Same.refl (F : Mons) : Same F F := fun _ => rfl
theorem Same.symm {F G : Mons} (h : Same F G) : Same G F := fun v => (h v).symm
theorem Same.trans {F G H : Mons} (h : Same F G) (k : Same G H) : Same F H := fun v => (h v).trans (k v)
theorem Same.eqv {F G : Mons} (h : Same F G) : Eqv F G := Eqv.of_wsum fun v => by rw [h v, Int.sub_self]; exact Int.dvd_zero _
theorem Same.raw {F G : Mons} (h : Same F G) (k : Int) : raw F k = raw G k := h _
theorem Same.append {F G F' G' : Mons} (h : Same F G) (k : Same F' G') : Same (F ++ F') (G ++ G') := fun v => by rw [wsum_append, wsum_append, h v, k v]
theorem Same.flatMap {f : Int × Int → Mons} (hf : Lin f) {F G : Mons} (h : Same F G) : Same (F.flatMap f) (G.flatMap f) := by
  obtain ⟨A, hA⟩ := hf.flat
  exact fun v => by rw [hA, hA]; exact h _
theorem Same.divided {i : Nat} {F G : Mons} (h : Same F G) : Same (dividedM i F) (dividedM i G) := h.flatMap (lin_dd i)
theorem Same.scale {c : Int} {F G : Mons} (h : Same F G) : Same (scaleM c F) (scaleM c G) := fun v => by rw [wsum_scale, wsum_scale, h v]
theorem Same.plus {c : Int} {F G F' G' : Mons} (h : Same F G) (k : Same F' G') : Same (plusM F c F') (plusM G c G') := h.append k.scale
theorem wsum_keys (g : Int → Int) (F : Mons) (v : Int → Int) : wsum (F.map fun p => (g p.1, p.2)) v = wsum F fun k => v (g k) := by
  induction F with
  | nil => rfl
  | cons p F ih => rw [List.map_cons, wsum, ih, wsum]
theorem Same.keys (g : Int → Int) {F G : Mons} (h : Same F G) : Same (F.map fun p => (g p.1, p.2)) (G.map fun p => (g p.1, p.2)) := fun v => by rw [wsum_keys, wsum_keys]; exact h _
theorem Same.raised {i : Nat} {F G : Mons} (h : Same F G) : Same (raisedM i F) (raisedM i G) := h.keys fun k => k + unit i
theorem Same.swap {i : Nat} {F G : Mons} (h : Same F G) : Same (swapM i F) (swapM i G) := h.keys (swapK i)
theorem Same.times {F G F' G' : Mons} (h : Same F G) (k : Same F' G') : Same (timesM F F') (timesM G G') := fun v => by
  rw [wsum_times, wsum_times, h]
  congr 1
  funext j
  exact k _
theorem Same.dem {i : Nat} {F G : Mons} (h : Same F G) : Same (demM i F) (demM i G) := h.raised.divided
theorem Same.iso {i : Nat} {F G : Mons} (h : Same F G) : Same (isoM i F) (isoM i G) := (h.plus h.raised).divided

/-! gathered, the greatest key first -/
def insM (k c : Int) : Mons → Mons
  | [] => if c = 0 then [] else [(k, c)]
  | (j, d) :: l => if k = j then (if c + d = 0 then l else (j, c + d) :: l) else if j < k then (if c = 0 then (j, d) :: l else (k, c) :: (j, d) :: l) else (j, d) :: insM k c l
theorem insM_sum (k c : Int) (v : Int → Int) : ∀ l : Mons, wsum (insM k c l) v = c * v k + wsum l v
  | [] => by
    unfold insM
    split
    · rename_i h; simp [h, wsum]
    · simp [wsum]
  | (j, d) :: l => by
    unfold insM
    split
    · rename_i h
      subst h
      split
      · rename_i h0
        rw [wsum]
        have : c * v k + (d * v k + wsum l v) = (c + d) * v k + wsum l v := by rw [Int.add_mul]; omega
        rw [this, h0]; simp
      · rw [wsum, wsum]
        simp only
        rw [Int.add_mul]; omega
    · split
      · split
        · rename_i h0; rw [h0]; simp
        · rw [wsum]
      · rw [wsum, insM_sum k c v l, wsum]; omega
def gath (F : Mons) : Mons := F.foldr (fun p l => insM p.1 p.2 l) []
theorem gath_same (F : Mons) : Same (gath F) F := fun v => by
  induction F with
  | nil => rfl
  | cons p F ih =>
    have e : gath (p :: F) = insM p.1 p.2 (gath F) := rfl
    rw [e, insM_sum, ih, wsum]
theorem same_of_gath {F G : Mons} (h : gath F = gath G) : Same F G := (gath_same F).symm.trans (by rw [h]; exact gath_same G)
theorem insM_keys {k c : Int} : ∀ {l : Mons} {p : Int × Int}, p ∈ insM k c l → p.1 = k ∨ ∃ q ∈ l, q.1 = p.1
  | [], p, h => by
    unfold insM at h
    split at h
    · cases h
    · left; simp at h; rw [h]
  | (j, d) :: l, p, h => by
    unfold insM at h
    split at h
    · split at h
      · exact .inr ⟨p, List.mem_cons_of_mem _ h, rfl⟩
      · rcases List.mem_cons.1 h with rfl | h
        · exact .inr ⟨(j, d), List.mem_cons_self, rfl⟩
        · exact .inr ⟨p, List.mem_cons_of_mem _ h, rfl⟩
    · split at h
      · split at h
        · exact .inr ⟨p, h, rfl⟩
        · rcases List.mem_cons.1 h with rfl | h
          · exact .inl rfl
          · exact .inr ⟨p, h, rfl⟩
      · rcases List.mem_cons.1 h with rfl | h
        · exact .inr ⟨(j, d), List.mem_cons_self, rfl⟩
        · rcases insM_keys h with h | ⟨q, hq, e⟩
          · exact .inl h
          · exact .inr ⟨q, List.mem_cons_of_mem _ hq, e⟩
theorem gath_keys : ∀ {F : Mons} {p : Int × Int}, p ∈ gath F → ∃ q ∈ F, q.1 = p.1
  | [], p, h => by cases h
  | r :: F, p, h => by
    rcases insM_keys (show p ∈ insM r.1 r.2 (gath F) from h) with h | ⟨q, hq, e⟩
    · exact ⟨r, List.mem_cons_self, h.symm⟩
    · obtain ⟨s, hs, e2⟩ := gath_keys hq
      exact ⟨s, List.mem_cons_of_mem _ hs, by rw [e2, e]⟩
theorem Bd.gath {B : Int} {F : Mons} (h : Bd B F) : Bd B (gath F) := h.keys fun _ hp => gath_keys hp

/-! sizes -/
def nrm (F : Mons) : Nat := F.foldr (fun p n => p.2.natAbs + n) 0
theorem raw_nrm (F : Mons) (k : Int) : -(nrm F : Int) ≤ raw F k ∧ raw F k ≤ nrm F := by
  unfold raw
  induction F with
  | nil => simp [wsum, nrm]
  | cons p F ih =>
    have e : nrm (p :: F) = p.2.natAbs + nrm F := rfl
    rw [e, wsum]
    have h : p.2 * hit k p.1 = p.2 ∨ p.2 * hit k p.1 = 0 := by
      unfold hit
      split
      · left; simp
      · right; simp
    rcases h with h | h <;> rw [h] <;> omega
theorem canon_len_le (F : Mons) : (canon F).length ≤ F.length := by
  have e : F.length = (F.map fun p => p.1).length := (List.length_map _).symm
  rw [canon_length, e]
  refine (keysOf_nodup F).length_le_of_subset fun k hk => ?_
  rw [mem_keysOf] at hk
  rcases Decidable.em (k ∈ F.map fun p => p.1) with h1 | h1
  · exact h1
  · exact absurd (coef_miss fun p hp e => h1 (List.mem_map.2 ⟨p, hp, e⟩)) hk
theorem GoodM.list {F : Mons} (h : Bd 24 F) : GoodM F.length (nrm F) F := ⟨h, canon_len_le F, raw_nrm F⟩
theorem GoodM.same {n C : Nat} {F G : Mons} (h : GoodM n C G) (e : Same F G) (hb : Bd 24 F) : GoodM n C F :=
  ⟨hb, by rw [canon_len_eqv e.eqv]; exact h.few, fun k => by rw [e.raw]; exact h.low k⟩
theorem GoodM.of_list {F G : Mons} (h : Same F G) (hb : Bd 24 F) {n C : Nat} (hn : G.length ≤ n) (hC : nrm G ≤ C) : GoodM n C F :=
  ⟨hb, by rw [canon_len_eqv h.eqv]; exact Nat.le_trans (canon_len_le G) hn, fun k => by rw [h.raw]; have := raw_nrm G k; omega⟩
def degK (k : Int) : Int := dig k 0 + dig k 1 + dig k 2 + dig k 3 + dig k 4 + dig k 5 + dig k 6
end Go.Proofs.YtomejjbkakpoiaaGreat

namespace Go.Proofs.YtomejjbkakpoiaaGreat
open Go.RowKit

/-- Schubert polynomials, gathered at each step -/
def schG (v : List Int) (m : Nat) : Mons := (ups v).foldr (fun i F => gath (dividedM i F)) [(partK m m, 1)]
theorem schG_fold (l : List Nat) (F : Mons) : Same (l.foldr (fun i F => gath (dividedM i F)) F) (l.foldr dividedM F) := by
  induction l with
  | nil => exact Same.refl _
  | cons i l ih => exact (gath_same _).trans ih.divided
theorem schG_same (v : List Int) (m : Nat) : Same (schG v m) (schM v m) := schG_fold _ _
/-- the Schubert polynomial of a permutation; a form that the kernel can reckon -/
def SM (u : List Int) : Mons := schM (trim u) (trimLen u u.length)
def SMg (u : List Int) : Mons := schG (trim u) (trimLen u u.length)
theorem SMg_same (u : List Int) : Same (SMg u) (SM u) := schG_same _ _
theorem SM_b7 {u : List Int} (h : u.length ≤ 7) : B7 (SM u) := by
  unfold SM
  have hm : trimLen u u.length ≤ u.length := trimLen_le u u.length
  have hl : (trim u).length = trimLen u u.length := by unfold trim; rw [List.length_take]; omega
  exact (B7.stair (show trimLen u u.length ≤ 7 by omega)).low _ fun k hk => by have := ups_lt (trim u) k hk; omega
theorem B7.bd6 {F : Mons} (h : B7 F) : Bd 6 F := fun p hp => ⟨(h p hp).1, fun j hj => by have := (h p hp).2 j hj; omega⟩
theorem SM_bd {u : List Int} (h : u.length ≤ 7) : Bd 6 (SM u) := (SM_b7 h).bd6
theorem SM_okp {u : List Int} (h : u.length ≤ 7) (h1 : (SMg u).length ≤ 600) (h2 : nrm (SMg u) ≤ 1000000) : OKp (SM u) :=
  (GoodM.of_list (SMg_same u).symm ((SM_bd h).mono (by decide)) h1 h2).okp (Nat.le_refl _) (Nat.le_refl _)
end Go.Proofs.YtomejjbkakpoiaaGreat

namespace Go.Proofs.YtomejjbkakpoiaaGreat
open Go.RowKit

theorem Only.setCell' {B S : Nat} (w : World) (g j : Nat) (v : Value) (h1 : B ≤ g) (h2 : g < S) : Only B S w (w.setCell ⟨g, j, none⟩ v) :=
  ⟨rfl, rfl, rfl, by simp, fun k _ hk => heap_setCell_other w ⟨g, j, none⟩ k v (fun e => hk (by simp at e; omega))⟩
/-- the cursor in block g, over the bytes at address a -/
structure Cur (w : World) (g : Nat) (a : Option Addr) (n c : Nat) (xs : List Int) : Prop where
  cells : ∃ i h : Int, 0 ≤ i ∧ w.heap[g]? = some (.cells #[.slice a n c, .int .i64 i, .int .i64 h] 90 (0, 0))
  rd : RB w a xs
  len : xs.length = n
  bytes : Bytes xs
  small : n ≤ 1048576
  apart : xs = [] ∨ ∀ ad, a = some ad → ad.block < g
theorem RB.only {w w' : World} {a : Option Addr} {xs : List Int} {B S : Nat} (h : RB w a xs) (ho : Only B S w w') (hd : xs = [] ∨ ∀ ad, a = some ad → ad.block < B) : RB w' a xs := by
  rcases h with h | ⟨b, off, ha, hc⟩
  · exact .inl h
  · rcases hd with hd | hd
    · exact .inl hd
    refine .inr ⟨b, off, ha, fun k x hx => ?_⟩
    have h1 := hc k x hx
    have h2 := World.block_lt_of_cell? w _ h1
    have h3 := hd _ ha
    rw [← h1]
    unfold World.cell?
    simp only
    rw [ho.block b h2 (by simp only at h3; omega)]
theorem Cur.below {w w' : World} {g : Nat} {a : Option Addr} {n c : Nat} {xs : List Int} (h : Cur w g a n c xs) (hb : Below w.heap.size w w') : Cur w' g a n c xs := by
  obtain ⟨⟨i, hh, h0, h1⟩, h2, h3, h4, h5, h6⟩ := h
  exact ⟨⟨i, hh, h0, by rw [hb.block g (Array.getElem?_eq_some_iff.1 h1).1]; exact h1⟩, h2.below hb, h3, h4, h5, h6⟩

theorem Cur.new {w : World} {a : Option Addr} {n c : Nat} {xs : List Int} (hr : RB w a xs) (hn : xs.length = n) (hb : n ≤ 1048576) (hx : Bytes xs) (h : Int) :
    Cur (w.alloc (.cells #[.slice a n c, .int .i64 0, .int .i64 h] 90)) w.heap.size a n c xs := by
  refine ⟨⟨0, h, by omega, heap_alloc_new w _⟩, hr.below ((Below.refl _ _).alloc (Nat.le_refl _) _), hn, hx, hb, ?_⟩
  rcases hr with h | ⟨b, off, ha, hc⟩
  · exact .inl h
  · rcases xs with _ | ⟨x, xs⟩
    · exact .inl rfl
    · refine .inr fun ad had => ?_
      have h1 := World.block_lt_of_cell? w _ (hc 0 x rfl)
      rw [ha] at had
      obtain rfl := Option.some.inj had
      exact h1

set_option maxRecDepth 100000 in
set_option maxHeartbeats 1600000 in
theorem l1New_any (a : Option Addr) (n c : Nat) (xs : List Int) (w : World) (hr : RB w a xs) (hn : xs.length = n) (hb : n ≤ 1048576) (hx : Bytes xs) :
    Calls Tryz.prog 23 #[.slice a n c] w fun e w' => e = .returned (.pointer (some ⟨w.heap.size, 0, none⟩)) ∧ Cur w' w.heap.size a n c xs ∧ Below w.heap.size w w' ∧ w'.heap.size = w.heap.size + 1 := by
  have Hn := Lib.hid hn; clear hn
  have HX := Lib.hid hx; clear hx
  go_enter Tryz.func23, Tryz.ntmps23
  go_wp2
  go_loop [3, 4] (fun h i => ∃ k : Nat, k ≤ n ∧ i = .int .i64 k ∧ Hid (∃ x : Int, h = .int .i64 x)) (fun _ i => n - (intOf i).toNat)
  case atStart => exact ⟨0, Nat.zero_le _, rfl, ⟨_, rfl⟩⟩
  case round =>
    obtain ⟨k, hk, rfl, HV⟩ := hrel
    obtain ⟨x, rfl⟩ := HV.out
    clear HV
    by_cases hlt : k < n
    · by_cases h4 : k < 4000
      · obtain ⟨b, off, rfl, hcell⟩ := hr.at (k := k) (by rw [Hn.out]; exact hlt)
        obtain ⟨y, hy⟩ := some_at Hn.out hlt
        have hc := hcell k y hy
        have hy2 := HX.out y (List.mem_of_getElem? hy)
        clear hcell hy
        go_wp2
        go_round
        case rel => exact ⟨k + 1, by omega, by go_num, ⟨_, rfl⟩⟩
        case measure => simp [intOf]; omega
      · go_wp2
        go_ret
        exact ⟨rfl, Cur.new hr Hn.out hb HX.out _, (Below.refl _ _).alloc (Nat.le_refl _) _, by simp⟩
    · go_wp2
      go_ret
      exact ⟨rfl, Cur.new hr Hn.out hb HX.out _, (Below.refl _ _).alloc (Nat.le_refl _) _, by simp⟩

theorem and255 (x : Int) : 0 ≤ bits .and .i64 x 255 ∧ bits .and .i64 x 255 ≤ 255 := by
  have h : (BitVec.ofInt 64 x &&& BitVec.ofInt 64 255).toNat ≤ 255 := by
    rw [BitVec.toNat_and]
    exact Nat.le_trans Nat.and_le_right (by decide)
  have e : bits .and .i64 x 255 = IntKind.i64.wrap ((BitVec.ofInt 64 x &&& BitVec.ofInt 64 255).toNat : Int) := rfl
  rw [e]
  generalize (BitVec.ofInt 64 x &&& BitVec.ofInt 64 255).toNat = r at h
  rw [IntWalk.i64_in _ (by omega)]
  omega
/-- one of the fields written -/
theorem Cur.put {w : World} {g : Nat} {a : Option Addr} {n c : Nat} {xs : List Int} {i h : Int} (hg : w.heap[g]? = some (.cells #[.slice a n c, .int .i64 i, .int .i64 h] 90 (0, 0))) (hi : 0 ≤ i)
    (hr : RB w a xs) (hn : xs.length = n) (hx : Bytes xs) (hb : n ≤ 1048576) (ha : xs = [] ∨ ∀ ad, a = some ad → ad.block < g) :
    Cur w g a n c xs ∧ Cur (w.setCell ⟨g, 1, none⟩ (.int .i64 (i + 1))) g a n c xs :=
  ⟨⟨⟨i, h, hi, hg⟩, hr, hn, hx, hb, ha⟩, ⟨⟨i + 1, h, by omega, heap_setCell_same _ g 1 _ _ _ hg⟩, hr.only (Only.setCell' _ g 1 _ (Nat.le_refl _) (Nat.lt_succ_self _)) ha, hn, hx, hb, ha⟩⟩

set_option maxRecDepth 100000 in
set_option maxHeartbeats 1600000 in
theorem l1Byte_any (g : Nat) (a : Option Addr) (n c : Nat) (xs : List Int) (w : World) (hc : Cur w g a n c xs) :
    Calls Tryz.prog 64 #[.pointer (some ⟨g, 0, none⟩)] w fun e w' => ∃ r : Int, e = .returned (.int .i64 r) ∧ Hid (0 ≤ r ∧ r ≤ 255) ∧ Cur w' g a n c xs ∧ Only g (g + 1) w w' := by
  obtain ⟨⟨i, h, hi, hg⟩, hr, hn, hx, hb, ha⟩ := hc
  have c0 : w.cell? ⟨g, 0, none⟩ = some (.slice a n c) := by rw [cell_of_row w _ 0 _ _ (0, 0) hg]; rfl
  have c1 : w.cell? ⟨g, 1, none⟩ = some (.int .i64 i) := by rw [cell_of_row w _ 1 _ _ (0, 0) hg]; rfl
  have c2 : w.cell? ⟨g, 2, none⟩ = some (.int .i64 h) := by rw [cell_of_row w _ 2 _ _ (0, 0) hg]; rfl
  have f1 := frozen_of_row w g 1 _ _ hg
  have f2 := frozen_of_row w g 2 _ _ hg
  go_enter Tryz.func64, Tryz.ntmps64
  go_wp2
  generalize wrap64 (wrap64 (h * 6364136223846793005) + 1442695040888963407) = h1
  have g1 : (w.setCell ⟨g, 2, none⟩ (.int .i64 h1)).heap[g]? = some (.cells #[.slice a n c, .int .i64 i, .int .i64 h1] 90 (0, 0)) := heap_setCell_same _ g 2 _ _ _ hg
  have o1 : Only g (g + 1) w (w.setCell ⟨g, 2, none⟩ (.int .i64 h1)) := Only.setCell' _ _ _ _ (Nat.le_refl _) (Nat.lt_succ_self _)
  have hr1 := hr.only o1 ha
  obtain ⟨W, hW⟩ : ∃ W, w.setCell ⟨g, 2, none⟩ (.int .i64 h1) = W := ⟨_, rfl⟩
  rw [hW] at g1 o1 hr1 ⊢
  clear c0 c1 c2 f1 f2 hg hr hW
  have c0 : W.cell? ⟨g, 0, none⟩ = some (.slice a n c) := by rw [cell_of_row W _ 0 _ _ (0, 0) g1]; rfl
  have c1 : W.cell? ⟨g, 1, none⟩ = some (.int .i64 i) := by rw [cell_of_row W _ 1 _ _ (0, 0) g1]; rfl
  have c2 : W.cell? ⟨g, 2, none⟩ = some (.int .i64 h1) := by rw [cell_of_row W _ 2 _ _ (0, 0) g1]; rfl
  have f1 := frozen_of_row W g 1 _ _ g1
  have Hn := Lib.hid hn; clear hn
  obtain ⟨k, rfl⟩ : ∃ k : Nat, i = k := ⟨i.toNat, by omega⟩
  have dB : ∀ m, Below W.heap.size W (W.drewN m) := fun m => (Drew.drewN W m).below _
  have dO : ∀ m, Only g (g + 1) W (W.drewN m) := fun m => ⟨rfl, rfl, rfl, Nat.le_refl _, fun _ _ _ => rfl⟩
  have y := fun m => Cur.put (w := W.drewN m) g1 hi (hr1.below (dB m)) Hn.out hx hb ha
  have Y := Lib.hid y
  have o3 := fun m => o1.trans ((dO m).trans (Only.setCell' (W.drewN m) g 1 (.int .i64 ((k : Int) + 1)) (Nat.le_refl _) (Nat.lt_succ_self _)))
  have O1 := Lib.hid (fun m => o1.trans (dO m))
  have O2 := Lib.hid o3
  clear y o1 o3 dB dO
  by_cases hlt : (k : Int) < n
  · have hlt' : k < n := by omega
    obtain ⟨b, off, rfl, hcell⟩ := hr1.at (k := k) (by rw [Hn.out]; exact hlt')
    obtain ⟨y, hy⟩ := some_at Hn.out hlt'
    have hc := hcell k y hy
    have hy2 := hx y (List.mem_of_getElem? hy)
    clear hcell hy
    go_quiet (fail)
    go_wp2
    go_quiet (fail)
    go_wp2
    go_quiet (fail)
    go_wp2
    go_ret
    exact ⟨_, rfl, and255 _, (Y.out _).2, O2.out _⟩
  · go_quiet (fail)
    go_wp2
    go_quiet (fail)
    go_wp2
    go_ret
    rw [World.drewN_drewN]
    exact ⟨_, rfl, and255 _, (Y.out _).1, O1.out _⟩

/-- what a call with the cursor at hand may leave -/
def BelowPost (n : Int) (g : Nat) (a : Option Addr) (m c : Nat) (xs : List Int) (w : World) (e : Ending) (w' : World) : Prop :=
  ∃ r : Nat, e = .returned (.int .i64 r) ∧ (r : Int) < n ∧ Cur w' g a m c xs ∧ Only g (g + 1) w w'
set_option maxRecDepth 100000 in
set_option maxHeartbeats 1600000 in
theorem l1Below_any (n : Int) (h1 : 1 ≤ n) (h2 : n ≤ 256) (g : Nat) (a : Option Addr) (m c : Nat) (xs : List Int) (w : World) (hc : Cur w g a m c xs) :
    Calls Tryz.prog 24 #[.pointer (some ⟨g, 0, none⟩), .int .i64 n] w (BelowPost n g a m c xs w) := by
  have hn0 : n ≠ 0 := by omega
  go_enter Tryz.func24, Tryz.ntmps24
  go_wp2_with fail
  refine (l1Byte_any _ _ _ _ _ _ hc).mono ?_
  rintro e w1 ⟨r, rfl, hr, hc1, ho⟩
  obtain ⟨k, rfl⟩ : ∃ k : Nat, r = k := ⟨r.toNat, by have := hr.out; omega⟩
  have hr2 := hr.out
  have q1 : (k : Int).tmod n = ((k % n.toNat : Nat) : Int) := by
    obtain ⟨d, rfl⟩ : ∃ d : Nat, n = d := ⟨n.toNat, by omega⟩
    rw [Int.toNat_natCast]
    exact (Int.ofNat_tmod k d).symm
  have q2 : ((k % n.toNat : Nat) : Int) < n := by
    have := Nat.mod_lt k (show 0 < n.toNat by omega)
    omega
  obtain ⟨d, hd⟩ : ∃ d, k % n.toNat = d := ⟨_, rfl⟩
  rw [hd] at q1 q2
  have hdk : d ≤ 255 := by have := Nat.mod_le k n.toNat; omega
  clear hd hr
  go_wp2
  go_ret
  exact ⟨d, rfl, q2, hc1, ho⟩

def OncePost (g : Nat) (a : Option Addr) (m c : Nat) (xs : List Int) (w : World) (e : Ending) (w' : World) : Prop :=
  ∃ b : Bool, e = .returned (.bool b) ∧ Cur w' g a m c xs ∧ Only g (g + 1) w w'
set_option maxHeartbeats 800000 in
theorem l1Once_any (n : Int) (h1 : 1 ≤ n) (h2 : n ≤ 256) (g : Nat) (a : Option Addr) (m c : Nat) (xs : List Int) (w : World) (hc : Cur w g a m c xs) :
    Calls Tryz.prog 26 #[.pointer (some ⟨g, 0, none⟩), .int .i64 n] w (OncePost g a m c xs w) := by
  go_enter Tryz.func26, Tryz.ntmps26
  go_wp2_with fail
  refine (l1Below_any n h1 h2 g a m c xs _ hc).mono ?_
  rintro e w1 ⟨r, rfl, hr, hc1, ho⟩
  go_wp2
  go_ret
  exact ⟨_, rfl, hc1, ho⟩
end Go.Proofs.YtomejjbkakpoiaaGreat

namespace Go.Proofs.YtomejjbkakpoiaaGreat
open Go.RowKit

def codes : Nat → List (List Int)
  | 0 => [[]]
  | n + 1 => (List.range (n + 1)).flatMap fun (x : Nat) => (codes n).map fun l => (x : Int) :: l
def perms (n : Nat) : List (List Int) := (codes n).map decode
theorem mem_codes : ∀ (n : Nat) (l : List Int), l.length = n → (∀ (k : Nat) (x : Int), l[k]? = some x → 0 ≤ x ∧ x < (n : Int) - k) → l ∈ codes n := by
  intro n
  induction n with
  | zero => intro l hl _; simp [codes, List.eq_nil_of_length_eq_zero hl]
  | succ n ih =>
    intro l hl h
    cases l with
    | nil => simp at hl
    | cons x l =>
      have h0 := h 0 x rfl
      rw [codes, List.mem_flatMap]
      refine ⟨x.toNat, by rw [List.mem_range]; omega, ?_⟩
      rw [List.mem_map]
      refine ⟨l, ih l (by simpa using hl) (fun k y hy => ?_), by congr 1; omega⟩
      have := h (k + 1) y (by simpa using hy)
      omega
theorem Only.new {g B S : Nat} {w w1 w2 : World} (h : Only g (g + 1) w w1) (k : Only B S w1 w2) (hB : w.heap.size ≤ B) : Only g (g + 1) w w2 :=
  ⟨k.os.trans h.os, k.tape.trans h.tape, k.output.trans h.output, Nat.le_trans h.size k.size, fun i hi hn => (k.block i (Nat.lt_of_lt_of_le hi h.size) (by omega)).trans (h.block i hi hn)⟩
theorem Only.laid {g : Nat} {w w1 w2 : World} (h : Only g (g + 1) w w1) (k : Below w1.heap.size w1 w2) : Only g (g + 1) w w2 :=
  ⟨k.os.trans h.os, k.tape.trans h.tape, k.output.trans h.output, Nat.le_trans h.size k.size, fun i hi hn => (k.block i (Nat.lt_of_lt_of_le hi h.size)).trans (h.block i hi hn)⟩
theorem Cur.only {w w' : World} {g B S : Nat} {a : Option Addr} {n c : Nat} {xs : List Int} (h : Cur w g a n c xs) (ho : Only B S w w') (hg : g < B) : Cur w' g a n c xs := by
  obtain ⟨⟨i, hh, h0, h1⟩, h2, h3, h4, h5, h6⟩ := h
  refine ⟨⟨i, hh, h0, by rw [ho.block g (Array.getElem?_eq_some_iff.1 h1).1 (by omega)]; exact h1⟩, h2.only ho ?_, h3, h4, h5, h6⟩
  rcases h6 with h6 | h6
  · exact .inl h6
  · exact .inr fun ad had => Nat.lt_trans (h6 ad had) hg
theorem Cur.lt {w : World} {g : Nat} {a : Option Addr} {n c : Nat} {xs : List Int} (h : Cur w g a n c xs) : g < w.heap.size := by
  obtain ⟨⟨i, hh, h0, h1⟩, _⟩ := h
  exact (Array.getElem?_eq_some_iff.1 h1).1

def PermPost (k : Nat) (g : Nat) (a : Option Addr) (m c : Nat) (xs : List Int) (w : World) (e : Ending) (w' : World) : Prop :=
  ∃ u a' c', e = .returned (.slice a' k c') ∧ u ∈ perms k ∧ OwI w' w.heap.size w'.heap.size a' k c' u ∧ Cur w' g a m c xs ∧ Only g (g + 1) w w'
def fewPerms : Bool := [1, 2, 3, 4, 5].all fun n => (perms n).all fun u => u.length == n && isPerm u
theorem fewPerms_true : fewPerms = true := by kernel_rfl
theorem perms_ok {k : Nat} {u : List Int} (h : u ∈ perms k) (h1 : 1 ≤ k) (h5 : k ≤ 5) : u.length = k ∧ isPerm u = true := by
  have h2 := fewPerms_true
  unfold fewPerms at h2
  rw [List.all_eq_true] at h2
  have h3 := h2 k (by simp; omega)
  rw [List.all_eq_true] at h3
  have h4 := h3 u h
  simpa using h4

set_option maxRecDepth 100000 in
set_option maxHeartbeats 3200000 in
theorem dPerm_any (k : Nat) (h1 : 1 ≤ k) (h5 : k ≤ 5) (g : Nat) (a : Option Addr) (m c : Nat) (xs : List Int) (w : World) (hc : Cur w g a m c xs) :
    Calls Tryz.prog 25 #[.pointer (some ⟨g, 0, none⟩), .int .i64 k] w (PermPost k g a m c xs w) := by
  have hgw := hc.lt
  have hI0 : OwI (w.alloc (.cells #[] 3)) w.heap.size (w.alloc (.cells #[] 3)).heap.size (some ⟨w.heap.size, 0, none⟩) 0 0 [] := OwI.mk (World.ownsRow_made _ #[] 0 (Nat.le_refl _) (Nat.zero_le _) rfl)
  have hB0 : Below w.heap.size w (w.alloc (.cells #[] 3)) := (Below.refl _ _).alloc (Nat.le_refl _) _
  have hO0 := (Only.refl g (g + 1) w).laid hB0
  have hC0 := hc.below hB0
  have H1 := Lib.hid hI0; clear hI0
  go_enter Tryz.func25, Tryz.ntmps25
  go_wp2
  go_loopw [5, 6] (fun v i wr => ∃ j : Nat, j ≤ k ∧ i = .int .i64 j ∧ Hid (∃ a' c' ys, v = .slice a' j c' ∧ OwI wr w.heap.size wr.heap.size a' j c' ys ∧ ∀ (t : Nat) (y : Int), ys[t]? = some y → 0 ≤ y ∧ y < (k : Int) - t) ∧ Cur wr g a m c xs ∧ Only g (g + 1) w wr) (fun _ i _ => k - (intOf i).toNat)
  case atStart => exact ⟨0, Nat.zero_le _, rfl, ⟨_, _, [], rfl, H1.out, by simp⟩, hC0, hO0⟩
  case round =>
    clear hB0 hO0 hC0 H1
    obtain ⟨j, hj, rfl, HV, hC, hO⟩ := hrel
    obtain ⟨wo, rfl⟩ : ∃ wo : World, wo = wr := ⟨_, rfl⟩
    obtain ⟨a', c', ys, rfl, ho, hys⟩ := HV.out
    clear HV
    have hsz := hO.size
    by_cases hlt : j < k
    · have HY := Lib.hid hys; clear hys
      have q1 : (1 : Int) ≤ (k : Int) - (j : Int) := by omega
      have q2 : (k : Int) - (j : Int) ≤ 256 := by omega
      go_wp2_with fail
      refine (l1Below_any _ q1 q2 g a m c xs _ hC).mono ?_
      rintro e w1 ⟨r, rfl, hr, hC1, hO1⟩
      have ho1 := ho.only hO1 (.inr (by omega))
      have hO2 := hO.trans hO1
      have hsz1 := hO1.size
      go_wp2_with (first | (at_builtin; go_loud (refine wpList_pushI (by rfl) (by rfl) _ _ (by rfl) ho1 (by rfl) (by rfl) (by omega) (by omega) ?_)))
      intro a2 c2 w2 ho2 hg2
      have hO3 := hg2.only (B := w.heap.size) (S := w1.heap.size) (fun k hk => ho1.1.lo k hk) (fun k hk => Nat.lt_of_lt_of_le (ho1.2 k hk) hsz1)
      have hO4 := hO2.new hO3 (Nat.le_refl _)
      have hC2 := hC1.only hO3 hgw
      have hy2 : ∀ (t : Nat) (y : Int), (ys ++ [(r : Int)])[t]? = some y → 0 ≤ y ∧ y < (k : Int) - t := by
        intro t y hy
        have hl := ho.len
        rw [List.getElem?_append] at hy
        split at hy
        · exact HY.out t y hy
        · have ht : t - ys.length = 0 := by
            rcases Nat.eq_zero_or_pos (t - ys.length) with h | h
            · exact h
            · rw [List.getElem?_eq_none (by simp; omega)] at hy; cases hy
          rw [ht] at hy
          obtain rfl := Option.some.inj hy
          have : t = j := by omega
          omega
      have HY2 := Lib.hid hy2; clear hy2
      go_wp2
      go_roundw
      case rel => exact ⟨j + 1, by omega, by go_num, ⟨_, _, _, rfl, ho2, HY2.out⟩, hC2, hO4⟩
      case measure => simp [intOf]; omega
    · obtain rfl : j = k := by omega
      have hm := mem_codes j ys ho.len hys
      have hp : decode ys ∈ perms j := List.mem_map_of_mem hm
      have hpl := (perms_ok hp h1 h5).1
      have hyb : ∀ x ∈ ys, 0 ≤ x ∧ x ≤ 1000 := by
        intro x hx
        obtain ⟨t, ht⟩ := List.mem_iff_getElem?.1 hx
        have := hys t x ht
        omega
      have Hp := Lib.hid hp
      have Hpl := Lib.hid hpl
      clear hm hp hpl hys
      go_wp2_with fail
      refine (l1Decode_any _ _ _ ys _ ho.rd ho.len (by omega) hyb).mono ?_
      rintro e w1 ⟨a2, n2, c2, rfl, ho2, hB2⟩
      obtain rfl : n2 = j := by rw [← ho2.len]; exact Hpl.out
      have hC1 := hC.below hB2
      have hO1 := hO.laid hB2
      have ho3 := ho2.mono (B' := w.heap.size) hsz (Nat.le_refl _)
      go_wp2
      go_ret
      exact ⟨_, _, _, rfl, Hp.out, ho3, hC1, hO1⟩
end Go.Proofs.YtomejjbkakpoiaaGreat
