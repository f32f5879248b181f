/-
  Contracts of MonomialPoly of the reference and of the laws' variable and schubert.
  One polynomial in two lists, to the last coefficient; lists gathered by hand; sums of sizes of coefficients. Plain.
  Contract of l3Up.
-/
import Derived.Test.YtomejjbkakpoiaaGreatBuY29
import Derived.Test.YtomejjbkakpoiaaGreatBuY22
import Derived.Test.YtomejjbkakpoiaaGreatBuY27
namespace Go.Proofs.YtomejjbkakpoiaaGreat
open Go.RowKit

/-- seven exponents, the first j of them those of e, the others 0 -/
def fullTo (e : List Int) (j : Nat) : List Int := e.take j ++ List.replicate (7 - j) 0
theorem fullTo_length {e : List Int} {n j : Nat} (h : e.length = n) (hj : j ≤ n) (h7 : n ≤ 7) : (fullTo e j).length = 7 := by
  unfold fullTo
  rw [List.length_append, List.length_take, List.length_replicate]
  omega
theorem fullTo_succ {e : List Int} {n j : Nat} {x : Int} (h : e.length = n) (hx : e[j]? = some x) (hj : j < n) (h7 : n ≤ 7) : (fullTo e j).set j x = fullTo e (j + 1) := by
  unfold fullTo
  have hl : (e.take j).length = j := by rw [List.length_take]; omega
  rw [List.set_append_right _ _ (by omega), hl, Nat.sub_self, take_at hx, List.append_assoc]
  congr 1
  obtain ⟨m, hm⟩ : ∃ m, 7 - j = m + 1 := ⟨6 - j, by omega⟩
  rw [hm, show 7 - (j + 1) = m by omega, List.replicate_succ]
  rfl
def fullE (e : List Int) : List Int := fullTo e e.length
theorem fullE_digs {e : List Int} (_h7 : e.length ≤ 7) (h : ∀ x ∈ e, 0 ≤ x ∧ x ≤ 24) : Digs (fullE e) := fun x hx => by
  unfold fullE fullTo at hx
  rcases List.mem_append.1 hx with hx | hx
  · have := h x (List.mem_of_mem_take hx)
    unfold isD
    omega
  · have := List.eq_of_mem_replicate hx
    unfold isD
    omega
theorem fullE_bd {e : List Int} (_h7 : e.length ≤ 7) (h : ∀ x ∈ e, 0 ≤ x ∧ x ≤ 24) : ∀ x ∈ fullE e, 0 ≤ x ∧ x ≤ 24 := fun x hx => by
  unfold fullE fullTo at hx
  rcases List.mem_append.1 hx with hx | hx
  · exact h x (List.mem_of_mem_take hx)
  · have := List.eq_of_mem_replicate hx
    omega
/-- a monomial -/
def monoM (e : List Int) : Mons := [(keyL (fullE e), 1)]
theorem monoM_terms {e : List Int} (h7 : e.length ≤ 7) (h : ∀ x ∈ e, 0 ≤ x ∧ x ≤ 24) : termsM (monoM e) = [(fullE e, 1)] := by
  unfold termsM monoM
  rw [canon_one (by decide) (by unfold in64; decide), List.map_cons, List.map_nil]
  have e1 : digs (keyL (fullE e)) = fullE e := digs_keyL (fullTo_length rfl (Nat.le_refl _) h7) (fullE_digs h7 h)
  show [(digs (keyL (fullE e)), (1 : Int))] = [(fullE e, 1)]
  rw [e1]
theorem monoM_okp {e : List Int} (h7 : e.length ≤ 7) (h : ∀ x ∈ e, 0 ≤ x ∧ x ≤ 24) : OKp (monoM e) := by
  have hb : Bd 24 (monoM e) := fun p hp => by
    unfold monoM at hp
    rw [List.mem_singleton] at hp
    subst hp
    refine ⟨keyL_small (fullE_digs h7 h) (by rw [show (fullE e).length = 7 from fullTo_length rfl (Nat.le_refl _) h7]; decide), fun i hi => ?_⟩
    have := dig_keyL (fullTo_length rfl (Nat.le_refl _) h7) (fullE_digs h7 h) (i := i) hi
    exact (fullE_bd h7 h _ (List.mem_of_getElem? this)).2
  refine ⟨hb, ?_⟩
  refine GoodM.ok ⟨hb, ?_, fun k => ?_⟩
  · rw [monoM, canon_one (by decide) (by unfold in64; decide)]
    simp
  · unfold monoM raw wsum hit
    split <;> simp [wsum]
theorem PT.one {w : World} {e : List Int} {a : Option Addr} {c : Nat} (h7 : e.length ≤ 7) (h : ∀ x ∈ e, 0 ≤ x ∧ x ≤ 24) (hr : RI w a (fullE e)) (hc : 7 ≤ c) :
    PT (w.alloc (.cells #[.slice a 7 c, .int .i64 1] 74)) (some ⟨w.heap.size, 0, none⟩) 1 (monoM e) := by
  have hl : (fullE e).length = 7 := fullTo_length rfl (Nat.le_refl _) h7
  have hB : Below w.heap.size w (w.alloc (.cells #[.slice a 7 c, .int .i64 1] 74)) := (Below.refl _ _).alloc (Nat.le_refl _) _
  have g0 := heap_alloc_new w (.cells #[.slice a 7 c, .int .i64 1] 74)
  refine ⟨?_, by rw [monoM_terms h7 h]; rfl, by omega⟩
  rw [monoM_terms h7 h]
  refine .inr ⟨w.heap.size, 0, rfl, fun k p hp => ?_⟩
  match k, hp with
  | 0, hp =>
    simp at hp
    subst hp
    refine ⟨a, c, ?_, ?_, hr.below hB, by rw [hl]; exact hc⟩
    · rw [cell_of_row _ _ 0 _ _ (0, 0) g0, hl]; rfl
    · rw [cell_of_row _ _ 1 _ _ (0, 0) g0]; rfl
  | k + 1, hp => simp at hp

set_option maxRecDepth 100000 in
set_option maxHeartbeats 3200000 in
theorem specMono_any (a : Option Addr) (n c : Nat) (e0 : List Int) (w : World) (hr : RI w a e0) (hn : e0.length = n) (h7 : n ≤ 7) (h : ∀ x ∈ e0, 0 ≤ x ∧ x ≤ 24) :
    Calls Tryz.prog 11 #[.slice a n c] w fun e w' => ∃ a' n' c', e = .returned (.slice a' n' c') ∧ PT w' a' n' (monoM e0) ∧ Below w.heap.size w w' := by
  have Hn := Lib.hid hn
  have Hx := Lib.hid h
  have q0 : ¬ (n : Int) > 7 := by omega
  obtain ⟨i0, hi, hz0, hz1, hz2⟩ := info_parts Tryz.info3
  clear hn h
  go_enter Tryz.func11, Tryz.ntmps11
  go_wp2_with (first | (at_make; refine wpList_make_full _ rfl _ _ 24 rfl w.heap.size 3 i0 (.int .i64 0) 1 Tryz.underlying24 hi hz0 hz1 .i64 .i64 _ _ 7 rfl rfl ?m1 ?m2 ?m3 ?m4 ?m5 ?_))
  case m4 => unfold maxLen; omega
  intro w2 hown2 hg2
  have hB2 : Below w.heap.size w w2 := (Below.refl _ _).grown hg2 (Nat.le_refl _) (by simp)
  have hrow2 : OwI w2 w.heap.size w2.heap.size (some ⟨w.heap.size, 0, none⟩) 7 7 (fullTo e0 0) := by
    have e := toList_madeCells_one (.int .i64 0) 7
    exact OwI.mk (by simpa [ints, Value.cells, e, fullTo] using hown2)
  have hr2 := hr.below hB2
  clear hown2 hg2
  go_wp2
  go_loopw [4] (fun iv wr => ∃ j : Nat, j ≤ n ∧ iv = .int .i64 j ∧ Hid (OwI wr w.heap.size wr.heap.size (some ⟨w.heap.size, 0, none⟩) 7 7 (fullTo e0 j)) ∧ Below w.heap.size w wr) (fun iv _ => n - (intOf iv).toNat)
  case atStart => exact ⟨0, Nat.zero_le _, rfl, hrow2, hB2⟩
  case round =>
    clear hrow2 hB2 hr2
    obtain ⟨j, hj, rfl, HV, hB⟩ := hrel
    obtain ⟨wo, rfl⟩ : ∃ wo : World, wo = wr := ⟨_, rfl⟩
    have ho := HV.out
    clear HV
    by_cases hlt : j < n
    · obtain ⟨b, off, rfl, hcell⟩ := (hr.below hB).at (k := j) (by rw [Hn.out]; exact hlt)
      obtain ⟨x, hx⟩ := some_at Hn.out hlt
      have p1 := hcell j x hx
      obtain ⟨hx0, hx24⟩ := Hx.out x (List.mem_of_getElem? hx)
      have Hst := Lib.hid (fullTo_succ Hn.out hx hlt h7)
      have q1 : (j : Int) < (n : Int) := by omega
      have Hin := Lib.hid (show (decide ((0 : Int) ≤ x) && decide (x ≤ 24)) = true by simp; omega)
      have Ho := Lib.hid ho
      have hbl := World.block_lt_of_cell? _ _ p1
      clear hcell hx
      go_wp2_with fail
      refine (is (l1In_any _ _ _ _) Hin.out).mono ?_
      rintro e w3 ⟨rfl, hd3⟩
      have hB3 := hB.trans (hd3.below _)
      have ho3 := Ho.out.below (hd3.below _)
      have hz3 : w3.heap.size = wo.heap.size := by obtain ⟨m, rfl⟩ := hd3; rfl
      have p3 : w3.cell? ⟨b, off + j, none⟩ = some (.int .i64 x) := by rw [hd3.cell]; exact p1
      obtain ⟨g, hg, hgB, ⟨z, hz, hcz⟩, hf⟩ := OI.cons ho3.1 (j := j) (by omega)
      simp only [Option.some.injEq, Addr.mk.injEq] at hg
      obtain ⟨rfl, _⟩ := hg
      have Hos := Lib.hid ho3
      have q2 : (j : Int) < 7 := by omega
      clear p1 ho hz ho3 Ho
      go_wp2
      go_roundw
      case rel =>
        have hs := Hos.out.1.store j x
        rw [Hst.out] at hs
        have hO := Only.of_grown (v := .slice (some ⟨w.heap.size, 0, none⟩) 7 7) (B := w.heap.size) (S := w3.heap.size) hs.2 Hos.out.1.lo (fun k hk => by have := Hos.out.2 k hk; omega)
        exact ⟨j + 1, by omega, by go_num, ⟨hs.1, fun k hk => by have := Hos.out.2 k hk; simp; omega⟩, hO.below hB3 (Nat.le_refl _) (by have := hB.size; omega)⟩
      case measure => simp [intOf]; omega
    · obtain rfl : j = n := by omega
      have hlen : e0.length ≤ 7 := by rw [Hn.out]; exact h7
      have ho2 : OwI wo w.heap.size wo.heap.size (some ⟨w.heap.size, 0, none⟩) 7 7 (fullE e0) := by unfold fullE; rw [Hn.out]; exact ho
      have Hf := Lib.hid (PT.one (c := 7) hlen Hx.out ho2.rd (Nat.le_refl _))
      have hBf : Below w.heap.size w (wo.alloc (.cells #[.slice (some ⟨w.heap.size, 0, none⟩) 7 7, .int .i64 1] 74)) := hB.alloc hB.size _
      clear ho ho2
      go_wp2
      go_ret
      exact ⟨_, _, _, rfl, Hf.out, hBf⟩
end Go.Proofs.YtomejjbkakpoiaaGreat

namespace Go.Proofs.YtomejjbkakpoiaaGreat
open Go.RowKit

def Same (F G : Mons) : Prop := ∀ v, wsum F v = wsum G v
theorem Same.refl (F : Mons) : Same F F := fun _ => rfl
theorem Same.symm {F G : Mons} (h : Same F G) : Same G F := fun v => (h v).symm
theorem Same.trans {F G H : Mons} (h : Same F G) (k : Same G H) : Same F H := fun v => (h v).trans (k v)
theorem Same.eqv {F G : Mons} (h : Same F G) : Eqv F G := Eqv.of_wsum fun v => by rw [h v, Int.sub_self]; exact Int.dvd_zero _
theorem Same.raw {F G : Mons} (h : Same F G) (k : Int) : raw F k = raw G k := h _
theorem Same.append {F G F' G' : Mons} (h : Same F G) (k : Same F' G') : Same (F ++ F') (G ++ G') := fun v => by rw [wsum_append, wsum_append, h v, k v]
theorem Same.flatMap {f : Int × Int → Mons} (hf : Lin f) {F G : Mons} (h : Same F G) : Same (F.flatMap f) (G.flatMap f) := by
  obtain ⟨A, hA⟩ := hf.flat
  exact fun v => by rw [hA, hA]; exact h _
theorem Same.divided {i : Nat} {F G : Mons} (h : Same F G) : Same (dividedM i F) (dividedM i G) := h.flatMap (lin_dd i)
theorem Same.scale {c : Int} {F G : Mons} (h : Same F G) : Same (scaleM c F) (scaleM c G) := fun v => by rw [wsum_scale, wsum_scale, h v]
theorem Same.plus {c : Int} {F G F' G' : Mons} (h : Same F G) (k : Same F' G') : Same (plusM F c F') (plusM G c G') := h.append k.scale
theorem wsum_keys (g : Int → Int) (F : Mons) (v : Int → Int) : wsum (F.map fun p => (g p.1, p.2)) v = wsum F fun k => v (g k) := by
  induction F with
  | nil => rfl
  | cons p F ih => rw [List.map_cons, wsum, ih, wsum]
theorem Same.keys (g : Int → Int) {F G : Mons} (h : Same F G) : Same (F.map fun p => (g p.1, p.2)) (G.map fun p => (g p.1, p.2)) := fun v => by rw [wsum_keys, wsum_keys]; exact h _
theorem Same.raised {i : Nat} {F G : Mons} (h : Same F G) : Same (raisedM i F) (raisedM i G) := h.keys fun k => k + unit i
theorem Same.swap {i : Nat} {F G : Mons} (h : Same F G) : Same (swapM i F) (swapM i G) := h.keys (swapK i)
theorem Same.times {F G F' G' : Mons} (h : Same F G) (k : Same F' G') : Same (timesM F F') (timesM G G') := fun v => by
  rw [wsum_times, wsum_times, h]
  congr 1
  funext j
  exact k _
theorem Same.dem {i : Nat} {F G : Mons} (h : Same F G) : Same (demM i F) (demM i G) := h.raised.divided
theorem Same.iso {i : Nat} {F G : Mons} (h : Same F G) : Same (isoM i F) (isoM i G) := (h.plus h.raised).divided

/-! gathered, the greatest key first -/
def insM (k c : Int) : Mons → Mons
  | [] => if c = 0 then [] else [(k, c)]
  | (j, d) :: l => if k = j then (if c + d = 0 then l else (j, c + d) :: l) else if j < k then (if c = 0 then (j, d) :: l else (k, c) :: (j, d) :: l) else (j, d) :: insM k c l
theorem insM_sum (k c : Int) (v : Int → Int) : ∀ l : Mons, wsum (insM k c l) v = c * v k + wsum l v
  | [] => by
    unfold insM
    split
    · rename_i h; simp [h, wsum]
    · simp [wsum]
  | (j, d) :: l => by
    unfold insM
    split
    · rename_i h
      subst h
      split
      · rename_i h0
        rw [wsum]
        have : c * v k + (d * v k + wsum l v) = (c + d) * v k + wsum l v := by rw [Int.add_mul]; omega
        rw [this, h0]; simp
      · rw [wsum, wsum]
        simp only
        rw [Int.add_mul]; omega
    · split
      · split
        · rename_i h0; rw [h0]; simp
        · rw [wsum]
      · rw [wsum, insM_sum k c v l, wsum]; omega
def gath (F : Mons) : Mons := F.foldr (fun p l => insM p.1 p.2 l) []
theorem gath_same (F : Mons) : Same (gath F) F := fun v => by
  induction F with
  | nil => rfl
  | cons p F ih =>
    have e : gath (p :: F) = insM p.1 p.2 (gath F) := rfl
    rw [e, insM_sum, ih, wsum]
theorem same_of_gath {F G : Mons} (h : gath F = gath G) : Same F G := (gath_same F).symm.trans (by rw [h]; exact gath_same G)
theorem insM_keys {k c : Int} : ∀ {l : Mons} {p : Int × Int}, p ∈ insM k c l → p.1 = k ∨ ∃ q ∈ l, q.1 = p.1
  | [], p, h => by
    unfold insM at h
    split at h
    · cases h
    · left; simp at h; rw [h]
  | (j, d) :: l, p, h => by
    unfold insM at h
    split at h
    · split at h
      · exact .inr ⟨p, List.mem_cons_of_mem _ h, rfl⟩
      · rcases List.mem_cons.1 h with rfl | h
        · exact .inr ⟨(j, d), List.mem_cons_self, rfl⟩
        · exact .inr ⟨p, List.mem_cons_of_mem _ h, rfl⟩
    · split at h
      · split at h
        · exact .inr ⟨p, h, rfl⟩
        · rcases List.mem_cons.1 h with rfl | h
          · exact .inl rfl
          · exact .inr ⟨p, h, rfl⟩
      · rcases List.mem_cons.1 h with rfl | h
        · exact .inr ⟨(j, d), List.mem_cons_self, rfl⟩
        · rcases insM_keys h with h | ⟨q, hq, e⟩
          · exact .inl h
          · exact .inr ⟨q, List.mem_cons_of_mem _ hq, e⟩
theorem gath_keys : ∀ {F : Mons} {p : Int × Int}, p ∈ gath F → ∃ q ∈ F, q.1 = p.1
  | [], p, h => by cases h
  | r :: F, p, h => by
    rcases insM_keys (show p ∈ insM r.1 r.2 (gath F) from h) with h | ⟨q, hq, e⟩
    · exact ⟨r, List.mem_cons_self, h.symm⟩
    · obtain ⟨s, hs, e2⟩ := gath_keys hq
      exact ⟨s, List.mem_cons_of_mem _ hs, by rw [e2, e]⟩
theorem Bd.gath {B : Int} {F : Mons} (h : Bd B F) : Bd B (gath F) := h.keys fun _ hp => gath_keys hp

/-! sizes -/
def nrm (F : Mons) : Nat := F.foldr (fun p n => p.2.natAbs + n) 0
theorem raw_nrm (F : Mons) (k : Int) : -(nrm F : Int) ≤ raw F k ∧ raw F k ≤ nrm F := by
  unfold raw
  induction F with
  | nil => simp [wsum, nrm]
  | cons p F ih =>
    have e : nrm (p :: F) = p.2.natAbs + nrm F := rfl
    rw [e, wsum]
    have h : p.2 * hit k p.1 = p.2 ∨ p.2 * hit k p.1 = 0 := by
      unfold hit
      split
      · left; simp
      · right; simp
    rcases h with h | h <;> rw [h] <;> omega
theorem canon_len_le (F : Mons) : (canon F).length ≤ F.length := by
  have e : F.length = (F.map fun p => p.1).length := (List.length_map _).symm
  rw [canon_length, e]
  refine (keysOf_nodup F).length_le_of_subset fun k hk => ?_
  rw [mem_keysOf] at hk
  rcases Decidable.em (k ∈ F.map fun p => p.1) with h1 | h1
  · exact h1
  · exact absurd (coef_miss fun p hp e => h1 (List.mem_map.2 ⟨p, hp, e⟩)) hk
theorem GoodM.list {F : Mons} (h : Bd 24 F) : GoodM F.length (nrm F) F := ⟨h, canon_len_le F, raw_nrm F⟩
theorem GoodM.same {n C : Nat} {F G : Mons} (h : GoodM n C G) (e : Same F G) (hb : Bd 24 F) : GoodM n C F :=
  ⟨hb, by rw [canon_len_eqv e.eqv]; exact h.few, fun k => by rw [e.raw]; exact h.low k⟩
theorem GoodM.of_list {F G : Mons} (h : Same F G) (hb : Bd 24 F) {n C : Nat} (hn : G.length ≤ n) (hC : nrm G ≤ C) : GoodM n C F :=
  ⟨hb, by rw [canon_len_eqv h.eqv]; exact Nat.le_trans (canon_len_le G) hn, fun k => by rw [h.raw]; have := raw_nrm G k; omega⟩
def degK (k : Int) : Int := dig k 0 + dig k 1 + dig k 2 + dig k 3 + dig k 4 + dig k 5 + dig k 6
end Go.Proofs.YtomejjbkakpoiaaGreat

namespace Go.Proofs.YtomejjbkakpoiaaGreat
open Go.RowKit

def lenOf : Value → Nat
  | .slice _ n _ => n
  | _ => 0
def natI (l : List Nat) : List Int := l.map fun k : Nat => (k : Int)
theorem natI_append (l : List Nat) (k : Nat) : natI (l ++ [k]) = natI l ++ [(k : Int)] := by simp [natI]
/-- no ascent ahead of place k -/
def flat (v : List Int) (k : Nat) : Prop := ∀ (j : Nat) (p q : Int), j < k → v[j]? = some p → v[j + 1]? = some q → ¬ p < q

set_option maxRecDepth 100000 in
set_option maxHeartbeats 6400000 in
theorem l3Up_any (a : Option Addr) (n c : Nat) (xs : List Int) (w : World) (hr : RI w a xs) (hn : xs.length = n) (hb : n ≤ 1000) (hN : nin xs ≤ 1000000) :
    Calls Tryz.prog 120 #[.slice a n c] w fun e w' => ∃ a' m c', e = .returned (.slice a' m c') ∧ OwI w' w.heap.size w'.heap.size a' m c' (natI (ups xs)) ∧ Below w.heap.size w w' := by
  have Hn := Lib.hid hn; clear hn
  obtain ⟨N, hN'⟩ : ∃ N, nin xs = N := ⟨_, rfl⟩
  rw [hN'] at hN
  have HN := Lib.hid hN'
  clear hN'
  have h1 : OwI (w.alloc (.cells #[] 3)) w.heap.size (w.alloc (.cells #[] 3)).heap.size (some ⟨w.heap.size, 0, none⟩) 0 0 [] := OwI.mk (World.ownsRow_made _ #[] 0 (Nat.le_refl _) (Nat.zero_le _) rfl)
  have hB0 : Below w.heap.size w (w.alloc (.cells #[] 3)) := (Below.refl _ _).alloc (Nat.le_refl _) _
  have hr0 := hr.below hB0
  go_enter Tryz.func120, Tryz.ntmps120
  go_wp2_with fail
  refine (l1Ints_any _ _ _ xs _ hr0 Hn.out (by omega)).mono ?_
  rintro e w1 ⟨a1, c1, rfl, ho1, hb1⟩
  have hB1 := hB0.trans (hb1.mono hB0.size)
  have hO1 := (h1.below hb1).mono (B' := w.heap.size) (S' := w1.heap.size) (Nat.le_refl _) hb1.size
  have hne : ∀ g, (Value.slice a1 n c1).ownBlock = some g → (Value.slice (some ⟨w.heap.size, 0, none⟩) 0 0).ownBlock ≠ some g := by
    intro g hg e
    have h2 := ho1.1.lo g hg
    simp [Value.ownBlock] at e
    subst e
    simp at h2
    omega
  have hsz : w.heap.size ≤ (w.alloc (.cells #[] 3)).heap.size := hB0.size
  have hV1 := ho1.mono (B' := w.heap.size) (S' := w1.heap.size) hsz (Nat.le_refl _)
  clear h1 hr0 hB0 ho1 hb1 hsz
  go_wp2
  go_loopw [3, 4, 5] (fun ov vv kv wr => Hid (∃ (k : Nat) (don : List Nat) (v : List Int) (a1 : Option Addr) (m c1 : Nat) (a2 : Option Addr) (c2 : Nat), kv = .int .i64 k ∧ k ≤ n ∧ ov = .slice a1 m c1 ∧ vv = .slice a2 n c2 ∧ OwI wr w.heap.size wr.heap.size a1 m c1 (natI don) ∧ OwI wr w.heap.size wr.heap.size a2 n c2 v ∧ (∀ g, (Value.slice a2 n c2).ownBlock = some g → (Value.slice a1 m c1).ownBlock ≠ some g) ∧ ups xs = don ++ ups v ∧ flat v k ∧ m + nin v = N) ∧ Below w.heap.size w wr) (fun ov _ kv _ => (N - lenOf ov) * (n + 1) + (n - (intOf kv).toNat))
  case atStart => exact ⟨⟨0, [], xs, _, 0, _, _, _, rfl, Nat.zero_le _, rfl, rfl, hO1, hV1, hne, rfl, fun j _ _ hj => by omega, by rw [HN.out]; omega⟩, hB1⟩
  case round =>
    clear hO1 hV1 hne hB1
    obtain ⟨HV, hB⟩ := hrel
    obtain ⟨wo, rfl⟩ : ∃ wo : World, wo = wr := ⟨_, rfl⟩
    obtain ⟨k, don, v, a1, m, c1, a2, c2, rfl, hk, rfl, rfl, hO, hV, hne, hup, hfl, hmN⟩ := HV.out
    clear HV
    have Hvl := Lib.hid hV.len
    have Hup := Lib.hid hup
    have Hfl := Lib.hid hfl
    have Hml := Lib.hid hO.len
    clear hup hfl
    have hbs := hB.size
    by_cases hlt : k + 1 < n
    · obtain ⟨x, hx⟩ := some_at Hvl.out (show k < n by omega)
      obtain ⟨y, hy⟩ := some_at Hvl.out hlt
      obtain ⟨b, off, hab, hcell⟩ := hV.rd.at (k := k) (by rw [Hvl.out]; omega)
      have p1 := hcell k x hx
      have p2 := hcell (k + 1) y hy
      have q1 : (k : Int) + 1 < (n : Int) := by omega
      have q2 : (k : Int) < (n : Int) := by omega
      have q3 : IntKind.i64.wrap ((k : Int) + 1) = ((k + 1 : Nat) : Int) := by rw [IntWalk.i64_in _ (by omega)]; omega
      have q4 : ((k + 1 : Nat) : Int) < (n : Int) := by omega
      have Hx := Lib.hid hx
      have Hy := Lib.hid hy
      clear hcell hx hy
      subst hab
      by_cases hxy : x < y
      · have Hasc := Lib.hid (asc_at Hx.out Hy.out hxy Hfl.out)
        have hnin := nin_sw Hasc.out
        have Hus := Lib.hid (ups_some Hasc.out).1
        have Hsw := Lib.hid (sw_swp (w := v) (k := k) (by rw [Hvl.out]; exact hlt))
        have HO := Lib.hid (fun d : Nat => hO.below (Drew.below (Drew.drewN wo d) _))
        have HVr := Lib.hid (fun d : Nat => hV.rd.below (Drew.below (Drew.drewN wo d) _))
        have hBd : ∀ d : Nat, Below w.heap.size w (wo.drewN d) := fun d => hB.trans (Drew.below (Drew.drewN wo d) _)
        have HBd := Lib.hid hBd
        have hg : decide (x < y) = true := by simp [hxy]
        clear hO hV hne hBd
        go_wp2
        go_quiet (fail)
        go_wp2_with fail
        refine (l1Swap_any _ _ _ v k (k + 1) _ _ _ (HVr.out _) Hvl.out (by omega) rfl rfl (by omega) hlt).mono ?_
        rintro e w2 ⟨a3, c3, rfl, ho3, hb3⟩
        rw [Hsw.out] at ho3
        have HO2 := Lib.hid ((HO.out _).below hb3)
        have hB2 := (HBd.out _).trans (hb3.mono (HBd.out _).size)
        have Ho3 := Lib.hid ho3
        have hs2 := hB2.size
        have hne2 : ∀ g, (Value.slice a3 n c3).ownBlock = some g → (Value.slice a1 m c1).ownBlock ≠ some g := by
          intro g hg e
          have e1 := Ho3.out.1.lo g hg
          have e2 := (HO.out 0).2 g e
          simp at e1 e2
          omega
        have Hne2 := Lib.hid hne2
        clear ho3 hb3 hne2 HVr HO
        go_wp2_with (first | (at_builtin; go_loud (refine wpList_pushI (by rfl) (by rfl) _ _ (by rfl) HO2.out (by rfl) (by rfl) (by omega) hs2 ?_)))
        intro a4 c4 w4 ho4 hg4
        have hB4 := below_grown hB2 hg4.grown hs2 HO2.out.1.lo
        have hv4 : OwI w4 w.heap.size w4.heap.size a3 n c3 (sw v k) := by
          have h5 : OwI w4 _ _ a3 n c3 (sw v k) := ⟨Ho3.out.1.kept hg4.grown (fun g hg e => Hne2.out g hg e), Ho3.out.2⟩
          exact h5.mono hbs hg4.grown.size
        have hne4 : ∀ g, (Value.slice a3 n c3).ownBlock = some g → (Value.slice a4 (m + 1) c4).ownBlock ≠ some g := by
          intro g hg e
          rcases hg4.home with h6 | h6
          · rw [h6] at e
            exact Hne2.out g hg e
          · have e1 := h6 g e
            have e2 := Ho3.out.2 g hg
            omega
        rw [← natI_append] at ho4
        have HF := Lib.hid (And.intro ho4 (And.intro hv4 hne4))
        clear ho4 hv4 hne4 HO2 Ho3 Hne2 hg4 HBd
        go_wp2
        go_roundw
        case rel => exact ⟨⟨0, don ++ [k], sw v k, _, m + 1, _, _, _, by go_num, Nat.zero_le _, rfl, rfl, HF.out.1, HF.out.2.1, HF.out.2.2, by rw [Hup.out, Hus.out, List.append_assoc]; rfl, fun j _ _ hj => by omega, by omega⟩, hB4⟩
        case measure =>
          simp only [lenOf, intOf]
          obtain ⟨r, hr'⟩ : ∃ r, N - m = r + 1 := ⟨N - m - 1, by omega⟩
          have e2 : N - (m + 1) = r := by omega
          rw [hr', e2, Nat.succ_mul]
          simp
          omega
      · have HF := Lib.hid (And.intro (hO.below (Drew.below (Drew.drewN wo 1) _)) (And.intro (hV.below (Drew.below (Drew.drewN wo 1) _)) hne))
        have Hfl2 := Lib.hid (show flat v (k + 1) from fun j p q hj hp hq => by
          rcases Nat.lt_or_ge j k with h | h
          · exact Hfl.out j p q h hp hq
          · obtain rfl : j = k := by omega
            rw [Hx.out] at hp
            rw [Hy.out] at hq
            obtain rfl := Option.some.inj hp
            obtain rfl := Option.some.inj hq
            exact hxy)
        have hBd : ∀ d : Nat, Below w.heap.size w (wo.drewN d) := fun d => hB.trans (Drew.below (Drew.drewN wo d) _)
        have HG := Lib.hid (fun d : Nat => And.intro (hO.below (Drew.below (Drew.drewN wo d) _)) (And.intro (hV.below (Drew.below (Drew.drewN wo d) _)) hne))
        have HBd := Lib.hid hBd
        have hg : decide (x < y) = false := by simp [hxy]
        clear hO hV hne hBd HF
        go_wp2
        go_quiet (fail)
        go_wp2
        go_roundw
        case rel => exact ⟨⟨k + 1, don, v, _, m, _, _, _, by go_num, by omega, rfl, rfl, (HG.out _).1, (HG.out _).2.1, (HG.out 0).2.2, Hup.out, Hfl2.out, hmN⟩, HBd.out _⟩
        case measure =>
          simp only [lenOf, intOf]
          simp
          omega
    · have Hnone := Lib.hid (ups_none (asc_all (w := v) (fun j p q hp hq => by
        have := (List.getElem?_eq_some_iff.1 hq).1
        rw [Hvl.out] at this
        exact Hfl.out j p q (by omega) hp hq))).1
      have hfin : OwI wo w.heap.size wo.heap.size a1 m c1 (natI (ups xs)) := by rw [Hup.out, Hnone.out, List.append_nil]; exact hO
      have q1 : ¬ (k : Int) + 1 < (n : Int) := by omega
      have HF := Lib.hid hfin
      clear hfin hO hV hne
      go_wp2
      go_ret
      exact ⟨_, _, _, rfl, HF.out, hB⟩
end Go.Proofs.YtomejjbkakpoiaaGreat
