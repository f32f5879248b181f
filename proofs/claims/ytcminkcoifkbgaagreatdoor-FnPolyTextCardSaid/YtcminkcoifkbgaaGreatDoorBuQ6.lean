/-
  A term's list changed in a slice of terms of the call's own: in its place, or by another list.
  Contract of dBentPoly.
-/
import Derived.Test.YtcminkcoifkbgaaGreatDoorPicks
import Derived.Test.YtcminkcoifkbgaaGreatDoorBuH2
import Derived.Test.YtcminkcoifkbgaaGreatDoorBuI2
namespace Go.Proofs.YtcminkcoifkbgaaGreatDoor
open Go.RowKit

theorem TO.within {w : World} {B S g n c : Nat} {xs : List (List Int × Int)} (h : TO w B S (some ⟨g, 0, none⟩) n c xs) {i : Nat} {p : List Int × Int} (hi : xs[i]? = some p) :
    ∃ a0 c0, w.cell? ⟨g, i * 2, none⟩ = some (.slice a0 p.1.length c0) ∧ OwI w B S a0 p.1.length c0 p.1 ∧
      ∀ w' ys, ys.length = p.1.length → OS w' B a0 p.1.length c0 ys → w.grownBy w' (Value.slice a0 p.1.length c0).ownBlock → KN w' B S (some ⟨g, 0, none⟩) n c (xs.set i (ys, p.2)) := by
  obtain ⟨vs, h1, h2, h3⟩ := h
  obtain ⟨a', c', e1, e2, ho⟩ := h3.each i p hi
  have hil := lt_of_some hi
  refine ⟨a', c', (row2_cell h1 e1).1, ho, fun w' ys hl hos hg => ?_⟩
  have h1' := grown_keeps2 h1 hg (fun k hk e => ne_blockT h1 ho k hk e)
  refine ⟨vs, h1', h2, by rw [List.length_set]; exact h3.len, fun k q hq => ?_⟩
  rw [List.getElem?_set] at hq
  by_cases hk : i = k
  · subst hk
    rw [if_pos rfl, if_pos hil] at hq
    obtain rfl := Option.some.inj hq
    exact ⟨a', c', by rw [hl]; exact e1, e2, by rw [hl]; exact ⟨hos, ho.2⟩⟩
  · rw [if_neg hk] at hq
    obtain ⟨a2, c2, e3, e4, ho2⟩ := h3.each k q hq
    exact ⟨a2, c2, e3, e4, ho2.1.kept hg (fun r hr e => hk (h3.apart i k _ _ r e1 e3 e hr)), ho2.2⟩
theorem TO.swap {w : World} {B S g n c : Nat} {xs : List (List Int × Int)} (h : TO w B S (some ⟨g, 0, none⟩) n c xs) {i : Nat} {p : List Int × Int} (hi : xs[i]? = some p) :
    ∃ a0 c0, w.cell? ⟨g, i * 2, none⟩ = some (.slice a0 p.1.length c0) ∧ OwI w B S a0 p.1.length c0 p.1 ∧
      ∀ w' S' a' l c' ys, w.grownBy w' (Value.slice a0 p.1.length c0).ownBlock → OwI w' B S' a' l c' ys → S ≤ S' → (∀ k, (Value.slice a' l c').ownBlock = some k → k ≠ g) →
        w'.cell? ⟨g, i * 2, none⟩ = some (.slice a0 p.1.length c0) ∧ w'.frozen? ⟨g, i * 2, none⟩ = false ∧
        KN (w'.setCell ⟨g, i * 2, none⟩ (.slice a' l c')) B S' (some ⟨g, 0, none⟩) n c (xs.set i (ys, p.2)) ∧ w'.grownBy (w'.setCell ⟨g, i * 2, none⟩ (.slice a' l c')) (some g) := by
  obtain ⟨vs, h1, h2, h3⟩ := h
  obtain ⟨a0, c0, e1, e2, ho⟩ := h3.each i p hi
  have hil := lt_of_some hi
  have hlv : vs.length = n * 2 := h1.1
  have hln := h3.len
  refine ⟨a0, c0, (row2_cell h1 e1).1, ho, fun w' S' a' l c' ys hg hy hSS hne => ?_⟩
  have h1' := grown_keeps2 h1 hg (fun k hk e => ne_blockT h1 ho k hk e)
  have s1 := h1'.stored (i * 2) (.slice a' l c')
  refine ⟨(row2_cell h1' e1).1, (row2_cell h1' e1).2, ⟨_, s1.1, fun k hk => Nat.lt_of_lt_of_le (h2 k hk) hSS, by rw [List.length_set, List.length_set]; exact h3.len, fun k q hq => ?_⟩, s1.2⟩
  have hyl := hy.len
  rw [List.getElem?_set] at hq
  by_cases hk : i = k
  · subst hk
    rw [if_pos rfl, if_pos hil] at hq
    obtain rfl := Option.some.inj hq
    subst hyl
    refine ⟨a', c', ?_, ?_, ?_⟩
    · rw [List.getElem?_set, if_pos rfl, if_pos (by omega)]
    · rw [List.getElem?_set, if_neg (by omega)]; exact e2
    · exact ⟨hy.1.kept s1.2 (fun k hk e => hne k hk (Option.some.inj e).symm), hy.2⟩
  · rw [if_neg hk] at hq
    obtain ⟨a2, c2, e3, e4, ho2⟩ := h3.each k q hq
    have i1 : OwI w' B S a2 q.1.length c2 q.1 := ⟨ho2.1.kept hg (fun r hr e => hk (h3.apart i k _ _ r e1 e3 e hr)), ho2.2⟩
    refine ⟨a2, c2, ?_, ?_, ?_⟩
    · rw [List.getElem?_set, if_neg (by omega)]; exact e3
    · rw [List.getElem?_set, if_neg (by omega)]; exact e4
    · exact ⟨i1.1.kept s1.2 (fun k hk e => ne_blockT h1' i1 g rfl (by rw [hk, ← Option.some.inj e])), fun k hk => Nat.lt_of_lt_of_le (i1.2 k hk) hSS⟩
theorem OS.cellj {w : World} {B g n c : Nat} {xs : List Int} (h : OS w B (some ⟨g, 0, none⟩) n c xs) {j : Nat} (hj : j < n) :
    (∃ x, w.cell? ⟨g, j, none⟩ = some (.int .i64 x)) ∧ w.frozen? ⟨g, j, none⟩ = false := by
  obtain ⟨g', e, _, ⟨x, _, hx⟩, hf⟩ := OI.cons h hj
  obtain rfl : g = g' := by simpa using e
  exact ⟨⟨x, hx⟩, hf⟩
/-- a number stored into the list of a term -/
theorem TO.poke {w : World} {B S g n c : Nat} {xs : List (List Int × Int)} (h : TO w B S (some ⟨g, 0, none⟩) n c xs) {i : Nat} {p : List Int × Int} (hi : xs[i]? = some p) {g8 l c8 : Nat}
    (hc : w.cell? ⟨g, i * 2, none⟩ = some (.slice (some ⟨g8, 0, none⟩) l c8)) (j : Nat) (y : Int) :
    KN (w.setCell ⟨g8, j, none⟩ (.int .i64 y)) B S (some ⟨g, 0, none⟩) n c (xs.set i (p.1.set j y, p.2)) ∧ Only B S w (w.setCell ⟨g8, j, none⟩ (.int .i64 y)) ∧
      (w.setCell ⟨g8, j, none⟩ (.int .i64 y)).cell? ⟨g, i * 2, none⟩ = some (.slice (some ⟨g8, 0, none⟩) l c8) ∧
      (j < l → (∃ x, w.cell? ⟨g8, j, none⟩ = some (.int .i64 x)) ∧ w.frozen? ⟨g8, j, none⟩ = false) := by
  obtain ⟨a9, c9, f9, hio9, hw9⟩ := h.within hi
  rw [hc] at f9
  obtain ⟨rfl, rfl, rfl⟩ : a9 = some ⟨g8, 0, none⟩ ∧ l = p.1.length ∧ c9 = c8 := by simpa [eq_comm] using f9
  obtain ⟨s1, s2⟩ := hio9.1.store j y
  have hkn := hw9 _ (p.1.set j y) (by simp) s1 s2
  have hlo := hio9.1.lo
  have hhi := hio9.2
  refine ⟨hkn, Only.of_grown (v := .slice (some ⟨g8, 0, none⟩) p.1.length c9) s2 hlo hhi, ?_, fun hj => hio9.1.cellj hj⟩
  obtain ⟨vs, h1, _, _⟩ := h
  have hne : g8 ≠ g := fun e => ne_blockT h1 hio9 g rfl (by rw [e]; rfl)
  have hgw : g < w.heap.size := by
    rcases row2_shape h1 with ⟨_, h0, _⟩ | ⟨g', e, _, hl, _⟩
    · cases h0
    · obtain rfl : g = g' := by simpa using e
      exact hl
  rw [← hc]
  exact World.cell?_of_block (s2.block g hgw (fun e => hne (Option.some.inj e).symm))
end Go.Proofs.YtcminkcoifkbgaaGreatDoor

namespace Go.Proofs.YtcminkcoifkbgaaGreatDoor
open Go.RowKit

theorem TO.cap {w : World} {B S : Nat} {a : Option Addr} {n c : Nat} {xs : List (List Int × Int)} (h : TO w B S a n c xs) : n ≤ c := by
  obtain ⟨vs, h1, _, _⟩ := h
  rcases row2_shape h1 with ⟨h0, _, h2, _⟩ | ⟨g, _, _, _, h2, _⟩
  · omega
  · exact h2
/-- what is written in blocks laid since is not seen from the start -/
theorem Only.fresh {g B S : Nat} {w w1 w2 : World} (h : Only g (g + 1) w w1) (k : Only B S w1 w2) (hB : w.heap.size ≤ B) : Only g (g + 1) w w2 :=
  ⟨k.os.trans h.os, k.tape.trans h.tape, k.output.trans h.output, Nat.le_trans h.size k.size, fun j hj hn => (k.block j (Nat.lt_of_lt_of_le hj h.size) (fun e => by omega)).trans (h.block j hj hn)⟩
theorem TO.kn {w : World} {B S : Nat} {a : Option Addr} {n c : Nat} {xs : List (List Int × Int)} (h : TO w B S a n c xs) : KN w B S a n c xs := by
  obtain ⟨vs, h1, h2, h3⟩ := h
  exact ⟨vs, h1, h2, h3.len, h3.each⟩
theorem KN.cap {w : World} {B S : Nat} {a : Option Addr} {n c : Nat} {xs : List (List Int × Int)} (h : KN w B S a n c xs) : n ≤ c := by
  obtain ⟨vs, h1, _, _⟩ := h
  rcases row2_shape h1 with ⟨h0, _, h2, _⟩ | ⟨g, _, _, _, h2, _⟩
  · omega
  · exact h2
theorem terms_len7 {F : Mons} {k : Nat} {s : List Int} {v : Int} (h : (termsM F)[k]? = some (s, v)) : s.length = 7 := by
  obtain ⟨q, _, e⟩ := termsM_at h
  have : s = (term q).1 := by rw [← e]
  rw [this]
  simp [term, digs_length]
def BentPost (g : Nat) (a : Option Addr) (m c : Nat) (xs : List Int) (w : World) (e : Ending) (w' : World) : Prop :=
  ∃ ys a' n' c', e = .returned (.slice a' n' c') ∧ RP w' a' ys ∧ ys.length = n' ∧ n' ≤ 1000 ∧ n' ≤ c' ∧ Cur w' g a m c xs ∧ Only g (g + 1) w w'

set_option maxRecDepth 100000 in
set_option maxHeartbeats 6400000 in
theorem dBentPoly_any (g : Nat) (a : Option Addr) (m c : Nat) (xs : List Int) (w : World) (hc : Cur w g a m c xs) :
    Calls Tryz.prog 15 #[.pointer (some ⟨g, 0, none⟩)] w (BentPost g a m c xs w) := by
  have hgw := hc.lt
  go_enter Tryz.func15, Tryz.ntmps15
  go_wp2_with fail
  refine (dPoly_any _ _ _ _ _ _ hc).mono ?_
  rintro e w1 ⟨F, a1, n1, c1, rfl, hF, ho1, hC1, hO1⟩
  have hz1 := hO1.size
  have hlen := ho1.len
  have hfew := hF.few
  have hn1 : n1 ≤ 5 := by rw [← hlen, termsM, List.length_map]; exact Nat.le_trans (canon_len_le F) hfew
  have hcap := ho1.cap
  go_wp2_with fail
  refine (l1Once_any 10 (by omega) (by omega) _ _ _ _ _ _ hC1).mono ?_
  rintro e w2 ⟨b, rfl, hC2, hO2⟩
  have hO12 := hO1.trans hO2
  have ho2 := ho1.only hO2 (.inr (by omega))
  have HO2 := Lib.hid ho2
  have hz2 := hO2.size
  clear ho1 ho2 hO1 hO2 hC1 hfew
  cases b
  · go_wp2
    go_ret
    exact ⟨_, _, _, _, rfl, HO2.out.rd, hlen, by omega, hcap, hC2, hO12⟩
  by_cases h0 : n1 = 0
  · subst h0
    go_wp2
    go_ret
    exact ⟨_, _, _, _, rfl, HO2.out.rd, hlen, by omega, hcap, hC2, hO12⟩
  have h0' : ((n1 : Int) == 0) = false := by simp; omega
  go_wp2_with fail
  refine (l1Below_any n1 (by omega) (by omega) _ _ _ _ _ _ hC2).mono ?_
  rintro e w3 ⟨i, rfl, hi, hC3, hO3⟩
  have hO13 := hO12.trans hO3
  have ho3 := HO2.out.only hO3 (.inr (by omega))
  have hz3 := hO3.size
  go_wp2_with fail
  refine (l1Below_any 5 (by omega) (by omega) _ _ _ _ _ _ hC3).mono ?_
  rintro e w4 ⟨q, rfl, hq, hC4, hO4⟩
  have hO14 := hO13.trans hO4
  have ho4 := ho3.only hO4 (.inr (by omega))
  have hz4 := hO4.size
  clear ho3 hO12 hO13 hO3 hO4 hC2 hC3 HO2
  obtain ⟨g0, rfl, hg0, hg1⟩ := ho4.at (by omega)
  obtain ⟨⟨s, v⟩, hx⟩ : ∃ p, (termsM F)[i]? = some p := ⟨(termsM F)[i]'(by omega), List.getElem?_eq_getElem (by omega)⟩
  obtain ⟨a5, c5, e1, e2, hio, hput⟩ := ho4.open hx
  simp only at e1 e2 hio hput
  have q0 : (i : Int) < (n1 : Int) := by omega
  have hcase : q = 0 ∨ q = 1 ∨ q = 2 ∨ q = 3 ∨ q = 4 := by omega
  have hset : ∀ y, TO (w4.setCell ⟨g0, i * 2 + 1, none⟩ (.int .i64 y)) w.heap.size w1.heap.size (some ⟨g0, 0, none⟩) n1 c1 ((termsM F).set i (s, y)) := fun y => (hput w4 s y rfl hio.1 ⟨rfl, rfl, rfl, Nat.le_refl _, fun _ _ _ => rfl⟩).2.2.1
  have hset2 : ∀ y, w4.grownBy (w4.setCell ⟨g0, i * 2 + 1, none⟩ (.int .i64 y)) (some g0) := fun y => (hput w4 s y rfl hio.1 ⟨rfl, rfl, rfl, Nat.le_refl _, fun _ _ _ => rfl⟩).2.2.2
  have hfz := (hput w4 s v rfl hio.1 ⟨rfl, rfl, rfl, Nat.le_refl _, fun _ _ _ => rfl⟩).2.1
  rcases hcase with rfl | rfl | rfl | rfl | rfl
  · have hBW : Below w4.heap.size w4 (w4.alloc (.cells #[.int .i64 0, .int .i64 1000000, .int .i64 1000001] 3)) := (Below.refl _ _).alloc (Nat.le_refl _) _
    have hpk : OwI (w4.alloc (.cells #[.int .i64 0, .int .i64 1000000, .int .i64 1000001] 3)) w4.heap.size (w4.alloc (.cells #[.int .i64 0, .int .i64 1000000, .int .i64 1000001] 3)).heap.size (some ⟨w4.heap.size, 0, none⟩) 3 3 [0, 1000000, 1000001] := OwI.mk ⟨rfl, .inr ⟨w4.heap.size, 3, _, rfl, Nat.le_refl _, heap_alloc_new w4 _, Nat.le_refl _, by decide, rfl, rfl⟩⟩
    have hCW := hC4.below hBW
    have hoW := ho4.below hBW
    have hOW := hO14.laid hBW
    clear hset hset2 hput hio hfz e1 e2
    go_wp2_with fail
    refine (l1PickInt_any _ _ _ _ _ _ (by omega) (by omega) _ _ _ _ _ _ hCW hpk (by omega)).mono ?_
    rintro e w6 ⟨y, _, rfl, hC6, hO6⟩
    have hO16 := hOW.trans hO6
    have ho6 := hoW.only hO6 (.inr (by omega))
    obtain ⟨a6, c6, f1, f2, hio6, hput6⟩ := ho6.open hx
    simp only at f1 f2 hio6 hput6
    have hp := hput6 w6 s y rfl hio6.1 ⟨rfl, rfl, rfl, Nat.le_refl _, fun _ _ _ => rfl⟩
    have hfz := hp.2.1
    have HT := Lib.hid hp.2.2.1
    have HG := Lib.hid hp.2.2.2
    clear hp hput6 hio6
    go_wp2
    go_ret
    refine ⟨(termsM F).set i (s, y), _, _, _, rfl, HT.out.rd, by rw [List.length_set]; exact hlen, by omega, HT.out.cap, ?_, ?_⟩
    · exact hC6.only (Only.of_grown (v := .slice (some ⟨g0, 0, none⟩) n1 c1) (B := w.heap.size) (S := w1.heap.size) HG.out (fun k hk => by simp [Value.ownBlock] at hk; omega) (fun k hk => by simp [Value.ownBlock] at hk; omega)) hgw
    · exact hO16.fresh (Only.of_grown (v := .slice (some ⟨g0, 0, none⟩) n1 c1) (B := w.heap.size) (S := w1.heap.size) HG.out (fun k hk => by simp [Value.ownBlock] at hk; omega) (fun k hk => by simp [Value.ownBlock] at hk; omega)) (Nat.le_refl _)
  · have hs7 := terms_len7 hx
    obtain ⟨a8, c8, f1, hio8, _⟩ := ho4.within hx
    simp only at f1 hio8
    rw [hs7] at f1 hio8
    obtain ⟨g8, rfl, _, _, _⟩ := OI.cons hio8.1 (j := 0) (by omega)
    have hg4 : g0 < w4.heap.size := by omega
    have hC' : ∀ W, Only g (g + 1) w4 W → W.cell? ⟨g0, i * 2, none⟩ = some (.slice (some ⟨g8, 0, none⟩) 7 c8) := fun W hW => by rw [← f1]; exact World.cell?_of_block (hW.block g0 hg4 (by omega))
    have HC := Lib.hid hC'
    have HPK := Lib.hid (show ∀ W j y, Only g (g + 1) w4 W → _ from fun W (j : Nat) (y : Int) hW => (ho4.only hW (.inr (by omega))).poke hx (hC' W hW) j y)
    have HCU := Lib.hid (show ∀ W, Below w4.heap.size w4 W → Cur W g a m c xs from fun W hW => hC4.below hW)
    have HON := Lib.hid (show ∀ W, Below w4.heap.size w4 W → Only g (g + 1) w4 W from fun W hW => (Only.refl _ _ _).laid hW)
    have HMK := Lib.hid (show ∀ W : World, OwI (W.alloc (.cells #[.int .i64 (-1), .int .i64 24, .int .i64 25] 3)) W.heap.size (W.alloc (.cells #[.int .i64 (-1), .int .i64 24, .int .i64 25] 3)).heap.size (some ⟨W.heap.size, 0, none⟩) 3 3 [-1, 24, 25] from fun W => OwI.mk ⟨rfl, .inr ⟨W.heap.size, 3, _, rfl, Nat.le_refl _, heap_alloc_new W _, Nat.le_refl _, by decide, rfl, rfl⟩⟩)
    have d0 : Below w4.heap.size w4 w4 := Below.refl _ _
    have d1 : Below w4.heap.size w4 w4.drew := Drew.below ⟨1, rfl⟩ _
    have hgs : g + 1 ≤ w4.heap.size := by omega
    clear hset hset2 hput hio hfz e1 e2 f1 hio8 hs7 hC'
    go_wp2
    go_region_held3 (fun W => W.cell? ⟨g0, i * 2, none⟩ = some (.slice (some ⟨g8, 0, none⟩) 7 c8)) ((first | exact HC.out _ (HON.out _ d0) | exact HC.out _ (HON.out _ d1) | exact HC.out _ hO6 | exact hS6 _ | exact HC.out _ hO5 | exact HC.out _ (hO5.laid ((Below.refl _ _).alloc (Nat.le_refl _) _)) | exact HC.out _ (HON.out _ (d1.alloc d1.size _))))
      ((first
        | (go_at_call 35; refine (l1Below_any 7 (by omega) (by omega) _ _ _ _ _ _ (HCU.out _ d1)).mono ?_; rintro e w5 ⟨j, rfl, hj, hC5, hO5⟩; have hO5 := (HON.out _ d1).trans hO5)
        | (go_at_call 35; refine (l1Below_any 7 (by omega) (by omega) _ _ _ _ _ _ (HCU.out _ (d1.alloc d1.size _))).mono ?_; rintro e w5 ⟨j, rfl, hj, hC5, hO5⟩; have hIO := (HMK.out w4.drew).only hO5 (.inr hgs); have hO5 := (HON.out _ (d1.alloc d1.size _)).trans hO5)
        | (go_at_call 36; refine (l1PickInt_any _ _ _ _ _ _ (by omega) (by omega) _ _ _ _ _ _ hC5 hIO hgs).mono ?_; rintro e w6 ⟨y, _, rfl, hC6, hO6⟩; have hO6 := hO5.trans hO6; obtain ⟨xo, hco⟩ := ((HPK.out w6 j y hO6).2.2.2 (by omega)).1; have hfo := ((HPK.out w6 j y hO6).2.2.2 (by omega)).2; have hS6 := fun y => (HPK.out w6 j y hO6).2.2.1)
        | (go_at_call 36; refine (l1PickInt_any _ _ _ _ _ _ (by omega) (by omega) _ _ _ _ _ _ (hC5.below ((Below.refl _ _).alloc (Nat.le_refl _) _)) (HMK.out w5) (Nat.le_trans hgs hO5.size)).mono ?_; rintro e w6 ⟨y, _, rfl, hC6, hO6⟩; have hO6 := (hO5.laid ((Below.refl _ _).alloc (Nat.le_refl _) _)).trans hO6; obtain ⟨xo, hco⟩ := ((HPK.out w6 j y hO6).2.2.2 (by omega)).1; have hfo := ((HPK.out w6 j y hO6).2.2.2 (by omega)).2; have hS6 := fun y => (HPK.out w6 j y hO6).2.2.1)))
    all_goals
      have H6 := Lib.hid (HPK.out w6 j y hO6)
      have HO6 := Lib.hid hO6
      clear hO6 hO5 hS6 hco hfo HPK HC HCU HON HMK
      go_wp2
      go_ret
      refine ⟨(termsM F).set i (s.set j y, v), _, _, _, rfl, H6.out.1.rd, by rw [List.length_set]; exact hlen, by omega, H6.out.1.cap, hC6.only H6.out.2.1 hgw, (hO14.trans HO6.out).fresh H6.out.2.1 (Nat.le_refl _)⟩
  · obtain ⟨a8, c8, f1, hio8, hsw⟩ := ho4.swap hx
    simp only at f1 hio8 hsw
    rw [f1] at e1
    obtain ⟨rfl, rfl⟩ : a5 = a8 ∧ c5 = c8 := by simpa [eq_comm] using e1
    have hsl : s.length ≤ 7 := Nat.le_of_eq (terms_len7 hx)
    clear hset hset2 hput hfz e1
    have HO4 := Lib.hid ho4
    go_wp2_with (first
      | (at_builtin; go_loud (refine wpList_pushI (by rfl) (by rfl) _ _ (by rfl) hio (by rfl) (by rfl) (by omega) (by omega) ?_)))
    intro a7 c7 w7 ho7 hg7
    have hne : ∀ k, (Value.slice a7 (s.length + 1) c7).ownBlock = some k → k ≠ g0 := by
      intro k hk e
      subst e
      rcases hg7.home with h | h
      · rw [h] at hk
        obtain ⟨vs4, hv4, _, _⟩ := HO4.out
        exact ne_blockT hv4 hio k rfl hk
      · have := h k hk
        omega
    obtain ⟨p1, p2, p3, p4⟩ := hsw w7 _ a7 _ c7 (s ++ [0]) hg7.grown ho7 (by have := hg7.grown.size; omega) hne
    have P3 := Lib.hid p3
    have P4 := Lib.hid p4
    clear p3 p4 hsw hne
    have HG7 := Lib.hid hg7.grown
    go_wp2
    go_ret
    refine ⟨(termsM F).set i (s ++ [0], v), _, _, _, rfl, P3.out.rd, by rw [List.length_set]; exact hlen, by omega, P3.out.cap, ?_, ?_⟩
    · exact (hC4.only (Only.of_grown (B := w.heap.size) (S := w1.heap.size) HG7.out hio.1.lo hio.2) hgw).only (Only.of_grown (v := .slice (some ⟨g0, 0, none⟩) n1 c1) (B := w.heap.size) (S := w1.heap.size) P4.out (fun k hk => by simp [Value.ownBlock] at hk; omega) (fun k hk => by simp [Value.ownBlock] at hk; omega)) hgw
    · exact (hO14.fresh (Only.of_grown (B := w.heap.size) (S := w1.heap.size) HG7.out hio.1.lo hio.2) (Nat.le_refl _)).fresh (Only.of_grown (v := .slice (some ⟨g0, 0, none⟩) n1 c1) (B := w.heap.size) (S := w1.heap.size) P4.out (fun k hk => by simp [Value.ownBlock] at hk; omega) (fun k hk => by simp [Value.ownBlock] at hk; omega)) (Nat.le_refl _)
  · have hkn := ho4.kn
    have hs16 : n1 + 1 ≤ 4398046511104 := by omega
    clear hset hset2 hput hfz
    go_wp2_with (first
      | (at_builtin; go_loud (refine wpList_pushN (by rfl) (by rfl) _ _ (by rfl) hkn (by rfl) hio (Nat.le_refl _) (by rfl) (by rfl) hs16 (by omega) (by omega) (by omega) ?_)))
    intro a7 c7 w7 ho7 hg7
    go_wp2
    go_ret
    refine ⟨termsM F ++ [(s, v)], _, _, _, rfl, ho7.rd, ho7.len, by omega, ho7.cap, ?_, ?_⟩
    · exact hC4.only (Only.of_grown (B := w.heap.size) (S := w1.heap.size) hg7 hkn.lo hkn.hi) hgw
    · exact hO14.fresh (Only.of_grown (B := w.heap.size) (S := w1.heap.size) hg7 hkn.lo hkn.hi) (Nat.le_refl _)
  · have HT := Lib.hid (hset 1000000)
    have HG := Lib.hid (hset2 1000000)
    clear hset hset2 hput hio
    go_wp2
    go_ret
    refine ⟨(termsM F).set i (s, 1000000), _, _, _, rfl, HT.out.rd, by rw [List.length_set]; exact hlen, by omega, HT.out.cap, ?_, ?_⟩
    · exact hC4.only (Only.of_grown (v := .slice (some ⟨g0, 0, none⟩) n1 c1) (B := w.heap.size) (S := w1.heap.size) HG.out (fun k hk => by simp [Value.ownBlock] at hk; omega) (fun k hk => by simp [Value.ownBlock] at hk; omega)) hgw
    · exact hO14.fresh (Only.of_grown (v := .slice (some ⟨g0, 0, none⟩) n1 c1) (B := w.heap.size) (S := w1.heap.size) HG.out (fun k hk => by simp [Value.ownBlock] at hk; omega) (fun k hk => by simp [Value.ownBlock] at hk; omega)) (Nat.le_refl _)
end Go.Proofs.YtcminkcoifkbgaaGreatDoor
