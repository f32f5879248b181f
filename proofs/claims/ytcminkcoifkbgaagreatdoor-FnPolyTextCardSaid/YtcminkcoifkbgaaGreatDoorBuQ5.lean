/-
  Contract of ParsePoly.
  Plain: what ParsePoly makes of FormatPoly's text: numbers.
-/
import Derived.Test.YtcminkcoifkbgaaGreatDoorBuQ2
import Derived.Test.YtcminkcoifkbgaaGreatDoorBuQ3
import Derived.Test.YtcminkcoifkbgaaGreatDoorBuQ4
import Derived.Test.YtcminkcoifkbgaaGreatDoorKNP
namespace Go.Proofs.YtcminkcoifkbgaaGreatDoor
open Go.RowKit Go.Shelf

def cutL (s : ByteArray) : ByteArray := ⟨(Lib.cut s.data.toList colon.data.toList).1.toArray⟩
def cutR (s : ByteArray) : ByteArray := ⟨(Lib.cut s.data.toList colon.data.toList).2.1.toArray⟩
def cutF (s : ByteArray) : Bool := (Lib.cut s.data.toList colon.data.toList).2.2
theorem cutR_small (s : ByteArray) : (cutR s).size ≤ s.size := by
  show ((Lib.cut s.data.toList colon.data.toList).2.1.toArray).size ≤ s.data.size
  unfold Lib.cut
  split
  · simp
  · simp
theorem cut_any (s : ByteArray) (w : World) (hm : MX w) (hs : s.size ≤ 1000000) :
    Calls Tryz.prog 21 #[.string s, .string colon] w fun e w' => e = .returned (.tuple #[.string (cutL s), .string (cutR s), .bool (cutF s)]) ∧ Below w.heap.size w w' := by
  obtain ⟨m, hm⟩ := hm
  refine (Any.strings_Cut laysCut s colon m w (by omega) hm).mono ?_
  rintro e w' ⟨rfl, n, rfl⟩
  exact ⟨rfl, Drew.below ⟨n, rfl⟩ _⟩
def okT (x : ByteArray) : Bool := (pInt (cutL x)).2 && ((pInts (cutR x)).2 && decide ((pInts (cutR x)).1.length ≤ 7))
def termT (x : ByteArray) : List Int × Int := ((pInts (cutR x)).1 ++ List.replicate (7 - (pInts (cutR x)).1.length) 0, (pInt (cutL x)).1)
def pPoly (s : ByteArray) : List (List Int × Int) × Bool :=
  if s = naught then ([], true) else
  if (pieces comma s).all okT = true then (if polyText ((pieces comma s).map termT) = s then ((pieces comma s).map termT, true) else ([], false)) else ([], false)

theorem KN.hi {w : World} {B S : Nat} {a : Option Addr} {n c : Nat} {xs : List (List Int × Int)} (h : KN w B S a n c xs) : ∀ k, (Value.slice a n c).ownBlock = some k → k < S := by
  obtain ⟨vs, _, h2, _⟩ := h
  exact h2
/-- a block of another type is not the row's own -/
theorem KN.other {w : World} {B S : Nat} {a : Option Addr} {n c : Nat} {xs : List (List Int × Int)} (h : KN w B S a n c xs) {g : Nat} {cur : Array Value} {ty : TypeId} (hg : w.heap[g]? = some (.cells cur ty (0, 0))) (hne : ty ≠ 50) : (Value.slice a n c).ownBlock ≠ some g := by
  intro e
  obtain ⟨vs, h1, _, _⟩ := h
  rcases h1.2 with ⟨h2, _⟩ | ⟨b, cap, cu, hv, _, hh, _⟩
  · rw [h2] at e; simp [Value.ownBlock] at e
  · rw [hv] at e
    simp [Value.ownBlock] at e
    subst e
    rw [hg] at hh
    simp only [Option.some.injEq, Obj.cells.injEq] at hh
    exact hne hh.2.1

set_option maxRecDepth 100000 in
set_option maxHeartbeats 3200000 in
theorem parsePoly_any (s : ByteArray) (w : World) (hm : MX w) (hs : s.size ≤ 1000000) :
    Calls Tryz.prog 7 #[.string s] w fun e w' => ∃ a n c, e = .returned (.tuple #[.slice a n c, .bool (pPoly s).2]) ∧ KN w' w.heap.size w'.heap.size a n c (pPoly s).1 ∧ Below w.heap.size w w' := by
  have h1 := KN.made w
  have hB0 : Below w.heap.size w (w.alloc (.cells #[] 50)) := (Below.refl _ _).alloc (Nat.le_refl _) _
  have H1 := Lib.hid h1; clear h1
  by_cases h0 : s = naught
  · have Hres := Lib.hid (show pPoly s = ([], true) by unfold pPoly; rw [if_pos h0])
    have h0' : s = ⟨#[48]⟩ := h0
    clear h0
    subst h0'
    clear hs
    go_enter Tryz.func7, Tryz.ntmps7
    go_wp2
    go_ret2
    exact ⟨_, _, _, by rw [Hres.out]; rfl, by rw [Hres.out]; exact H1.out, hB0⟩
  have he : (s.toList == [48]) = false := by
    rw [beq_eq_false_iff_ne]
    intro e
    rw [Lib.toList_data] at e
    exact h0 (ByteArray.ext (Array.toList_inj.1 e))
  have HS := Lib.hid (split_any s comma _ (hm.below hB0) hs (by decide))
  obtain ⟨ps, hps⟩ : ∃ ps, pieces comma s = ps := ⟨_, rfl⟩
  have hfew := pieces_few (sep := comma) (s := s) (by decide)
  have hsm : ∀ x ∈ ps, x.size ≤ s.size := fun x hx => piece_small (sep := comma) (by rw [hps]; exact hx)
  rw [hps] at HS hfew
  have hres : pPoly s = if ps.all okT = true then (if polyText (ps.map termT) = s then (ps.map termT, true) else ([], false)) else ([], false) := by unfold pPoly; rw [if_neg h0, hps]
  unfold comma at HS
  clear hps
  obtain ⟨n, hn⟩ : ∃ n, ps.length = n := ⟨_, rfl⟩
  rw [hn] at HS hfew
  go_enter Tryz.func7, Tryz.ntmps7
  go_wp2_with fail
  refine HS.out.mono ?_
  rintro e w2 ⟨rfl, hB2, hcells, hsz2, cur, hcur⟩
  obtain ⟨W0, hW0⟩ : ∃ W0, w.alloc (.cells #[] 50) = W0 := ⟨_, rfl⟩
  rw [hW0] at hB2 hcells hsz2 hcur H1 hB0 ⊢
  have hz0 : W0.heap.size = w.heap.size + 1 := by rw [← hW0]; simp
  have hz2 := hB2.size
  have HC := Lib.hid hcells
  have HB0 := Lib.hid (hB0.trans (hB2.mono hB0.size))
  have h2 := H1.out.below hB2
  have H2 := Lib.hid h2
  clear hcells hB2 hB0 H1 h2 hW0 HS
  go_wp2
  go_loopw [4, 21] (fun v i wr => Hid (∃ k : Nat, k ≤ n ∧ i = .int .i64 k ∧ (∃ a' c', v = .slice a' k c' ∧ KN wr w.heap.size wr.heap.size a' k c' ((ps.take k).map termT)) ∧ (ps.take k).all okT = true) ∧ Hid (wr.heap[W0.heap.size]? = w2.heap[W0.heap.size]? ∧ Below w.heap.size w wr) ∧ w2.heap.size ≤ wr.heap.size) (fun _ i _ => n - (intOf i).toNat)
  case atStart => exact ⟨⟨0, Nat.zero_le _, rfl, ⟨_, _, rfl, H2.out.mono (Nat.le_refl _) (by omega)⟩, rfl⟩, ⟨rfl, HB0.out⟩, Nat.le_refl _⟩
  case round =>
    clear H2
    obtain ⟨HV, HG, hzr⟩ := hrel
    obtain ⟨wo, rfl⟩ : ∃ wo : World, wo = wr := ⟨_, rfl⟩
    obtain ⟨k, hk, rfl, ⟨a', c', rfl, ho⟩, hall⟩ := HV.out
    clear HV
    have hB := HG.out.2
    have hbs := hB.size
    by_cases hlt : k < n
    · obtain ⟨x, hx⟩ : ∃ x, ps[k]? = some x := ⟨ps[k], List.getElem?_eq_getElem (by omega)⟩
      have hc : wo.cell? ⟨W0.heap.size, k, none⟩ = some (.string x) := by
        rw [← HC.out k x hx]
        exact World.cell?_of_block (w := w2) HG.out.1
      rw [hz0] at hc
      have hxs := hsm x (List.mem_of_getElem? hx)
      have hst : (ps.take (k + 1)).map termT = (ps.take k).map termT ++ [termT x] := by rw [List.take_add_one, hx, List.map_append]; rfl
      have hst2 : (ps.take (k + 1)).all okT = okT x := by rw [List.take_add_one, hx, List.all_append, hall]; simp
      have hbad : okT x = false → pPoly s = ([], false) := fun hok => by
        rw [hres, if_neg]
        rw [Bool.not_eq_true, List.all_eq_false]
        exact ⟨x, List.mem_of_getElem? hx, by rw [hok]; simp⟩
      have q0 : (k : Int) < (n : Int) := by omega
      have HCut := Lib.hid (cut_any x wo (hm.below hB) (by omega))
      have hcr := cutR_small x
      obtain ⟨b1, hb1⟩ : ∃ b, (pInt (cutL x)).2 = b := ⟨_, rfl⟩
      obtain ⟨v1, hv1⟩ : ∃ b, (pInt (cutL x)).1 = b := ⟨_, rfl⟩
      obtain ⟨b2, hb2⟩ : ∃ b, (pInts (cutR x)).2 = b := ⟨_, rfl⟩
      obtain ⟨ys, hys⟩ : ∃ b, (pInts (cutR x)).1 = b := ⟨_, rfl⟩
      have hokx : okT x = (b1 && (b2 && decide (ys.length ≤ 7))) := by unfold okT; rw [hb1, hb2, hys]
      have htx : termT x = (ys ++ List.replicate (7 - ys.length) 0, v1) := by unfold termT; rw [hv1, hys]
      obtain ⟨l, hl⟩ : ∃ l, cutL x = l := ⟨_, rfl⟩
      obtain ⟨r, hr⟩ : ∃ r, cutR x = r := ⟨_, rfl⟩
      have hP : ∀ w3, Calls Tryz.prog 22 #[.string l] w3 fun e w' => e = .returned (.tuple #[.int .i64 v1, .bool b1]) ∧ Below w3.heap.size w3 w' := fun w3 => by
        have := parseInt_any l w3
        rw [← hl, hb1, hv1, hl] at this
        exact this
      have hQ : ∀ w4, MX w4 → Calls Tryz.prog 23 #[.string r] w4 fun e w' => ∃ a n c, e = .returned (.tuple #[.slice a n c, .bool b2]) ∧ OwI w' w4.heap.size w'.heap.size a n c ys ∧ Below w4.heap.size w4 w' := fun w4 h4 => by
        have := parseInts_any r w4 h4 (by rw [← hr]; omega)
        rw [← hr, hb2, hys, hr] at this
        exact this
      rw [hl, hr] at HCut
      have HP := Lib.hid hP
      have HQ := Lib.hid hQ
      rw [htx] at hst
      rw [hokx] at hst2 hbad
      have Hst := Lib.hid hst
      have Hst2 := Lib.hid hst2
      have Hbad := Lib.hid hbad
      have HO := Lib.hid ho
      have Hsm := Lib.hid hsm
      have Hres := Lib.hid hres
      clear hst hst2 hbad hx hall ho hP hQ hokx htx hb1 hb2 hv1 hys hl hr hcr hsm hres
      unfold colon at HCut
      go_wp2_with fail
      refine HCut.out.mono ?_
      rintro e w3 ⟨rfl, hB3⟩
      have hB03 := hB.trans (hB3.mono hbs)
      have hz3 := hB3.size
      go_wp2_with fail
      refine (HP.out w3).mono ?_
      rintro e w4 ⟨rfl, hB4⟩
      have hB04 := hB03.trans (hB4.mono hB03.size)
      have hz4 := hB4.size
      have hmx := hm.below hB04
      go_wp2_with fail
      refine (HQ.out w4 hmx).mono ?_
      rintro e w5 ⟨a5, n5, c5, rfl, ho5, hB5⟩
      have hB05 := hB04.trans (hB5.mono hB04.size)
      have hz5 := hB5.size
      have hyl := ho5.len
      have hB35 := (hB3.trans (hB4.mono hz3)).trans (hB5.mono (by omega))
      cases b1
      · have Hr := Lib.hid (Hbad.out rfl)
        clear hB35 ho5 HO Hst Hst2 HG
        go_wp2
        go_ret2
        exact ⟨_, _, _, by rw [Hr.out]; rfl, by rw [Hr.out]; exact KN.nil, hB05⟩
      cases b2
      · have Hr := Lib.hid (Hbad.out rfl)
        clear hB35 ho5 HO Hst Hst2 HG
        go_wp2
        go_ret2
        exact ⟨_, _, _, by rw [Hr.out]; rfl, by rw [Hr.out]; exact KN.nil, hB05⟩
      by_cases h7 : 7 < n5
      · have Hr := Lib.hid (Hbad.out (by rw [hyl]; simp; omega))
        have h7' : (7 : Int) < (n5 : Int) := by omega
        clear hB35 ho5 HO Hst Hst2 HG
        go_wp2
        go_ret2
        exact ⟨_, _, _, by rw [Hr.out]; rfl, by rw [Hr.out]; exact KN.nil, hB05⟩
      · have h7' : ¬ (7 : Int) < (n5 : Int) := by omega
        have HO5 := HO.out.below (hB35.mono (Nat.le_refl _))
        have Hst3 := Lib.hid (Hst2.out.trans (by rw [hyl]; simp; omega : (true && (true && decide (ys.length ≤ 7))) = true))
        obtain ⟨j, hj⟩ : ∃ j, 7 - n5 = j := ⟨_, rfl⟩
        have q4 : (7 : Int) - (n5 : Int) = (j : Int) := by omega
        have hst := Hst.out
        rw [hyl, hj] at hst
        have Hst4 := Lib.hid hst
        clear hst Hst Hst2 HO Hbad
        have hk1 : k + 1 ≤ 1048576 := by omega
        have hz35 : wo.heap.size ≤ w5.heap.size := hB35.size
        go_wp2_with (first
          | (at_builtin; go_loud (refine wpList_pad (by rfl) _ _ (by rfl) ho5 (by rfl) (k := j) (by rfl) (by omega) (by omega) (Nat.le_refl _) ?_)))
        intro a6 c6 w6 ho6 hg6
        have hz6 := hg6.size
        have hO6 := Only.of_grown (B := w4.heap.size) (S := w5.heap.size) hg6 (fun g hg => ho5.1.lo g hg) ho5.2
        have HO6 := HO5.only hO6 (.inl (by omega))
        have hlast : KN w6 w.heap.size wo.heap.size a' k c' (List.map termT (List.take k ps)) := HO6
        go_wp2_with (first
          | (at_builtin; go_loud (refine wpList_pushN (by rfl) (by rfl) _ _ (by rfl) hlast (by rfl) ho6 (by omega) (by rfl) (by rfl) (by omega) (by omega) (by omega) (Nat.le_refl _) ?_)))
        intro a7 c7 w7 ho7 hg7
        have hz7 := hg7.size
        have hO7 := Only.of_grown (B := w.heap.size) (S := wo.heap.size) hg7 (fun g hg => KN.lo hlast g hg) (KN.hi hlast)
        have hB06 := hO6.below hB05 hB04.size hB05.size
        have hB07 := hO7.below hB06 (Nat.le_refl _) hB06.size
        have hW06 : w6.heap[W0.heap.size]? = w2.heap[W0.heap.size]? := by
          rw [hO6.block _ (by omega) (by omega), hB35.block _ (by omega), HG.out.1]
        have Hsame := Lib.hid (show w7.heap[W0.heap.size]? = w2.heap[W0.heap.size]? by
          rw [← hW06]
          exact hg7.block _ (by omega) (fun e => KN.other hlast (by rw [hW06]; exact hcur) (by decide) e.symm))
        go_wp2
        go_roundw
        case rel =>
          refine ⟨⟨k + 1, by omega, by go_num, ⟨_, _, rfl, ?_⟩, Hst3.out⟩, ⟨Hsame.out, hB07⟩, by omega⟩
          rw [Hst4.out, List.map_take]; exact ho7
        case measure => simp [intOf]; omega
    · obtain rfl : k = n := by omega
      rw [List.take_of_length_le (by omega)] at ho hall
      rw [if_pos hall] at hres
      have hl := ho.len
      have HF := Lib.hid (implFormat_any a' k c' (ps.map termT) wo ho.rd hl (by omega))
      have HO := Lib.hid ho
      obtain ⟨t, ht⟩ : ∃ t, polyText (ps.map termT) = t := ⟨_, rfl⟩
      rw [ht] at HF hres
      have heq := str_eq t s
      by_cases hts : t = s
      · rw [if_pos hts] at hres
        rw [decide_eq_true hts] at heq
        have Hres := Lib.hid hres
        clear ho hall hres ht hts hl
        go_wp2_with fail
        refine HF.out.mono ?_
        rintro e w3 ⟨rfl, hB3⟩
        have hB03 := hB.trans (hB3.mono hbs)
        go_wp2
        go_ret2
        exact ⟨_, _, _, by rw [Hres.out]; rfl, by rw [Hres.out]; exact (HO.out.below hB3).mono (Nat.le_refl _) hB3.size, hB03⟩
      · rw [if_neg hts] at hres
        rw [decide_eq_false hts] at heq
        have Hres := Lib.hid hres
        clear ho hall hres ht hts hl
        go_wp2_with fail
        refine HF.out.mono ?_
        rintro e w3 ⟨rfl, hB3⟩
        have hB03 := hB.trans (hB3.mono hbs)
        go_wp2
        go_ret2
        exact ⟨_, _, _, by rw [Hres.out]; rfl, by rw [Hres.out]; exact KN.nil, hB03⟩
end Go.Proofs.YtcminkcoifkbgaaGreatDoor

namespace Go.Proofs.YtcminkcoifkbgaaGreatDoor
open Go.RowKit Go.Shelf

theorem digits_lt : ∀ (m d : Nat), d ∈ digits m m → d < 10 := by
  intro m
  induction m using Nat.strongRecOn with
  | _ m ih =>
    intro d hd
    by_cases h : m < 10
    · rw [digits_small h, List.mem_singleton] at hd; omega
    · rw [digits_big h, List.mem_append, List.mem_singleton] at hd
      rcases hd with hd | rfl
      · exact ih (m / 10) (by omega) d hd
      · omega
def valL (ds : List Nat) : Nat := ds.foldl (fun a d => 10 * a + d) 0
theorem digits_val (m : Nat) : valL (digits m m) = m := by
  induction m using Nat.strongRecOn with
  | _ m ih =>
    by_cases h : m < 10
    · rw [digits_small h]; simp [valL]
    · rw [digits_big h]
      have := ih (m / 10) (by omega)
      unfold valL at this ⊢
      rw [List.foldl_append, this, List.foldl_cons, List.foldl_nil]
      omega
theorem digits_ne (m : Nat) : 0 < (digits m m).length := by
  by_cases h : m < 10
  · rw [digits_small h]; simp
  · rw [digits_big h]; simp
theorem glyphN {d : Nat} (h : d < 10) : (glyph d).toNat = 48 + d := by
  unfold glyph
  rw [UInt8.toNat_ofNat']
  omega
theorem byteAt_text {ds : List Nat} {k d : Nat} (h : ds[k]? = some d) (hd : d < 10) : byteAt (text ds) k = 48 + d := by
  have e : (text ds).data.toList[k]? = some (glyph d) := by simp [text, h]
  rw [byteAt, List.getD_eq_getElem?_getD, e]
  exact glyphN hd
theorem valD_text {ds : List Nat} (hd : ∀ d ∈ ds, d < 10) : ∀ k, k ≤ ds.length → valD (text ds) k = (valL (ds.take k) : Int) ∧ digTo (text ds) k = true := by
  intro k
  induction k with
  | zero => intro _; exact ⟨rfl, rfl⟩
  | succ k ih =>
    intro hk
    obtain ⟨h1, h2⟩ := ih (by omega)
    obtain ⟨d, hx⟩ : ∃ d, ds[k]? = some d := ⟨ds[k], List.getElem?_eq_getElem (by omega)⟩
    have hl := hd d (List.mem_of_getElem? hx)
    have hb := byteAt_text hx hl
    refine ⟨?_, ?_⟩
    · rw [valD, h1, hb, List.take_add_one, hx, Option.toList_some]
      unfold valL
      rw [List.foldl_append, List.foldl_cons, List.foldl_nil]
      omega
    · rw [digTo_succ, h2, digAt, hb]
      simp; omega
theorem trim_minus (t : ByteArray) : trimS (minus ++ t) = t := by
  apply ByteArray.ext
  apply Array.toList_inj.1
  unfold trimS
  have e : (minus ++ t).data.toList = 45 :: t.data.toList := by simp [minus, ByteArray.data_append]
  rw [e]
  simp [Lib.trimPrefix, Lib.hasPrefix]
theorem trim_text {ds : List Nat} (h0 : 0 < ds.length) (hd : ∀ d ∈ ds, d < 10) : trimS (text ds) = text ds := by
  cases ds with
  | nil => simp at h0
  | cons d r =>
    apply ByteArray.ext
    apply Array.toList_inj.1
    unfold trimS
    have e : (text (d :: r)).data.toList = glyph d :: (text r).data.toList := by simp [text]
    have hg := glyphN (hd d List.mem_cons_self)
    have hne : ¬ (45 : UInt8) = glyph d := fun e => by rw [← e] at hg; simp at hg; omega
    rw [e]
    simp [Lib.trimPrefix, Lib.hasPrefix, hne]
theorem pInt_fmt {n : Int} (h : -1000000 ≤ n ∧ n ≤ 1000000) : pInt (fmt n) = (n, true) := by
  obtain ⟨m, hm⟩ : ∃ m, n.natAbs = m := ⟨_, rfl⟩
  have hlt := digits_lt m
  have hne := digits_ne m
  have hlen := digits_len 7 m m (by omega) (by omega)
  have hv := valD_text hlt (digits m m).length (Nat.le_refl _)
  rw [List.take_length, digits_val] at hv
  have hts := text_size (digits m m)
  have ht : trimS (fmt n) = text (digits m m) := by
    unfold fmt
    rw [hm]
    split
    · exact trim_minus _
    · rw [empty_append]; exact trim_text hne hlt
  have hs : signed (fmt n) (text (digits m m)) = n := by
    unfold signed
    rw [hts, hv.1]
    unfold fmt
    rw [hm]
    by_cases hn : n < 0
    · rw [if_pos hn, append_size, hts, if_pos (by have : minus.size = 1 := rfl; omega)]; omega
    · rw [if_neg hn, empty_append, hts, if_neg (by omega)]; omega
  unfold pInt
  rw [ht, hts, hv.2, hs, if_neg (by rintro (h | h | h) <;> first | omega | cases h)]
  simp

/-! a glued text cut up again -/
theorem occ_none {c : UInt8} {rest s : List UInt8} {j : Nat} (h : s[j]? ≠ some c) : Lib.occAt s (c :: rest) j = false := by
  cases ho : Lib.occAt s (c :: rest) j with
  | false => rfl
  | true => exact absurd (Lib.occAt_head rfl ho) h
theorem index_no {c : UInt8} {rest x : List UInt8} (hx : c ∉ x) : Lib.index x (c :: rest) = -1 :=
  Lib.index_none fun _ _ => occ_none fun e => hx (List.mem_of_getElem? e)
theorem index_at {c : UInt8} {rest x y : List UInt8} (hx : c ∉ x) : Lib.index (x ++ ((c :: rest) ++ y)) (c :: rest) = x.length := by
  refine Lib.index_first (by simp) ?_ (fun j hj => occ_none fun e => ?_)
  · unfold Lib.occAt
    rw [List.drop_left, List.isPrefixOf_iff_prefix]
    exact List.prefix_append _ _
  · rw [List.getElem?_append_left hj] at e
    exact hx (List.mem_of_getElem? e)
theorem split_join {c : UInt8} {rest : List UInt8} : ∀ (r : List (List UInt8)) (x : List UInt8), (∀ z ∈ x :: r, c ∉ z) → Lib.splitK (c :: rest) 0 (Lib.count (Lib.join (x :: r) (c :: rest)) (c :: rest)) (Lib.join (x :: r) (c :: rest)) = x :: r := by
  intro r
  induction r with
  | nil =>
    intro x h
    have e : Lib.join [x] (c :: rest) = x := by rw [Lib.join_cons]; simp [Lib.joinTail]
    rw [e, Lib.count_miss (index_no (h x List.mem_cons_self))]
    rfl
  | cons y r ih =>
    intro x h
    have e : Lib.join (x :: y :: r) (c :: rest) = x ++ ((c :: rest) ++ Lib.join (y :: r) (c :: rest)) := by
      rw [Lib.join_cons, Lib.join_cons]; simp [Lib.joinTail]
    have hi : Lib.index (Lib.join (x :: y :: r) (c :: rest)) (c :: rest) = x.length := by rw [e]; exact index_at (h x List.mem_cons_self)
    have hd : (Lib.join (x :: y :: r) (c :: rest)).drop (x.length + (c :: rest).length) = Lib.join (y :: r) (c :: rest) := by
      rw [e, ← List.append_assoc]
      exact List.drop_left' (by simp)
    rw [Lib.count_hit (by simp) hi, hd, Nat.add_comm, Lib.splitK, if_neg (by rw [hi]; simp), hi, Int.toNat_natCast, hd, ih y (fun z hz => h z (List.mem_cons_of_mem _ hz)), Nat.add_zero]
    congr 1
    rw [e]
    exact List.take_left
theorem map_data_inj : ∀ {a b : List ByteArray}, a.map (fun s => s.data.toList) = b.map (fun s => s.data.toList) → a = b := by
  intro a
  induction a with
  | nil => intro b h; cases b with
    | nil => rfl
    | cons _ _ => simp at h
  | cons x a ih => intro b h; cases b with
    | nil => simp at h
    | cons y b =>
      rw [List.map_cons, List.map_cons, List.cons.injEq] at h
      rw [ih h.2, ByteArray.ext (Array.toList_inj.1 h.1)]
theorem pieces_glue {c : UInt8} {rest : List UInt8} {sep : ByteArray} (hsep : sep.data.toList = c :: rest) {l : List ByteArray} (hne : l ≠ []) (h : ∀ z ∈ l, c ∉ z.data.toList) : pieces sep (glue sep l l.length) = l := by
  apply map_data_inj
  unfold pieces
  rw [Lib.splitB_data]
  have e : (glue sep l l.length).data.toList = Lib.join (l.map (fun s => s.data.toList)) sep.data.toList := by rw [← glue_join]
  have ec : Lib.countB (glue sep l l.length) sep = Lib.count (Lib.join (l.map (fun s => s.data.toList)) sep.data.toList) sep.data.toList := by
    rw [← e]
    first | done | rfl
  rw [ec, e, hsep]
  cases l with
  | nil => exact absurd rfl hne
  | cons x r =>
    exact split_join _ _ (fun z hz => by
      obtain ⟨t, ht, rfl⟩ := List.mem_map.1 (show z ∈ List.map (fun s : ByteArray => s.data.toList) (x :: r) from hz)
      exact h t ht)

/-! the texts of terms read back -/
theorem text_bytes {ds : List Nat} (hd : ∀ d ∈ ds, d < 10) : ∀ b ∈ (text ds).data.toList, 48 ≤ b.toNat ∧ b.toNat ≤ 57 := by
  intro b hb
  simp only [text, List.mem_map] at hb
  obtain ⟨d, hd1, rfl⟩ := hb
  have := hd d hd1
  rw [glyphN this]
  omega
theorem fmt_bytes (n : Int) : ∀ b ∈ (fmt n).data.toList, b.toNat = 45 ∨ 48 ≤ b.toNat ∧ b.toNat ≤ 57 := by
  intro b hb
  have ht := text_bytes (digits_lt n.natAbs)
  unfold fmt at hb
  split at hb
  · have e : (minus ++ text (digits n.natAbs n.natAbs)).data.toList = 45 :: (text (digits n.natAbs n.natAbs)).data.toList := by simp [minus, ByteArray.data_append]
    rw [e, List.mem_cons] at hb
    rcases hb with rfl | hb
    · left; rfl
    · right; exact ht b hb
  · rw [empty_append] at hb
    right; exact ht b hb
theorem fmt_pos (n : Int) : 1 ≤ (fmt n).size := by
  have := digits_ne n.natAbs
  rw [fmt, append_size, text_size]
  omega
theorem append_bytes (a b : ByteArray) : (a ++ b).data.toList = a.data.toList ++ b.data.toList := by simp [ByteArray.data_append]
theorem glue_bytes {P : UInt8 → Prop} {sep : ByteArray} (hsep : ∀ b ∈ sep.data.toList, P b) {l : List ByteArray} (h : ∀ s ∈ l, ∀ b ∈ s.data.toList, P b) : ∀ b ∈ (glue sep l l.length).data.toList, P b := by
  intro b hb
  rw [← glue_join] at hb
  cases l with
  | nil => simp [Lib.join] at hb
  | cons x r =>
    simp only [List.map_cons] at hb
    rw [Lib.join_cons, List.mem_append] at hb
    rcases hb with hb | hb
    · exact h x List.mem_cons_self b hb
    · unfold Lib.joinTail at hb
      simp only [List.map_map, List.mem_flatten, List.mem_map, Function.comp_apply] at hb
      obtain ⟨t, ⟨y, hy, rfl⟩, hb⟩ := hb
      rw [List.mem_append] at hb
      rcases hb with hb | hb
      · exact hsep b hb
      · exact h y (List.mem_cons_of_mem _ hy) b hb
theorem fmts_bytes (xs : List Int) : ∀ b ∈ (fmts xs).data.toList, b.toNat = 32 ∨ b.toNat = 45 ∨ 48 ≤ b.toNat ∧ b.toNat ≤ 57 := by
  have e : fmts xs = glue space (xs.map fmt) (xs.map fmt).length := by rw [List.length_map]; rfl
  rw [e]
  refine glue_bytes (P := fun b => b.toNat = 32 ∨ b.toNat = 45 ∨ 48 ≤ b.toNat ∧ b.toNat ≤ 57) (fun b hb => ?_) (fun s hs b hb => ?_)
  · simp [space] at hb; left; rw [hb]; rfl
  · obtain ⟨x, _, rfl⟩ := List.mem_map.1 hs
    exact .inr (fmt_bytes x b hb)
def Low (xs : List Int) : Prop := ∀ x ∈ xs, -1000000 ≤ x ∧ x ≤ 1000000
theorem pInts_fmts {xs : List Int} (h : Low xs) : pInts (fmts xs) = (xs, true) := by
  cases xs with
  | nil => rfl
  | cons x r =>
    obtain ⟨l, hl⟩ : ∃ l, x :: r = l := ⟨_, rfl⟩
    have hp : pieces space (fmts l) = l.map fmt := by
      have e : fmts l = glue space (l.map fmt) (l.map fmt).length := by rw [List.length_map]; rfl
      rw [e]
      refine pieces_glue (c := 32) (rest := []) rfl (by rw [← hl]; simp) (fun z hz hc => ?_)
      obtain ⟨y, _, rfl⟩ := List.mem_map.1 hz
      have := fmt_bytes y 32 hc
      simp at this
    have h0 : (fmts l).size ≠ 0 := by
      intro e
      have h1 := piece_small (sep := space) (s := fmts l) (x := fmt x) (by rw [hp, ← hl]; simp)
      have := fmt_pos x
      omega
    rw [hl] at h ⊢
    unfold pInts
    rw [if_neg h0, hp, if_pos]
    · rw [List.map_map]
      congr 1
      conv => rhs; rw [← List.map_id l]
      refine List.map_congr_left fun y hy => ?_
      show (pInt (fmt y)).1 = y
      rw [pInt_fmt (h y hy)]
    · rw [List.all_eq_true]
      intro z hz
      obtain ⟨y, hy, rfl⟩ := List.mem_map.1 hz
      show (pInt (fmt y)).2 = true
      rw [pInt_fmt (h y hy)]
theorem bareLen_pad (xs : List Int) : ∀ k, k ≤ xs.length → xs.take (bareLen xs k) ++ List.replicate (k - bareLen xs k) 0 = xs.take k := by
  intro k
  induction k with
  | zero => intro _; rfl
  | succ k ih =>
    intro hk
    obtain ⟨d, hx⟩ : ∃ d, xs[k]? = some d := ⟨xs[k], List.getElem?_eq_getElem (by omega)⟩
    have hle := bareLen_le xs k
    unfold bareLen
    rw [getD_of hx]
    split
    · rename_i h0
      rw [show k + 1 - bareLen xs k = (k - bareLen xs k) + 1 by omega, List.replicate_succ', ← List.append_assoc, ih (by omega), List.take_add_one, hx, h0]
      rfl
    · simp
theorem bare_pad (xs : List Int) : bare xs ++ List.replicate (xs.length - (bare xs).length) 0 = xs := by
  have h := bareLen_pad xs xs.length (Nat.le_refl _)
  have hl : (bare xs).length = bareLen xs xs.length := by
    unfold bare; rw [List.length_take]; have := bareLen_le xs xs.length; omega
  rw [hl]
  unfold bare
  rw [h, List.take_length]
theorem cut_piece (p : List Int × Int) : cutL (piece p) = fmt p.2 ∧ cutR (piece p) = fmts (bare p.1) := by
  have e : (piece p).data.toList = (fmt p.2).data.toList ++ (((58 : UInt8) :: []) ++ (fmts (bare p.1)).data.toList) := by
    unfold piece; rw [append_bytes, append_bytes, List.append_assoc]; rfl
  have hi : Lib.index (piece p).data.toList ((58 : UInt8) :: []) = (fmt p.2).data.toList.length := by
    rw [e]
    exact index_at (fun hc => by have := fmt_bytes p.2 58 hc; simp at this)
  have hcut : Lib.cut (piece p).data.toList colon.data.toList = ((fmt p.2).data.toList, (fmts (bare p.1)).data.toList, true) := by
    show Lib.cut (piece p).data.toList ((58 : UInt8) :: []) = _
    unfold Lib.cut
    rw [hi, if_pos (by omega), Int.toNat_natCast, e, List.take_left, ← List.append_assoc, List.drop_left' (by simp)]
  unfold cutL cutR
  rw [hcut]
  exact ⟨rfl, rfl⟩
theorem term_piece {p : List Int × Int} (h : p.1.length = 7) (hl : Low p.1) (hc : -1000000 ≤ p.2 ∧ p.2 ≤ 1000000) : okT (piece p) = true ∧ termT (piece p) = p := by
  obtain ⟨e1, e2⟩ := cut_piece p
  have hb := pInts_fmts (xs := bare p.1) (fun x hx => hl x (List.mem_of_mem_take hx))
  have hlen := bare_length p.1
  have hp := bare_pad p.1
  rw [h] at hlen hp
  unfold okT termT
  rw [e1, e2, pInt_fmt hc, hb]
  refine ⟨by simp; exact hlen, ?_⟩
  rw [hp]
theorem poly_low {xs : List (List Int × Int)} (h : polyOk xs = true) : ∀ p ∈ xs, p.1.length = 7 ∧ Low p.1 ∧ -1000000 ≤ p.2 ∧ p.2 ≤ 1000000 := by
  have h0 := poly_in h
  intro p hp
  refine ⟨(h0.2 p hp).1, fun x hx => ?_, (h0.2 p hp).2.2.2⟩
  unfold polyOk at h
  rw [Bool.and_eq_true, decide_eq_true_eq, List.all_eq_true] at h
  obtain ⟨k, hk⟩ := List.mem_iff_getElem?.1 hp
  obtain ⟨s, c⟩ := p
  have h1 := h.2 k (by rw [List.mem_range]; exact lt_of_some hk)
  have := (termAt_ok hk h1).2.1 x hx
  unfold isD at this
  omega
theorem piece_bytes (p : List Int × Int) : ∀ b ∈ (piece p).data.toList, b.toNat = 32 ∨ b.toNat = 45 ∨ 48 ≤ b.toNat ∧ b.toNat ≤ 58 := by
  intro b hb
  unfold piece at hb
  rw [append_bytes, append_bytes, List.mem_append, List.mem_append] at hb
  rcases hb with (hb | hb) | hb
  · have := fmt_bytes p.2 b hb; omega
  · simp [colon] at hb; rw [hb]; simp
  · have := fmts_bytes (bare p.1) b hb; omega
theorem piece_pos (p : List Int × Int) : 2 ≤ (piece p).size := by
  have := fmt_pos p.2
  have h : colon.size = 1 := rfl
  unfold piece
  rw [append_size, append_size]
  omega
/-- the text of a list that is fit is read as that list -/
theorem pPoly_text {f : List (List Int × Int)} (h : polyOk f = true) : pPoly (polyText f) = (f, true) := by
  cases hf : f with
  | nil => rfl
  | cons p r =>
    rw [← hf]
    have hne : f.length ≠ 0 := by rw [hf]; simp
    have htext : polyText f = glue comma (f.map piece) (f.map piece).length := by rw [polyText, if_pos h, if_neg hne, List.length_map]
    have hp : pieces comma (polyText f) = f.map piece := by
      rw [htext]
      refine pieces_glue (c := 44) (rest := [32]) rfl (by rw [hf]; simp) (fun z hz hc => ?_)
      obtain ⟨y, _, rfl⟩ := List.mem_map.1 hz
      have := piece_bytes y 44 hc
      simp at this
    have h0 : polyText f ≠ naught := by
      intro e
      have h1 := piece_small (sep := comma) (s := polyText f) (x := piece p) (by rw [hp, hf]; simp)
      have := piece_pos p
      rw [e] at h1
      have : naught.size = 1 := rfl
      omega
    have hlow := poly_low h
    have hmap : (f.map piece).map termT = f := by
      rw [List.map_map]
      conv => rhs; rw [← List.map_id f]
      exact List.map_congr_left fun y hy => (term_piece (hlow y hy).1 (hlow y hy).2.1 (hlow y hy).2.2).2
    unfold pPoly
    rw [if_neg h0, hp, if_pos, hmap, if_pos rfl]
    rw [List.all_eq_true]
    intro z hz
    obtain ⟨y, hy, rfl⟩ := List.mem_map.1 hz
    exact (term_piece (hlow y hy).1 (hlow y hy).2.1 (hlow y hy).2.2).1
/-- what is read is the text of what was read -/
theorem pPoly_back {s : ByteArray} (h : (pPoly s).2 = true) : polyText (pPoly s).1 = s := by
  unfold pPoly at h ⊢
  split
  · rename_i h0; rw [h0]; rfl
  · rename_i h0
    rw [if_neg h0] at h
    split
    · rename_i h1
      rw [if_pos h1] at h
      split
      · rename_i h2; exact h2
      · rename_i h2; rw [if_neg h2] at h; cases h
    · rename_i h1; rw [if_neg h1] at h; cases h
theorem polyText_size (f : List (List Int × Int)) : (polyText f).size ≤ 102000 := by
  unfold polyText
  split
  · rename_i h
    split
    · have : naught.size = 1 := rfl
      omega
    · have h1 := text_glue_size h f.length
      have := (poly_in h).1
      omega
  · exact Nat.zero_le _
/-- a list that is not fit has the empty text, which is read as nothing -/
theorem pPoly_empty : pPoly ⟨#[]⟩ = ([], false) := by decide +kernel
end Go.Proofs.YtcminkcoifkbgaaGreatDoor
