/-
  Contract of shortened: a list without the zeros at its end.
  Contract of the program's FormatPoly.
-/
import Derived.Test.YtcminkcoifkbgaaGreatDoorBuA
import Derived.Test.YtcminkcoifkbgaaGreatDoorBuQ1
import Derived.Test.YtcminkcoifkbgaaGreatDoorBuF
import Derived.Lib.QuietBelow
import Derived.Deep.RegionHeld3
namespace Go.Proofs.YtcminkcoifkbgaaGreatDoor
open Go.RowKit

/-- how many numbers are left before the zeros at the end of the first k -/
def bareLen (xs : List Int) : Nat → Nat
  | 0 => 0
  | k + 1 => if xs.getD k 0 = 0 then bareLen xs k else k + 1
def bare (xs : List Int) : List Int := xs.take (bareLen xs xs.length)
theorem bareLen_le (xs : List Int) (k : Nat) : bareLen xs k ≤ k := by
  induction k with
  | zero => exact Nat.le_refl _
  | succ k ih => unfold bareLen; split <;> omega
theorem bare_length (xs : List Int) : (bare xs).length ≤ xs.length := by
  unfold bare; rw [List.length_take]; omega
set_option maxRecDepth 100000 in
set_option maxHeartbeats 800000 in
theorem shortened_any (a : Option Addr) (n c : Nat) (xs : List Int) (w : World) (hr : RI w a xs) (hn : xs.length = n) (hb : n ≤ 1048576) (hcap : n ≤ c) :
    Calls Tryz.prog 27 #[.slice a n c] w fun e w' => e = .returned (.slice a (bareLen xs n) c) ∧ w = w' := by
  have Hn := Lib.hid hn; clear hn
  go_enter Tryz.func27, Tryz.ntmps27
  go_wp2
  go_loop [3] (fun i => ∃ k : Nat, k ≤ n ∧ i = .int .i64 k ∧ Hid (bareLen xs n = bareLen xs k)) (fun i => (intOf i).toNat)
  case atStart => exact ⟨n, Nat.le_refl _, rfl, by exact rfl⟩
  case round =>
    obtain ⟨k, hk, rfl, HA⟩ := hrel
    rcases k with _ | k
    · have hk0 : ¬ (0 : Int) < ((0 : Nat) : Int) := by omega
      go_wp2
      go_ret
      exact ⟨by rw [HA.out]; rfl, rfl⟩
    · obtain ⟨b, off, rfl, hcell⟩ := hr.at (k := k) (by rw [Hn.out]; omega)
      obtain ⟨x, hx⟩ := some_at (k := k) Hn.out (by omega)
      have hc := hcell k x hx
      clear hcell
      have hst : bareLen xs (k + 1) = if x = 0 then bareLen xs k else k + 1 := by rw [bareLen, getD_of hx]
      clear hx
      have q0 : (0 : Int) < ((k + 1 : Nat) : Int) := by omega
      have q1 : IntKind.i64.wrap (((k + 1 : Nat) : Int) - 1) = (k : Int) := by rw [IntWalk.i64_in _ (by omega)]; omega
      have q2 : (k : Int) < (n : Int) := by omega
      have hkc : k + 1 ≤ c := by omega
      by_cases h0 : x = 0
      · rw [if_pos h0] at hst
        have Hst := Lib.hid hst; clear hst
        have h0b : (x == 0) = true := by simp [h0]
        go_wp2
        go_round
        case rel => exact ⟨k, by omega, by go_num, by rw [HA.out]; exact Hst.out⟩
        case measure => simp [intOf]
      · rw [if_neg h0] at hst
        have Hst := Lib.hid hst; clear hst
        have h0b : (x == 0) = false := by simp [h0]
        go_wp2
        go_ret
        exact ⟨by rw [HA.out, Hst.out]; rfl, rfl⟩

theorem RI.taken {w : World} {a : Option Addr} {xs : List Int} (h : RI w a xs) (k : Nat) : RI w a (xs.take k) := by
  rcases h with rfl | ⟨b, off, ha, hc⟩
  · exact .inl (by simp)
  · exact .inr ⟨b, off, ha, fun j y hy => hc j y (by
      rw [List.getElem?_take] at hy; split at hy
      · exact hy
      · cases hy)⟩
end Go.Proofs.YtcminkcoifkbgaaGreatDoor

namespace Go.Proofs.YtcminkcoifkbgaaGreatDoor
open Go.RowKit

def colon : ByteArray := ⟨#[58]⟩
def comma : ByteArray := ⟨#[44, 32]⟩
def naught : ByteArray := ⟨#[48]⟩
def piece (p : List Int × Int) : ByteArray := fmt p.2 ++ colon ++ fmts (bare p.1)
def polyText (xs : List (List Int × Int)) : ByteArray := if polyOk xs = true then (if xs.length = 0 then naught else glue comma (xs.map piece) xs.length) else ⟨#[]⟩
theorem poly_in {xs : List (List Int × Int)} (h : polyOk xs = true) : xs.length ≤ 600 ∧ ∀ p ∈ xs, p.1.length = 7 ∧ Narrow p.1 ∧ Narrow (bare p.1) ∧ -1000000 ≤ p.2 ∧ p.2 ≤ 1000000 := by
  unfold polyOk at h
  rw [Bool.and_eq_true, decide_eq_true_eq, List.all_eq_true] at h
  refine ⟨h.1, fun p hp => ?_⟩
  obtain ⟨k, hk⟩ := List.mem_iff_getElem?.1 hp
  obtain ⟨s, c⟩ := p
  have h1 := h.2 k (by rw [List.mem_range]; exact lt_of_some hk)
  obtain ⟨h2, h3, h4⟩ := termAt_ok hk h1
  have hn : Narrow s := fun x hx => by have := h3 x hx; unfold isD at this; omega
  unfold coefOk at h4
  rw [decide_eq_true_eq] at h4
  exact ⟨h2, hn, fun x hx => hn x (List.mem_of_mem_take hx), h4.2.1, h4.2.2⟩
theorem piece_size {p : List Int × Int} (h : p.1.length = 7 ∧ Narrow p.1 ∧ Narrow (bare p.1) ∧ -1000000 ≤ p.2 ∧ p.2 ≤ 1000000) : (piece p).size ≤ 168 := by
  have h1 := fmt_size (n := p.2) (by omega)
  have h2 := fmts_size h.2.2.1
  have h3 : colon.size = 1 := rfl
  have h4 := bare_length p.1
  rw [piece, append_size, append_size]
  omega
theorem text_glue_size {xs : List (List Int × Int)} (h : polyOk xs = true) (k : Nat) : (glue comma (xs.map piece) k).size ≤ k * 170 :=
  glue_size comma _ 168 (fun s hs => by
    obtain ⟨p, hp, rfl⟩ := List.mem_map.1 hs
    exact piece_size ((poly_in h).2 p hp)) k
theorem step_pushS {w : World} {W : World} {x0 : ByteArray} (hW : W = w.alloc (.cells #[.string x0] 9)) {ops : Array Oper} {o : Oper} {ac : Act} {K : Act → World → Prop} {Q : Exit → Act → World → Prop} (hwant : Region.wanted o (yielded ops ac.tmps) = true) (s x : Operand)
    (ho : o.op = .call { callee := .builtin .append, args := #[s, x], argTypes := #[40, 40] })
    {B S : Nat} {a : Option Addr} {n c : Nat} {l : List ByteArray} (hown : SO w B S a n c l) (hs : ac.eval s = .slice a n c)
    (hx : ac.eval x = .slice (some ⟨w.heap.size, 0, none⟩) 1 1) (hn : n + 1 ≤ 16777216) (hbase : B ≤ w.heap.size)
    (h : ∀ a' c' w', SO w' B w'.heap.size a' (n + 1) c' (l ++ [x0]) → Grows w w' (.slice a n c) (.slice a' (n + 1) c') → K (ac.put o.dst (.slice a' (n + 1) c')) w') :
    if Region.wanted o (yielded ops ac.tmps) = true then Oper.wp Tryz.prog o ac W K Q else K (ac.put o.dst undef) W := by
  rw [if_pos hwant]
  subst hW
  obtain ⟨i0, hi, hz0, hz1, hz2⟩ := info_parts Tryz.info9
  obtain ⟨v', w', hr, h2, h3⟩ := run_app (P := Tryz.prog) (w.alloc (.cells #[.string x0] 9)) B 40 o.type 9 i0 (.string ⟨#[]⟩) 16 Tryz.underlying40 hi hz0 hz1 hz2 rfl (.slice a n c) n (strs l) (hown.1.alloc _) (some ⟨w.heap.size, 0, none⟩) 1 1 [.string x0] rfl (by simp)
    (by
      intro ad had j u hu
      obtain rfl := Option.some.inj had
      match j, hu with
      | 0, hu => simp at hu; subst hu; simp [Addr.add])
    (by intro u hu; simp at hu; subst hu; rfl) hn (by omega) (by simp; omega)
  obtain ⟨a', c', rfl, _⟩ := slice_of h2
  unfold Oper.wp execOp
  simp only [ho, resolve, invoke, builtin, Sem.run_bind, Sem.run_pure, Result.andThen_ok, List.map_toArray, List.map_cons, List.map_nil, hs, hx, hr]
  exact h a' c' w' (SO.mk (by simpa [strs] using h2)) ((Grows.of_below _ ((Below.refl _ _).alloc (Nat.le_refl _) _)).trans h3)

set_option maxRecDepth 100000 in
set_option maxHeartbeats 6400000 in
theorem implFormat_any (a : Option Addr) (n c : Nat) (xs : List (List Int × Int)) (w : World) (hr : RP w a xs) (hn : xs.length = n) (hb : n ≤ 1048576) :
    Calls Tryz.prog 8 #[.slice a n c] w fun e w' => e = .returned (.string (polyText xs)) ∧ Below w.heap.size w w' := by
  have Hn := Lib.hid hn; clear hn
  cases hok : polyOk xs
  · have Hok := Lib.hid hok
    have Hres := Lib.hid (show polyText xs = ⟨#[]⟩ by rw [polyText, if_neg (by rw [hok]; simp)])
    clear hok
    go_enter Tryz.func8, Tryz.ntmps8
    go_wp2_with fail
    refine (is (implPolyOk_any _ _ _ xs _ hr Hn.out hb) Hok.out).mono ?_
    rintro e w1 ⟨rfl, hd⟩
    go_wp2
    go_ret
    exact ⟨by rw [Hres.out]; rfl, hd⟩
  · have Hok := Lib.hid hok
    clear hok
    by_cases h0 : n = 0
    · have Hres := Lib.hid (show polyText xs = naught by rw [polyText, if_pos Hok.out, if_pos (by rw [Hn.out]; exact h0)])
      have e0 : ((n : Int) == 0) = true := by simp; omega
      clear h0
      go_enter Tryz.func8, Tryz.ntmps8
      go_wp2_with fail
      refine (is (implPolyOk_any _ _ _ xs _ hr Hn.out hb) Hok.out).mono ?_
      rintro e w1 ⟨rfl, hB1⟩
      go_wp2
      go_ret
      exact ⟨by rw [Hres.out]; rfl, hB1⟩
    have e0 : ((n : Int) == 0) = false := by simp; omega
    go_enter Tryz.func8, Tryz.ntmps8
    go_wp2_with fail
    refine (is (implPolyOk_any _ _ _ xs _ hr Hn.out hb) Hok.out).mono ?_
    rintro e w1 ⟨rfl, hB1⟩
    have hz1 := hB1.size
    have hA : Below w1.heap.size w1 (w1.alloc (.cells #[] 9)) := (Below.refl _ _).alloc (Nat.le_refl _) _
    have HM := Lib.hid (SO.made w1)
    have hB2 := hB1.trans (hA.mono hz1)
    have hAz := hA.size
    clear hA
    go_wp2
    go_loopw [3, 15] (fun v i wr => Hid (∃ k : Nat, k ≤ n ∧ i = .int .i64 k ∧ ∃ a' c', v = .slice a' k c' ∧ SO wr w1.heap.size wr.heap.size a' k c' ((xs.map piece).take k)) ∧ Below w.heap.size w wr ∧ w1.heap.size ≤ wr.heap.size) (fun _ i _ => n - (intOf i).toNat)
    case atStart => exact ⟨⟨0, Nat.zero_le _, rfl, _, _, rfl, HM.out⟩, hB2, hAz⟩
    case round =>
      clear hB2 HM hAz hB1
      obtain ⟨HV, hB, hzr⟩ := hrel
      obtain ⟨wo, rfl⟩ : ∃ wo : World, wo = wr := ⟨_, rfl⟩
      obtain ⟨k, hk, rfl, a', c', rfl, ho⟩ := HV.out
      clear HV
      have hbs := hB.size
      by_cases hlt : k < n
      · obtain ⟨b, off, rfl, hcell⟩ := (hr.below hB).at (k := k) (by rw [Hn.out]; exact hlt)
        obtain ⟨s, x, hx⟩ := part_at Hn.out hlt
        obtain ⟨a1, c1, hc1, hc2, hri, hcp⟩ := hcell k _ hx
        simp only at hc1 hc2 hri hcp
        have hmem := List.mem_of_getElem? hx
        obtain ⟨hs16, _, hnar, hx0, hx1⟩ := (poly_in Hok.out).2 _ hmem
        simp only at hs16 hnar hx0 hx1
        have hst : (xs.map piece).take (k + 1) = (xs.map piece).take k ++ [fmt x ++ colon ++ fmts (bare s)] := by rw [List.take_add_one, List.getElem?_map, hx]; rfl
        have hfs : (fmt x).size ≤ 20 := fmt_size (by omega)
        have hgs2 : (fmts (bare s)).size ≤ 336 := Nat.le_trans (fmts_size hnar) (by have := bare_length s; omega)
        obtain ⟨l, hl⟩ : ∃ l, s.length = l := ⟨_, rfl⟩
        rw [hl] at hc1 hs16 hcp
        have hl7 : l ≤ 7 := Nat.le_of_eq hs16
        clear hs16
        obtain ⟨lb, hlb⟩ : ∃ lb, bareLen s l = lb := ⟨_, rfl⟩
        have hlb3 : lb ≤ l := by rw [← hlb]; exact bareLen_le s l
        have hlb2 : (bare s).length = lb := by unfold bare; rw [List.length_take, hl, hlb]; have := bareLen_le s l; omega
        obtain ⟨W, hW⟩ : ∃ W, wo.alloc (.cells #[.slice a1 l c1, .int .i64 x] 50) = W := ⟨_, rfl⟩
        have hBW : Below wo.heap.size wo W := by rw [← hW]; exact (Below.refl _ _).alloc (Nat.le_refl _) _
        have g0 : W.heap[wo.heap.size]? = some (.cells #[.slice a1 l c1, .int .i64 x] 50) := by rw [← hW]; exact heap_alloc_new wo _
        have p0 : W.cell? ⟨wo.heap.size, 0, none⟩ = some (.slice a1 l c1) := by rw [cell_of_row W _ 0 _ _ (0, 0) g0]; rfl
        have p1 : W.cell? ⟨wo.heap.size, 1, none⟩ = some (.int .i64 x) := by rw [cell_of_row W _ 1 _ _ (0, 0) g0]; rfl
        have hriW := hri.below hBW
        have hoW := ho.below hBW
        have hdW := hB.trans (hBW.mono hbs)
        have hWz := hBW.size
        obtain ⟨f, hf⟩ : ∃ f, fmt x = f := ⟨_, rfl⟩
        obtain ⟨g, hg⟩ : ∃ g, fmts (bare s) = g := ⟨_, rfl⟩
        have cI : ∀ w2, Calls Tryz.prog 25 #[.int .i64 x] w2 fun e w'' => e = .returned (.string f) ∧ w2 = w'' := by intro w2; rw [← hf]; exact implFmt_any x (by omega) (by omega) w2
        have cS : ∀ w2, Below W.heap.size W w2 → Calls Tryz.prog 26 #[.slice a1 lb c1] w2 fun e w'' => e = .returned (.string g) ∧ Below W.heap.size W w'' := by
          intro w2 hb2; rw [← hg]
          exact (implFmts_any a1 lb c1 (bare s) w2 ((hriW.below hb2).taken _) hlb2 (by omega) hnar).mono fun e w'' ⟨h1, h2⟩ => ⟨h1, hb2.trans (h2.mono hb2.size)⟩
        have cT : ∀ w2, Below W.heap.size W w2 → Calls Tryz.prog 27 #[.slice a1 l c1] w2 fun e w'' => e = .returned (.slice a1 lb c1) ∧ w2 = w'' := by
          intro w2 hb2; rw [← hlb]
          exact shortened_any a1 l c1 s w2 (hriW.below hb2) hl (by omega) hcp
        have S_of : ∀ w2, Below W.heap.size W w2 → w2.cell? ⟨wo.heap.size, 0, none⟩ = some (.slice a1 l c1) ∧ w2.cell? ⟨wo.heap.size, 1, none⟩ = some (.int .i64 x) := fun w2 hb => ⟨by rw [hb.cell (World.block_lt_of_cell? _ _ p0)]; exact p0, by rw [hb.cell (World.block_lt_of_cell? _ _ p1)]; exact p1⟩
        have far : ∀ (w2 w3 : World) (j : Nat), Only w1.heap.size wo.heap.size w2 w3 → wo.heap.size < w2.heap.size → w3.cell? ⟨wo.heap.size, j, none⟩ = w2.cell? ⟨wo.heap.size, j, none⟩ := by
          intro w2 w3 j hO hz
          unfold World.cell?
          simp only
          rw [hO.block wo.heap.size hz (by omega)]
        have hz0 : wo.heap.size < W.heap.size := World.block_lt_of_cell? _ _ p0
        have S_of3 : ∀ w2 w3, Below W.heap.size W w2 → Only w1.heap.size wo.heap.size w2 w3 → w3.cell? ⟨wo.heap.size, 0, none⟩ = some (.slice a1 l c1) ∧ w3.cell? ⟨wo.heap.size, 1, none⟩ = some (.int .i64 x) := by
          intro w2 w3 hb hO
          have h1 := S_of w2 hb
          have hz2 := hb.size
          exact ⟨by rw [far w2 w3 0 hO (by omega)]; exact h1.1, by rw [far w2 w3 1 hO (by omega)]; exact h1.2⟩
        have d0 : Below W.heap.size W W.drew := ⟨rfl, rfl, rfl, Nat.le_refl _, fun _ _ => rfl⟩
        rw [hf] at hfs hst
        rw [hg] at hgs2 hst
        have Hst := Lib.hid hst
        have CI := Lib.hid cI
        have CS := Lib.hid cS
        have CT := Lib.hid cT
        have HoW := Lib.hid hoW
        have q1 : (k : Int) < (n : Int) := by omega
        have hcs : (⟨#[58]⟩ : ByteArray).size = 1 := rfl
        have z1 : ¬ 9223372036854775807 < f.size + (⟨#[58]⟩ : ByteArray).size := by omega
        have z2 : ¬ 9223372036854775807 < (f ++ (⟨#[58]⟩ : ByteArray)).size + g.size := by rw [append_size]; omega
        have y1 : ¬ 9223372036854775807 < f.size + 1 := by omega
        have y2 : ¬ 9223372036854775807 < f.size + 1 + g.size := by omega
        clear hcell hx hmem hst hl hlb hlb2 hf hg cI cS cT hri hriW hoW hnar g0 hcs ho
        go_wp2_with fail
        go_region_held3 (fun w' => w'.cell? ⟨wo.heap.size, 0, none⟩ = some (.slice a1 l c1) ∧ w'.cell? ⟨wo.heap.size, 1, none⟩ = some (.int .i64 x)) ((first | exact S_of _ d0 | exact S_of3 _ _ ‹_› ‹_› | exact S_of _ ‹_› | exact S_of _ (Below.alloc ‹_› (Below.size ‹_›) _)))
          ((first
            | (go_at_call 25; refine (CI.out _).mono ?_; rintro e w2 ⟨rfl, rfl⟩)
            | (go_at_call 27; refine (CT.out _ (by first | exact ‹_› | exact d0)).mono ?_; rintro e w9 ⟨rfl, rfl⟩)
            | (go_at_call 26; refine (CS.out _ ‹_›).mono ?_; rintro e w2 ⟨rfl, hb2⟩)
            | (refine step_pushS (by rfl) (by rfl) _ _ (by rfl) (HoW.out.below ‹_›) (by rfl) (by rfl) (by omega) (by have := Below.size ‹Below W.heap.size W _›; omega) ?_; intro a3 c3 w3 ho3 hg3; have hO3 := hg3.only (B := w1.heap.size) (S := wo.heap.size) HoW.out.lo HoW.out.2)))
        have hB2 := hdW.trans (hb2.mono hdW.size)
        have hB3 := hO3.below hB2 hz1 hB2.size
        have hz3 := hO3.size
        have hz2 := hb2.size
        have ho4 : SO w3 w1.heap.size w3.heap.size a3 (k + 1) c3 ((xs.map piece).take (k + 1)) := by rw [Hst.out]; exact ho3
        have HO4 := Lib.hid ho4
        clear ho3 ho4 hg3 far S_of S_of3 d0 hB2
        go_wp2
        go_roundw
        case rel => exact ⟨⟨k + 1, by omega, by go_num, _, _, rfl, HO4.out⟩, hB3, by omega⟩
        case measure => simp [intOf]; omega
      · obtain rfl : k = n := by omega
        rw [List.take_of_length_le (by rw [List.length_map, Hn.out]; exact Nat.le_refl _)] at ho
        have Hres := Lib.hid (show polyText xs = glue comma (xs.map piece) k by rw [polyText, if_pos Hok.out, if_neg (by rw [Hn.out]; exact h0), Hn.out])
        have hgs := text_glue_size Hok.out k
        have h359 : k * 170 ≤ 178257920 := by omega
        have hj := join_any a' k c' (xs.map piece) comma wo ho (by omega) (by omega)
        have HJ := Lib.hid hj
        clear h0 hgs hj ho
        go_wp2_with fail
        refine HJ.out.mono ?_
        rintro e w5 ⟨rfl, hB5⟩
        have hB6 := hB.trans (hB5.mono hbs)
        go_wp2
        go_ret
        exact ⟨by rw [Hres.out]; rfl, hB6⟩
end Go.Proofs.YtcminkcoifkbgaaGreatDoor
