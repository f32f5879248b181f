/-
  Contract of toTermS.
-/
import Derived.Test.YtiiiiolifpaehaaKP4
namespace Go.Proofs.Ytiiiiolifpaehaa
open Go.RowKit

/-- a slice of pairs, as a call has made it -/
def PO (w : World) (_B _S : Nat) (a : Option Addr) (n _c : Nat) (xs : List (List Int × Int)) : Prop := xs.length = n ∧ RP w a xs
theorem PO.rd {w : World} {B S : Nat} {a : Option Addr} {n c : Nat} {xs : List (List Int × Int)} (h : PO w B S a n c xs) : RP w a xs := h.2
theorem PO.len {w : World} {B S : Nat} {a : Option Addr} {n c : Nat} {xs : List (List Int × Int)} (h : PO w B S a n c xs) : xs.length = n := h.1
theorem PO.below {w w' : World} {B S : Nat} {a : Option Addr} {n c : Nat} {xs : List (List Int × Int)} (h : PO w B S a n c xs) (hb : Below w.heap.size w w') : PO w' B S a n c xs := ⟨h.1, h.2.below hb⟩
theorem Try.info121 : (Try.prog.info? 121).map (fun i => (i.zero, i.size, i.bytes)) = some (some (.agg #[.slice none 0 0, .int .i64 0]), 2, 32) := by kernel_rfl
theorem madeP_at {n k : Nat} (h : k < n) : (madeCells (Value.agg #[.slice none 0 0, .int .i64 0]).cells (n * 2)).toList[k * 2]? = some (.slice none 0 0) ∧ (madeCells (Value.agg #[.slice none 0 0, .int .i64 0]).cells (n * 2)).toList[k * 2 + 1]? = some (.int .i64 0) := by
  have e1 : k * 2 < n * 2 := by omega
  have e2 : k * 2 + 1 < n * 2 := by omega
  have m1 : (k * 2) % 2 = 0 := by omega
  have m2 : (k * 2 + 1) % 2 = 1 := by omega
  have e : (Value.agg #[.slice none 0 0, .int .i64 0]).cells = #[.slice none 0 0, .int .i64 0] := rfl
  rw [e]
  constructor
  · simp [madeCells, e1]
  · simp [madeCells, e2, m2]

set_option maxRecDepth 100000 in
set_option maxHeartbeats 1600000 in
theorem conv_P (a : Option Addr) (n c : Nat) (xs : List (List Int × Int)) (w : World) (hr : RP w a xs) (hn : xs.length = n) (hb : n ≤ 1048576) (hsh : Short_P xs) :
    Calls Try.prog 53 #[.slice a n c] w fun e w' => ∃ a' c', e = .returned (.slice a' n c') ∧ PO w' w.heap.size w'.heap.size a' n c' xs ∧ Below w.heap.size w w' := by
  have Hn := Lib.hid hn; clear hn
  have HSh := Lib.hid hsh; clear hsh
  obtain ⟨i0, hi, hz0, hz1, hz2⟩ := info_parts Try.info121
  go_enter Try.func53, Try.ntmps53
  go_wp2_with (first | (at_make; refine wpList_make_full _ rfl _ _ 61 rfl w.heap.size 121 i0 (.agg #[.slice none 0 0, .int .i64 0]) 2 Try.underlying61 hi hz0 hz1 .i64 .i64 _ _ n rfl rfl ?m1 ?m2 ?m3 ?m4 ?m5 ?_))
  case m1 => rfl
  case m2 => rfl
  case m3 => rw [hz2]; omega
  case m4 => unfold maxLen; omega
  case m5 => exact Nat.le_refl _
  intro w1 hown hg
  have hB : Below w.heap.size w w1 := (Below.refl _ _).grown hg (Nat.le_refl _) (by simp)
  have hrow : PR w1 w.heap.size w1.heap.size n (fillP xs n 0) := by
    have h1 : fillP xs n 0 = List.replicate n ([], 0) := by simp [fillP]
    rw [h1]
    exact PR.made hown fun k hk => madeP_at hk
  clear hown hg
  go_wp2
  go_loopw [4] (fun i wr => ∃ k : Nat, k ≤ n ∧ i = .int .i64 k ∧ PR wr w.heap.size wr.heap.size n (fillP xs n k) ∧ Below w.heap.size w wr) (fun i _ => n - (intOf i).toNat)
  case atStart => exact ⟨0, Nat.zero_le _, rfl, hrow, hB⟩
  case round =>
    clear hrow hB
    obtain ⟨k, hk, rfl, ho, hbel⟩ := hrel
    obtain ⟨wo, rfl⟩ : ∃ wo : World, wo = wr := ⟨_, rfl⟩
    by_cases hlt : k < n
    · obtain ⟨b, off, rfl, hcell⟩ := (hr.below hbel).at (k := k) (by rw [Hn.out]; exact hlt)
      obtain ⟨x, y, hx⟩ := part_at Hn.out hlt
      obtain ⟨a1, c1, hc1, hc2, hri, _⟩ := hcell k _ hx
      have hxl : x.length ≤ 1048576 := HSh.out (x, y) (List.mem_of_getElem? hx)
      simp only at hc1 hc2 hri
      have Hx := Lib.hid hx; clear hx hcell
      obtain ⟨l, hl⟩ : ∃ l, x.length = l := ⟨_, rfl⟩
      rw [hl] at hc1 hxl
      have Hl := Lib.hid hl; clear hl
      have hs0 := hbel.size
      have hs1 : w.heap.size < wo.heap.size := by
        obtain ⟨vs, h1, _⟩ := ho
        exact (h1.lt _ rfl).2
      go_wp2_with fail
      refine (toPart_any _ _ _ x y _ hri Hl.out (by omega)).mono ?_
      rintro e w2 ⟨a2, c2, rfl, ho2, hb2⟩
      have ho1 := ho.below hb2
      obtain ⟨⟨old, hold⟩, hfz, ⟨old2, hold2⟩, hfz2, hput⟩ := ho1.put hlt ho2 (by omega) hb2.size y
      have hB2 := ((hbel.trans (hb2.mono hs0)).setCell (p := ⟨w.heap.size, k * 2, none⟩) (Nat.le_refl _) (.slice a2 l c2)).setCell (p := ⟨w.heap.size, k * 2 + 1, none⟩) (Nat.le_refl _) (.int .i64 y)
      rw [fillP_succ Hn.out hlt Hx.out] at hput
      have hput' : PR ((w2.setCell ⟨w.heap.size, k * 2, none⟩ (.slice a2 l c2)).setCell ⟨w.heap.size, k * 2 + 1, none⟩ (.int .i64 y)) w.heap.size ((w2.setCell ⟨w.heap.size, k * 2, none⟩ (.slice a2 l c2)).setCell ⟨w.heap.size, k * 2 + 1, none⟩ (.int .i64 y)).heap.size n (fillP xs n (k + 1)) := by simpa using hput
      have HP := Lib.hid hput'
      have HB := Lib.hid hB2
      clear ho ho1 ho2 hput hput' hri hb2 hB2
      go_wp2
      go_roundw
      case rel => exact ⟨k + 1, by omega, by go_num, HP.out, HB.out⟩
      case measure => simp [intOf]; omega
    · obtain rfl : k = n := by omega
      go_wp2
      go_ret
      rw [fillP_all Hn.out] at ho
      exact ⟨_, _, rfl, ⟨Hn.out, ho.rd⟩, hbel⟩
end Go.Proofs.Ytiiiiolifpaehaa
