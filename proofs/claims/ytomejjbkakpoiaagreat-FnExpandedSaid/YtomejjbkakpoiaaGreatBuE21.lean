/-
  Contract of l2Open.
  Contracts of l2Variable, l2Demazure, l2Isobaric.
-/
import Derived.Test.YtomejjbkakpoiaaGreatBuE11
import Derived.Test.YtomejjbkakpoiaaGreatBuE20
import Derived.Test.YtomejjbkakpoiaaGreatBuE17
namespace Go.Proofs.YtomejjbkakpoiaaGreat
open Go.RowKit

theorem mons_take {xs : List (List Int × Int)} {k : Nat} {s : List Int} {x : Int} (hx : xs[k]? = some (s, x)) : monsOf (xs.take k) ++ [(keyL s, x)] = monsOf (xs.take (k + 1)) := by
  unfold monsOf
  rw [take_at hx, List.map_append]
  rfl
set_option maxRecDepth 100000 in
set_option maxHeartbeats 6400000 in
theorem l2Open_any (a : Option Addr) (n c : Nat) (xs : List (List Int × Int)) (w : World) (hr : RP w a xs) (hn : xs.length = n) (hok : polyOk xs = true) :
    Calls Tryz.prog 104 #[.slice a n c] w fun e w' => ∃ a' c', e = .returned (.slice a' n c') ∧ MO w' w.heap.size w'.heap.size a' n c' (monsOf xs) ∧ Below w.heap.size w w' := by
  have hnb : n ≤ 600 := by rw [← hn]; exact polyOk_len hok
  have Hn := Lib.hid hn; clear hn
  have Hok := Lib.hid hok; clear hok
  have hB0 : Below w.heap.size w (w.alloc (.cells #[] 134)) := (Below.refl _ _).alloc (Nat.le_refl _) _
  have hm0 : MO (w.alloc (.cells #[] 134)) w.heap.size (w.alloc (.cells #[] 134)).heap.size (some ⟨w.heap.size, 0, none⟩) 0 0 [] := MO.made w
  go_enter Tryz.func104, Tryz.ntmps104
  go_wp2
  go_loopw [3, 4] (fun ov kv wr => Hid (∃ (k : Nat) (a' : Option Addr) (c' : Nat), kv = .int .i64 k ∧ k ≤ n ∧ ov = .slice a' k c' ∧ MO wr w.heap.size wr.heap.size a' k c' (monsOf (xs.take k))) ∧ Below w.heap.size w wr) (fun _ kv _ => n - (intOf kv).toNat)
  case atStart => exact ⟨⟨0, _, _, rfl, by omega, rfl, hm0⟩, hB0⟩
  case round =>
    clear hm0 hB0
    obtain ⟨HV, hB⟩ := hrel
    obtain ⟨wo, rfl⟩ : ∃ wo : World, wo = wr := ⟨_, rfl⟩
    obtain ⟨k, a1, c1, rfl, hk, rfl, ho⟩ := HV.out
    clear HV
    have hbs := hB.size
    have Ho := Lib.hid (fun d : Nat => ho.below (Drew.below (Drew.drewN wo d) _))
    have Ho0 := Lib.hid ho
    clear ho
    by_cases hlt : k < n
    · obtain ⟨b, off, rfl, hcell⟩ := hr.at (k := k) (by rw [Hn.out]; exact hlt)
      obtain ⟨s, x, hx⟩ := part_at Hn.out hlt
      obtain ⟨a2, c2, p1, p2, hri, hcap⟩ := hcell k _ hx
      simp only at p1 p2 hri hcap
      obtain ⟨s7, sd, _, x1, x2, _⟩ := polyOk_each Hok.out hx
      rw [s7] at p1 hcap
      have Hst := Lib.hid (mons_take hx)
      have Hs7 := Lib.hid s7
      have Hsd := Lib.hid sd
      have hbz : b < w.heap.size := World.block_lt_of_cell? _ _ p1
      have S_of : ∀ w2, Below w.heap.size w w2 → w2.cell? ⟨b, off + k * 2, none⟩ = some (.slice a2 7 c2) ∧ w2.cell? ⟨b, off + k * 2 + 1, none⟩ = some (.int .i64 x) ∧ RI w2 a2 s := by
        intro w2 hb2
        exact ⟨by rw [hb2.cell (p := ⟨b, off + k * 2, none⟩) hbz]; exact p1, by rw [hb2.cell (p := ⟨b, off + k * 2 + 1, none⟩) hbz]; exact p2, hri.below hb2⟩
      have HK := Lib.hid (fun w2 (h : RI w2 a2 s) => l2Key_any a2 7 c2 s w2 h Hs7.out (Nat.le_refl _) Hsd.out)
      have q1 : (k : Int) < (n : Int) := by omega
      have HO1 := Lib.hid (Ho.out 1)
      have d1 : Below w.heap.size w wo.drew := hB.trans (Drew.below ⟨1, rfl⟩ _)
      clear p1 p2 Ho Ho0 hcell hx sd s7 hri hcap x1 x2
      go_wp2
      go_region_held3 (fun w' => w'.cell? ⟨b, off + k * 2, none⟩ = some (.slice a2 7 c2) ∧ w'.cell? ⟨b, off + k * 2 + 1, none⟩ = some (.int .i64 x) ∧ RI w' a2 s) ((first | exact S_of _ hB | exact S_of _ d1 | exact S_of _ (Below.alloc d1 (Below.size d1) _) | exact S_of _ ‹_›))
        ((first | (go_at_call 122; refine (HK.out _ (by first | exact (S_of _ hB).2.2 | exact (S_of _ d1).2.2 | assumption)).mono ?_; rintro e w1 ⟨rfl, rfl⟩) | (refine step_pushM (by rfl) (by rfl) _ _ (by rfl) HO1.out (by rfl) (by rfl) (by omega) (Below.size d1) ?_; intro a3 c3 w3 ho3 hg3; have hB3 := below_grown d1 hg3 (Below.size d1) HO1.out.lo)))
      rw [Hst.out] at ho3
      have HO3 := Lib.hid ho3
      clear ho3 HO1 hg3 S_of d1
      go_wp2
      go_roundw
      case rel => exact ⟨⟨k + 1, _, _, by go_num, by omega, rfl, HO3.out⟩, hB3⟩
      case measure => simp [intOf]; omega
    · obtain rfl : k = n := by omega
      have hol := Ho0.out
      rw [List.take_of_length_le (by rw [Hn.out]; exact Nat.le_refl _)] at hol
      have Hol := Lib.hid hol
      have t1 : ¬ (k : Int) < (k : Int) := by omega
      clear hol Ho Ho0
      go_wp2
      go_ret
      exact ⟨_, _, rfl, Hol.out, hB⟩
end Go.Proofs.YtomejjbkakpoiaaGreat

namespace Go.Proofs.YtomejjbkakpoiaaGreat
open Go.RowKit

theorem uniq_le (l : List Int) : (uniq l).length ≤ l.length := by
  induction l with
  | nil => exact Nat.le_refl _
  | cons a l ih =>
    rw [uniq, List.length_cons, List.length_cons]
    have := List.length_filter_le (fun b => decide (b ≠ a)) (uniq l)
    omega
theorem canon_le (F : Mons) : (canon F).length ≤ F.length := by
  unfold canon keysOf
  rw [List.length_map, List.length_mergeSort]
  refine Nat.le_trans (List.length_filter_le _ _) (Nat.le_trans (uniq_le _) ?_)
  rw [List.length_map]
  exact Nat.le_refl _
theorem canon_64 (F : Mons) : ∀ p ∈ canon F, in64 p.2 := fun p hp => by
  have h := (canon_mem.1 hp).2
  rw [h]
  exact wrap_range _
theorem ddW_le (i : Nat) (p : Int × Int) : (ddW i p).length ≤ 127 := by
  unfold ddW ddKeys
  rw [List.length_map, List.length_map, List.length_range]
  have h1 := dig_isD p.1 i
  have h2 := dig_isD p.1 (i + 1)
  unfold isD at h1 h2
  omega
theorem dividedW_le (i : Nat) (F : Mons) : (dividedW i F).length ≤ F.length * 127 := by
  induction F with
  | nil => exact Nat.le_refl _
  | cons p F ih =>
    show (ddW i p ++ dividedW i F).length ≤ _
    have := ddW_le i p
    rw [List.length_append, List.length_cons]
    omega
theorem times_unit (i : Nat) (F : Mons) : timesM F [(unit i, 1)] = raisedM i F := by
  unfold timesM raisedM
  induction F with
  | nil => rfl
  | cons p F ih => rw [List.flatMap_cons, ih]; simp
theorem unit_in {i : Nat} (hi : i ≤ 6) : inK (unit i) := by
  unfold inK
  rcases seven hi with rfl | rfl | rfl | rfl | rfl | rfl | rfl <;> decide
theorem RM.one {w : World} {p q : Int} : RM (w.alloc (.cells #[.int .i64 p, .int .i64 q] 134)) (some ⟨w.heap.size, 0, none⟩) [(p, q)] := by
  refine .inr ⟨w.heap.size, 0, rfl, fun k x hx => ?_⟩
  have g0 := heap_alloc_new w (.cells #[.int .i64 p, .int .i64 q] 134)
  rcases k with _ | k
  · simp only [List.getElem?_cons_zero, Option.some.injEq] at hx
    subst hx
    exact ⟨by rw [cell_of_row _ _ 0 _ _ (0, 0) g0]; rfl, by rw [cell_of_row _ _ 1 _ _ (0, 0) g0]; rfl⟩
  · simp at hx
end Go.Proofs.YtomejjbkakpoiaaGreat
