/-
  Contract of l3Cells: the cells of a dream put in order.
-/
import Derived.Test.YtageojkepoejiaaBuP7
import Derived.Test.YtageojkepoejiaaBuP8
namespace Go.Proofs.Ytageojkepoejiaa
open Go.RowKit

/-- where x goes among the first k -/
def cutR (x : Int × Int) (l : List (Int × Int)) : Nat → Nat
  | 0 => 0
  | k + 1 => if cellLess x (cellOf l k) = true then cutR x l k else k + 1
theorem cutR_le (x : Int × Int) (l : List (Int × Int)) : ∀ k, cutR x l k ≤ k
  | 0 => Nat.le_refl _
  | k + 1 => by
    unfold cutR
    split
    · have := cutR_le x l k; omega
    · exact Nat.le_refl _
def insC (x : Int × Int) (l : List (Int × Int)) : List (Int × Int) := l.take (cutR x l l.length) ++ [x] ++ l.drop (cutR x l l.length)
def cellsTo (xs : List (Int × Int)) : Nat → List (Int × Int)
  | 0 => []
  | i + 1 => insC (cellOf xs i) (cellsTo xs i)
theorem insC_length (x : Int × Int) (l : List (Int × Int)) : (insC x l).length = l.length + 1 := by
  have := cutR_le x l l.length
  unfold insC
  simp
  omega
theorem cellsTo_length (xs : List (Int × Int)) : ∀ i, (cellsTo xs i).length = i
  | 0 => rfl
  | i + 1 => by rw [cellsTo, insC_length, cellsTo_length xs i]
theorem CO.addr {w : World} {B S : Nat} {a : Option Addr} {n c : Nat} {xs : List (Int × Int)} (h : CO w B S a n c xs) (hn : 0 < n) : ∃ g, a = some ⟨g, 0, none⟩ := by
  rcases h.1.2 with ⟨_, h0⟩ | ⟨g, cap, cur, hv, _⟩
  · omega
  · simp only [Value.slice.injEq] at hv
    exact ⟨g, hv.1⟩
theorem CO.cap {w : World} {B S : Nat} {a : Option Addr} {n c : Nat} {xs : List (Int × Int)} (h : CO w B S a n c xs) : n ≤ c := by
  rcases h.1.2 with ⟨_, h0⟩ | ⟨g, cap, cur, hv, _, _, h1, _⟩
  · omega
  · simp only [Value.slice.injEq] at hv
    omega
theorem RC.kept {w w' : World} {g o : Nat} {xs : List (Int × Int)} {row : Option Nat} (h : RC w (some ⟨g, o, none⟩) xs) (hg : w.grownBy w' row) (hne : row ≠ some g) : RC w' (some ⟨g, o, none⟩) xs := by
  rcases h with h | ⟨b, off, e, hc⟩
  · exact .inl h
  · simp only [Option.some.injEq, Addr.mk.injEq] at e
    obtain ⟨rfl, rfl, _⟩ := e
    exact .inr ⟨g, o, rfl, fun k p hp => ⟨hg.cell (hc k p hp).1 (fun e => hne e.symm), hg.cell (hc k p hp).2 (fun e => hne e.symm)⟩⟩

set_option maxRecDepth 100000 in
set_option maxHeartbeats 6400000 in
theorem l3Cells_any (a : Option Addr) (n c : Nat) (xs : List (Int × Int)) (w : World) (hr : RC w a xs) (hn : xs.length = n) (hb : n ≤ 1000) :
    Calls Try.prog 47 #[.slice a n c] w fun e w' => ∃ a' n' c', e = .returned (.slice a' n' c') ∧ CO w' w.heap.size w'.heap.size a' n' c' (cellsTo xs n) ∧ Below w.heap.size w w' := by
  have Hn := Lib.hid hn; clear hn
  have h0 : CO (w.alloc (.cells #[] 60)) w.heap.size (w.alloc (.cells #[] 60)).heap.size (some ⟨w.heap.size, 0, none⟩) 0 0 [] := CO.made w
  have hB0 : Below w.heap.size w (w.alloc (.cells #[] 60)) := (Below.refl _ _).alloc (Nat.le_refl _) _
  go_enter Try.func47, Try.ntmps47
  go_wp2
  go_loopw [3, 4] (fun ov iv wr => Hid (∃ (i g c' : Nat), i ≤ n ∧ iv = .int .i64 i ∧ ov = .slice (some ⟨g, 0, none⟩) i c' ∧ CO wr w.heap.size wr.heap.size (some ⟨g, 0, none⟩) i c' (cellsTo xs i) ∧ (i = 0 → c' = 0)) ∧ Below w.heap.size w wr) (fun _ iv _ => n - (intOf iv).toNat)
  case atStart => exact ⟨⟨0, _, _, Nat.zero_le _, rfl, rfl, h0, fun _ => rfl⟩, hB0⟩
  case round =>
    clear h0 hB0
    obtain ⟨HV, hB⟩ := hrel
    obtain ⟨wo, rfl⟩ : ∃ wo : World, wo = wr := ⟨_, rfl⟩
    obtain ⟨i, g, co, hi, rfl, rfl, hO, hc0⟩ := HV.out
    clear HV
    have hbs := hB.size
    by_cases hlt : i < n
    · obtain ⟨b, off, rfl, hcell⟩ := (hr.below hB).at (k := i) (by rw [Hn.out]; exact hlt)
      obtain ⟨p, q, hx⟩ := pair_at Hn.out hlt
      obtain ⟨hc1, hc2⟩ := hcell _ _ hx
      simp only at hc1 hc2
      have q1 : (i : Int) < (n : Int) := by omega
      have Hst := Lib.hid (show cellsTo xs (i + 1) = insC (p, q) (cellsTo xs i) by rw [cellsTo, cellOf_at hx])
      have Hyl := Lib.hid (cellsTo_length xs i)
      obtain ⟨ys, hys⟩ : ∃ ys, cellsTo xs i = ys := ⟨_, rfl⟩
      rw [hys] at Hst Hyl hO
      have HO := Lib.hid hO
      have hcap := hO.cap
      have Hc0 := Lib.hid hc0
      have Hrd := Lib.hid hO.rd
      obtain ⟨K, hK⟩ : ∃ K, cutR (p, q) ys i = K := ⟨_, rfl⟩
      have HK := Lib.hid hK
      clear hcell hx hys hO hc0
      go_wp2
      go_loopw [5] (fun kv wr => Hid (∃ k : Nat, kv = .int .i64 k ∧ k ≤ i ∧ cutR (p, q) ys k = K) ∧ Below wo.heap.size wo wr) (fun kv _ => (intOf kv).toNat)
      case atStart => exact ⟨⟨i, rfl, Nat.le_refl _, hK⟩, Below.refl _ _⟩
      case round =>
        obtain ⟨HV, hBi⟩ := hrel
        obtain ⟨wq, rfl⟩ : ∃ wq : World, wq = wr := ⟨_, rfl⟩
        obtain ⟨k, rfl, hk, hkK⟩ := HV.out
        clear HV hK
        by_cases hk0 : k = 0
        · subst hk0
          have HK0 := Lib.hid (show K = 0 from hkK.symm)
          have e0 : decide ((0 : Int) > 0) = false := rfl
          clear hkK
          by_cases hi0 : i = 0
          · subst hi0
            go_wp2
            go_quiet (fail)
            obtain rfl : K = 0 := HK0.out
            have hBq := hBi.trans (Drew.below (Drew.drewN wq nq) wo.heap.size)
            obtain rfl : co = 0 := by simpa using Hc0.out
            simp only [Nat.zero_mul, Nat.add_zero] at hc1 hc2
            obtain ⟨W0, hW0⟩ : ∃ W0, wq.drewN nq = W0 := ⟨_, rfl⟩
            rw [hW0] at hBq ⊢
            have hB5 : Below wo.heap.size wo W0.drew := hBq.trans (Drew.below ⟨1, rfl⟩ _)
            have hz := hB5.size
            have hzd : W0.drew.heap.size = W0.heap.size := rfl
            have HTK := Lib.hid (fun W (h : Below wo.heap.size wo W) => (Hrd.out.below h).take (0))
            have HDR := Lib.hid (fun W (h : Below wo.heap.size wo W) => (Hrd.out.below h).drop (0))
            rw [Nat.zero_add] at HDR
            have hcl1 : ∀ W, Below wo.heap.size wo W → W.cell? ⟨b, off, none⟩ = some (.int .i64 p) := fun W h => by rw [h.cell (World.block_lt_of_cell? _ _ hc1)]; exact hc1
            have hcl2 : ∀ W, Below wo.heap.size wo W → W.cell? ⟨b, off + 1, none⟩ = some (.int .i64 q) := fun W h => by rw [h.cell (World.block_lt_of_cell? _ _ hc2)]; exact hc2
            have l1 : (ys.take (0)).length = 0 := by rw [List.length_take, Hyl.out]; omega
            have l3 : (ys.drop (0)).length = 0 - (0) := by rw [List.length_drop, Hyl.out]
            have hemp : CO (W0.drew.alloc (.cells #[] 60)) wo.heap.size (W0.drew.alloc (.cells #[] 60)).heap.size (some ⟨W0.heap.size, 0, none⟩) 0 0 [] := (CO.made W0.drew).mono hz (Nat.le_refl _)
            have hempa := hemp.below ((Below.refl (W0.drew.alloc (.cells #[] 60)).heap.size _).alloc (Nat.le_refl _) (.cells #[.int .i64 p, .int .i64 q] 60))
            have hemp2 : CO ((W0.drew.alloc (.cells #[.int .i64 p, .int .i64 q] 60)).alloc (.cells #[] 60)) wo.heap.size ((W0.drew.alloc (.cells #[.int .i64 p, .int .i64 q] 60)).alloc (.cells #[] 60)).heap.size (some ⟨W0.heap.size + 1, 0, none⟩) 0 0 [] := by
              have h := CO.made (W0.drew.alloc (.cells #[.int .i64 p, .int .i64 q] 60))
              rw [show (W0.drew.alloc (.cells #[.int .i64 p, .int .i64 q] 60)).heap.size = W0.heap.size + 1 by simp] at h
              exact h.mono (by omega) (Nat.le_refl _)
            have nB : ∀ w4, ((W0.drew.alloc (.cells #[] 60)).alloc (.cells #[.int .i64 p, .int .i64 q] 60)).grownBy w4 (Value.slice (some ⟨W0.heap.size, 0, none⟩) 0 0).ownBlock → RC w4 (some ⟨W0.heap.size + 1, 0, none⟩) [(p, q)] := by
              intro w4 hg
              have h0 := RC.one (W0.drew.alloc (.cells #[] 60)) p q
              rw [show (W0.drew.alloc (.cells #[] 60)).heap.size = W0.heap.size + 1 by simp] at h0
              exact h0.kept hg (by simp [Value.ownBlock])
            have nC : ∀ w4, ((W0.drew.alloc (.cells #[.int .i64 p, .int .i64 q] 60)).alloc (.cells #[] 60)).grownBy w4 (Value.slice (some ⟨W0.heap.size + 1, 0, none⟩) 0 0).ownBlock → RC w4 (some ⟨W0.heap.size, 0, none⟩) [(p, q)] :=
              fun w4 hg => ((RC.one W0.drew p q).kept (World.grownBy_alloc _ _ none) (by simp)).kept hg (by simp [Value.ownBlock])
            have Hst2 := Lib.hid (show cellsTo xs (0 + 1) = ys.take (0) ++ [(p, q)] ++ ys.drop (0) by rw [Hst.out, insC, Hyl.out, HK.out])
            clear hc1 hc2 hW0
            go_wp2
            go_region_held3 (fun W => Below wo.heap.size wo W) ((first | assumption | exact Below.alloc ‹_› (Below.size ‹_›) _))
              ((first
                | (refine step_appC (by rfl) _ _ (by rfl) ho5 (by rfl) (by rfl) (show RC _ (some _) [] from .inl rfl) rfl (show 0 + 1 + 0 = 0 + 1 by omega) (by omega) (Below.size ‹_›) ?_; intro a6 c6 w6 ho6 hg6; have hb6 : Below wo.heap.size wo w6 := below_grown ‹_› hg6 (Below.size ‹_›) ho5.lo)
                | (refine step_appC (by rfl) _ _ (by rfl) (CO.below ho4 ((Below.refl _ _).alloc (Nat.le_refl _) _)) (by rfl) (by rfl) (RC.one _ p q) rfl (show 0 + 1 = 0 + 1 from rfl) (by omega) (Below.size ‹_›) ?_; intro a5 c5 w5 ho5 hg5; have hb5 : Below wo.heap.size wo w5 := below_grown ‹_› hg5 (Below.size ‹_›) ho4.lo)
                | (refine step_appC (by rfl) _ _ (by rfl) ho4 (by rfl) (by rfl) (nB _ hg4) rfl (show 0 + 1 = 0 + 1 from rfl) (by omega) (Below.size ‹_›) ?_; intro a5 c5 w5 ho5 hg5; have hb5 : Below wo.heap.size wo w5 := below_grown ‹_› hg5 (Below.size ‹_›) ho4.lo)
                | (refine step_appC (by rfl) _ _ (by rfl) ho4 (by rfl) (by rfl) (nC _ hg4) rfl (show 0 + 1 = 0 + 1 from rfl) (by omega) (Below.size ‹_›) ?_; intro a5 c5 w5 ho5 hg5; have hb5 : Below wo.heap.size wo w5 := below_grown ‹_› hg5 (Below.size ‹_›) ho4.lo)
                | (refine step_appC (by rfl) _ _ (by rfl) hemp (by rfl) (by rfl) (HTK.out _ ‹_›) l1 (Nat.zero_add (0)) (by omega) (Below.size ‹_›) ?_; intro a4 c4 w4 ho4 hg4; have hb4 : Below wo.heap.size wo w4 := below_grown ‹_› hg4 (Below.size ‹_›) hemp.lo)
                | (refine step_appC (by rfl) _ _ (by rfl) hempa (by rfl) (by rfl) (HTK.out _ ‹_›) l1 (Nat.zero_add (0)) (by omega) (Below.size ‹_›) ?_; intro a4 c4 w4 ho4 hg4; have hb4 : Below wo.heap.size wo w4 := below_grown ‹_› hg4 (Below.size ‹_›) hemp.lo)
                | (refine step_appC (by rfl) _ _ (by rfl) hemp2 (by rfl) (by rfl) (HTK.out _ ‹_›) l1 (Nat.zero_add (0)) (by omega) (Below.size ‹_›) ?_; intro a4 c4 w4 ho4 hg4; have hb4 : Below wo.heap.size wo w4 := below_grown ‹_› hg4 (Below.size ‹_›) hemp2.lo)))
            all_goals
              have hBf := hB.trans (hb6.mono hB.size)
              have HO6 := Lib.hid (show CO w6 w.heap.size w6.heap.size a6 (0 + 1) c6 (cellsTo xs (0 + 1)) by rw [Hst2.out]; exact (show CO w6 wo.heap.size w6.heap.size a6 (0 + 1) c6 (ys.take (0) ++ [(p, q)] ++ ys.drop (0)) by rw [List.drop_of_length_le (by rw [Hyl.out]; omega)]; simpa using ho6).mono hB.size (Nat.le_refl _))
              clear ho6 ho5 ho4 hb4 hb5 hb6 hg4 hg5 hg6
              go_wp2
              go_roundw
              case rel =>
                obtain ⟨g6, rfl⟩ := HO6.out.addr (by omega)
                exact ⟨⟨0 + 1, g6, c6, by omega, by go_num, rfl, HO6.out, fun h => by omega⟩, hBf⟩
              case measure => simp [intOf]; omega
          · have hgt : 0 < i := by omega
            go_wp2
            go_quiet (fail)
            obtain rfl : K = 0 := HK0.out
            have hBq := hBi.trans (Drew.below (Drew.drewN wq nq) wo.heap.size)
            have hq1 : (0 : Int) ≤ (i : Int) := by omega
            have hq2 : ¬ co = 0 := by omega
            obtain ⟨W0, hW0⟩ : ∃ W0, wq.drewN nq = W0 := ⟨_, rfl⟩
            rw [hW0] at hBq ⊢
            have hB5 : Below wo.heap.size wo W0.drew := hBq.trans (Drew.below ⟨1, rfl⟩ _)
            have hz := hB5.size
            have hzd : W0.drew.heap.size = W0.heap.size := rfl
            have HTK := Lib.hid (fun W (h : Below wo.heap.size wo W) => (Hrd.out.below h).take (0))
            have HDR := Lib.hid (fun W (h : Below wo.heap.size wo W) => (Hrd.out.below h).drop (0))
            rw [Nat.zero_add] at HDR
            have hcl1 : ∀ W, Below wo.heap.size wo W → W.cell? ⟨b, off + i * 2, none⟩ = some (.int .i64 p) := fun W h => by rw [h.cell (World.block_lt_of_cell? _ _ hc1)]; exact hc1
            have hcl2 : ∀ W, Below wo.heap.size wo W → W.cell? ⟨b, off + i * 2 + 1, none⟩ = some (.int .i64 q) := fun W h => by rw [h.cell (World.block_lt_of_cell? _ _ hc2)]; exact hc2
            have l1 : (ys.take (0)).length = 0 := by rw [List.length_take, Hyl.out]; omega
            have l3 : (ys.drop (0)).length = i - (0) := by rw [List.length_drop, Hyl.out]
            have hemp : CO (W0.drew.alloc (.cells #[] 60)) wo.heap.size (W0.drew.alloc (.cells #[] 60)).heap.size (some ⟨W0.heap.size, 0, none⟩) 0 0 [] := (CO.made W0.drew).mono hz (Nat.le_refl _)
            have hempa := hemp.below ((Below.refl (W0.drew.alloc (.cells #[] 60)).heap.size _).alloc (Nat.le_refl _) (.cells #[.int .i64 p, .int .i64 q] 60))
            have hemp2 : CO ((W0.drew.alloc (.cells #[.int .i64 p, .int .i64 q] 60)).alloc (.cells #[] 60)) wo.heap.size ((W0.drew.alloc (.cells #[.int .i64 p, .int .i64 q] 60)).alloc (.cells #[] 60)).heap.size (some ⟨W0.heap.size + 1, 0, none⟩) 0 0 [] := by
              have h := CO.made (W0.drew.alloc (.cells #[.int .i64 p, .int .i64 q] 60))
              rw [show (W0.drew.alloc (.cells #[.int .i64 p, .int .i64 q] 60)).heap.size = W0.heap.size + 1 by simp] at h
              exact h.mono (by omega) (Nat.le_refl _)
            have nB : ∀ w4, ((W0.drew.alloc (.cells #[] 60)).alloc (.cells #[.int .i64 p, .int .i64 q] 60)).grownBy w4 (Value.slice (some ⟨W0.heap.size, 0, none⟩) 0 0).ownBlock → RC w4 (some ⟨W0.heap.size + 1, 0, none⟩) [(p, q)] := by
              intro w4 hg
              have h0 := RC.one (W0.drew.alloc (.cells #[] 60)) p q
              rw [show (W0.drew.alloc (.cells #[] 60)).heap.size = W0.heap.size + 1 by simp] at h0
              exact h0.kept hg (by simp [Value.ownBlock])
            have nC : ∀ w4, ((W0.drew.alloc (.cells #[.int .i64 p, .int .i64 q] 60)).alloc (.cells #[] 60)).grownBy w4 (Value.slice (some ⟨W0.heap.size + 1, 0, none⟩) 0 0).ownBlock → RC w4 (some ⟨W0.heap.size, 0, none⟩) [(p, q)] :=
              fun w4 hg => ((RC.one W0.drew p q).kept (World.grownBy_alloc _ _ none) (by simp)).kept hg (by simp [Value.ownBlock])
            have Hst2 := Lib.hid (show cellsTo xs (i + 1) = ys.take (0) ++ [(p, q)] ++ ys.drop (0) by rw [Hst.out, insC, Hyl.out, HK.out])
            clear hc1 hc2 hW0
            go_wp2
            go_region_held3 (fun W => Below wo.heap.size wo W) ((first | assumption | exact Below.alloc ‹_› (Below.size ‹_›) _))
              ((first
                | (refine step_appC (by rfl) _ _ (by rfl) ho5 (by rfl) (by rfl) (HDR.out _ ‹_›) l3 (show 0 + 1 + (i - (0)) = i + 1 by omega) (by omega) (Below.size ‹_›) ?_; intro a6 c6 w6 ho6 hg6; have hb6 : Below wo.heap.size wo w6 := below_grown ‹_› hg6 (Below.size ‹_›) ho5.lo)
                | (refine step_appC (by rfl) _ _ (by rfl) (CO.below ho4 ((Below.refl _ _).alloc (Nat.le_refl _) _)) (by rfl) (by rfl) (RC.one _ p q) rfl (show 0 + 1 = 0 + 1 from rfl) (by omega) (Below.size ‹_›) ?_; intro a5 c5 w5 ho5 hg5; have hb5 : Below wo.heap.size wo w5 := below_grown ‹_› hg5 (Below.size ‹_›) ho4.lo)
                | (refine step_appC (by rfl) _ _ (by rfl) ho4 (by rfl) (by rfl) (nB _ hg4) rfl (show 0 + 1 = 0 + 1 from rfl) (by omega) (Below.size ‹_›) ?_; intro a5 c5 w5 ho5 hg5; have hb5 : Below wo.heap.size wo w5 := below_grown ‹_› hg5 (Below.size ‹_›) ho4.lo)
                | (refine step_appC (by rfl) _ _ (by rfl) ho4 (by rfl) (by rfl) (nC _ hg4) rfl (show 0 + 1 = 0 + 1 from rfl) (by omega) (Below.size ‹_›) ?_; intro a5 c5 w5 ho5 hg5; have hb5 : Below wo.heap.size wo w5 := below_grown ‹_› hg5 (Below.size ‹_›) ho4.lo)
                | (refine step_appC (by rfl) _ _ (by rfl) hemp (by rfl) (by rfl) (HTK.out _ ‹_›) l1 (Nat.zero_add (0)) (by omega) (Below.size ‹_›) ?_; intro a4 c4 w4 ho4 hg4; have hb4 : Below wo.heap.size wo w4 := below_grown ‹_› hg4 (Below.size ‹_›) hemp.lo)
                | (refine step_appC (by rfl) _ _ (by rfl) hempa (by rfl) (by rfl) (HTK.out _ ‹_›) l1 (Nat.zero_add (0)) (by omega) (Below.size ‹_›) ?_; intro a4 c4 w4 ho4 hg4; have hb4 : Below wo.heap.size wo w4 := below_grown ‹_› hg4 (Below.size ‹_›) hemp.lo)
                | (refine step_appC (by rfl) _ _ (by rfl) hemp2 (by rfl) (by rfl) (HTK.out _ ‹_›) l1 (Nat.zero_add (0)) (by omega) (Below.size ‹_›) ?_; intro a4 c4 w4 ho4 hg4; have hb4 : Below wo.heap.size wo w4 := below_grown ‹_› hg4 (Below.size ‹_›) hemp2.lo)))
            all_goals
              have hBf := hB.trans (hb6.mono hB.size)
              have HO6 := Lib.hid (show CO w6 w.heap.size w6.heap.size a6 (i + 1) c6 (cellsTo xs (i + 1)) by rw [Hst2.out]; exact (show CO w6 wo.heap.size w6.heap.size a6 (i + 1) c6 (ys.take (0) ++ [(p, q)] ++ ys.drop (0)) by simpa using ho6).mono hB.size (Nat.le_refl _))
              clear ho6 ho5 ho4 hb4 hb5 hb6 hg4 hg5 hg6
              go_wp2
              go_roundw
              case rel =>
                obtain ⟨g6, rfl⟩ := HO6.out.addr (by omega)
                exact ⟨⟨i + 1, g6, c6, by omega, by go_num, rfl, HO6.out, fun h => by omega⟩, hBf⟩
              case measure => simp [intOf]; omega
        · obtain ⟨j, hj⟩ : ∃ j, k = j + 1 := ⟨k - 1, by omega⟩
          obtain ⟨u, v, hy⟩ := pair_at Hyl.out (show j < i by omega)
          rcases Hrd.out.below hBi with h0 | ⟨b2, off2, e2, hcell⟩
          · rw [h0] at hy; simp at hy
          simp only [Option.some.injEq, Addr.mk.injEq] at e2
          obtain ⟨rfl, rfl, _⟩ := e2
          obtain ⟨hd1, hd2⟩ := hcell _ _ hy
          simp only at hd1 hd2
          have hcut : cutR (p, q) ys k = if cellLess (p, q) (u, v) = true then cutR (p, q) ys j else k := by rw [hj, cutR, cellOf_at hy]
          have hw1 : wq.cell? ⟨b, off + i * 2, none⟩ = some (.int .i64 p) := by rw [hBi.cell (World.block_lt_of_cell? _ _ hc1)]; exact hc1
          have hw2 : wq.cell? ⟨b, off + i * 2 + 1, none⟩ = some (.int .i64 q) := by rw [hBi.cell (World.block_lt_of_cell? _ _ hc2)]; exact hc2
          have S_of : ∀ w2, Below wq.heap.size wq w2 → w2.cell? ⟨b, off + i * 2, none⟩ = some (.int .i64 p) ∧ w2.cell? ⟨b, off + i * 2 + 1, none⟩ = some (.int .i64 q) ∧ w2.cell? ⟨g, 0 + j * 2, none⟩ = some (.int .i64 u) ∧ w2.cell? ⟨g, 0 + j * 2 + 1, none⟩ = some (.int .i64 v) := fun w2 hb => by
            refine ⟨?_, ?_, ?_, ?_⟩
            · rw [hb.cell (World.block_lt_of_cell? _ _ hw1)]; exact hw1
            · rw [hb.cell (World.block_lt_of_cell? _ _ hw2)]; exact hw2
            · rw [hb.cell (World.block_lt_of_cell? _ _ hd1)]; exact hd1
            · rw [hb.cell (World.block_lt_of_cell? _ _ hd2)]; exact hd2
          simp only [Nat.zero_add] at S_of
          have d1 : Below wq.heap.size wq wq.drew := Drew.below ⟨1, rfl⟩ _
          have q3 : (j : Int) < (i : Int) := by omega
          have q4 : IntKind.i64.wrap ((k : Int) - 1) = (j : Int) := by rw [IntWalk.i64_in _ (by omega)]; omega
          have q5 : (0 : Int) < (k : Int) := by omega
          have q7 : 0 < k := by omega
          have q8 : wrap64 ((k : Int) - 1) = (j : Int) := by unfold wrap64; omega
          have q9 : (0 : Int) ≤ (j : Int) := by omega
          have Hj := Lib.hid hj
          clear hy hcell hj
          cases hls : cellLess (p, q) (u, v)
          · have HKk := Lib.hid (show K = k by rw [← hkK, hcut, hls]; rfl)
            have Hls := Lib.hid hls
            clear hls hcut hkK
            go_wp2
            go_region_held3 (fun w' => w'.cell? ⟨b, off + i * 2, none⟩ = some (.int .i64 p) ∧ w'.cell? ⟨b, off + i * 2 + 1, none⟩ = some (.int .i64 q) ∧ w'.cell? ⟨g, j * 2, none⟩ = some (.int .i64 u) ∧ w'.cell? ⟨g, j * 2 + 1, none⟩ = some (.int .i64 v)) ((first | exact S_of _ d1 | exact S_of _ d2))
              ((first | (go_at_call 90; refine (is (l3Less_any p q u v _) Hls.out).mono ?_; rintro e w3 ⟨rfl, hb3⟩; have d2 := Below.trans d1 (hb3.mono (Below.size d1)))))
            have hBq := hBi.trans (d2.mono hBi.size)
            clear S_of d1 d2 hb3 hw1 hw2 hd1 hd2
            obtain rfl : K = k := HKk.out
            by_cases hki : K < i
            · have hq1 : (K : Int) ≤ (i : Int) := by omega
              have hq2 : ¬ co = K := by omega
              have hq3 : (K : Int) ≤ (co : Int) := by omega
              obtain ⟨W0, hW0⟩ : ∃ W0, w3 = W0 := ⟨_, rfl⟩
              rw [hW0] at hBq ⊢
              have hB5 : Below wo.heap.size wo W0.drew := hBq.trans (Drew.below ⟨1, rfl⟩ _)
              have hz := hB5.size
              have hzd : W0.drew.heap.size = W0.heap.size := rfl
              have HTK := Lib.hid (fun W (h : Below wo.heap.size wo W) => (Hrd.out.below h).take (K))
              have HDR := Lib.hid (fun W (h : Below wo.heap.size wo W) => (Hrd.out.below h).drop (K))
              rw [Nat.zero_add] at HDR
              have hcl1 : ∀ W, Below wo.heap.size wo W → W.cell? ⟨b, off + i * 2, none⟩ = some (.int .i64 p) := fun W h => by rw [h.cell (World.block_lt_of_cell? _ _ hc1)]; exact hc1
              have hcl2 : ∀ W, Below wo.heap.size wo W → W.cell? ⟨b, off + i * 2 + 1, none⟩ = some (.int .i64 q) := fun W h => by rw [h.cell (World.block_lt_of_cell? _ _ hc2)]; exact hc2
              have l1 : (ys.take (K)).length = K := by rw [List.length_take, Hyl.out]; omega
              have l3 : (ys.drop (K)).length = i - (K) := by rw [List.length_drop, Hyl.out]
              have hemp : CO (W0.drew.alloc (.cells #[] 60)) wo.heap.size (W0.drew.alloc (.cells #[] 60)).heap.size (some ⟨W0.heap.size, 0, none⟩) 0 0 [] := (CO.made W0.drew).mono hz (Nat.le_refl _)
              have hempa := hemp.below ((Below.refl (W0.drew.alloc (.cells #[] 60)).heap.size _).alloc (Nat.le_refl _) (.cells #[.int .i64 p, .int .i64 q] 60))
              have hemp2 : CO ((W0.drew.alloc (.cells #[.int .i64 p, .int .i64 q] 60)).alloc (.cells #[] 60)) wo.heap.size ((W0.drew.alloc (.cells #[.int .i64 p, .int .i64 q] 60)).alloc (.cells #[] 60)).heap.size (some ⟨W0.heap.size + 1, 0, none⟩) 0 0 [] := by
                have h := CO.made (W0.drew.alloc (.cells #[.int .i64 p, .int .i64 q] 60))
                rw [show (W0.drew.alloc (.cells #[.int .i64 p, .int .i64 q] 60)).heap.size = W0.heap.size + 1 by simp] at h
                exact h.mono (by omega) (Nat.le_refl _)
              have nB : ∀ w4, ((W0.drew.alloc (.cells #[] 60)).alloc (.cells #[.int .i64 p, .int .i64 q] 60)).grownBy w4 (Value.slice (some ⟨W0.heap.size, 0, none⟩) 0 0).ownBlock → RC w4 (some ⟨W0.heap.size + 1, 0, none⟩) [(p, q)] := by
                intro w4 hg
                have h0 := RC.one (W0.drew.alloc (.cells #[] 60)) p q
                rw [show (W0.drew.alloc (.cells #[] 60)).heap.size = W0.heap.size + 1 by simp] at h0
                exact h0.kept hg (by simp [Value.ownBlock])
              have nC : ∀ w4, ((W0.drew.alloc (.cells #[.int .i64 p, .int .i64 q] 60)).alloc (.cells #[] 60)).grownBy w4 (Value.slice (some ⟨W0.heap.size + 1, 0, none⟩) 0 0).ownBlock → RC w4 (some ⟨W0.heap.size, 0, none⟩) [(p, q)] :=
                fun w4 hg => ((RC.one W0.drew p q).kept (World.grownBy_alloc _ _ none) (by simp)).kept hg (by simp [Value.ownBlock])
              have Hst2 := Lib.hid (show cellsTo xs (i + 1) = ys.take (K) ++ [(p, q)] ++ ys.drop (K) by rw [Hst.out, insC, Hyl.out, HK.out])
              clear hc1 hc2 hW0
              go_wp2
              go_region_held3 (fun W => Below wo.heap.size wo W) ((first | assumption | exact Below.alloc ‹_› (Below.size ‹_›) _))
                ((first
                  | (refine step_appC (by rfl) _ _ (by rfl) ho5 (by rfl) (by rfl) (HDR.out _ ‹_›) l3 (show K + 1 + (i - (K)) = i + 1 by omega) (by omega) (Below.size ‹_›) ?_; intro a6 c6 w6 ho6 hg6; have hb6 : Below wo.heap.size wo w6 := below_grown ‹_› hg6 (Below.size ‹_›) ho5.lo)
                  | (refine step_appC (by rfl) _ _ (by rfl) (CO.below ho4 ((Below.refl _ _).alloc (Nat.le_refl _) _)) (by rfl) (by rfl) (RC.one _ p q) rfl (show K + 1 = K + 1 from rfl) (by omega) (Below.size ‹_›) ?_; intro a5 c5 w5 ho5 hg5; have hb5 : Below wo.heap.size wo w5 := below_grown ‹_› hg5 (Below.size ‹_›) ho4.lo)
                  | (refine step_appC (by rfl) _ _ (by rfl) ho4 (by rfl) (by rfl) (nB _ hg4) rfl (show K + 1 = K + 1 from rfl) (by omega) (Below.size ‹_›) ?_; intro a5 c5 w5 ho5 hg5; have hb5 : Below wo.heap.size wo w5 := below_grown ‹_› hg5 (Below.size ‹_›) ho4.lo)
                  | (refine step_appC (by rfl) _ _ (by rfl) ho4 (by rfl) (by rfl) (nC _ hg4) rfl (show K + 1 = K + 1 from rfl) (by omega) (Below.size ‹_›) ?_; intro a5 c5 w5 ho5 hg5; have hb5 : Below wo.heap.size wo w5 := below_grown ‹_› hg5 (Below.size ‹_›) ho4.lo)
                  | (refine step_appC (by rfl) _ _ (by rfl) hemp (by rfl) (by rfl) (HTK.out _ ‹_›) l1 (Nat.zero_add (K)) (by omega) (Below.size ‹_›) ?_; intro a4 c4 w4 ho4 hg4; have hb4 : Below wo.heap.size wo w4 := below_grown ‹_› hg4 (Below.size ‹_›) hemp.lo)
                  | (refine step_appC (by rfl) _ _ (by rfl) hempa (by rfl) (by rfl) (HTK.out _ ‹_›) l1 (Nat.zero_add (K)) (by omega) (Below.size ‹_›) ?_; intro a4 c4 w4 ho4 hg4; have hb4 : Below wo.heap.size wo w4 := below_grown ‹_› hg4 (Below.size ‹_›) hemp.lo)
                  | (refine step_appC (by rfl) _ _ (by rfl) hemp2 (by rfl) (by rfl) (HTK.out _ ‹_›) l1 (Nat.zero_add (K)) (by omega) (Below.size ‹_›) ?_; intro a4 c4 w4 ho4 hg4; have hb4 : Below wo.heap.size wo w4 := below_grown ‹_› hg4 (Below.size ‹_›) hemp2.lo)))
              all_goals
                have hBf := hB.trans (hb6.mono hB.size)
                have HO6 := Lib.hid (show CO w6 w.heap.size w6.heap.size a6 (i + 1) c6 (cellsTo xs (i + 1)) by rw [Hst2.out]; exact (show CO w6 wo.heap.size w6.heap.size a6 (i + 1) c6 (ys.take (K) ++ [(p, q)] ++ ys.drop (K)) by simpa using ho6).mono hB.size (Nat.le_refl _))
                clear ho6 ho5 ho4 hb4 hb5 hb6 hg4 hg5 hg6
                go_wp2
                go_roundw
                case rel =>
                  obtain ⟨g6, rfl⟩ := HO6.out.addr (by omega)
                  exact ⟨⟨i + 1, g6, c6, by omega, by go_num, rfl, HO6.out, fun h => by omega⟩, hBf⟩
                case measure => simp [intOf]; omega
            · obtain rfl : i = K := by omega
              by_cases hck : co = i
              · subst hck
                have hq3 : (co : Int) ≤ (co : Int) := by omega
                obtain ⟨W0, hW0⟩ : ∃ W0, w3 = W0 := ⟨_, rfl⟩
                rw [hW0] at hBq ⊢
                have hB5 : Below wo.heap.size wo W0.drew := hBq.trans (Drew.below ⟨1, rfl⟩ _)
                have hz := hB5.size
                have hzd : W0.drew.heap.size = W0.heap.size := rfl
                have HTK := Lib.hid (fun W (h : Below wo.heap.size wo W) => (Hrd.out.below h).take (co))
                have HDR := Lib.hid (fun W (h : Below wo.heap.size wo W) => (Hrd.out.below h).drop (co))
                rw [Nat.zero_add] at HDR
                have hcl1 : ∀ W, Below wo.heap.size wo W → W.cell? ⟨b, off + co * 2, none⟩ = some (.int .i64 p) := fun W h => by rw [h.cell (World.block_lt_of_cell? _ _ hc1)]; exact hc1
                have hcl2 : ∀ W, Below wo.heap.size wo W → W.cell? ⟨b, off + co * 2 + 1, none⟩ = some (.int .i64 q) := fun W h => by rw [h.cell (World.block_lt_of_cell? _ _ hc2)]; exact hc2
                have l1 : (ys.take (co)).length = co := by rw [List.length_take, Hyl.out]; omega
                have l3 : (ys.drop (co)).length = co - (co) := by rw [List.length_drop, Hyl.out]
                have hemp : CO (W0.drew.alloc (.cells #[] 60)) wo.heap.size (W0.drew.alloc (.cells #[] 60)).heap.size (some ⟨W0.heap.size, 0, none⟩) 0 0 [] := (CO.made W0.drew).mono hz (Nat.le_refl _)
                have hempa := hemp.below ((Below.refl (W0.drew.alloc (.cells #[] 60)).heap.size _).alloc (Nat.le_refl _) (.cells #[.int .i64 p, .int .i64 q] 60))
                have hemp2 : CO ((W0.drew.alloc (.cells #[.int .i64 p, .int .i64 q] 60)).alloc (.cells #[] 60)) wo.heap.size ((W0.drew.alloc (.cells #[.int .i64 p, .int .i64 q] 60)).alloc (.cells #[] 60)).heap.size (some ⟨W0.heap.size + 1, 0, none⟩) 0 0 [] := by
                  have h := CO.made (W0.drew.alloc (.cells #[.int .i64 p, .int .i64 q] 60))
                  rw [show (W0.drew.alloc (.cells #[.int .i64 p, .int .i64 q] 60)).heap.size = W0.heap.size + 1 by simp] at h
                  exact h.mono (by omega) (Nat.le_refl _)
                have nB : ∀ w4, ((W0.drew.alloc (.cells #[] 60)).alloc (.cells #[.int .i64 p, .int .i64 q] 60)).grownBy w4 (Value.slice (some ⟨W0.heap.size, 0, none⟩) 0 0).ownBlock → RC w4 (some ⟨W0.heap.size + 1, 0, none⟩) [(p, q)] := by
                  intro w4 hg
                  have h0 := RC.one (W0.drew.alloc (.cells #[] 60)) p q
                  rw [show (W0.drew.alloc (.cells #[] 60)).heap.size = W0.heap.size + 1 by simp] at h0
                  exact h0.kept hg (by simp [Value.ownBlock])
                have nC : ∀ w4, ((W0.drew.alloc (.cells #[.int .i64 p, .int .i64 q] 60)).alloc (.cells #[] 60)).grownBy w4 (Value.slice (some ⟨W0.heap.size + 1, 0, none⟩) 0 0).ownBlock → RC w4 (some ⟨W0.heap.size, 0, none⟩) [(p, q)] :=
                  fun w4 hg => ((RC.one W0.drew p q).kept (World.grownBy_alloc _ _ none) (by simp)).kept hg (by simp [Value.ownBlock])
                have Hst2 := Lib.hid (show cellsTo xs (co + 1) = ys.take (co) ++ [(p, q)] ++ ys.drop (co) by rw [Hst.out, insC, Hyl.out, HK.out])
                clear hc1 hc2 hW0
                go_wp2
                go_region_held3 (fun W => Below wo.heap.size wo W) ((first | assumption | exact Below.alloc ‹_› (Below.size ‹_›) _))
                  ((first
                    | (refine step_appC (by rfl) _ _ (by rfl) ho5 (by rfl) (by rfl) (show RC _ (some _) [] from .inl rfl) rfl (show co + 1 + 0 = co + 1 by omega) (by omega) (Below.size ‹_›) ?_; intro a6 c6 w6 ho6 hg6; have hb6 : Below wo.heap.size wo w6 := below_grown ‹_› hg6 (Below.size ‹_›) ho5.lo)
                    | (refine step_appC (by rfl) _ _ (by rfl) (CO.below ho4 ((Below.refl _ _).alloc (Nat.le_refl _) _)) (by rfl) (by rfl) (RC.one _ p q) rfl (show co + 1 = co + 1 from rfl) (by omega) (Below.size ‹_›) ?_; intro a5 c5 w5 ho5 hg5; have hb5 : Below wo.heap.size wo w5 := below_grown ‹_› hg5 (Below.size ‹_›) ho4.lo)
                    | (refine step_appC (by rfl) _ _ (by rfl) ho4 (by rfl) (by rfl) (nB _ hg4) rfl (show co + 1 = co + 1 from rfl) (by omega) (Below.size ‹_›) ?_; intro a5 c5 w5 ho5 hg5; have hb5 : Below wo.heap.size wo w5 := below_grown ‹_› hg5 (Below.size ‹_›) ho4.lo)
                    | (refine step_appC (by rfl) _ _ (by rfl) ho4 (by rfl) (by rfl) (nC _ hg4) rfl (show co + 1 = co + 1 from rfl) (by omega) (Below.size ‹_›) ?_; intro a5 c5 w5 ho5 hg5; have hb5 : Below wo.heap.size wo w5 := below_grown ‹_› hg5 (Below.size ‹_›) ho4.lo)
                    | (refine step_appC (by rfl) _ _ (by rfl) hemp (by rfl) (by rfl) (HTK.out _ ‹_›) l1 (Nat.zero_add (co)) (by omega) (Below.size ‹_›) ?_; intro a4 c4 w4 ho4 hg4; have hb4 : Below wo.heap.size wo w4 := below_grown ‹_› hg4 (Below.size ‹_›) hemp.lo)
                    | (refine step_appC (by rfl) _ _ (by rfl) hempa (by rfl) (by rfl) (HTK.out _ ‹_›) l1 (Nat.zero_add (co)) (by omega) (Below.size ‹_›) ?_; intro a4 c4 w4 ho4 hg4; have hb4 : Below wo.heap.size wo w4 := below_grown ‹_› hg4 (Below.size ‹_›) hemp.lo)
                    | (refine step_appC (by rfl) _ _ (by rfl) hemp2 (by rfl) (by rfl) (HTK.out _ ‹_›) l1 (Nat.zero_add (co)) (by omega) (Below.size ‹_›) ?_; intro a4 c4 w4 ho4 hg4; have hb4 : Below wo.heap.size wo w4 := below_grown ‹_› hg4 (Below.size ‹_›) hemp2.lo)))
                all_goals
                  have hBf := hB.trans (hb6.mono hB.size)
                  have HO6 := Lib.hid (show CO w6 w.heap.size w6.heap.size a6 (co + 1) c6 (cellsTo xs (co + 1)) by rw [Hst2.out]; exact (show CO w6 wo.heap.size w6.heap.size a6 (co + 1) c6 (ys.take (co) ++ [(p, q)] ++ ys.drop (co)) by rw [List.drop_of_length_le (by rw [Hyl.out]; omega)]; simpa using ho6).mono hB.size (Nat.le_refl _))
                  clear ho6 ho5 ho4 hb4 hb5 hb6 hg4 hg5 hg6
                  go_wp2
                  go_roundw
                  case rel =>
                    obtain ⟨g6, rfl⟩ := HO6.out.addr (by omega)
                    exact ⟨⟨co + 1, g6, c6, by omega, by go_num, rfl, HO6.out, fun h => by omega⟩, hBf⟩
                  case measure => simp [intOf]; omega
              · have hq2 : ¬ co = i := hck
                have hq3 : (i : Int) ≤ (co : Int) := by omega
                have hq4 : (i : Int) ≤ (i : Int) := by omega
                obtain ⟨W0, hW0⟩ : ∃ W0, w3 = W0 := ⟨_, rfl⟩
                rw [hW0] at hBq ⊢
                have hB5 : Below wo.heap.size wo W0.drew := hBq.trans (Drew.below ⟨1, rfl⟩ _)
                have hz := hB5.size
                have hzd : W0.drew.heap.size = W0.heap.size := rfl
                have HTK := Lib.hid (fun W (h : Below wo.heap.size wo W) => (Hrd.out.below h).take (i))
                have HDR := Lib.hid (fun W (h : Below wo.heap.size wo W) => (Hrd.out.below h).drop (i))
                rw [Nat.zero_add] at HDR
                have hcl1 : ∀ W, Below wo.heap.size wo W → W.cell? ⟨b, off + i * 2, none⟩ = some (.int .i64 p) := fun W h => by rw [h.cell (World.block_lt_of_cell? _ _ hc1)]; exact hc1
                have hcl2 : ∀ W, Below wo.heap.size wo W → W.cell? ⟨b, off + i * 2 + 1, none⟩ = some (.int .i64 q) := fun W h => by rw [h.cell (World.block_lt_of_cell? _ _ hc2)]; exact hc2
                have l1 : (ys.take (i)).length = i := by rw [List.length_take, Hyl.out]; omega
                have l3 : (ys.drop (i)).length = i - (i) := by rw [List.length_drop, Hyl.out]
                have hemp : CO (W0.drew.alloc (.cells #[] 60)) wo.heap.size (W0.drew.alloc (.cells #[] 60)).heap.size (some ⟨W0.heap.size, 0, none⟩) 0 0 [] := (CO.made W0.drew).mono hz (Nat.le_refl _)
                have hempa := hemp.below ((Below.refl (W0.drew.alloc (.cells #[] 60)).heap.size _).alloc (Nat.le_refl _) (.cells #[.int .i64 p, .int .i64 q] 60))
                have hemp2 : CO ((W0.drew.alloc (.cells #[.int .i64 p, .int .i64 q] 60)).alloc (.cells #[] 60)) wo.heap.size ((W0.drew.alloc (.cells #[.int .i64 p, .int .i64 q] 60)).alloc (.cells #[] 60)).heap.size (some ⟨W0.heap.size + 1, 0, none⟩) 0 0 [] := by
                  have h := CO.made (W0.drew.alloc (.cells #[.int .i64 p, .int .i64 q] 60))
                  rw [show (W0.drew.alloc (.cells #[.int .i64 p, .int .i64 q] 60)).heap.size = W0.heap.size + 1 by simp] at h
                  exact h.mono (by omega) (Nat.le_refl _)
                have nB : ∀ w4, ((W0.drew.alloc (.cells #[] 60)).alloc (.cells #[.int .i64 p, .int .i64 q] 60)).grownBy w4 (Value.slice (some ⟨W0.heap.size, 0, none⟩) 0 0).ownBlock → RC w4 (some ⟨W0.heap.size + 1, 0, none⟩) [(p, q)] := by
                  intro w4 hg
                  have h0 := RC.one (W0.drew.alloc (.cells #[] 60)) p q
                  rw [show (W0.drew.alloc (.cells #[] 60)).heap.size = W0.heap.size + 1 by simp] at h0
                  exact h0.kept hg (by simp [Value.ownBlock])
                have nC : ∀ w4, ((W0.drew.alloc (.cells #[.int .i64 p, .int .i64 q] 60)).alloc (.cells #[] 60)).grownBy w4 (Value.slice (some ⟨W0.heap.size + 1, 0, none⟩) 0 0).ownBlock → RC w4 (some ⟨W0.heap.size, 0, none⟩) [(p, q)] :=
                  fun w4 hg => ((RC.one W0.drew p q).kept (World.grownBy_alloc _ _ none) (by simp)).kept hg (by simp [Value.ownBlock])
                have Hst2 := Lib.hid (show cellsTo xs (i + 1) = ys.take (i) ++ [(p, q)] ++ ys.drop (i) by rw [Hst.out, insC, Hyl.out, HK.out])
                clear hc1 hc2 hW0
                go_wp2
                go_region_held3 (fun W => Below wo.heap.size wo W) ((first | assumption | exact Below.alloc ‹_› (Below.size ‹_›) _))
                  ((first
                    | (refine step_appC (by rfl) _ _ (by rfl) ho5 (by rfl) (by rfl) (show RC _ (some _) [] from .inl rfl) rfl (show i + 1 + 0 = i + 1 by omega) (by omega) (Below.size ‹_›) ?_; intro a6 c6 w6 ho6 hg6; have hb6 : Below wo.heap.size wo w6 := below_grown ‹_› hg6 (Below.size ‹_›) ho5.lo)
                    | (refine step_appC (by rfl) _ _ (by rfl) (CO.below ho4 ((Below.refl _ _).alloc (Nat.le_refl _) _)) (by rfl) (by rfl) (RC.one _ p q) rfl (show i + 1 = i + 1 from rfl) (by omega) (Below.size ‹_›) ?_; intro a5 c5 w5 ho5 hg5; have hb5 : Below wo.heap.size wo w5 := below_grown ‹_› hg5 (Below.size ‹_›) ho4.lo)
                    | (refine step_appC (by rfl) _ _ (by rfl) ho4 (by rfl) (by rfl) (nB _ hg4) rfl (show i + 1 = i + 1 from rfl) (by omega) (Below.size ‹_›) ?_; intro a5 c5 w5 ho5 hg5; have hb5 : Below wo.heap.size wo w5 := below_grown ‹_› hg5 (Below.size ‹_›) ho4.lo)
                    | (refine step_appC (by rfl) _ _ (by rfl) ho4 (by rfl) (by rfl) (nC _ hg4) rfl (show i + 1 = i + 1 from rfl) (by omega) (Below.size ‹_›) ?_; intro a5 c5 w5 ho5 hg5; have hb5 : Below wo.heap.size wo w5 := below_grown ‹_› hg5 (Below.size ‹_›) ho4.lo)
                    | (refine step_appC (by rfl) _ _ (by rfl) hemp (by rfl) (by rfl) (HTK.out _ ‹_›) l1 (Nat.zero_add (i)) (by omega) (Below.size ‹_›) ?_; intro a4 c4 w4 ho4 hg4; have hb4 : Below wo.heap.size wo w4 := below_grown ‹_› hg4 (Below.size ‹_›) hemp.lo)
                    | (refine step_appC (by rfl) _ _ (by rfl) hempa (by rfl) (by rfl) (HTK.out _ ‹_›) l1 (Nat.zero_add (i)) (by omega) (Below.size ‹_›) ?_; intro a4 c4 w4 ho4 hg4; have hb4 : Below wo.heap.size wo w4 := below_grown ‹_› hg4 (Below.size ‹_›) hemp.lo)
                    | (refine step_appC (by rfl) _ _ (by rfl) hemp2 (by rfl) (by rfl) (HTK.out _ ‹_›) l1 (Nat.zero_add (i)) (by omega) (Below.size ‹_›) ?_; intro a4 c4 w4 ho4 hg4; have hb4 : Below wo.heap.size wo w4 := below_grown ‹_› hg4 (Below.size ‹_›) hemp2.lo)))
                all_goals
                  have hBf := hB.trans (hb6.mono hB.size)
                  have HO6 := Lib.hid (show CO w6 w.heap.size w6.heap.size a6 (i + 1) c6 (cellsTo xs (i + 1)) by rw [Hst2.out]; exact (show CO w6 wo.heap.size w6.heap.size a6 (i + 1) c6 (ys.take (i) ++ [(p, q)] ++ ys.drop (i)) by rw [List.drop_of_length_le (by rw [Hyl.out]; omega)]; simpa using ho6).mono hB.size (Nat.le_refl _))
                  clear ho6 ho5 ho4 hb4 hb5 hb6 hg4 hg5 hg6
                  go_wp2
                  go_roundw
                  case rel =>
                    obtain ⟨g6, rfl⟩ := HO6.out.addr (by omega)
                    exact ⟨⟨i + 1, g6, c6, by omega, by go_num, rfl, HO6.out, fun h => by omega⟩, hBf⟩
                  case measure => simp [intOf]; omega
          · have Hkk := Lib.hid (show cutR (p, q) ys j = K by rw [← hkK, hcut, hls]; rfl)
            have Hls := Lib.hid hls
            clear hls hcut hkK
            go_wp2
            go_region_held3 (fun w' => w'.cell? ⟨b, off + i * 2, none⟩ = some (.int .i64 p) ∧ w'.cell? ⟨b, off + i * 2 + 1, none⟩ = some (.int .i64 q) ∧ w'.cell? ⟨g, j * 2, none⟩ = some (.int .i64 u) ∧ w'.cell? ⟨g, j * 2 + 1, none⟩ = some (.int .i64 v)) ((first | exact S_of _ d1 | exact S_of _ d2))
              ((first | (go_at_call 90; refine (is (l3Less_any p q u v _) Hls.out).mono ?_; rintro e w3 ⟨rfl, hb3⟩; have d2 := Below.trans d1 (hb3.mono (Below.size d1)))))
            have hBq := hBi.trans (d2.mono hBi.size)
            clear S_of d1 d2 hb3 hw1 hw2 hd1 hd2
            go_wp2
            go_roundw
            case rel => exact ⟨⟨j, by go_num, by omega, Hkk.out⟩, hBq⟩
            case measure => have := Hj.out; simp [intOf]; omega
    · obtain rfl : i = n := by omega
      have HO := Lib.hid hO
      clear hO
      go_wp2
      go_ret
      exact ⟨_, _, _, rfl, HO.out, hB⟩
end Go.Proofs.Ytageojkepoejiaa
