/-
  GrothendieckPoly, the program's.
-/
import Derived.Test.YtflkomgfgmephaaBv
import Derived.Test.YtflkomgfgmephaaSchubI
namespace Go.Proofs.Ytflkomgfgmephaa
open Go.RowKit

def groM (xs : List Int) (n : Nat) : Mons := (ups xs).foldr isoM [(partK n n, 1)]
theorem gro_low {n : Nat} (hn : n ≤ 7) {F : Mons} (h : Bv (sb n) F) : ∀ l : List Nat, (∀ k ∈ l, k + 1 < n) → Bv (sb n) (l.foldr isoM F) := by
  intro l
  induction l with
  | nil => intro _; exact h
  | cons k l ih =>
    intro hl
    have hk := hl k List.mem_cons_self
    exact (ih fun q hq => hl q (List.mem_cons_of_mem _ hq)).sb_iso hn (by omega) hk
theorem sb_mono {n m : Nat} (h : n ≤ m) {F : Mons} (hF : Bv (sb n) F) : Bv (sb m) F := hF.mono fun j _ => by unfold sb; omega
theorem sb5_count {n : Nat} (h : n ≤ 5) {F : Mons} (hF : Bv (sb n) F) : (canon F).length ≤ 120 := (sb_mono h hF).count
theorem sb_bd {n : Nat} (h : n ≤ 7) {F : Mons} (hF : Bv (sb n) F) : Bd 126 F := hF.bd fun j _ => by unfold sb; omega
def groT (xs : List Int) : List (List Int × Int) := if isPerm xs = true ∧ xs.length ≤ 5 then closedT (groM xs xs.length) else []
def groOk (xs : List Int) : Bool := isPerm xs && decide (xs.length ≤ 5) && polyOk (termsM (groM xs xs.length))
theorem gro_no {xs : List Int} (h : isPerm xs = false ∨ 5 < xs.length) : groT xs = [] ∧ groOk xs = false := by
  unfold groT groOk
  rcases h with h | h
  · rw [h]
    exact ⟨rfl, rfl⟩
  · have h' : ¬ xs.length ≤ 5 := by omega
    simp [h']
theorem gro_yes {xs : List Int} (h : isPerm xs = true) (h5 : xs.length ≤ 5) : groT xs = closedT (groM xs xs.length) ∧ groOk xs = polyOk (termsM (groM xs xs.length)) := by
  unfold groT groOk
  simp [h, h5]
theorem groT_cases (xs : List Int) : groT xs = [] ∨ ∃ F, groT xs = closedT F := by
  unfold groT
  split
  · exact .inr ⟨_, rfl⟩
  · exact .inl rfl
set_option maxRecDepth 100000 in
set_option maxHeartbeats 1600000 in
theorem implGro_any (a : Option Addr) (n c : Nat) (xs : List Int) (w : World) (hr : RI w a xs) (hn : xs.length = n) (hb : n ≤ 1048576) (_hc : n ≤ c) :
    Calls Try.prog 25 #[.slice a n c] w fun e w' => ∃ a' n' c' r, e = .returned (.tuple #[.slice a' n' c', .bool r]) ∧ TO w' w.heap.size w'.heap.size a' n' c' (groT xs) ∧ Hid (r = groOk xs) ∧ Below w.heap.size w w' := by
  have Hn := Lib.hid hn
  cases hp : isPerm xs
  · have H0 := Lib.hid (gro_no (.inl hp))
    have Hp := Lib.hid hp
    clear hp hn
    go_enter Try.func25, Try.ntmps25
    go_wp2_with fail
    refine (is (implIsPerm_any _ _ _ xs _ hr Hn.out (by omega)) Hp.out).mono ?_
    rintro e w1 ⟨rfl, hB1⟩
    go_wp2
    go_ret2
    exact ⟨_, _, _, _, rfl, by rw [H0.out.1]; exact TO.nil, H0.out.2.symm, hB1⟩
  have Hp := Lib.hid hp
  by_cases h5 : n ≤ 5
  · have H0 := Lib.hid (gro_yes hp (by rw [hn]; exact h5))
    rw [hn] at H0
    have q5 : ¬ (5 : Int) < (n : Int) := by omega
    have HS := Lib.hid (Bv.stair (n := n) (by omega))
    clear hp hn
    go_enter Try.func25, Try.ntmps25
    go_wp2_with fail
    refine (is (implIsPerm_any _ _ _ xs _ hr Hn.out (by omega)) Hp.out).mono ?_
    rintro e w1 ⟨rfl, hB1⟩
    go_wp2_with fail
    refine (implStair_any n _ (by omega)).mono ?_
    rintro e w2 ⟨r2, rfl, hF2, hb2⟩
    have hB2 := hB1.trans (hb2.mono hB1.size)
    have hr2 := hr.below hB2
    have HF2 := Lib.hid hF2
    clear hF2
    go_wp2_with fail
    refine (lowered_any 58 (fun args w => by kernel_rfl) isoM (Bv (sb n)) n (by omega) (fun i F hi h => h.sb_iso (by omega) (by omega) hi) (fun b i I F w hF hI hi hB => implIso_any b i I F w hF hI (by omega) (fun p hp => Int.le_trans ((hB.canon p hp).2 (i + 1) (by omega)) (by unfold sb; omega))) (nin xs + 1) _ _ _ xs _ r2 _ (Nat.lt_succ_self _) hr2 Hn.out (Nat.le_refl _) HF2.out HS.out).mono ?_
    rintro e w4 ⟨r4, rfl, hF4, _, hb4⟩
    have hB4 := hB2.trans (hb4.mono hB2.size)
    have HF4 := Lib.hid hF4
    clear hF4
    go_wp2_with fail
    refine (closed_any r4 _ _ HF4.out).mono ?_
    rintro e w9 ⟨a9, n9, c9, r9, rfl, ho9, hh9, hb9⟩
    have hB9 := hB4.trans (hb9.mono hB4.size)
    have Ho9 := Lib.hid (ho9.mono (B' := w.heap.size) (S' := w9.heap.size) hB4.size (Nat.le_refl _))
    clear ho9
    go_wp2
    go_ret2
    exact ⟨_, _, _, _, rfl, by rw [H0.out.1]; exact Ho9.out, by rw [H0.out.2]; exact hh9, hB9⟩
  · have H0 := Lib.hid (gro_no (xs := xs) (.inr (by omega)))
    have q5 : (5 : Int) < (n : Int) := by omega
    clear hp hn
    go_enter Try.func25, Try.ntmps25
    go_wp2_with fail
    refine (is (implIsPerm_any _ _ _ xs _ hr Hn.out (by omega)) Hp.out).mono ?_
    rintro e w1 ⟨rfl, hB1⟩
    go_wp2
    go_ret2
    exact ⟨_, _, _, _, rfl, by rw [H0.out.1]; exact TO.nil, H0.out.2.symm, hB1⟩
end Go.Proofs.Ytflkomgfgmephaa
