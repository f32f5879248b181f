/-
  Contract of DemazurePerm, the program's.
-/
import Derived.Test.YtflkomgfgmephaaWords2
namespace Go.Proofs.Ytflkomgfgmephaa
open Go.RowKit

/-- one letter, where it makes longer -/
def demSwp (u : List Int) (x : Nat) : List Int := if u.getD x 0 < u.getD (x + 1) 0 then swp u x (x + 1) else u
def demPlay (n : Nat) (xs : List Int) : Nat → List Int
  | 0 => ident n
  | k + 1 => demSwp (demPlay n xs k) (xs.getD k 0).toNat
theorem demSwp_length (u : List Int) (x : Nat) : (demSwp u x).length = u.length := by
  unfold demSwp
  split
  · simp [swp]
  · rfl
theorem demPlay_length (n : Nat) (xs : List Int) (k : Nat) : (demPlay n xs k).length = n := by
  induction k with
  | zero => have := play_length n xs 0; exact this
  | succ k ih => rw [demPlay, demSwp_length]; exact ih

set_option maxRecDepth 100000 in
set_option maxHeartbeats 3200000 in
theorem demazurePerm_any (N : Int) (p : Nat) (a : Option Addr) (n c : Nat) (xs : List Int) (w : World) (hr : RI w a xs) (hn : xs.length = n) (hb : n ≤ 17592186044416) (hN : N = (p : Int)) (hw : isWord N xs = true) :
    Calls Try.prog 29 #[.int .i64 N, .slice a n c] w fun e w' => ∃ a' c', e = .returned (.slice a' p c') ∧ OwI w' w.heap.size w'.heap.size a' p c' (demPlay p xs n) ∧ Below w.heap.size w w' := by
  subst hN
  have hbd := isWord_bd hw
  have Hbd := Lib.hid hbd.2.2.2
  have hp : 1 ≤ p ∧ p ≤ 7 := by omega
  have Hw := Lib.hid hw
  clear hbd hw
  have Hn := Lib.hid hn; clear hn
  go_enter Try.func29, Try.ntmps29
  go_wp2_with fail
  refine (is (isWord_any _ _ _ _ xs _ hr Hn.out (by omega) (by omega) (by omega)) Hw.out).mono ?_
  rintro e w1 ⟨rfl, rfl⟩
  go_wp2_with fail
  refine (implIdent_any p _ _ rfl hp).mono ?_
  rintro e w1 ⟨a1, c1, rfl, ho1, hB1⟩
  go_wp2
  go_loopw [5, 16] (fun v i wr => Hid (∃ k : Nat, k ≤ n ∧ i = .int .i64 k ∧ ∃ a' c', v = .slice a' p c' ∧ OwI wr w.heap.size wr.heap.size a' p c' (demPlay p xs k)) ∧ Below w.heap.size w wr) (fun _ i _ => n - (intOf i).toNat)
  case atStart => exact ⟨⟨0, Nat.zero_le _, rfl, _, _, rfl, ho1⟩, hB1⟩
  case round =>
    clear ho1 hB1
    obtain ⟨HV, hB⟩ := hrel
    obtain ⟨wo, rfl⟩ : ∃ wo : World, wo = wr := ⟨_, rfl⟩
    obtain ⟨k, hk, rfl, a', c', rfl, ho⟩ := HV.out
    clear HV
    have hbs := hB.size
    by_cases hlt : k < n
    · obtain ⟨b, off, rfl, hcell⟩ := (hr.below hB).at (k := k) (by rw [Hn.out]; exact hlt)
      obtain ⟨x0, hx⟩ := some_at Hn.out hlt
      have hc := hcell k x0 hx
      have hxb := Hbd.out k x0 hx
      obtain ⟨x, rfl⟩ : ∃ x : Nat, x0 = (x : Int) := ⟨x0.toNat, by omega⟩
      have hdl := demPlay_length p xs k
      obtain ⟨b2, off2, rfl, hcell2⟩ := ho.rd.at (k := x) (by rw [hdl]; omega)
      obtain ⟨y, hy⟩ := some_at hdl (show x < p by omega)
      obtain ⟨z, hz⟩ := some_at hdl (show x + 1 < p by omega)
      have py := hcell2 x y hy
      have pz := hcell2 (x + 1) z hz
      have q1 : (k : Int) < (n : Int) := by omega
      have q2 : IntKind.i64.wrap ((x : Int) + 1) = (x : Int) + 1 := IntWalk.i64_in _ (by omega)
      have q3 : (x : Int) < (p : Int) := by omega
      have q4 : (x : Int) + 1 < (p : Int) := by omega
      by_cases hyz : y < z
      · have hst : demPlay p xs (k + 1) = swp (demPlay p xs k) x (x + 1) := by rw [demPlay, getD_of hx, Int.toNat_natCast, demSwp, getD_of hy, getD_of hz, if_pos hyz]
        have Hst := Lib.hid hst
        have g1 : decide (y < z) = true := by simpa using hyz
        clear hst hx hcell hcell2 hy hz hdl
        go_wp2
        go_quiet (fail)
        have hBd := hB.trans ((Drew.drewN wo nq).below w.heap.size)
        have hod := ho.below ((Drew.drewN wo nq).below _)
        clear ho
        go_wp2_with fail
        refine (exchanged_any _ _ _ (demPlay p xs k) x (x + 1) _ _ _ hod.rd (demPlay_length p xs k) (by omega) rfl (by omega) (by omega) (by omega) (by omega)).mono ?_
        rintro e w2 ⟨a2, c2, rfl, ho2, hb2⟩
        have hB2 := hBd.trans (hb2.mono hBd.size)
        have HO := Lib.hid (ho2.mono (B' := w.heap.size) hBd.size (Nat.le_refl _))
        clear ho2 hod
        go_wp2
        go_roundw
        case rel => exact ⟨⟨k + 1, by omega, by go_num, _, _, rfl, by rw [Hst.out]; exact HO.out⟩, hB2⟩
        case measure => simp [intOf]; omega
      · have hst : demPlay p xs (k + 1) = demPlay p xs k := by rw [demPlay, getD_of hx, Int.toNat_natCast, demSwp, getD_of hy, getD_of hz, if_neg hyz]
        have Hst := Lib.hid hst
        have g1 : decide (y < z) = false := by simpa using hyz
        have HO := Lib.hid ho
        clear hst hx hcell hcell2 hy hz hdl ho
        go_wp2
        go_quiet (fail)
        have hBd := hB.trans ((Drew.drewN wo nq).below w.heap.size)
        have HOd := Lib.hid (HO.out.below ((Drew.drewN wo nq).below _))
        clear HO
        go_wp2
        go_roundw
        case rel => exact ⟨⟨k + 1, by omega, by go_num, _, _, rfl, by rw [Hst.out]; exact HOd.out⟩, hBd⟩
        case measure => simp [intOf]; omega
    · obtain rfl : k = n := by omega
      have HO := Lib.hid ho; clear ho
      go_wp2
      go_ret
      exact ⟨_, _, rfl, HO.out, hB⟩
end Go.Proofs.Ytflkomgfgmephaa
