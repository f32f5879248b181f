/-
  Contracts of operated, with DemazureOf, IsobaricOf and AtomOf of the program.
-/
import Derived.Test.YtflkomgfgmephaaPolyOpen
namespace Go.Proofs.Ytflkomgfgmephaa
open Go.RowKit Go.MapKept

def isVar (x : Int) : Bool := decide (0 ≤ x ∧ x ≤ 5)
def opT (op : Nat → Mons → Mons) (xs : List (List Int × Int)) (x : Int) : List (List Int × Int) := if polyOk xs = true ∧ isVar x = true then closedT (op x.toNat (monsOf xs)) else []
def opOk (op : Nat → Mons → Mons) (xs : List (List Int × Int)) (x : Int) : Bool := polyOk xs && isVar x && polyOk (termsM (op x.toNat (monsOf xs)))
theorem opT_no {op : Nat → Mons → Mons} {xs : List (List Int × Int)} {x : Int} (h : polyOk xs = false ∨ isVar x = false) : opT op xs x = [] ∧ opOk op xs x = false := by
  unfold opT opOk
  rcases h with h | h
  · rw [if_neg (by rw [h]; simp), h]; exact ⟨rfl, rfl⟩
  · rw [if_neg (by rw [h]; simp), h]; exact ⟨rfl, by simp⟩
theorem opT_yes {op : Nat → Mons → Mons} {xs : List (List Int × Int)} {x : Int} (h : polyOk xs = true) (h' : isVar x = true) : opT op xs x = closedT (op x.toNat (monsOf xs)) ∧ opOk op xs x = polyOk (termsM (op x.toNat (monsOf xs))) := by
  unfold opT opOk
  rw [if_pos ⟨h, h'⟩, h, h']
  exact ⟨rfl, by simp⟩
theorem isVariable_any (x : Int) (w : World) :
    Calls Try.prog 94 #[.int .i64 x] w fun e w' => e = .returned (.bool (isVar x)) ∧ Drew w w' := by
  by_cases h1 : 0 ≤ x
  · by_cases h2 : x ≤ 5
    · have H := Lib.hid (show isVar x = true by simp [isVar]; omega)
      have e1 : decide (x ≤ 5) = true := by simp [h2]
      go_enter Try.func94, Try.ntmps94
      go_wp2
      go_ret
      exact ⟨ret_bool H.out.symm, Drew.refl _⟩
    · have H := Lib.hid (show isVar x = false by simp [isVar]; omega)
      have e1 : decide (x ≤ 5) = false := by simp; omega
      go_enter Try.func94, Try.ntmps94
      go_wp2
      go_ret
      exact ⟨ret_bool H.out.symm, Drew.refl _⟩
  · have H := Lib.hid (show isVar x = false by simp [isVar]; omega)
    have e1 : decide (0 ≤ x) = false := by simp; omega
    go_enter Try.func94, Try.ntmps94
    go_wp2
    go_ret
    exact ⟨ret_bool H.out.symm, Drew.refl _⟩

set_option maxRecDepth 100000 in
set_option maxHeartbeats 3200000 in
theorem operated_any (f : Nat) (ef : ∀ args w, (callFunc f args).run Try.prog w = .ok (.enter f args) w) (op : Nat → Mons → Mons)
    (hop : ∀ (b i : Nat) (I : Int) (F : Mons) (w : World), PF w b F → I = (i : Int) → i ≤ 5 → Bd 24 F → Calls Try.prog f #[.map (some b), .int .i64 I] w fun e w' => ∃ r, e = .returned (.map (some r)) ∧ w.heap.size ≤ r ∧ PF w' r (op i F) ∧ Below w.heap.size w w')
    (a : Option Addr) (n c : Nat) (xs : List (List Int × Int)) (x : Int) (w : World) (hr : RP w a xs) (hn : xs.length = n) (hb : n ≤ 1048576) :
    Calls Try.prog 78 #[.slice a n c, .int .i64 x, .func (.func f) #[] #[]] w fun e w' => ∃ a' n' c' r, e = .returned (.tuple #[.slice a' n' c', .bool r]) ∧ TO w' w.heap.size w'.heap.size a' n' c' (opT op xs x) ∧ Hid (r = opOk op xs x) ∧ Below w.heap.size w w' := by
  have Hn := Lib.hid hn; clear hn
  cases hok : polyOk xs
  · have H0 := Lib.hid (opT_no (op := op) (x := x) (.inl hok))
    have Hok := Lib.hid hok
    clear hok
    go_enter Try.func78, Try.ntmps78
    go_wp2_with fail
    refine (is (implPolyOk_any _ _ _ xs _ hr Hn.out hb) Hok.out).mono ?_
    rintro e w1 ⟨rfl, hb1⟩
    go_wp2
    go_ret2
    exact ⟨_, _, _, _, rfl, by rw [H0.out.1]; exact TO.nil, H0.out.2.symm, hb1⟩
  have Hok := Lib.hid hok
  cases hv : isVar x
  · have H0 := Lib.hid (opT_no (op := op) (xs := xs) (.inr hv))
    have Hv := Lib.hid hv
    clear hok hv
    go_enter Try.func78, Try.ntmps78
    go_wp2_with fail
    refine (is (implPolyOk_any _ _ _ xs _ hr Hn.out hb) Hok.out).mono ?_
    rintro e w1 ⟨rfl, hb1⟩
    go_wp2_with fail
    refine (is (isVariable_any x _) Hv.out).mono ?_
    rintro e w2 ⟨rfl, hd2⟩
    have hB2 := hb1.trans (hd2.below _)
    go_wp2
    go_ret2
    exact ⟨_, _, _, _, rfl, by rw [H0.out.1]; exact TO.nil, H0.out.2.symm, hB2⟩
  have H0 := Lib.hid (opT_yes (op := op) hok hv)
  have Hv := Lib.hid hv
  have hx : 0 ≤ x ∧ x ≤ 5 := by simpa [isVar] using hv
  have hxi : x = (x.toNat : Int) := by omega
  have hx5 : x.toNat ≤ 5 := by omega
  have HBd := Lib.hid (polyOk_mons hok)
  clear hok hv
  generalize x.toNat = i at *
  have Hxi := Lib.hid hxi
  clear hxi
  go_enter Try.func78, Try.ntmps78
  go_wp2_with fail
  refine (is (implPolyOk_any _ _ _ xs _ hr Hn.out hb) Hok.out).mono ?_
  rintro e w1 ⟨rfl, hb1⟩
  go_wp2_with fail
  refine (is (isVariable_any x _) Hv.out).mono ?_
  rintro e w2 ⟨rfl, hd2⟩
  have hB2 := hb1.trans (hd2.below _)
  have hr2 := hr.below hB2
  go_wp2_with fail
  refine (open_any _ _ _ xs _ hr2 Hn.out Hok.out).mono ?_
  rintro e w3 ⟨r3, rfl, hr3, hF3, hb3⟩
  have hB3 := hB2.trans (hb3.mono hB2.size)
  go_wp2_with fail
  refine (hop r3 i x (monsOf xs) _ hF3 Hxi.out hx5 HBd.out).mono ?_
  rintro e w4 ⟨r4, rfl, hr4, hF4, hb4⟩
  have hB4 := hB3.trans (hb4.mono hB3.size)
  go_wp2_with fail
  refine (closed_any r4 _ _ hF4).mono ?_
  rintro e w5 ⟨a5, n5, c5, r5, rfl, ho5, hh5, hb5⟩
  have hB5 := hB4.trans (hb5.mono hB4.size)
  have Ho5 := Lib.hid (ho5.mono (B' := w.heap.size) (S' := w5.heap.size) hB4.size (Nat.le_refl _))
  clear ho5
  go_wp2
  go_ret2
  exact ⟨_, _, _, _, rfl, by rw [H0.out.1]; exact Ho5.out, by rw [H0.out.2]; exact hh5, hB5⟩
theorem low_top {F : Mons} (h : Bd 24 F) {j : Nat} (hj : j < 7) : ∀ p ∈ canon F, dig p.1 j ≤ 126 := fun p hp => Int.le_trans ((h.canon p hp).2 j hj) (by omega)
set_option maxRecDepth 100000 in
set_option maxHeartbeats 1600000 in
theorem implDivOf_any (a : Option Addr) (n c : Nat) (xs : List (List Int × Int)) (x : Int) (w : World) (hr : RP w a xs) (hn : xs.length = n) (hb : n ≤ 1048576) :
    Calls Try.prog 45 #[.slice a n c, .int .i64 x] w fun e w' => ∃ a' n' c' r, e = .returned (.tuple #[.slice a' n' c', .bool r]) ∧ TO w' w.heap.size w'.heap.size a' n' c' (opT dividedM xs x) ∧ Hid (r = opOk dividedM xs x) ∧ Below w.heap.size w w' := by
  have Hn := Lib.hid hn; clear hn
  go_enter Try.func45, Try.ntmps45
  go_wp2_with fail
  refine (operated_any 76 (fun args w => by kernel_rfl) dividedM (fun b i I F w hF hI hi _ => divided_any b i I F w hF hI hi) a n c xs x _ hr Hn.out hb).mono ?_
  rintro e w1 ⟨a1, n1, c1, r1, rfl, ho, hh, hb1⟩
  have Ho := Lib.hid ho
  clear ho
  go_wp2
  go_ret2
  exact ⟨_, _, _, _, rfl, Ho.out, hh, hb1⟩
end Go.Proofs.Ytflkomgfgmephaa
