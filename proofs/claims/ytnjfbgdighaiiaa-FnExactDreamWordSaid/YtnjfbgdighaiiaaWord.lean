/-
  Contract of l3Word: the word of a dream, its rows read backwards.
-/
import Derived.Test.YtnjfbgdighaiiaaCells
import Derived.Test.YtnjfbgdighaiiaaStepI
namespace Go.Proofs.Ytnjfbgdighaiiaa
open Go.RowKit

def csum (p : Int × Int) : Int := p.1 + p.2
/-- where the row begins that cell i stands in, and the cells of the rows before it, each row turned -/
def wst (xs : List (Int × Int)) : Nat → Nat × List (Int × Int)
  | 0 => (0, [])
  | i + 1 => if (cellOf xs i).1 = (cellOf xs (wst xs i).1).1 then wst xs i else (i, (wst xs i).2 ++ ((xs.take i).drop (wst xs i).1).reverse)
def grp (xs : List (Int × Int)) (f i : Nat) : List (Int × Int) := ((xs.take i).drop f).reverse
def wordCells (xs : List (Int × Int)) : List (Int × Int) := (wst xs xs.length).2 ++ grp xs (wst xs xs.length).1 xs.length
def wordOf (xs : List (Int × Int)) : List Int := (wordCells xs).map csum
theorem wst_same {xs : List (Int × Int)} {i f : Nat} (hf : (wst xs i).1 = f) (h : (cellOf xs i).1 = (cellOf xs f).1) : wst xs (i + 1) = wst xs i := by
  rw [wst, hf, if_pos h]
theorem wst_new {xs : List (Int × Int)} {i f : Nat} (hf : (wst xs i).1 = f) (h : (cellOf xs i).1 ≠ (cellOf xs f).1) : wst xs (i + 1) = (i, (wst xs i).2 ++ grp xs f i) := by
  rw [wst, hf, if_neg h]; rfl
theorem wst_le (xs : List (Int × Int)) (i : Nat) : (wst xs i).1 ≤ i := by
  induction i with
  | zero => exact Nat.le_refl _
  | succ i ih =>
    rw [wst]
    split
    · omega
    · exact Nat.le_succ _
theorem wst_lt {xs : List (Int × Int)} {n i f : Nat} (_hn : xs.length = n) (h : i < n) (hf : (wst xs i).1 = f) : f < n := by
  have := wst_le xs i; omega
theorem grp_length {xs : List (Int × Int)} {n f i : Nat} (hn : xs.length = n) (hi : i ≤ n) : (grp xs f i).length = i - f := by
  simp [grp]; omega
theorem wst_len {xs : List (Int × Int)} {n : Nat} (hn : xs.length = n) : ∀ i, i ≤ n → (wst xs i).2.length = (wst xs i).1 := by
  intro i
  induction i with
  | zero => intro _; rfl
  | succ i ih =>
    intro h
    rw [wst]
    split
    · exact ih (by omega)
    · have h1 := ih (by omega)
      have h2 := grp_length (f := (wst xs i).1) hn (show i ≤ n by omega)
      have h3 := wst_le xs i
      unfold grp at h2
      rw [List.length_append, h2, h1]
      show _ = i
      omega
theorem grp_at {xs : List (Int × Int)} {n f i m : Nat} (hn : xs.length = n) (hi : i ≤ n) (hm : m < i - f) : (grp xs f i)[m]? = xs[i - 1 - m]? := by
  subst hn
  unfold grp
  rw [List.getElem?_reverse (by simp; omega), List.getElem?_drop, List.getElem?_take, if_pos (by simp; omega)]
  congr 1
  simp
  omega
theorem take_grp {xs : List (Int × Int)} {n f i m : Nat} {p : Int × Int} (hn : xs.length = n) (hi : i ≤ n) (hm : m < i - f) (hp : xs[i - 1 - m]? = some p) (us : List Int) :
    us ++ ((grp xs f i).map csum).take m ++ [csum p] = us ++ ((grp xs f i).map csum).take (m + 1) := by
  rw [List.append_assoc, List.take_add_one, List.getElem?_map, grp_at hn hi hm, hp]
  rfl
theorem all_grp {xs : List (Int × Int)} {n f i : Nat} (hn : xs.length = n) (hi : i ≤ n) : ((grp xs f i).map csum).take (i - f) = (grp xs f i).map csum := by
  rw [List.take_of_length_le]
  rw [List.length_map, grp_length hn hi]
  exact Nat.le_refl _

set_option maxRecDepth 100000 in
set_option maxHeartbeats 3200000 in
theorem l3Word_any (a : Option Addr) (n c : Nat) (xs : List (Int × Int)) (w : World) (hr : RC w a xs) (hn : xs.length = n) (hb : n ≤ 1048576) (hL : ∀ (k : Nat) (p : Int × Int), xs[k]? = some p → Low p.1 ∧ Low p.2) :
    Calls Try.prog 92 #[.slice a n c] w fun e w' => ∃ a' n' c', e = .returned (.slice a' n' c') ∧ OwI w' w.heap.size w'.heap.size a' n' c' (wordOf xs) ∧ Below w.heap.size w w' := by
  have Hn := Lib.hid hn; clear hn
  have HL := Lib.hid hL; clear hL
  have h1 : OwI (w.alloc (.cells #[] 3)) w.heap.size (w.alloc (.cells #[] 3)).heap.size (some ⟨w.heap.size, 0, none⟩) 0 0 [] := OwI.mk (World.ownsRow_made _ #[] 0 (Nat.le_refl _) (Nat.zero_le _) rfl)
  have hB0 : Below w.heap.size w (w.alloc (.cells #[] 3)) := (Below.refl _ _).alloc (Nat.le_refl _) _
  go_enter Try.func92, Try.ntmps92
  go_wp2
  go_loopw [3, 4, 5] (fun ov fv iv wr => Hid (∃ (i f : Nat) (ys : List Int) (a' : Option Addr) (c' : Nat), iv = .int .i64 i ∧ fv = .int .i64 f ∧ ov = .slice a' f c' ∧ OwI wr w.heap.size wr.heap.size a' f c' ys ∧ (i ≤ n ∧ (wst xs i).1 = f ∧ ys = (wst xs i).2.map csum ∨ i = n + 1 ∧ f = n ∧ ys = wordOf xs)) ∧ Below w.heap.size w wr) (fun _ _ i _ => n + 1 - (intOf i).toNat)
  case atStart => exact ⟨⟨0, 0, [], _, _, rfl, rfl, rfl, h1, .inl ⟨Nat.zero_le _, rfl, rfl⟩⟩, hB0⟩
  case round =>
    clear h1 hB0
    obtain ⟨HV, hB⟩ := hrel
    obtain ⟨wo, rfl⟩ : ∃ wo : World, wo = wr := ⟨_, rfl⟩
    obtain ⟨i, f, ys, a1, c1, rfl, rfl, rfl, ho, hcase⟩ := HV.out
    clear HV
    have hbs := hB.size
    rcases hcase with ⟨hi, hf, hys⟩ | ⟨hi, hf, hys⟩
    rotate_left
    · have HY := Lib.hid hys
      subst hi
      clear hf hys
      go_wp2
      go_ret
      exact ⟨_, _, _, rfl, by rw [← HY.out]; exact ho, hB⟩
    have Hf := Lib.hid hf
    have hfi : f ≤ i := by rw [← hf]; exact wst_le xs i
    have hlen := ho.len
    have Hys := Lib.hid hys
    clear hf hys
    have HO := Lib.hid ho; clear ho
    by_cases hlt : i < n
    · have hfn := wst_lt Hn.out hlt Hf.out
      obtain ⟨b, off, rfl, hcell⟩ := (hr.below hB).at (k := i) (by rw [Hn.out]; exact hlt)
      obtain ⟨r, c0, hx⟩ := pair_at Hn.out hlt
      obtain ⟨r', c0', hy⟩ := pair_at Hn.out hfn
      have hc1 := (hcell _ _ hx).1
      have hc2 := (hcell _ _ hy).1
      clear hcell
      simp only at hc1 hc2
      have q1 : (i : Int) < (n : Int) := by omega
      have q2 : (f : Int) < (n : Int) := by omega
      by_cases hrow : r = r'
      · have Hsame := Lib.hid (wst_same (xs := xs) Hf.out (by rw [cellOf_at hx, cellOf_at hy]; exact hrow))
        subst hrow
        clear hx hy
        go_wp2
        go_quiet (fail)
        have hB2 := hB.trans ((Drew.drewN wo nq).below w.heap.size)
        have ho2 := Lib.hid (HO.out.below ((Drew.drewN wo nq).below _))
        clear HO
        go_wp2
        go_roundw
        case rel => exact ⟨⟨i + 1, f, ys, _, _, by go_num, rfl, rfl, ho2.out, .inl ⟨by omega, by rw [Hsame.out]; exact Hf.out, by rw [Hsame.out]; exact Hys.out⟩⟩, hB2⟩
        case measure => simp [intOf]; omega
      · have Hne := Lib.hid (show (cellOf xs i).1 ≠ (cellOf xs f).1 by rw [cellOf_at hx, cellOf_at hy]; exact hrow)
        have n1 : (r == r') = false := by simp [hrow]
        have n2 : decide (r = r') = false := by simp [hrow]
        clear hx hy
        go_wp2
        go_quiet (fail)
        have hBd := hB.trans ((Drew.drewN wo nq).below w.heap.size)
        have HO := Lib.hid (HO.out.below ((Drew.drewN wo nq).below _))
        clear n1 n2 q1 q2 hc1 hc2 hrow
        go_wp2
        go_loopw [3, 6] (fun ov jv wr => Hid (∃ (m : Nat) (a' : Option Addr) (c' : Nat), m ≤ i - f ∧ jv = .int .i64 ((i : Int) - 1 - m) ∧ ov = .slice a' (f + m) c' ∧ OwI wr w.heap.size wr.heap.size a' (f + m) c' (ys ++ ((grp xs f i).map csum).take m)) ∧ Below w.heap.size w wr) (fun _ j _ => (intOf j + 1 - f).toNat)
        case atStart => exact ⟨⟨0, _, _, Nat.zero_le _, by go_num, rfl, by simpa using HO.out⟩, hBd⟩
        case round =>
          clear HO hB hBd
          obtain ⟨HV, hB⟩ := hrel
          obtain ⟨wq, rfl⟩ : ∃ wq : World, wq = wr := ⟨_, rfl⟩
          obtain ⟨m, a2, c2, hm, rfl, rfl, ho⟩ := HV.out
          clear HV
          have hbs := hB.size
          by_cases hlt : m < i - f
          · obtain ⟨b2, off2, eb, hcell2⟩ := (hr.below hB).at (k := i - 1 - m) (by rw [Hn.out]; omega)
            obtain ⟨rfl, rfl⟩ : b = b2 ∧ off = off2 := by simpa using eb
            clear eb
            obtain ⟨x, y, hx⟩ := pair_at (k := i - 1 - m) Hn.out (by omega)
            obtain ⟨hc1, hc2⟩ := hcell2 _ _ hx
            have HB2 := Lib.hid (show b < w.heap.size from (hr.at (k := i - 1 - m) (by rw [Hn.out]; omega)).elim fun b3 h3 => h3.elim fun o3 h4 => by obtain ⟨e4, h5⟩ := h4; obtain ⟨rfl, rfl⟩ : b = b3 ∧ off = o3 := (by simpa using e4); exact World.block_lt_of_cell? _ _ (h5 _ _ hx).1)
            clear hcell2
            simp only at hc1 hc2
            obtain ⟨⟨l1, l2⟩, l3, l4⟩ := HL.out _ _ hx
            simp only at l1 l2 l3 l4
            obtain ⟨J, hJ⟩ : ∃ J : Nat, J = i - 1 - m := ⟨_, rfl⟩
            rw [← hJ] at hc1 hc2
            have Hx := Lib.hid hx; clear hx
            have HJ := Lib.hid hJ
            have eJ : (i : Int) - 1 - m = (J : Int) := by omega
            have q1 : (J : Int) < (n : Int) := by omega
            have q2 : (f : Int) ≤ (J : Int) := by omega
            rw [eJ]
            clear eJ hJ
            go_wp2
            have d0 := hB.trans ((Drew.drewN wq 1).below w.heap.size)
            have z0 : b < w.heap.size := HB2.out
            have S_of : ∀ w2, Below w.heap.size w w2 → w2.cell? ⟨b, off + J * 2, none⟩ = some (.int .i64 x) ∧ w2.cell? ⟨b, off + J * 2 + 1, none⟩ = some (.int .i64 y) := by
              intro w2 hb2
              rw [hB.cell z0] at hc1 hc2
              exact ⟨by rw [hb2.cell z0]; exact hc1, by rw [hb2.cell z0]; exact hc2⟩
            have HO := Lib.hid (ho.below ((Drew.drewN wq 1).below _)); clear ho
            clear hc1 hc2
            have d1 : Below w.heap.size w wq.drew := d0
            go_region_held3 (fun w' => w'.cell? ⟨b, off + J * 2, none⟩ = some (.int .i64 x) ∧ w'.cell? ⟨b, off + J * 2 + 1, none⟩ = some (.int .i64 y)) ((first | exact S_of _ hB | exact S_of _ d1 | exact S_of _ (Below.alloc d1 (Below.size d1) _) | exact S_of _ ‹_›))
              ((refine step_pushI (by rfl) (by rfl) _ _ (by rfl) HO.out (by rfl) (by rfl) (by omega) (Below.size d1) ?_; intro a3 c3 w3 ho3 hg3; have hB3 := below_grown d1 hg3.grown (Below.size d1) HO.out.1.lo))
            have ho4 : ys ++ ((grp xs f i).map csum).take m ++ [x + y] = _ := take_grp Hn.out hi hlt Hx.out ys
            rw [IntWalk.i64_in _ (by omega), ho4] at ho3
            have HO3 := Lib.hid ho3
            clear ho3 ho4 HO hg3 S_of d0 d1
            go_wp2
            go_roundw
            case rel => exact ⟨⟨m + 1, _, _, by omega, by have := HJ.out; go_num, rfl, HO3.out⟩, hB3⟩
            case measure => have := HJ.out; simp [intOf]; omega
          · obtain rfl : m = i - f := by omega
            have e3 : ys ++ ((grp xs f i).map csum).take (i - f) = ys ++ (grp xs f i).map csum := by rw [all_grp Hn.out hi]
            rw [e3] at ho
            clear e3
            have eJ : (i : Int) - 1 - (i - f : Nat) = (f : Int) - 1 := by omega
            have eI : f + (i - f) = i := by omega
            rw [eJ]
            rw [eI] at ho ⊢
            clear eJ eI
            have q2 : ¬ (f : Int) ≤ (f : Int) - 1 := by omega
            have HO := Lib.hid ho; clear ho
            go_wp2
            go_roundw
            case rel => exact ⟨⟨i + 1, i, _, _, _, by go_num, rfl, rfl, HO.out, .inl ⟨by omega, by rw [wst_new Hf.out Hne.out], by rw [wst_new Hf.out Hne.out, List.map_append, Hys.out]⟩⟩, hB⟩
            case measure => first | (simp [intOf]; done) | (simp [intOf]; omega)
    · obtain rfl : i = n := by omega
      have n2 : decide ((i : Int) < (i : Int)) = false := by simp
      go_wp2
      go_quiet (fail)
      have hBd := hB.trans ((Drew.drewN wo nq).below w.heap.size)
      have HO := Lib.hid (HO.out.below ((Drew.drewN wo nq).below _))
      clear n2
      go_wp2
      go_loopw [3, 6] (fun ov jv wr => Hid (∃ (m : Nat) (a' : Option Addr) (c' : Nat), m ≤ i - f ∧ jv = .int .i64 ((i : Int) - 1 - m) ∧ ov = .slice a' (f + m) c' ∧ OwI wr w.heap.size wr.heap.size a' (f + m) c' (ys ++ ((grp xs f i).map csum).take m)) ∧ Below w.heap.size w wr) (fun _ j _ => (intOf j + 1 - f).toNat)
      case atStart => exact ⟨⟨0, _, _, Nat.zero_le _, by go_num, rfl, by simpa using HO.out⟩, hBd⟩
      case round =>
        clear HO hB hBd
        obtain ⟨HV, hB⟩ := hrel
        obtain ⟨wq, rfl⟩ : ∃ wq : World, wq = wr := ⟨_, rfl⟩
        obtain ⟨m, a2, c2, hm, rfl, rfl, ho⟩ := HV.out
        clear HV
        have hbs := hB.size
        by_cases hlt : m < i - f
        · obtain ⟨b2, off2, rfl, hcell2⟩ := (hr.below hB).at (k := i - 1 - m) (by rw [Hn.out]; omega)
          obtain ⟨x, y, hx⟩ := pair_at (k := i - 1 - m) Hn.out (by omega)
          obtain ⟨hc1, hc2⟩ := hcell2 _ _ hx
          have HB2 := Lib.hid (show b2 < w.heap.size from (hr.at (k := i - 1 - m) (by rw [Hn.out]; omega)).elim fun b3 h3 => h3.elim fun o3 h4 => by obtain ⟨e4, h5⟩ := h4; obtain ⟨rfl, rfl⟩ : b2 = b3 ∧ off2 = o3 := (by simpa using e4); exact World.block_lt_of_cell? _ _ (h5 _ _ hx).1)
          clear hcell2
          simp only at hc1 hc2
          obtain ⟨⟨l1, l2⟩, l3, l4⟩ := HL.out _ _ hx
          simp only at l1 l2 l3 l4
          obtain ⟨J, hJ⟩ : ∃ J : Nat, J = i - 1 - m := ⟨_, rfl⟩
          rw [← hJ] at hc1 hc2
          have Hx := Lib.hid hx; clear hx
          have HJ := Lib.hid hJ
          have eJ : (i : Int) - 1 - m = (J : Int) := by omega
          have q1 : (J : Int) < (i : Int) := by omega
          have q2 : (f : Int) ≤ (J : Int) := by omega
          rw [eJ]
          clear eJ hJ
          go_wp2
          have d0 := hB.trans ((Drew.drewN wq 1).below w.heap.size)
          have z0 : b2 < w.heap.size := HB2.out
          have S_of : ∀ w2, Below w.heap.size w w2 → w2.cell? ⟨b2, off2 + J * 2, none⟩ = some (.int .i64 x) ∧ w2.cell? ⟨b2, off2 + J * 2 + 1, none⟩ = some (.int .i64 y) := by
            intro w2 hb2
            rw [hB.cell z0] at hc1 hc2
            exact ⟨by rw [hb2.cell z0]; exact hc1, by rw [hb2.cell z0]; exact hc2⟩
          have HO := Lib.hid (ho.below ((Drew.drewN wq 1).below _)); clear ho
          clear hc1 hc2
          have d1 : Below w.heap.size w wq.drew := d0
          go_region_held3 (fun w' => w'.cell? ⟨b2, off2 + J * 2, none⟩ = some (.int .i64 x) ∧ w'.cell? ⟨b2, off2 + J * 2 + 1, none⟩ = some (.int .i64 y)) ((first | exact S_of _ hB | exact S_of _ d1 | exact S_of _ (Below.alloc d1 (Below.size d1) _) | exact S_of _ ‹_›))
            ((refine step_pushI (by rfl) (by rfl) _ _ (by rfl) HO.out (by rfl) (by rfl) (by omega) (Below.size d1) ?_; intro a3 c3 w3 ho3 hg3; have hB3 := below_grown d1 hg3.grown (Below.size d1) HO.out.1.lo))
          have ho4 : ys ++ ((grp xs f i).map csum).take m ++ [x + y] = _ := take_grp Hn.out hi hlt Hx.out ys
          rw [IntWalk.i64_in _ (by omega), ho4] at ho3
          have HO3 := Lib.hid ho3
          clear ho3 ho4 HO hg3 S_of d0 d1
          go_wp2
          go_roundw
          case rel => exact ⟨⟨m + 1, _, _, by omega, by have := HJ.out; go_num, rfl, HO3.out⟩, hB3⟩
          case measure => have := HJ.out; simp [intOf]; omega
        · obtain rfl : m = i - f := by omega
          have e3 : ys ++ ((grp xs f i).map csum).take (i - f) = ys ++ (grp xs f i).map csum := by rw [all_grp Hn.out hi]
          rw [e3] at ho
          clear e3
          have eJ : (i : Int) - 1 - (i - f : Nat) = (f : Int) - 1 := by omega
          have eI : f + (i - f) = i := by omega
          rw [eJ]
          rw [eI] at ho ⊢
          clear eJ eI
          have q2 : ¬ (f : Int) ≤ (f : Int) - 1 := by omega
          have HO := Lib.hid ho; clear ho
          go_wp2
          go_roundw
          case rel => exact ⟨⟨i + 1, i, _, _, _, by go_num, rfl, rfl, HO.out, .inr ⟨rfl, rfl, by rw [Hys.out, wordOf, wordCells, Hn.out, Hf.out, List.map_append]⟩⟩, hB⟩
          case measure => first | (simp [intOf]; done) | (simp [intOf]; omega)
end Go.Proofs.Ytnjfbgdighaiiaa
