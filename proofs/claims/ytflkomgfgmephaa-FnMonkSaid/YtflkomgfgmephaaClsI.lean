/-
  ClassesPoly of the program.
-/
import Derived.Test.YtflkomgfgmephaaBuI4
import Derived.Test.YtflkomgfgmephaaPostT
import Derived.Test.YtflkomgfgmephaaSchubI
import Derived.Test.YtflkomgfgmephaaBuI5
import Derived.Deep.RegionHeld3
namespace Go.Proofs.Ytflkomgfgmephaa
open Go.RowKit Go.MapKept

/-- the Schubert polynomial of a permutation -/
def schOf (p : List Int) : Mons := schM (p.take (trimLen p p.length)) (trimLen p p.length)
def clsTo (xs : List (List Int × Int)) : Nat → Mons
  | 0 => []
  | k + 1 => plusM (clsTo xs k) (partOf xs k).2 (schOf (partOf xs k).1)
def clsM (xs : List (List Int × Int)) : Mons := clsTo xs xs.length
def clsT (xs : List (List Int × Int)) : List (List Int × Int) := if classesOk xs = true then closedT (clsM xs) else []
def clsOk (xs : List (List Int × Int)) : Bool := classesOk xs && polyOk (termsM (clsM xs))
theorem cls_no {xs : List (List Int × Int)} (h : classesOk xs = false) : clsT xs = [] ∧ clsOk xs = false := by
  unfold clsT clsOk
  rw [h]
  exact ⟨rfl, rfl⟩
theorem cls_yes {xs : List (List Int × Int)} (h : classesOk xs = true) : clsT xs = closedT (clsM xs) ∧ clsOk xs = polyOk (termsM (clsM xs)) := by
  unfold clsT clsOk
  rw [h]
  exact ⟨if_pos rfl, rfl⟩
theorem B7.nil : B7 [] := fun p hp => by cases hp
theorem B7.plus {F G : Mons} {c : Int} (h : B7 F) (h' : B7 G) : B7 (plusM F c G) := fun p hp => by
  rcases List.mem_append.1 hp with hp | hp
  · exact h p hp
  · obtain ⟨q, hq, rfl⟩ := List.mem_map.1 hp
    exact h' q hq
theorem schOf_b7 {p : List Int} (h : p.length ≤ 7) : B7 (schOf p) := by
  have := trimLen_le p p.length
  exact sch_b7 _ (by omega) (by rw [List.length_take]; omega)
theorem classes_each {xs : List (List Int × Int)} (h : classesOk xs = true) {k : Nat} {p : List Int × Int} (hx : xs[k]? = some p) : isPerm p.1 = true ∧ p.1.length ≤ 7 := by
  unfold classesOk at h
  simp only [Bool.and_eq_true, decide_eq_true_eq, List.all_eq_true, List.mem_range] at h
  have h1 := h.2 k (lt_of_some hx)
  unfold classAt isClass at h1
  rw [partOf_at hx] at h1
  simp only [Bool.and_eq_true] at h1
  exact ⟨h1.1.1.1.1, ((isPerm_iff _).1 h1.1.1.1.1).2.1⟩
theorem clsTo_b7 {xs : List (List Int × Int)} (h : classesOk xs = true) : ∀ k, k ≤ xs.length → B7 (clsTo xs k) := by
  intro k
  induction k with
  | zero => intro _; exact B7.nil
  | succ k ih =>
    intro hk
    obtain ⟨p, hp⟩ := some_of (show k < xs.length by omega)
    refine (ih (by omega)).plus ?_
    rw [partOf_at hp]
    exact schOf_b7 (classes_each h hp).2
theorem classes_len {xs : List (List Int × Int)} (h : classesOk xs = true) : xs.length ≤ 100 := by
  unfold classesOk at h
  simp only [Bool.and_eq_true, decide_eq_true_eq] at h
  exact h.1

set_option maxRecDepth 100000 in
set_option maxHeartbeats 3200000 in
theorem implClsPoly_post (a : Option Addr) (n c : Nat) (xs : List (List Int × Int)) (w : World) (hr : RP w a xs) (hn : xs.length = n) (hb : n ≤ 1048576) (hsh : Short_P xs) :
    Calls Try.prog 23 #[.slice a n c] w (PostT w (clsT xs) (clsOk xs)) := by
  have Hn := Lib.hid hn
  cases hok : classesOk xs
  · have H0 := Lib.hid (cls_no hok)
    have Hok := Lib.hid hok
    clear hok hn
    go_enter Try.func23, Try.ntmps23
    go_wp2_with fail
    refine (is (implClassesOk_any _ _ _ xs _ hr Hn.out hb hsh) Hok.out).mono ?_
    rintro e w1 ⟨rfl, hB1⟩
    go_wp2
    go_ret2
    exact ⟨_, _, _, _, rfl, by rw [H0.out.1]; exact TO.nil, H0.out.2.symm, hB1⟩
  have H0 := Lib.hid (cls_yes hok)
  have Hok := Lib.hid hok
  have hn100 : n ≤ 100 := by rw [← hn]; exact classes_len hok
  have hmm := @run_makeMap Try.prog
  clear hok hn
  go_enter Try.func23, Try.ntmps23
  go_wp2_with fail
  refine (is (implClassesOk_any _ _ _ xs _ hr Hn.out hb hsh) Hok.out).mono ?_
  rintro e w1 ⟨rfl, hB1⟩
  obtain ⟨U, hU⟩ : ∃ U, w1.alloc (.map #[] 0) = U := ⟨_, rfl⟩
  have hBU : Below w1.heap.size w1 U := by rw [← hU]; exact (Below.refl _ _).alloc (Nat.le_refl _) _
  have HM0 := Lib.hid (show PF U w1.heap.size (clsTo xs 0) by rw [← hU]; exact PF.made w1)
  have hB2 := hB1.trans (hBU.mono hB1.size)
  clear hBU hB1
  go_wp2
  go_loopw [4, 13] (fun fv iv wr => Hid (∃ (k r : Nat), iv = .int .i64 k ∧ k ≤ n ∧ fv = .map (some r) ∧ PF wr r (clsTo xs k)) ∧ Below w.heap.size w wr) (fun _ iv _ => n - (intOf iv).toNat)
  case atStart => exact ⟨⟨0, _, rfl, Nat.zero_le _, rfl, HM0.out⟩, hB2⟩
  case round =>
    clear HM0 hB2 hU
    obtain ⟨HV, hB⟩ := hrel
    obtain ⟨wo, rfl⟩ : ∃ wo : World, wo = wr := ⟨_, rfl⟩
    obtain ⟨k, r, rfl, hk, rfl, hM⟩ := HV.out
    clear HV
    by_cases hlt : k < n
    · obtain ⟨s, x, hx⟩ := part_at Hn.out hlt
      obtain ⟨b, off, rfl, hcell⟩ := (hr.below hB).at (k := k) (by rw [Hn.out]; exact hlt)
      obtain ⟨a2, c2, p1, p2, hri, hcap⟩ := hcell k _ hx
      simp only at p1 p2 hri hcap
      obtain ⟨hsp, hs7⟩ := classes_each Hok.out hx
      simp only at hs7 hsp
      have Hpo := Lib.hid (partOf_at hx)
      obtain ⟨l, hl⟩ : ∃ l, s.length = l := ⟨_, rfl⟩
      rw [hl] at p1 hs7 hcap
      have Hl := Lib.hid hl
      have Hsp := Lib.hid hsp
      obtain ⟨W, hW⟩ : ∃ W, wo.alloc (.cells #[.slice a2 l c2, .int .i64 x] 81) = W := ⟨_, rfl⟩
      have hBW : Below wo.heap.size wo W := by rw [← hW]; exact (Below.refl _ _).alloc (Nat.le_refl _) _
      have g0 : W.heap[wo.heap.size]? = some (.cells #[.slice a2 l c2, .int .i64 x] 81) := by rw [← hW]; exact heap_alloc_new wo _
      have y0 : W.cell? ⟨wo.heap.size, 0, none⟩ = some (.slice a2 l c2) := by rw [cell_of_row W _ 0 _ _ (0, 0) g0]; rfl
      have y1 : W.cell? ⟨wo.heap.size, 1, none⟩ = some (.int .i64 x) := by rw [cell_of_row W _ 1 _ _ (0, 0) g0]; rfl
      have S_of : ∀ w2, Below W.heap.size W w2 → w2.cell? ⟨wo.heap.size, 0, none⟩ = some (.slice a2 l c2) ∧ w2.cell? ⟨wo.heap.size, 1, none⟩ = some (.int .i64 x) := fun w2 hb => ⟨by rw [hb.cell (World.block_lt_of_cell? _ _ y0)]; exact y0, by rw [hb.cell (World.block_lt_of_cell? _ _ y1)]; exact y1⟩
      have hriW := hri.below hBW
      have hMW := hM.below hBW
      have HR := Lib.hid (fun w2 (h : Below W.heap.size W w2) => hriW.below h)
      have HM := Lib.hid (fun w2 (h : Below W.heap.size W w2) => hMW.below h)
      have Hst := Lib.hid (show clsTo xs (k + 1) = plusM (clsTo xs k) x (schM (s.take (trimLen s l)) (trimLen s l)) by
        rw [clsTo, Hpo.out]
        unfold schOf
        rw [hl])
      have q1 : (k : Int) < (n : Int) := by omega
      have hdW := hB.trans (hBW.mono hB.size)
      have d0 : Below W.heap.size W W := Below.refl _ _
      have d1 : Below W.heap.size W W.drew := Drew.below ⟨1, rfl⟩ _
      clear hcell hx hri hM hl hsp g0 hriW hMW
      go_wp2
      go_region_held3 (fun w' => w'.cell? ⟨wo.heap.size, 0, none⟩ = some (.slice a2 l c2) ∧ w'.cell? ⟨wo.heap.size, 1, none⟩ = some (.int .i64 x)) ((first | exact S_of _ d0 | exact S_of _ d1 | exact S_of _ ‹_›))
        ((first | (go_at_call 39; refine (implSchub_any _ _ _ s _ (HR.out _ (by first | exact d0 | exact d1)) Hl.out (by omega) hcap Hsp.out).mono ?_; rintro e w5 ⟨r5, rfl, hF5, hb5⟩; have d2 := Below.trans d1 (hb5.mono (Below.size d1))) | (go_at_call 55; refine (plus_any _ _ _ _ _ _ (HM.out _ d2) hF5).mono ?_; rintro e w6 ⟨r6, rfl, _, hF6, hb6⟩; have d3 := d2.trans (hb6.mono d2.size))))
      have hB3 := hdW.trans (d3.mono hdW.size)
      have HM6 := Lib.hid (show PF w6 r6 (clsTo xs (k + 1)) by rw [Hst.out]; exact hF6)
      clear hF5 hF6 S_of d0 d1 d2 d3 hb5 hb6 HM HR hBW hdW
      go_wp2
      go_roundw
      case rel => exact ⟨⟨k + 1, _, by go_num, by omega, rfl, HM6.out⟩, hB3⟩
      case measure => simp [intOf]; omega
    · obtain rfl : k = n := by omega
      have HM := Lib.hid (show PF wo r (clsM xs) by unfold clsM; rw [Hn.out]; exact hM)
      clear hM
      go_wp2_with fail
      refine (closed_any r _ _ HM.out).mono ?_
      rintro e w9 ⟨a9, n9, c9, r9, rfl, ho9, hh9, hb9⟩
      have hB9 := hB.trans (hb9.mono hB.size)
      have Ho9 := Lib.hid (ho9.mono (B' := w.heap.size) (S' := w9.heap.size) hB.size (Nat.le_refl _))
      clear ho9
      go_wp2
      go_ret2
      exact ⟨_, _, _, _, rfl, by rw [H0.out.1]; exact Ho9.out, by rw [H0.out.2]; exact hh9, hB9⟩
theorem implClsPoly_any (a : Option Addr) (n c : Nat) (xs : List (List Int × Int)) (w : World) (hr : RP w a xs) (hn : xs.length = n) (hb : n ≤ 1048576) (hsh : Short_P xs) :
    Calls Try.prog 23 #[.slice a n c] w fun e w' => ∃ a' n' c' r, e = .returned (.tuple #[.slice a' n' c', .bool r]) ∧ TO w' w.heap.size w'.heap.size a' n' c' (clsT xs) ∧ Hid (r = clsOk xs) ∧ Below w.heap.size w w' :=
  (implClsPoly_post a n c xs w hr hn hb hsh).mono fun _ _ h => h
end Go.Proofs.Ytflkomgfgmephaa
