/-
  Contracts of ShapeOfPerm, the program's and the reference's.
-/
import Derived.Test.YtleehkgfoicmdaaBare
import Derived.OwnWalk
namespace Go.Proofs.Ytleehkgfoicmdaa
open Go.RowKit

/-- the row lengths of a permutation with its only descent at d, from below -/
def rowsOf (xs : List Int) (d : Nat) : List Int := (List.range (d + 1)).map fun m => xs.getD (d - m) 0 - ((d - m : Nat) : Int)
def shapeOfPerm (xs : List Int) : List Int × Int × Bool := match descents xs with
  | [d] => (bare (rowsOf xs d.toNat), d + 1, true)
  | _ => ([], 0, false)
theorem rowsOf_length (xs : List Int) (d : Nat) : (rowsOf xs d).length = d + 1 := by simp [rowsOf]
theorem rowsOf_take (xs : List Int) {d m p : Nat} {x : Int} (h : m + p = d) (hx : xs[p]? = some x) : (rowsOf xs d).take (m + 1) = (rowsOf xs d).take m ++ [x - (p : Int)] := by
  have e : d - m = p := by omega
  refine take_at ?_
  unfold rowsOf
  rw [List.getElem?_map, List.getElem?_range (by omega)]
  simp only [Option.map_some, e, getD_of hx]
theorem shapeOfPerm_one {xs : List Int} {d : Nat} (h : descents xs = [(d : Int)]) : shapeOfPerm xs = (bare (rowsOf xs d), (d : Int) + 1, true) := by unfold shapeOfPerm; rw [h]; rfl
theorem shapeOfPerm_no {xs : List Int} (h : (descents xs).length ≠ 1) : shapeOfPerm xs = ([], 0, false) := by
  unfold shapeOfPerm
  split
  · rename_i hd; rw [hd] at h; simp at h
  · rfl
theorem shapeOfPerm_length (xs : List Int) : (shapeOfPerm xs).1.length ≤ 7 := by
  unfold shapeOfPerm
  split
  · rename_i d hd
    have := bare_length (rowsOf xs d.toNat)
    have h2 := descents_at (xs := xs) (d := d) (by rw [hd]; simp)
    rw [rowsOf_length] at this
    have hp : isPerm xs = true := by
      cases hp : isPerm xs
      · rw [descents, hp] at hd; simp at hd
      · rfl
    have := perm_len hp
    show (bare (rowsOf xs d.toNat)).length ≤ 7
    omega
  · simp

set_option maxRecDepth 100000 in
set_option maxHeartbeats 1600000 in
theorem specShapeOfPerm_any (a : Option Addr) (n c : Nat) (xs : List Int) (w : World) (hr : RI w a xs) (hn : xs.length = n) (hb : n ≤ 17592186044416) (hcap : n ≤ c) :
    Calls Try.prog 43 #[.slice a n c] w fun e w' => ∃ a' n' c' r1 r2, e = .returned (.tuple #[.slice a' n' c', .int .i64 r1, .bool r2]) ∧ OwI w' w.heap.size w'.heap.size a' n' c' (shapeOfPerm xs).1 ∧ Hid (r1 = (shapeOfPerm xs).2.1) ∧ Hid (r2 = (shapeOfPerm xs).2.2) ∧ Below w.heap.size w w' := by
  have Hn := Lib.hid hn; clear hn
  obtain ⟨L, hL⟩ : ∃ L, (descents xs).length = L := ⟨_, rfl⟩
  by_cases h1 : L = 1
  · have hD : ∃ d : Nat, descents xs = [(d : Int)] ∧ d + 1 < n := by
      obtain ⟨d, hd⟩ := List.length_eq_one_iff.1 (hL.trans h1)
      have := descents_at (xs := xs) (d := d) (by rw [hd]; simp)
      rw [Hn.out] at this
      exact ⟨d.toNat, by rw [hd]; congr 1; omega, by omega⟩
    have hn7 : n ≤ 7 := by
      cases hp : isPerm xs
      · rw [descents, hp] at hL; simp at hL; omega
      · have := perm_len hp; rw [Hn.out] at this; omega
    have Hxs : Hid (∀ (k : Nat) (x : Int), xs[k]? = some x → 0 ≤ x ∧ x < n) := by
      cases hp : isPerm xs
      · rw [descents, hp] at hL; simp at hL; omega
      · intro k x hx; have := perm_at hp hx; rw [Hn.out] at this; exact this
    obtain ⟨d, hd, hdn⟩ := hD
    clear hL h1
    have HD := Lib.hid hd; clear hd
    go_enter Try.func43, Try.ntmps43
    go_wp2_with fail
    refine (specDescents_any _ _ _ xs _ hr Hn.out (by omega) hcap).mono ?_
    rintro e w1 ⟨ad, nd, cd, rfl, hod, hb1⟩
    rw [HD.out] at hod
    obtain rfl : 1 = nd := hod.len
    obtain ⟨bd, offd, rfl, hcelld⟩ := hod.rd.at (k := 0) (by simp)
    have hcd := hcelld 0 (d : Int) rfl
    rw [Nat.add_zero] at hcd
    clear hcelld hod
    have hsz1 := hb1.size
    have h2 : OwI (w1.alloc (.cells #[] 3)) w1.heap.size (w1.alloc (.cells #[] 3)).heap.size (some ⟨w1.heap.size, 0, none⟩) 0 0 [] := OwI.mk (World.ownsRow_made _ #[] 0 (Nat.le_refl _) (Nat.zero_le _) rfl)
    have hB0 : Below w.heap.size w (w1.alloc (.cells #[] 3)) := hb1.alloc (by omega) _
    have H2 := Lib.hid (h2.mono hsz1 (Nat.le_refl _)); clear h2
    go_wp2
    go_loopw [7, 8] (fun v i wr => Hid (∃ m : Nat, ((∃ p : Nat, m + p = d ∧ i = .int .i64 p) ∨ (m = d + 1 ∧ i = .int .i64 (-1))) ∧ (∃ a' c', v = .slice a' m c' ∧ OwI wr w.heap.size wr.heap.size a' m c' ((rowsOf xs d).take m))) ∧ Below w.heap.size w wr) (fun _ i _ => (intOf i + 1).toNat)
    case atStart => exact ⟨⟨0, .inl ⟨d, by omega, by go_num⟩, _, _, rfl, H2.out⟩, hB0⟩
    case round =>
      clear H2 hB0 hb1 hcd
      obtain ⟨HV, hB⟩ := hrel
      obtain ⟨wo, rfl⟩ : ∃ wo : World, wo = wr := ⟨_, rfl⟩
      obtain ⟨m, hi, a', c', rfl, ho⟩ := HV.out
      clear HV
      have hbs := hB.size
      rcases hi with ⟨p, hp, rfl⟩ | ⟨hm, rfl⟩
      · have hrw := hr.below hB
        obtain ⟨b, off, rfl, hcell⟩ := hrw.at (k := p) (by rw [Hn.out]; omega)
        obtain ⟨x, hx⟩ := some_at (k := p) Hn.out (by omega)
        have hc := hcell p x hx
        have hx7 := Hxs.out p x hx
        have Hst := Lib.hid (rowsOf_take xs hp hx)
        clear hcell hrw hx
        have q0 : (p : Int) < (n : Int) := by omega
        have q1 : IntKind.i64.wrap (x - (p : Int)) = x - (p : Int) := IntWalk.i64_in _ (by omega)
        have HO := Lib.hid ho; clear ho
        go_wp2_with (first | (at_builtin; go_loud (refine wpList_pushI (by rfl) (by rfl) _ _ (by rfl) HO.out (by rfl) (by rfl) (by omega) (by omega) ?_)))
        intro a2 c2 w2 ho2 hg2
        have hB2 := hg2.below hB (by omega) (fun k hk => HO.out.1.lo k hk)
        clear q1
        have q1 : IntKind.i64.wrap ((p : Int) - 1) = (p : Int) - 1 := IntWalk.i64_in _ (by omega)
        go_wp2
        go_roundw
        case rel =>
          refine ⟨⟨m + 1, ?_, _, _, rfl, by rw [Hst.out]; exact ho2⟩, hB2⟩
          rcases p with _ | p
          · exact .inr ⟨by omega, by go_num⟩
          · exact .inl ⟨p, by omega, by go_num⟩
        case measure => simp [intOf]
      · subst hm
        have ho' : OwI wo w.heap.size wo.heap.size a' (d + 1) c' (rowsOf xs d) := by
          rw [List.take_of_length_le (by rw [rowsOf_length]; exact Nat.le_refl _)] at ho; exact ho
        clear ho
        go_wp2_with fail
        ·
          refine (l4Bare_any _ _ _ (rowsOf xs d) _ ho'.rd ho'.len (by omega) ho'.1.lt).mono ?_
          rintro e w3 ⟨a3, n3, c3, rfl, ho3, hb3⟩
          go_wp2
          go_ret3
          exact ⟨_, _, _, _, _, rfl, by rw [shapeOfPerm_one HD.out]; exact ho3.mono hB.size (Nat.le_refl _), by rw [shapeOfPerm_one HD.out]; exact rfl, by rw [shapeOfPerm_one HD.out]; exact rfl, hB.trans (hb3.mono hB.size)⟩
  · have HL := Lib.hid hL; clear hL
    go_enter Try.func43, Try.ntmps43
    go_wp2_with fail
    refine (specDescents_any _ _ _ xs _ hr Hn.out (by omega) hcap).mono ?_
    rintro e w1 ⟨ad, nd, cd, rfl, hod, hb1⟩
    obtain rfl : L = nd := by rw [← HL.out]; exact hod.len
    have hLn : ((L : Int) != 1) = true := by simp; omega
    go_wp2
    go_ret3
    have hno := shapeOfPerm_no (xs := xs) (by rw [HL.out]; exact h1)
    exact ⟨_, _, _, _, _, rfl, by rw [hno]; exact OwI.nil, by rw [hno]; exact rfl, by rw [hno]; exact rfl, hb1⟩

set_option maxRecDepth 100000 in
set_option maxHeartbeats 1600000 in
theorem implShapeOfPerm_any (a : Option Addr) (n c : Nat) (xs : List Int) (w : World) (hr : RI w a xs) (hn : xs.length = n) (hb : n ≤ 17592186044416) (_hcap : n ≤ c) :
    Calls Try.prog 44 #[.slice a n c] w fun e w' => ∃ a' n' c' r1 r2, e = .returned (.tuple #[.slice a' n' c', .int .i64 r1, .bool r2]) ∧ OwI w' w.heap.size w'.heap.size a' n' c' (shapeOfPerm xs).1 ∧ Hid (r1 = (shapeOfPerm xs).2.1) ∧ Hid (r2 = (shapeOfPerm xs).2.2) ∧ Below w.heap.size w w' := by
  have Hn := Lib.hid hn; clear hn
  obtain ⟨L, hL⟩ : ∃ L, (descents xs).length = L := ⟨_, rfl⟩
  by_cases h1 : L = 1
  · have hD : ∃ d : Nat, descents xs = [(d : Int)] ∧ d + 1 < n := by
      obtain ⟨d, hd⟩ := List.length_eq_one_iff.1 (hL.trans h1)
      have := descents_at (xs := xs) (d := d) (by rw [hd]; simp)
      rw [Hn.out] at this
      exact ⟨d.toNat, by rw [hd]; congr 1; omega, by omega⟩
    have hn7 : n ≤ 7 := by
      cases hp : isPerm xs
      · rw [descents, hp] at hL; simp at hL; omega
      · have := perm_len hp; rw [Hn.out] at this; omega
    have Hxs : Hid (∀ (k : Nat) (x : Int), xs[k]? = some x → 0 ≤ x ∧ x < n) := by
      cases hp : isPerm xs
      · rw [descents, hp] at hL; simp at hL; omega
      · intro k x hx; have := perm_at hp hx; rw [Hn.out] at this; exact this
    obtain ⟨d, hd, hdn⟩ := hD
    clear hL h1
    have HD := Lib.hid hd; clear hd
    go_enter Try.func44, Try.ntmps44
    go_wp2_with fail
    refine (implDescents_any _ _ _ xs _ hr Hn.out (by omega)).mono ?_
    rintro e w1 ⟨ad, nd, cd, rfl, hod, hb1⟩
    rw [HD.out] at hod
    obtain rfl : 1 = nd := hod.len
    obtain ⟨bd, offd, rfl, hcelld⟩ := hod.rd.at (k := 0) (by simp)
    have hcd := hcelld 0 (d : Int) rfl
    rw [Nat.add_zero] at hcd
    clear hcelld hod
    have hsz1 := hb1.size
    have h2 : OwI (w1.alloc (.cells #[] 3)) w1.heap.size (w1.alloc (.cells #[] 3)).heap.size (some ⟨w1.heap.size, 0, none⟩) 0 0 [] := OwI.mk (World.ownsRow_made _ #[] 0 (Nat.le_refl _) (Nat.zero_le _) rfl)
    have hB0 : Below w.heap.size w (w1.alloc (.cells #[] 3)) := hb1.alloc (by omega) _
    have H2 := Lib.hid (h2.mono hsz1 (Nat.le_refl _)); clear h2
    go_wp2
    go_loopw [7, 8] (fun v i wr => Hid (∃ m : Nat, ((∃ p : Nat, m + p = d ∧ i = .int .i64 p) ∨ (m = d + 1 ∧ i = .int .i64 (-1))) ∧ (∃ a' c', v = .slice a' m c' ∧ OwI wr w.heap.size wr.heap.size a' m c' ((rowsOf xs d).take m))) ∧ Below w.heap.size w wr) (fun _ i _ => (intOf i + 1).toNat)
    case atStart => exact ⟨⟨0, .inl ⟨d, by omega, by go_num⟩, _, _, rfl, H2.out⟩, hB0⟩
    case round =>
      clear H2 hB0 hb1 hcd
      obtain ⟨HV, hB⟩ := hrel
      obtain ⟨wo, rfl⟩ : ∃ wo : World, wo = wr := ⟨_, rfl⟩
      obtain ⟨m, hi, a', c', rfl, ho⟩ := HV.out
      clear HV
      have hbs := hB.size
      rcases hi with ⟨p, hp, rfl⟩ | ⟨hm, rfl⟩
      · have hrw := hr.below hB
        obtain ⟨b, off, rfl, hcell⟩ := hrw.at (k := p) (by rw [Hn.out]; omega)
        obtain ⟨x, hx⟩ := some_at (k := p) Hn.out (by omega)
        have hc := hcell p x hx
        have hx7 := Hxs.out p x hx
        have Hst := Lib.hid (rowsOf_take xs hp hx)
        clear hcell hrw hx
        have q0 : (p : Int) < (n : Int) := by omega
        have q1 : IntKind.i64.wrap (x - (p : Int)) = x - (p : Int) := IntWalk.i64_in _ (by omega)
        have HO := Lib.hid ho; clear ho
        go_wp2_with (first | (at_builtin; go_loud (refine wpList_pushI (by rfl) (by rfl) _ _ (by rfl) HO.out (by rfl) (by rfl) (by omega) (by omega) ?_)))
        intro a2 c2 w2 ho2 hg2
        have hB2 := hg2.below hB (by omega) (fun k hk => HO.out.1.lo k hk)
        clear q1
        have q1 : IntKind.i64.wrap ((p : Int) - 1) = (p : Int) - 1 := IntWalk.i64_in _ (by omega)
        go_wp2
        go_roundw
        case rel =>
          refine ⟨⟨m + 1, ?_, _, _, rfl, by rw [Hst.out]; exact ho2⟩, hB2⟩
          rcases p with _ | p
          · exact .inr ⟨by omega, by go_num⟩
          · exact .inl ⟨p, by omega, by go_num⟩
        case measure => simp [intOf]
      · subst hm
        have ho' : OwI wo w.heap.size wo.heap.size a' (d + 1) c' (rowsOf xs d) := by
          rw [List.take_of_length_le (by rw [rowsOf_length]; exact Nat.le_refl _)] at ho; exact ho
        clear ho
        go_wp2_with fail
        ·
          refine (shapeOfRows_any _ _ _ _ _ (rowsOf xs d) _ ho' (by omega)).mono ?_
          rintro e w3 ⟨n3, rfl, ho3, rfl⟩
          go_wp2
          go_ret3
          exact ⟨_, _, _, _, _, rfl, by rw [shapeOfPerm_one HD.out]; exact ho3, by rw [shapeOfPerm_one HD.out]; exact rfl, by rw [shapeOfPerm_one HD.out]; exact rfl, hB⟩
  · have HL := Lib.hid hL; clear hL
    go_enter Try.func44, Try.ntmps44
    go_wp2_with fail
    refine (implDescents_any _ _ _ xs _ hr Hn.out (by omega)).mono ?_
    rintro e w1 ⟨ad, nd, cd, rfl, hod, hb1⟩
    obtain rfl : L = nd := by rw [← HL.out]; exact hod.len
    have hLn : ((L : Int) != 1) = true := by simp; omega
    go_wp2
    go_ret3
    have hno := shapeOfPerm_no (xs := xs) (by rw [HL.out]; exact h1)
    exact ⟨_, _, _, _, _, rfl, by rw [hno]; exact OwI.nil, by rw [hno]; exact rfl, by rw [hno]; exact rfl, hb1⟩
end Go.Proofs.Ytleehkgfoicmdaa
