/-
  Contracts of BottomDream, the program's and the reference's.
-/
import Derived.Test.YtnjfbgdighaiiaaCode
import Derived.Test.YtnjfbgdighaiiaaKC2
namespace Go.Proofs.Ytnjfbgdighaiiaa
open Go.RowKit

theorem Try.infoCell : (Try.prog.info? 44).map (fun i => (i.zero, i.size, i.bytes)) = some (some (.agg #[.int .i64 0, .int .i64 0]), 2, 16) := by kernel_rfl
theorem slice_of2 {w : World} {B e n : Nat} {v : Value} {xs : List Value} (h : w.ownsRow B e 2 v n xs) : ∃ a c, v = .slice a n c := by
  rcases h.2 with ⟨rfl, rfl⟩ | ⟨g, cap, cur, rfl, _⟩
  · exact ⟨none, 0, rfl⟩
  · exact ⟨_, cap, rfl⟩
theorem wpList_pushC {w W : World} {p q : Int} (hW : W = w.alloc (.cells #[.int .i64 p, .int .i64 q] 44)) {ops : Array Oper} {rest : List Oper} {o : Oper} {ac : Act} {Q : Exit → Act → World → Prop} (hgd : o.guard = none) (s x : Operand)
    (ho : o.op = .call { callee := .builtin .append, args := #[s, x], argTypes := #[23, 23] })
    {B S : Nat} {a : Option Addr} {n c : Nat} {xs : List (Int × Int)} (hown : CO w B S a n c xs) (hs : ac.eval s = .slice a n c)
    (hx : ac.eval x = .slice (some ⟨w.heap.size, 0, none⟩) 1 1) (hn : n + 1 ≤ 1048576) (hbase : B ≤ w.heap.size)
    (h : ∀ a' c' w', CO w' B w'.heap.size a' (n + 1) c' (xs ++ [(p, q)]) → w.grownBy w' (Value.slice a n c).ownBlock → wpList Try.prog ops Q rest (ac.put o.dst (.slice a' (n + 1) c')) w') :
    wpList Try.prog ops Q (o :: rest) ac W := by
  subst hW
  obtain ⟨i0, hi, hz0, hz1, hz2⟩ := info_parts Try.infoCell
  refine wpList_append_own _ hgd s x 23 ho B 44 i0 (.agg #[.int .i64 0, .int .i64 0]) 2 16 Try.underlying23 hi hz0 hz1 hz2 rfl (by decide) _ n (prs xs) hs (hown.1.alloc _) ⟨w.heap.size, 0, none⟩ 1 1 [.int .i64 p, .int .i64 q] hx rfl ?_ ?_ (by unfold maxLen; omega) (by omega) (by simp; omega) ?_
  · intro j y hj
    match j, hj with
    | 0, hj => simp at hj; subst hj; simp [Addr.add]
    | 1, hj => simp at hj; subst hj; simp [Addr.add]
  · intro y hy
    simp at hy
    rcases hy with rfl | rfl <;> rfl
  · intro v' w' h2 h3 _
    obtain ⟨a', c', rfl⟩ := slice_of2 h2
    exact h a' c' w' (CO.mk (by rw [prs_append]; exact h2)) (grownBy.trans (World.grownBy_alloc w _ _) h3)
theorem CO.made (w : World) : CO (w.alloc (.cells #[] 44)) w.heap.size (w.alloc (.cells #[] 44)).heap.size (some ⟨w.heap.size, 0, none⟩) 0 0 [] :=
  CO.mk (World.ownsRow_made _ #[] 0 (Nat.le_refl _) (Nat.zero_le _) rfl)
/-- a row of integers lies in another block than a row of cells -/
theorem ne_blockC {w : World} {B B' S n l : Nat} {a a' : Option Addr} {c c' : Nat} {ps : List (Int × Int)} {xs : List Int} (h : CO w B' S a n c ps) (hi : OS w B a' l c' xs) :
    ∀ k, (Value.slice a' l c').ownBlock = some k → (Value.slice a n c).ownBlock ≠ some k := by
  intro k hk hk'
  rcases h.1.2 with ⟨hv, _⟩ | ⟨g, cap, cur, hv, _, hh, _⟩
  · rw [hv] at hk'; cases hk'
  · rw [hv] at hk'
    rcases ownsRow_shape hi.own with ⟨_, rfl, _⟩ | ⟨g', rfl, _, _, _, cur', hg'⟩
    · cases hk
    · have e1 : g = k := by simpa [Value.ownBlock] using hk'
      have e2 : g' = k := by simpa [Value.ownBlock] using hk
      subst e1 e2
      rw [hh] at hg'
      simp at hg'

def rowCells (i m : Nat) : List (Int × Int) := (List.range m).map fun (j : Nat) => ((i : Int), (j : Int))
theorem rowCells_succ (i m : Nat) : rowCells i (m + 1) = rowCells i m ++ [((i : Int), (m : Int))] := by simp [rowCells, List.range_succ]
def bot (c : List Int) : Nat → List (Int × Int)
  | 0 => []
  | i + 1 => bot c i ++ rowCells i (c.getD i 0).toNat
theorem bot_len (c : List Int) {n : Nat} (h : ∀ (i : Nat) (x : Int), c[i]? = some x → 0 ≤ x ∧ x ≤ n) (k : Nat) : (bot c k).length ≤ k * n := by
  induction k with
  | zero => simp [bot]
  | succ k ih =>
    rw [bot, List.length_append, Nat.succ_mul]
    have : (rowCells k (c.getD k 0).toNat).length ≤ n := by
      simp only [rowCells, List.length_map, List.length_range]
      rw [List.getD_eq_getElem?_getD]
      cases hc : c[k]? with
      | none => simp
      | some x => have := h k x hc; simp only [Option.getD_some]; omega
    omega
def bottom (xs : List Int) : List (Int × Int) := if isPerm xs = true ∧ xs.length ≤ 6 then bot (code xs) xs.length else []
theorem code_bd {xs : List Int} (i : Nat) (x : Int) (h : (code xs)[i]? = some x) : 0 ≤ x ∧ x ≤ (xs.length : Nat) := by
  have hi := (List.getElem?_eq_some_iff.1 h).1
  rw [code_length] at hi
  rw [code_at rfl hi] at h
  obtain rfl := Option.some.inj h
  have := cnt_le xs i (xs.length - 1 - i)
  omega
theorem bottom_len (xs : List Int) : (bottom xs).length ≤ 36 := by
  unfold bottom
  split
  · have := bot_len (code xs) (n := xs.length) code_bd xs.length
    have h6 : xs.length ≤ 6 := by omega
    have := Nat.mul_le_mul h6 h6
    omega
  · simp
theorem bottom_no {xs : List Int} (h : isPerm xs = false ∨ 6 < xs.length) : bottom xs = [] := by
  rw [bottom, if_neg]
  rintro ⟨h1, h2⟩
  rcases h with h | h
  · rw [h1] at h; cases h
  · omega
theorem bottom_ok {xs : List Int} {n : Nat} (hn : xs.length = n) (h : isPerm xs = true) (h6 : n ≤ 6) : bottom xs = bot (code xs) n := by
  subst hn
  rw [bottom, if_pos ⟨h, h6⟩]
theorem codeOf_ok {xs : List Int} (h : isPerm xs = true) : codeOf xs = code xs := by rw [codeOf, h]; rfl

set_option maxRecDepth 100000 in
set_option maxHeartbeats 1600000 in
theorem specBottom_any (a : Option Addr) (n c : Nat) (xs : List Int) (w : World) (hr : RI w a xs) (hn : xs.length = n) (hb : n ≤ 17592186044416) (hcap : n ≤ c) :
    Calls Try.prog 14 #[.slice a n c] w fun e w' => ∃ a' n' c', e = .returned (.slice a' n' c') ∧ CO w' w.heap.size w'.heap.size a' n' c' (bottom xs) ∧ Below w.heap.size w w' := by
  have Hn := Lib.hid hn; clear hn
  cases hp : isPerm xs
  · have hno := Lib.hid (bottom_no (xs := xs) (.inl hp))
    have Hp := Lib.hid hp; clear hp
    go_enter Try.func14, Try.ntmps14
    go_wp2_with fail
    refine (is (specIsPerm_any _ _ _ xs _ hr Hn.out (by omega) hcap) Hp.out).mono ?_
    rintro e w1 ⟨rfl, hd⟩
    go_wp2
    go_ret
    exact ⟨_, _, _, rfl, by rw [hno.out]; exact CO.nil, (hd.below w.heap.size)⟩
  have hpl := perm_len hp
  rw [Hn.out] at hpl
  by_cases h6 : 6 < n
  · have hno := Lib.hid (bottom_no (xs := xs) (.inr (by rw [Hn.out]; exact h6)))
    have Hp := Lib.hid hp; clear hp
    go_enter Try.func14, Try.ntmps14
    go_wp2_with fail
    refine (is (specIsPerm_any _ _ _ xs _ hr Hn.out (by omega) hcap) Hp.out).mono ?_
    rintro e w1 ⟨rfl, hd⟩
    go_wp2
    go_ret
    exact ⟨_, _, _, rfl, by rw [hno.out]; exact CO.nil, (hd.below w.heap.size)⟩
  have hok := bottom_ok Hn.out hp (by omega)
  have hcd := codeOf_ok hp
  have Hp := Lib.hid hp; clear hp
  have Hok := Lib.hid hok; clear hok
  have Hcd := Lib.hid hcd; clear hcd
  have hcl : (code xs).length = n := by rw [code_length]; exact Hn.out
  have Hcl := Lib.hid hcl; clear hcl
  have Hbd := Lib.hid (show ∀ (i : Nat) (x : Int), (code xs)[i]? = some x → 0 ≤ x ∧ x ≤ (n : Nat) by intro i x h; have := code_bd i x h; rw [Hn.out] at this; exact this)
  go_enter Try.func14, Try.ntmps14
  go_wp2_with fail
  refine (is (specIsPerm_any _ _ _ xs _ hr Hn.out (by omega) hcap) Hp.out).mono ?_
  rintro e w1 ⟨rfl, hd⟩
  have hb1 := hd.below w.heap.size
  have hM := CO.made w1
  have hb2 : Below w.heap.size w (w1.alloc (.cells #[] 44)) := hb1.alloc hb1.size _
  have hr2 := hr.below hb2
  have hz1 := hb1.size
  have hM2 := Lib.hid (hM.mono hz1 (Nat.le_refl _)); clear hM
  go_wp2_with fail
  refine (l1Code_any _ _ _ xs _ hr2 Hn.out (by omega)).mono ?_
  rintro e w2 ⟨ac, cc, rfl, hC, hb3⟩
  have hz2 := hb3.size
  have hO2 := (hM2.out.below hb3).mono (Nat.le_refl _) hz2
  have hB2 := hb2.trans (hb3.mono hb2.size)
  have hC2 := hC.1
  clear hM2 hb1 hb2 hb3 hC hr2
  go_wp2
  go_loopw [3, 5] (fun ov iv wr => Hid (∃ i : Nat, i ≤ n ∧ iv = .int .i64 i ∧ OS wr 0 ac n cc (code xs) ∧ ∃ a' n' c', ov = .slice a' n' c' ∧ CO wr w.heap.size wr.heap.size a' n' c' (bot (code xs) i)) ∧ Below w.heap.size w wr) (fun _ i _ => n - (intOf i).toNat)
  case atStart => exact ⟨⟨0, Nat.zero_le _, rfl, (OwI.mono ⟨hC2, hC2.hi⟩ (Nat.zero_le _) (Nat.le_refl _)).1, _, _, _, rfl, hO2⟩, hB2⟩
  case round =>
    clear hO2 hB2 hC2
    obtain ⟨HV, hB⟩ := hrel
    obtain ⟨wo, rfl⟩ : ∃ wo : World, wo = wr := ⟨_, rfl⟩
    obtain ⟨i, hi, rfl, hC, a', n', c', rfl, ho⟩ := HV.out
    clear HV
    by_cases hlt : i < n
    · obtain ⟨x0, hx⟩ := some_at Hcl.out hlt
      have hx0 := Hbd.out i x0 hx
      obtain ⟨x, rfl⟩ : ∃ x : Nat, x0 = (x : Int) := ⟨x0.toNat, by omega⟩
      have hxn : x ≤ n := by omega
      have hst : bot (code xs) (i + 1) = bot (code xs) i ++ rowCells i x := by rw [bot, getD_of hx]; rfl
      have hln := bot_len (code xs) Hbd.out i
      have hlm : i * n ≤ 36 := by have := Nat.mul_le_mul (show i ≤ 6 by omega) (show n ≤ 6 by omega); omega
      rw [ho.len] at hln
      have Hx := Lib.hid hx; clear hx
      have Hst := Lib.hid hst; clear hst
      have HO := Lib.hid ho; clear ho
      have HC := Lib.hid hC
      obtain ⟨gc, rfl, _, ⟨x1, hx1, hcx⟩, _⟩ := OI.cons hC hlt
      rw [Hx.out] at hx1
      obtain rfl := Option.some.inj hx1
      clear hx1 hC
      go_wp2
      go_loopw [3, 6] (fun ov jv wr => Hid (∃ j : Nat, j ≤ x ∧ jv = .int .i64 j ∧ OS wr 0 (some ⟨gc, 0, none⟩) n cc (code xs) ∧ ∃ a' c', ov = .slice a' (n' + j) c' ∧ CO wr w.heap.size wr.heap.size a' (n' + j) c' (bot (code xs) i ++ rowCells i j)) ∧ Below w.heap.size w wr) (fun _ j _ => x - (intOf j).toNat)
      case atStart => exact ⟨⟨0, Nat.zero_le _, rfl, HC.out, _, _, rfl, by simpa [rowCells] using HO.out⟩, hB⟩
      case round =>
        clear HO HC hB hcx
        obtain ⟨HV, hB⟩ := hrel
        obtain ⟨wq, rfl⟩ : ∃ wq : World, wq = wr := ⟨_, rfl⟩
        obtain ⟨j, hj, rfl, hC, a2, c2, rfl, ho⟩ := HV.out
        clear HV
        have hbs := hB.size
        obtain ⟨gc', e0, _, ⟨x1, hx1, hcx⟩, _⟩ := OI.cons hC hlt
        obtain rfl : gc = gc' := by simpa using e0
        rw [Hx.out] at hx1
        obtain rfl := Option.some.inj hx1
        clear hx1 e0
        by_cases hjx : j < x
        · have hjI : (j : Int) < (x : Int) := by omega
          have HC := Lib.hid hC; clear hC
          go_wp2_with (first | (at_builtin; go_loud (refine wpList_pushC (by rfl) (by rfl) _ _ (by rfl) ho (by rfl) (by rfl) (by omega) hbs ?_)))
          intro a3 c3 w3 ho3 hg3
          have hC3 := HC.out.kept hg3 (fun k hk => by have := ne_blockC ho HC.out k hk; exact this)
          have hB3 := below_grown hB hg3 hbs ho.lo
          rw [← rowCells_succ] at ho3
          have HO3 := Lib.hid ho3
          have HC3 := Lib.hid hC3
          clear ho ho3 hC3 HC hg3
          go_wp2
          go_roundw
          case rel => exact ⟨⟨j + 1, by omega, by go_num, HC3.out, _, _, rfl, HO3.out⟩, hB3⟩
          case measure => simp [intOf]; omega
        · obtain rfl : j = x := by omega
          rw [← Hst.out] at ho
          have HO := Lib.hid ho; clear ho
          have HC := Lib.hid hC; clear hC
          go_wp2
          go_roundw
          case rel => exact ⟨⟨i + 1, by omega, by go_num, HC.out, _, _, _, rfl, HO.out⟩, hB⟩
          case measure => simp [intOf]; omega
    · obtain rfl : i = n := by omega
      have HO := Lib.hid ho; clear ho hC
      go_wp2
      go_ret
      exact ⟨_, _, _, rfl, by rw [Hok.out]; exact HO.out, hB⟩

set_option maxRecDepth 100000 in
set_option maxHeartbeats 1600000 in
theorem implBottom_any (a : Option Addr) (n c : Nat) (xs : List Int) (w : World) (hr : RI w a xs) (hn : xs.length = n) (hb : n ≤ 17592186044416) (hcap : n ≤ c) :
    Calls Try.prog 16 #[.slice a n c] w fun e w' => ∃ a' n' c', e = .returned (.slice a' n' c') ∧ CO w' w.heap.size w'.heap.size a' n' c' (bottom xs) ∧ Below w.heap.size w w' := by
  have Hn := Lib.hid hn; clear hn
  have hB00 : Below w.heap.size w (w.alloc (.cells #[] 44)) := (Below.refl _ _).alloc (Nat.le_refl _) _
  have hM := Lib.hid (CO.made w)
  have hz00 : (w.alloc (.cells #[] 44)).heap.size = w.heap.size + 1 := by simp
  cases hp : isPerm xs
  · have hno := Lib.hid (bottom_no (xs := xs) (.inl hp))
    have Hp := Lib.hid hp; clear hp
    go_enter Try.func16, Try.ntmps16
    go_wp2_with fail
    refine (is (implIsPerm_any _ _ _ xs _ (hr.below hB00) Hn.out (by omega)) Hp.out).mono ?_
    rintro e w1 ⟨rfl, hd⟩
    go_wp2
    go_ret
    exact ⟨_, _, _, rfl, by rw [hno.out]; exact ((hM.out.below hd).mono (Nat.le_refl _) hd.size), (hB00.trans (hd.mono hB00.size))⟩
  have hpl := perm_len hp
  rw [Hn.out] at hpl
  by_cases h6 : 6 < n
  · have hno := Lib.hid (bottom_no (xs := xs) (.inr (by rw [Hn.out]; exact h6)))
    have Hp := Lib.hid hp; clear hp
    go_enter Try.func16, Try.ntmps16
    go_wp2_with fail
    refine (is (implIsPerm_any _ _ _ xs _ (hr.below hB00) Hn.out (by omega)) Hp.out).mono ?_
    rintro e w1 ⟨rfl, hd⟩
    go_wp2
    go_ret
    exact ⟨_, _, _, rfl, by rw [hno.out]; exact ((hM.out.below hd).mono (Nat.le_refl _) hd.size), (hB00.trans (hd.mono hB00.size))⟩
  have hok := bottom_ok Hn.out hp (by omega)
  have hcd := codeOf_ok hp
  have Hp := Lib.hid hp; clear hp
  have Hok := Lib.hid hok; clear hok
  have Hcd := Lib.hid hcd; clear hcd
  have hcl : (code xs).length = n := by rw [code_length]; exact Hn.out
  have Hcl := Lib.hid hcl; clear hcl
  have Hbd := Lib.hid (show ∀ (i : Nat) (x : Int), (code xs)[i]? = some x → 0 ≤ x ∧ x ≤ (n : Nat) by intro i x h; have := code_bd i x h; rw [Hn.out] at this; exact this)
  go_enter Try.func16, Try.ntmps16
  go_wp2_with fail
  refine (is (implIsPerm_any _ _ _ xs _ (hr.below hB00) Hn.out (by omega)) Hp.out).mono ?_
  rintro e w1 ⟨rfl, hd⟩
  have hM2 := (hM.out.below hd).mono (Nat.le_refl _) hd.size
  have hb2 := hB00.trans (hd.mono hB00.size)
  have hr2 := hr.below hb2
  clear hM hB00
  go_wp2_with fail
  refine (codeOf_any _ _ _ xs _ hr2 Hn.out (by omega) hcap).mono ?_
  rintro e w2 ⟨ac, nc, cc, rfl, hC, hb3⟩
  rw [Hcd.out] at hC
  obtain rfl : n = nc := by rw [← Hcl.out]; exact hC.len
  have hz2 := hb3.size
  have hO2 := (hM2.below hb3).mono (Nat.le_refl _) hz2
  have hB2 := hb2.trans (hb3.mono hb2.size)
  have hC2 := hC.1
  clear hM2 hb2 hb3 hC hr2
  go_wp2
  go_loopw [3, 20] (fun ov iv wr => Hid (∃ i : Nat, i ≤ n ∧ iv = .int .i64 i ∧ OS wr 0 ac n cc (code xs) ∧ ∃ a' n' c', ov = .slice a' n' c' ∧ CO wr w.heap.size wr.heap.size a' n' c' (bot (code xs) i)) ∧ Below w.heap.size w wr) (fun _ i _ => n - (intOf i).toNat)
  case atStart => exact ⟨⟨0, Nat.zero_le _, rfl, (OwI.mono ⟨hC2, hC2.hi⟩ (Nat.zero_le _) (Nat.le_refl _)).1, _, _, _, rfl, hO2⟩, hB2⟩
  case round =>
    clear hO2 hB2 hC2
    obtain ⟨HV, hB⟩ := hrel
    obtain ⟨wo, rfl⟩ : ∃ wo : World, wo = wr := ⟨_, rfl⟩
    obtain ⟨i, hi, rfl, hC, a', n', c', rfl, ho⟩ := HV.out
    clear HV
    by_cases hlt : i < n
    · obtain ⟨x0, hx⟩ := some_at Hcl.out hlt
      have hx0 := Hbd.out i x0 hx
      obtain ⟨x, rfl⟩ : ∃ x : Nat, x0 = (x : Int) := ⟨x0.toNat, by omega⟩
      have hxn : x ≤ n := by omega
      have hst : bot (code xs) (i + 1) = bot (code xs) i ++ rowCells i x := by rw [bot, getD_of hx]; rfl
      have hln := bot_len (code xs) Hbd.out i
      have hlm : i * n ≤ 36 := by have := Nat.mul_le_mul (show i ≤ 6 by omega) (show n ≤ 6 by omega); omega
      rw [ho.len] at hln
      have Hx := Lib.hid hx; clear hx
      have Hst := Lib.hid hst; clear hst
      have HO := Lib.hid ho; clear ho
      have HC := Lib.hid hC
      obtain ⟨gc, rfl, _, ⟨x1, hx1, hcx⟩, _⟩ := OI.cons hC hlt
      rw [Hx.out] at hx1
      obtain rfl := Option.some.inj hx1
      clear hx1 hC
      go_wp2
      go_loopw [3, 26] (fun ov jv wr => Hid (∃ j : Nat, j ≤ x ∧ jv = .int .i64 j ∧ OS wr 0 (some ⟨gc, 0, none⟩) n cc (code xs) ∧ ∃ a' c', ov = .slice a' (n' + j) c' ∧ CO wr w.heap.size wr.heap.size a' (n' + j) c' (bot (code xs) i ++ rowCells i j)) ∧ Below w.heap.size w wr) (fun _ j _ => x - (intOf j).toNat)
      case atStart => exact ⟨⟨0, Nat.zero_le _, rfl, HC.out, _, _, rfl, by simpa [rowCells] using HO.out⟩, hB⟩
      case round =>
        clear HO HC hB hcx
        obtain ⟨HV, hB⟩ := hrel
        obtain ⟨wq, rfl⟩ : ∃ wq : World, wq = wr := ⟨_, rfl⟩
        obtain ⟨j, hj, rfl, hC, a2, c2, rfl, ho⟩ := HV.out
        clear HV
        have hbs := hB.size
        obtain ⟨gc', e0, _, ⟨x1, hx1, hcx⟩, _⟩ := OI.cons hC hlt
        obtain rfl : gc = gc' := by simpa using e0
        rw [Hx.out] at hx1
        obtain rfl := Option.some.inj hx1
        clear hx1 e0
        by_cases hjx : j < x
        · have hjI : (j : Int) < (x : Int) := by omega
          have HC := Lib.hid hC; clear hC
          go_wp2_with (first | (at_builtin; go_loud (refine wpList_pushC (by rfl) (by rfl) _ _ (by rfl) ho (by rfl) (by rfl) (by omega) hbs ?_)))
          intro a3 c3 w3 ho3 hg3
          have hC3 := HC.out.kept hg3 (fun k hk => by have := ne_blockC ho HC.out k hk; exact this)
          have hB3 := below_grown hB hg3 hbs ho.lo
          rw [← rowCells_succ] at ho3
          have HO3 := Lib.hid ho3
          have HC3 := Lib.hid hC3
          clear ho ho3 hC3 HC hg3
          go_wp2
          go_roundw
          case rel => exact ⟨⟨j + 1, by omega, by go_num, HC3.out, _, _, rfl, HO3.out⟩, hB3⟩
          case measure => simp [intOf]; omega
        · obtain rfl : j = x := by omega
          rw [← Hst.out] at ho
          have HO := Lib.hid ho; clear ho
          have HC := Lib.hid hC; clear hC
          go_wp2
          go_roundw
          case rel => exact ⟨⟨i + 1, by omega, by go_num, HC.out, _, _, _, rfl, HO.out⟩, hB⟩
          case measure => simp [intOf]; omega
    · obtain rfl : i = n := by omega
      have HO := Lib.hid ho; clear ho hC
      go_wp2
      go_ret
      exact ⟨_, _, _, rfl, by rw [Hok.out]; exact HO.out, hB⟩
end Go.Proofs.Ytnjfbgdighaiiaa
