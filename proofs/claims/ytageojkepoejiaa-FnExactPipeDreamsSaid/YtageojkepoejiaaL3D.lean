/-
  Contract of l3Dreams of the reference: the dreams of what is left of a permutation.
-/
import Derived.Test.YtageojkepoejiaaBuP16
import Derived.Test.YtageojkepoejiaaBuP14
import Derived.Test.YtageojkepoejiaaBuP7
import Derived.Laws.AppendOwnNone
namespace Go.Proofs.Ytageojkepoejiaa
open Go.RowKit

/-- all numbers are places -/
def InR (n : Nat) (xs : List Int) : Prop := ∀ x ∈ xs, 0 ≤ x ∧ x < (n : Int)
theorem invTo_in {n : Nat} {xs : List Int} (hn : 1 ≤ n) : ∀ k, k ≤ n → InR n (invTo n xs k)
  | 0, _ => fun x hx => by
    rw [invTo] at hx
    obtain rfl := (List.mem_replicate.1 hx).2
    omega
  | k + 1, hk => fun x hx => by
    rw [invTo] at hx
    rcases List.mem_or_eq_of_mem_set hx with h | rfl
    · exact invTo_in hn k (by omega) x h
    · omega
theorem inv_length (xs : List Int) : (inv xs).length = xs.length := invTo_length _ _ _
theorem inv_in {n : Nat} {xs : List Int} (h : xs.length = n) (hn : 1 ≤ n) : InR n (inv xs) := by
  unfold inv
  rw [h]
  exact invTo_in hn n (Nat.le_refl _)
/-- the permutation without the crossing of two neighbours -/
def shortD (xs : List Int) (k : Nat) : List Int := (xs.set ((inv xs).getD k 0).toNat ((k : Int) + 1)).set ((inv xs).getD (k + 1) 0).toNat (k : Int)
theorem shortD_length (xs : List Int) (k : Nat) : (shortD xs k).length = xs.length := by simp [shortD]
theorem shortD_in {n : Nat} {xs : List Int} {k : Nat} (h : InR n xs) (hk : k + 1 < n) : InR n (shortD xs k) := fun x hx => by
  unfold shortD at hx
  rcases List.mem_or_eq_of_mem_set hx with h1 | rfl
  · rcases List.mem_or_eq_of_mem_set h1 with h2 | rfl
    · exact h x h2
    · omega
  · omega
def nextR (row col : Nat) : Nat := if col = 0 then row + 1 else row
def nextC (n row col : Nat) : Nat := if col = 0 then n - 3 - row else col - 1
def l3D (n : Nat) : Nat → List Int → Nat → Nat → List (Int × Int) → List (List (Int × Int))
  | 0, _, _, _, _ => []
  | f + 1, xs, row, col, cs =>
    if sumI (code xs) = 0 then [cs]
    else if n < row + 2 then []
    else (if (inv xs).getD (row + col + 1) 0 < (inv xs).getD (row + col) 0 then l3D n f (shortD xs (row + col)) (nextR row col) (nextC n row col) (cs ++ [((row : Int), (col : Int))]) else []) ++
      l3D n f xs (nextR row col) (nextC n row col) cs
theorem l3D_zero {n f : Nat} {xs : List Int} {row col : Nat} {cs : List (Int × Int)} (h : sumI (code xs) = 0) : l3D n (f + 1) xs row col cs = [cs] := by rw [l3D, if_pos h]
theorem l3D_end {n f : Nat} {xs : List Int} {row col : Nat} {cs : List (Int × Int)} (h : sumI (code xs) ≠ 0) (h2 : n < row + 2) : l3D n (f + 1) xs row col cs = [] := by rw [l3D, if_neg h, if_pos h2]
theorem l3D_yes {n f : Nat} {xs : List Int} {row col : Nat} {cs : List (Int × Int)} (h : sumI (code xs) ≠ 0) (h2 : ¬ n < row + 2) (h3 : (inv xs).getD (row + col + 1) 0 < (inv xs).getD (row + col) 0) :
    l3D n (f + 1) xs row col cs = l3D n f (shortD xs (row + col)) (nextR row col) (nextC n row col) (cs ++ [((row : Int), (col : Int))]) ++ l3D n f xs (nextR row col) (nextC n row col) cs := by rw [l3D, if_neg h, if_neg h2, if_pos h3]
theorem l3D_no {n f : Nat} {xs : List Int} {row col : Nat} {cs : List (Int × Int)} (h : sumI (code xs) ≠ 0) (h2 : ¬ n < row + 2) (h3 : ¬ (inv xs).getD (row + col + 1) 0 < (inv xs).getD (row + col) 0) :
    l3D n (f + 1) xs row col cs = l3D n f xs (nextR row col) (nextC n row col) cs := by rw [l3D, if_neg h, if_neg h2, if_neg h3, List.nil_append]

/-- append of cells that may be nil: 'append(out, l...)' -/
theorem wpList_appCO {w : World} {ops : Array Oper} {rest : List Oper} {o : Oper} {ac : Act} {Q : Exit → Act → World → Prop} (hgd : o.guard = none) (s x : Operand)
    (ho : o.op = .call { callee := .builtin .append, args := #[s, x], argTypes := #[36, 36] })
    {B S : Nat} {a : Option Addr} {n c : Nat} {xs : List (Int × Int)} (hown : CO w B S a n c xs) (hs : ac.eval s = .slice a n c)
    {B2 S2 : Nat} {b : Option Addr} {m d : Nat} {ys : List (Int × Int)} (hr : CO w B2 S2 b m d ys) (hx : ac.eval x = .slice b m d) (hn : n + m ≤ 2097152) (hbase : B ≤ w.heap.size) (hSw : S ≤ w.heap.size)
    (h : ∀ a' c' w', CO w' B w'.heap.size a' (n + m) c' (xs ++ ys) → w.grownBy w' (Value.slice a n c).ownBlock → wpList Try.prog ops Q rest (ac.put o.dst (.slice a' (n + m) c')) w') :
    wpList Try.prog ops Q (o :: rest) ac w := by
  have hl := hr.len
  rcases hr.1.2 with ⟨hv, hm⟩ | ⟨g, cap, cur, hv, _⟩
  · simp only [Value.slice.injEq] at hv
    obtain ⟨rfl, rfl, rfl⟩ := hv
    obtain rfl := List.eq_nil_of_length_eq_zero hl
    obtain ⟨i0, hi, hz0, hz1, hz2⟩ := info_parts Try.infoCell
    refine wpList_append_own_none hgd s x 36 ho B 60 i0 2 Try.underlying36 hi _ n (prs xs) hs hown.1 hx ?_
    have := h a c w (by simpa using ⟨hown.1, fun k hk => Nat.lt_of_lt_of_le (hown.2 k hk) hSw⟩) (World.grownBy.refl _ _)
    simpa using this
  · simp only [Value.slice.injEq] at hv
    obtain ⟨rfl, _, rfl⟩ := hv
    exact wpList_appC hgd s x ho hown hs hr.rd hl hx hn hbase h
theorem CCS.mono2 {w : World} {B S B' S' : Nat} {a : Option Addr} {n c : Nat} {xss : List (List (Int × Int))} (h : CCS w B S a n c xss) (hB : B' ≤ B) (hS : S ≤ S') : CCS w B' S' a n c xss := by
  obtain ⟨vs, h1, h2, h3⟩ := h
  exact ⟨vs, ownsRow_base h1 hB, fun k hk => Nat.lt_of_lt_of_le (h2 k hk) hS, h3.len, fun k xs hx => by obtain ⟨a, c, h1, h2⟩ := h3.each k xs hx; exact ⟨a, c, h1, h2.mono hB hS⟩⟩
theorem CCS.nil {w : World} {B S : Nat} : CCS w B S none 0 0 [] := CCO.nil.toS
/-- a row of integers lies in another block than a row of slices of cells -/
theorem OwI.growsC {w w' : World} {B S B' S' n m : Nat} {a b : Option Addr} {c d : Nat} {xs : List Int} {xss : List (List (Int × Int))} {v' : Value} (h : OwI w B S a n c xs) (hg : Grows w w' (.slice b m d) v') (ho : CCS w B' S' b m d xss) : OwI w' B S a n c xs := by
  refine h.kept hg.grown (fun k hk e => ?_)
  obtain ⟨vs, h1, _⟩ := ho
  rcases ownsRow_shape h1 with ⟨_, rfl, _⟩ | ⟨g, rfl, _, _, _, cur, hg⟩
  · cases e
  · have e1 : g = k := by simpa [Value.ownBlock] using e
    rcases ownsRow_shape h.own with ⟨_, rfl, _⟩ | ⟨g', rfl, _, _, _, cur', hg'⟩
    · cases hk
    · have e2 : g' = k := by simpa [Value.ownBlock] using hk
      subst e1 e2
      rw [hg] at hg'
      simp at hg'
theorem CO.growsS {w w' : World} {B S B' S' n m : Nat} {a b : Option Addr} {c d : Nat} {xs : List (Int × Int)} {xss : List (List (Int × Int))} {v' : Value} (h : CO w B S a n c xs) (hg : Grows w w' (.slice b m d) v') (ho : CCS w B' S' b m d xss) : CO w' B S a n c xs := by
  obtain ⟨vs, h1, _⟩ := ho
  exact h.grows hg h1
theorem next_less {n row col : Nat} (h2 : row + 2 ≤ n) : (n - 1 - nextR row col) * n + nextC n row col < (n - 1 - row) * n + col := by
  unfold nextR nextC
  by_cases h : col = 0
  · rw [if_pos h, if_pos h]
    obtain ⟨t, ht⟩ : ∃ t, n - 1 - row = t + 1 := ⟨n - 2 - row, by omega⟩
    rw [ht, show n - 1 - (row + 1) = t by omega, Nat.succ_mul]
    omega
  · rw [if_neg h, if_neg h]
    omega

set_option maxRecDepth 100000 in
set_option maxHeartbeats 6400000 in
theorem l3Dreams_any (n : Nat) (h6 : n ≤ 6) (h1 : 1 ≤ n) : ∀ (f B : Nat) (al : Option Addr) (cl : Nat) (xs : List Int) (row col : Nat) (C : Int) (ax : Option Addr) (m cx : Nat) (cs : List (Int × Int)) (a : Option Addr) (k c : Nat) (xss : List (List (Int × Int))) (w : World)
    (_hleft : OwI w B w.heap.size al n cl xs) (_hcr : CO w B w.heap.size ax m cx cs) (_hl : CCS w B w.heap.size a k c xss) (_hB : B ≤ w.heap.size) (_hn : xs.length = n) (_hin : InR n xs) (_hrow : row ≤ n) (_hC : -100 ≤ C ∧ C ≤ 100) (_hcol : row + 2 ≤ n → C = (col : Int) ∧ row + col + 2 ≤ n)
    (_hf : (n - 1 - row) * n + col < f) (_hm : m + f ≤ 1000) (_hk : k + (l3D n f xs row col cs).length ≤ 1048576),
    Calls Try.prog 59 #[.int .i64 n, .slice al n cl, .int .i64 row, .int .i64 C, .slice ax m cx, .slice a k c] w fun e w' => ∃ a' k' c', e = .returned (.slice a' k' c') ∧ CCS w' B w'.heap.size a' k' c' (xss ++ l3D n f xs row col cs) ∧ Grows w w' (.slice a k c) (.slice a' k' c') := by
  intro f
  induction f with
  | zero => intro B al cl xs row col C ax m cx cs a k c xss w _ _ _ _ _ _ _ _ _ hf; omega
  | succ f ih =>
    intro B al cl xs row col C ax m cx cs a k c xss w hleft hcr hl hB hn hin hrow hC hcol hf hm hk
    have Hn := Lib.hid hn
    have Hin := Lib.hid hin
    have Hleft := Lib.hid hleft
    have Hcr := Lib.hid hcr
    have Hl := Lib.hid hl
    have Hk := Lib.hid hk
    have Hcol := Lib.hid hcol
    have Hf := Lib.hid hf
    have hkl : k ≤ 1048576 := by omega
    clear hn hin hleft hcr hl hk hcol hf
    obtain ⟨z, hz⟩ : ∃ z, sumI (code xs) = z := ⟨_, rfl⟩
    have Hz := Lib.hid hz
    clear hz
    by_cases hz0 : z = 0
    · subst hz0
      have Hd := Lib.hid (l3D_zero (n := n) (f := f) (row := row) (col := col) (cs := cs) Hz.out)
      have hkb : k + 1 ≤ 1048576 := by have := Hk.out; rw [Hd.out] at this; simpa using this
      go_enter Try.func59, Try.ntmps59
      go_wp2_with fail
      refine (isInt (l1Length_any _ _ _ xs _ Hleft.out.rd Hn.out (by omega)) Hz.out).mono ?_
      rintro e w1 ⟨rfl, hb1⟩
      have Hl1 := Lib.hid (Hl.out.below hb1)
      have Hcr1 := Lib.hid (Hcr.out.below hb1)
      have hs1 := hb1.size
      go_wp2_with (first | (at_builtin; go_loud (refine wpList_pushCCS (by rfl) (by rfl) _ _ (by rfl) Hl1.out (by rfl) Hcr1.out (by rfl) (by omega) (by omega) hs1 hs1 ?_)))
      intro a2 c2 w2 ho2 hg2
      have Ho2 := Lib.hid (show CCS w2 B w2.heap.size a2 (k + 1) c2 (xss ++ l3D n (f + 1) xs row col cs) by rw [Hd.out]; exact ho2)
      have hg3 := (Grows.of_below (.slice a k c) hb1).trans hg2
      clear ho2 hg2
      go_wp2
      go_ret
      exact ⟨_, _, _, rfl, Ho2.out, hg3⟩
    have hzb : (z == 0) = false := by simpa using hz0
    have q0 : IntKind.i64.wrap ((n : Int) - 2) = (n : Int) - 2 := IntWalk.i64_in _ (by omega)
    by_cases hend : n < row + 2
    · have q1 : (n : Int) - 2 < (row : Int) := by omega
      have Hd := Lib.hid (l3D_end (n := n) (f := f) (row := row) (col := col) (cs := cs) (by rw [Hz.out]; exact hz0) hend)
      go_enter Try.func59, Try.ntmps59
      go_wp2_with fail
      refine (isInt (l1Length_any _ _ _ xs _ Hleft.out.rd Hn.out (by omega)) Hz.out).mono ?_
      rintro e w1 ⟨rfl, hb1⟩
      have Hl1 := Lib.hid (Hl.out.below hb1)
      have hs1 := hb1.size
      go_wp2
      go_ret
      exact ⟨_, _, _, rfl, by rw [Hd.out, List.append_nil]; exact Hl1.out.mono hs1, Grows.of_below (.slice a k c) hb1⟩
    have q1 : ¬ (n : Int) - 2 < (row : Int) := by omega
    obtain ⟨rfl, hrc⟩ := Hcol.out (by omega)
    obtain ⟨K, hK⟩ : ∃ K, row + col = K := ⟨_, rfl⟩
    obtain ⟨J, hJ⟩ : ∃ J, K + 1 = J := ⟨_, rfl⟩
    have HK := Lib.hid hK
    have HJ := Lib.hid hJ
    have hJn : J < n := by omega
    have hKn : K < n := by omega
    have q2 : IntKind.i64.wrap ((row : Int) + (col : Int)) = (K : Int) := by rw [IntWalk.i64_in _ (by omega)]; omega
    have q3 : IntKind.i64.wrap ((K : Int) + 1) = (J : Int) := by rw [IntWalk.i64_in _ (by omega)]; omega
    have hbn := inv_in Hn.out h1
    have hbl := inv_length xs
    obtain ⟨x, hx⟩ := some_at (xs := inv xs) (n := n) (by rw [hbl, Hn.out]) hKn
    obtain ⟨y, hy⟩ := some_at (xs := inv xs) (n := n) (by rw [hbl, Hn.out]) hJn
    obtain ⟨hx0, hx1⟩ := hbn x (List.mem_of_getElem? hx)
    obtain ⟨hy0, hy1⟩ := hbn y (List.mem_of_getElem? hy)
    obtain ⟨p, rfl⟩ : ∃ p : Nat, x = p := ⟨x.toNat, by omega⟩
    obtain ⟨r, rfl⟩ : ∃ r : Nat, y = r := ⟨y.toNat, by omega⟩
    have Hx := Lib.hid hx
    have Hy := Lib.hid hy
    have hpn : p < n := by omega
    have hrn : r < n := by omega
    have Hnl := Lib.hid (next_less (n := n) (row := row) (col := col) (by omega))
    obtain ⟨R, hR⟩ : ∃ R, nextR row col = R := ⟨_, rfl⟩
    obtain ⟨D, hD⟩ : ∃ D : Int, (if col = 0 then (n : Int) - 3 - row else (col : Int) - 1) = D := ⟨_, rfl⟩
    have hRn : R ≤ n := by rw [← hR]; unfold nextR; split <;> omega
    have hDb : -100 ≤ D ∧ D ≤ 100 := by rw [← hD]; split <;> omega
    have hDc : R + 2 ≤ n → D = ((nextC n row col : Nat) : Int) ∧ R + nextC n row col + 2 ≤ n := by
      rw [← hR, ← hD]
      unfold nextR nextC
      split <;> omega
    have HDc := Lib.hid hDc
    have HR := Lib.hid hR
    have hfr : (n - 1 - R) * n + nextC n row col < f := by have := Hf.out; have := Hnl.out; rw [← hR]; omega
    have Hfr := Lib.hid hfr
    clear hK hJ hbn hbl hx hy hx0 hy0 hDc hR hfr hx1 hy1
    by_cases hc0 : col = 0
    · have q4 : ((col : Int) == 0) = true := by simp; omega
      have q5 : IntKind.i64.wrap ((col : Int) - 1) = (col : Int) - 1 := IntWalk.i64_in _ (by omega)
      have q6 : IntKind.i64.wrap ((row : Int) + 1) = (R : Int) := by rw [IntWalk.i64_in _ (by omega), ← HR.out]; unfold nextR; rw [if_pos hc0]; omega
      have q7 : IntKind.i64.wrap ((n : Int) - 3) = (n : Int) - 3 := IntWalk.i64_in _ (by omega)
      have q8 : IntKind.i64.wrap ((n : Int) - 3 - (row : Int)) = D := by rw [IntWalk.i64_in _ (by omega), ← hD, if_pos hc0]
      have Hc0 := Lib.hid hc0
      clear hc0 hD
      by_cases hlt : (r : Int) < (p : Int)
      · go_enter Try.func59, Try.ntmps59
        go_wp2_with fail
        refine (isInt (l1Length_any _ _ _ xs _ Hleft.out.rd Hn.out (by omega)) Hz.out).mono ?_
        rintro e w1 ⟨rfl, hb1⟩
        have hr1 := Hleft.out.rd.below hb1
        go_wp2_with fail
        refine (specInverse_any _ _ _ xs _ hr1 Hn.out (by omega) Hin.out).mono ?_
        rintro e w2 ⟨ab, cb, rfl, hob, hb2⟩
        have hB2 := hb1.trans (hb2.mono hb1.size)
        have hBd := hB2.trans ((Drew.below (w := w2) (w' := w2.drew) ⟨1, rfl⟩ _))
        have hsd := hBd.size
        have Hod := Lib.hid (hob.below (Drew.below (w := w2) (w' := w2.drew) ⟨1, rfl⟩ _))
        obtain ⟨g, rfl, hgB, ⟨x1, hx1, hcx⟩, hfx⟩ := OI.cons hob.1 hKn
        obtain rfl : x1 = (p : Int) := Option.some.inj (hx1.symm.trans Hx.out)
        obtain ⟨g2, eg, _, ⟨y1, hy1, hcy⟩, hfy⟩ := OI.cons hob.1 hJn
        obtain rfl : g = g2 := by simpa using eg
        obtain rfl : y1 = (r : Int) := Option.some.inj (hy1.symm.trans Hy.out)
        have hgw : g < w2.heap.size := hob.2 g rfl
        clear hx1 hy1 eg hob hb1 hb2 hB2 hr1
        go_wp2
        go_region
        clear hcx hcy hfx hfy
        have hrd := Hleft.out.rd.below hBd
        go_wp2_with fail
        refine (l1Ints_any _ _ _ xs _ hrd Hn.out (by omega)).mono ?_
        rintro e w3 ⟨a3, c3, rfl, hos, hb3⟩
        have hB3 := hBd.trans (hb3.mono hsd)
        have ho3 := Hod.out.below hb3
        have hs3 := hb3.size
        obtain ⟨g3, eg3, _, ⟨x1, hx1, hcx⟩, hfx⟩ := OI.cons ho3.1 hKn
        obtain rfl : g = g3 := by simpa using eg3
        obtain rfl : x1 = (p : Int) := Option.some.inj (hx1.symm.trans Hx.out)
        obtain ⟨gs, rfl, hgsB, ⟨v1, hv1, hcv⟩, hfv⟩ := OI.cons hos.1 hpn
        have hgsl : gs < w3.heap.size := hos.2 gs rfl
        have hne : g ≠ gs := by
          have : w2.drew.heap.size = w2.heap.size := rfl
          omega
        have s1 := hos.1.store p (J : Int)
        obtain ⟨W4, hW4⟩ : ∃ W4, w3.setCell ⟨gs, p, none⟩ (.int .i64 (J : Int)) = W4 := ⟨_, rfl⟩
        rw [hW4] at s1
        have hB4 : Below w.heap.size w W4 := below_grown (v := .slice (some ⟨gs, 0, none⟩) n c3) hB3 s1.2 hB3.size (fun q hq => by simp [Value.ownBlock] at hq; omega)
        have ho4 : OwI W4 w1.heap.size w2.heap.size (some ⟨g, 0, none⟩) n cb (inv xs) := ho3.kept s1.2 (fun q hq => by simp [Value.ownBlock] at hq; simp; omega)
        obtain ⟨g4, eg4, _, ⟨y1, hy1, hcy⟩, hfy⟩ := OI.cons ho4.1 hJn
        obtain rfl : g = g4 := by simpa using eg4
        obtain rfl : y1 = (r : Int) := Option.some.inj (hy1.symm.trans Hy.out)
        obtain ⟨g5, eg5, _, ⟨v2, hv2, hcv2⟩, hfv2⟩ := OI.cons s1.1 hrn
        obtain rfl : gs = g5 := by simpa using eg5
        have s2 := s1.1.store r (K : Int)
        obtain ⟨W5, hW5⟩ : ∃ W5, W4.setCell ⟨gs, r, none⟩ (.int .i64 (K : Int)) = W5 := ⟨_, rfl⟩
        rw [hW5] at s2
        have hz4 : W4.heap.size = w3.heap.size := by rw [← hW4]; simp
        have hz5 : W5.heap.size = w3.heap.size := by rw [← hW5]; simp; exact hz4
        have hB5 : Below w.heap.size w W5 := below_grown (v := .slice (some ⟨gs, 0, none⟩) n c3) hB4 s2.2 hB4.size (fun q hq => by simp [Value.ownBlock] at hq; omega)
        have Hsh := Lib.hid (show OwI W5 B W5.heap.size (some ⟨gs, 0, none⟩) n c3 (shortD xs K) from by
          have h1 : OwI W5 w2.drew.heap.size W5.heap.size (some ⟨gs, 0, none⟩) n c3 (shortD xs K) := by
            refine ⟨?_, fun q hq => by simp [Value.ownBlock] at hq; omega⟩
            have h2 := s2.1
            have e : shortD xs K = (xs.set p (J : Int)).set r (K : Int) := by
              unfold shortD
              rw [getD_of Hx.out, HJ.out, getD_of Hy.out, ← HJ.out]
              rfl
            rw [e]; exact h2
          exact h1.mono (by have : w2.drew.heap.size = w2.heap.size := rfl; omega) (Nat.le_refl _))
        have h6c : CO (W5.alloc (.cells #[] 60)) W5.heap.size (W5.alloc (.cells #[] 60)).heap.size (some ⟨W5.heap.size, 0, none⟩) 0 0 [] := CO.made W5
        obtain ⟨W6, hW6⟩ : ∃ W6, W5.alloc (.cells #[] 60) = W6 := ⟨_, rfl⟩
        rw [hW6] at h6c
        have hb6 : Below W5.heap.size W5 W6 := by rw [← hW6]; exact (Below.refl _ _).alloc (Nat.le_refl _) _
        have hB6 := hB5.trans (hb6.mono hB5.size)
        have H6c := Lib.hid h6c
        have Hsh6 := Lib.hid (Hsh.out.below hb6)
        have Hcr6 := Lib.hid (Hcr.out.below hB6)
        have Hz5 := Lib.hid hz5
        have hs56 := hb6.size
        have hs05 := hB5.size
        have hs06 := hB6.size
        clear h6c s1 s2 hos ho3 hv1 hv2 hx1 hy1 eg3 eg4 eg5 hb3 hB3 hB4 hz4 hz5 hrd Hod ho4 hb6 Hsh
        go_wp2_with (first | (at_builtin; go_loud (refine wpList_appCO (by rfl) _ _ (by rfl) H6c.out (by rfl) Hcr6.out (by rfl) (by omega) hs56 (Nat.le_refl _) ?_)))
        intro a7 c7 w7 ho7 hg7
        have Ho7 := Lib.hid (show CO w7 W5.heap.size w7.heap.size a7 m c7 cs by simpa using ho7)
        have hb57 : Below W5.heap.size W6 w7 := below_grown (v := .slice (some ⟨W5.heap.size, 0, none⟩) 0 0) ⟨rfl, rfl, rfl, Nat.le_refl _, fun _ _ => rfl⟩ hg7 hs56 (fun q hq => by simp [Value.ownBlock] at hq; omega)
        have hB7 := hB6.trans (hb57.mono hs05)
        have hs57 : W5.heap.size ≤ w7.heap.size := Nat.le_trans hs56 hb57.size
        have hl7 : ∀ q, (Value.slice a7 m c7).ownBlock = some q → W5.heap.size ≤ q := Ho7.out.lo
        have Hl7 := Lib.hid hl7
        clear ho7 hg7 hl7 hW4 hW5 hW6
        go_wp2_with (first | (at_builtin; go_loud (refine wpList_pushC (by rfl) (by rfl) _ _ (by rfl) Ho7.out (by rfl) (by rfl) (by omega) hs57 ?_)))
        intro a8 c8 w8 ho8 hg8
        have hb68 : Below W5.heap.size W6 w8 := below_grown hb57 hg8 hs57 Hl7.out
        have hB8 := hB6.trans (hb68.mono hs05)
        have hs08 := hB8.size
        have hs58 : W5.heap.size ≤ w8.heap.size := Nat.le_trans hs56 hb68.size
        have Hmo8 := Lib.hid (show CO w8 B w8.heap.size a8 (m + 1) c8 (cs ++ [((row : Int), (col : Int))]) from ho8.mono (by omega) (Nat.le_refl _))
        have Hsh8 := Lib.hid (show OwI w8 B w8.heap.size (some ⟨gs, 0, none⟩) n c3 (shortD xs K) from (Hsh6.out.only (B' := W5.heap.size) (S' := w8.heap.size) ⟨hb68.os, hb68.tape, hb68.output, hb68.size, fun q hq hn => hb68.block q (by have := hb68.size; omega)⟩ (.inl (Nat.le_refl _))).mono (Nat.le_refl _) hs58)
        have Hleft8 := Lib.hid ((Hleft.out.below hB8).mono (Nat.le_refl _) hs08)
        have Hcr8 := Lib.hid ((Hcr.out.below hB8).mono (Nat.le_refl _) hs08)
        have Hl8 := Lib.hid ((Hl.out.below hB8).mono hs08)
        have Hd := Lib.hid (show l3D n (f + 1) xs row col cs = l3D n f (shortD xs K) R (nextC n row col) (cs ++ [((row : Int), (col : Int))]) ++ l3D n f xs R (nextC n row col) cs by
          rw [l3D_yes (by rw [Hz.out]; exact hz0) hend (by rw [HK.out, HJ.out, getD_of Hx.out, getD_of Hy.out]; omega), HK.out, HR.out])
        have Hk1 := Lib.hid (show k + (l3D n f (shortD xs K) R (nextC n row col) (cs ++ [((row : Int), (col : Int))])).length ≤ 1048576 by have := Hk.out; rw [Hd.out, List.length_append] at this; omega)
        clear ho8 hg8 Ho7
        have HI := Lib.hid (ih B (some ⟨gs, 0, none⟩) c3 (shortD xs K) R (nextC n row col) D a8 (m + 1) c8 (cs ++ [((row : Int), (col : Int))]) a k c xss w8 Hsh8.out Hmo8.out Hl8.out (by omega) (by rw [shortD_length]; exact Hn.out) (shortD_in Hin.out (by rw [HJ.out]; exact hJn)) hRn hDb HDc.out Hfr.out (by omega) Hk1.out)
        go_wp2_with fail
        refine HI.out.mono ?_
        rintro e w9 ⟨a9, k9, c9, rfl, ho9, hg9⟩
        have hk9 := ho9.len
        have Hleft9 := Lib.hid ((Hleft8.out.growsC hg9 Hl8.out).mono (Nat.le_refl _) hg9.grown.size)
        have Hcr9 := Lib.hid ((Hcr8.out.growsS hg9 Hl8.out).mono (Nat.le_refl _) hg9.grown.size)
        have hs9 := hg9.grown.size
        have Ho9 := Lib.hid ho9
        have Hk2 := Lib.hid (show k9 + (l3D n f xs R (nextC n row col) cs).length ≤ 1048576 by have h1 := Hk.out; have h2 := Hl8.out.len; rw [Hd.out, List.length_append] at h1; rw [List.length_append] at hk9; omega)
        have HG := Lib.hid ((Grows.of_below (.slice a k c) hB8).trans hg9)
        clear ho9 hg9 hk9 HI
        have HI := Lib.hid (ih B al cl xs R (nextC n row col) D ax m cx cs a9 k9 c9 _ w9 Hleft9.out Hcr9.out Ho9.out (by omega) Hn.out Hin.out hRn hDb HDc.out Hfr.out (by omega) Hk2.out)
        go_wp2_with fail
        refine HI.out.mono ?_
        rintro e w10 ⟨a10, k10, c10, rfl, ho10, hg10⟩
        have Ho10 := Lib.hid (show CCS w10 B w10.heap.size a10 k10 c10 (xss ++ l3D n (f + 1) xs row col cs) by rw [Hd.out, ← List.append_assoc]; exact ho10)
        have hgf := HG.out.trans hg10
        clear ho10 hg10 HI
        go_wp2
        go_ret
        exact ⟨_, _, _, rfl, Ho10.out, hgf⟩
      · go_enter Try.func59, Try.ntmps59
        go_wp2_with fail
        refine (isInt (l1Length_any _ _ _ xs _ Hleft.out.rd Hn.out (by omega)) Hz.out).mono ?_
        rintro e w1 ⟨rfl, hb1⟩
        have hr1 := Hleft.out.rd.below hb1
        go_wp2_with fail
        refine (specInverse_any _ _ _ xs _ hr1 Hn.out (by omega) Hin.out).mono ?_
        rintro e w2 ⟨ab, cb, rfl, hob, hb2⟩
        have hB2 := hb1.trans (hb2.mono hb1.size)
        have hBd := hB2.trans ((Drew.below (w := w2) (w' := w2.drew) ⟨1, rfl⟩ _))
        have hsd := hBd.size
        have Hod := Lib.hid (hob.below (Drew.below (w := w2) (w' := w2.drew) ⟨1, rfl⟩ _))
        obtain ⟨g, rfl, hgB, ⟨x1, hx1, hcx⟩, hfx⟩ := OI.cons hob.1 hKn
        obtain rfl : x1 = (p : Int) := Option.some.inj (hx1.symm.trans Hx.out)
        obtain ⟨g2, eg, _, ⟨y1, hy1, hcy⟩, hfy⟩ := OI.cons hob.1 hJn
        obtain rfl : g = g2 := by simpa using eg
        obtain rfl : y1 = (r : Int) := Option.some.inj (hy1.symm.trans Hy.out)
        have hgw : g < w2.heap.size := hob.2 g rfl
        clear hx1 hy1 eg hob hb1 hb2 hB2 hr1
        go_wp2
        go_region
        clear hcx hcy hfx hfy
        have Hleft8 := Lib.hid ((Hleft.out.below hBd).mono (Nat.le_refl _) hsd)
        have Hcr8 := Lib.hid ((Hcr.out.below hBd).mono (Nat.le_refl _) hsd)
        have Hl8 := Lib.hid ((Hl.out.below hBd).mono hsd)
        have Hd := Lib.hid (show l3D n (f + 1) xs row col cs = l3D n f xs R (nextC n row col) cs by
          rw [l3D_no (by rw [Hz.out]; exact hz0) hend (by rw [HK.out, HJ.out, getD_of Hx.out, getD_of Hy.out]; omega), HR.out])
        have HI := Lib.hid (ih B al cl xs R (nextC n row col) D ax m cx cs a k c xss w2.drew Hleft8.out Hcr8.out Hl8.out (by omega) Hn.out Hin.out hRn hDb HDc.out Hfr.out (by omega) (by rw [← Hd.out]; exact Hk.out))
        go_wp2_with fail
        refine HI.out.mono ?_
        rintro e w10 ⟨a10, k10, c10, rfl, ho10, hg10⟩
        have Ho10 := Lib.hid (show CCS w10 B w10.heap.size a10 k10 c10 (xss ++ l3D n (f + 1) xs row col cs) by rw [Hd.out]; exact ho10)
        have hgf := (Grows.of_below (.slice a k c) hBd).trans hg10
        clear ho10 hg10 HI
        go_wp2
        go_ret
        exact ⟨_, _, _, rfl, Ho10.out, hgf⟩
    · have q4 : ((col : Int) == 0) = false := by simp; omega
      have q8 : IntKind.i64.wrap ((col : Int) - 1) = D := by rw [IntWalk.i64_in _ (by omega), ← hD, if_neg hc0]
      obtain rfl : row = R := by rw [← HR.out]; unfold nextR; rw [if_neg hc0]
      have Hc0 := Lib.hid hc0
      clear hc0 hD
      by_cases hlt : (r : Int) < (p : Int)
      · go_enter Try.func59, Try.ntmps59
        go_wp2_with fail
        refine (isInt (l1Length_any _ _ _ xs _ Hleft.out.rd Hn.out (by omega)) Hz.out).mono ?_
        rintro e w1 ⟨rfl, hb1⟩
        have hr1 := Hleft.out.rd.below hb1
        go_wp2_with fail
        refine (specInverse_any _ _ _ xs _ hr1 Hn.out (by omega) Hin.out).mono ?_
        rintro e w2 ⟨ab, cb, rfl, hob, hb2⟩
        have hB2 := hb1.trans (hb2.mono hb1.size)
        have hBd := hB2.trans ((Drew.below (w := w2) (w' := w2.drew) ⟨1, rfl⟩ _))
        have hsd := hBd.size
        have Hod := Lib.hid (hob.below (Drew.below (w := w2) (w' := w2.drew) ⟨1, rfl⟩ _))
        obtain ⟨g, rfl, hgB, ⟨x1, hx1, hcx⟩, hfx⟩ := OI.cons hob.1 hKn
        obtain rfl : x1 = (p : Int) := Option.some.inj (hx1.symm.trans Hx.out)
        obtain ⟨g2, eg, _, ⟨y1, hy1, hcy⟩, hfy⟩ := OI.cons hob.1 hJn
        obtain rfl : g = g2 := by simpa using eg
        obtain rfl : y1 = (r : Int) := Option.some.inj (hy1.symm.trans Hy.out)
        have hgw : g < w2.heap.size := hob.2 g rfl
        clear hx1 hy1 eg hob hb1 hb2 hB2 hr1
        go_wp2
        go_region
        clear hcx hcy hfx hfy
        have hrd := Hleft.out.rd.below hBd
        go_wp2_with fail
        refine (l1Ints_any _ _ _ xs _ hrd Hn.out (by omega)).mono ?_
        rintro e w3 ⟨a3, c3, rfl, hos, hb3⟩
        have hB3 := hBd.trans (hb3.mono hsd)
        have ho3 := Hod.out.below hb3
        have hs3 := hb3.size
        obtain ⟨g3, eg3, _, ⟨x1, hx1, hcx⟩, hfx⟩ := OI.cons ho3.1 hKn
        obtain rfl : g = g3 := by simpa using eg3
        obtain rfl : x1 = (p : Int) := Option.some.inj (hx1.symm.trans Hx.out)
        obtain ⟨gs, rfl, hgsB, ⟨v1, hv1, hcv⟩, hfv⟩ := OI.cons hos.1 hpn
        have hgsl : gs < w3.heap.size := hos.2 gs rfl
        have hne : g ≠ gs := by
          have : w2.drew.heap.size = w2.heap.size := rfl
          omega
        have s1 := hos.1.store p (J : Int)
        obtain ⟨W4, hW4⟩ : ∃ W4, w3.setCell ⟨gs, p, none⟩ (.int .i64 (J : Int)) = W4 := ⟨_, rfl⟩
        rw [hW4] at s1
        have hB4 : Below w.heap.size w W4 := below_grown (v := .slice (some ⟨gs, 0, none⟩) n c3) hB3 s1.2 hB3.size (fun q hq => by simp [Value.ownBlock] at hq; omega)
        have ho4 : OwI W4 w1.heap.size w2.heap.size (some ⟨g, 0, none⟩) n cb (inv xs) := ho3.kept s1.2 (fun q hq => by simp [Value.ownBlock] at hq; simp; omega)
        obtain ⟨g4, eg4, _, ⟨y1, hy1, hcy⟩, hfy⟩ := OI.cons ho4.1 hJn
        obtain rfl : g = g4 := by simpa using eg4
        obtain rfl : y1 = (r : Int) := Option.some.inj (hy1.symm.trans Hy.out)
        obtain ⟨g5, eg5, _, ⟨v2, hv2, hcv2⟩, hfv2⟩ := OI.cons s1.1 hrn
        obtain rfl : gs = g5 := by simpa using eg5
        have s2 := s1.1.store r (K : Int)
        obtain ⟨W5, hW5⟩ : ∃ W5, W4.setCell ⟨gs, r, none⟩ (.int .i64 (K : Int)) = W5 := ⟨_, rfl⟩
        rw [hW5] at s2
        have hz4 : W4.heap.size = w3.heap.size := by rw [← hW4]; simp
        have hz5 : W5.heap.size = w3.heap.size := by rw [← hW5]; simp; exact hz4
        have hB5 : Below w.heap.size w W5 := below_grown (v := .slice (some ⟨gs, 0, none⟩) n c3) hB4 s2.2 hB4.size (fun q hq => by simp [Value.ownBlock] at hq; omega)
        have Hsh := Lib.hid (show OwI W5 B W5.heap.size (some ⟨gs, 0, none⟩) n c3 (shortD xs K) from by
          have h1 : OwI W5 w2.drew.heap.size W5.heap.size (some ⟨gs, 0, none⟩) n c3 (shortD xs K) := by
            refine ⟨?_, fun q hq => by simp [Value.ownBlock] at hq; omega⟩
            have h2 := s2.1
            have e : shortD xs K = (xs.set p (J : Int)).set r (K : Int) := by
              unfold shortD
              rw [getD_of Hx.out, HJ.out, getD_of Hy.out, ← HJ.out]
              rfl
            rw [e]; exact h2
          exact h1.mono (by have : w2.drew.heap.size = w2.heap.size := rfl; omega) (Nat.le_refl _))
        have h6c : CO (W5.alloc (.cells #[] 60)) W5.heap.size (W5.alloc (.cells #[] 60)).heap.size (some ⟨W5.heap.size, 0, none⟩) 0 0 [] := CO.made W5
        obtain ⟨W6, hW6⟩ : ∃ W6, W5.alloc (.cells #[] 60) = W6 := ⟨_, rfl⟩
        rw [hW6] at h6c
        have hb6 : Below W5.heap.size W5 W6 := by rw [← hW6]; exact (Below.refl _ _).alloc (Nat.le_refl _) _
        have hB6 := hB5.trans (hb6.mono hB5.size)
        have H6c := Lib.hid h6c
        have Hsh6 := Lib.hid (Hsh.out.below hb6)
        have Hcr6 := Lib.hid (Hcr.out.below hB6)
        have Hz5 := Lib.hid hz5
        have hs56 := hb6.size
        have hs05 := hB5.size
        have hs06 := hB6.size
        clear h6c s1 s2 hos ho3 hv1 hv2 hx1 hy1 eg3 eg4 eg5 hb3 hB3 hB4 hz4 hz5 hrd Hod ho4 hb6 Hsh
        go_wp2_with (first | (at_builtin; go_loud (refine wpList_appCO (by rfl) _ _ (by rfl) H6c.out (by rfl) Hcr6.out (by rfl) (by omega) hs56 (Nat.le_refl _) ?_)))
        intro a7 c7 w7 ho7 hg7
        have Ho7 := Lib.hid (show CO w7 W5.heap.size w7.heap.size a7 m c7 cs by simpa using ho7)
        have hb57 : Below W5.heap.size W6 w7 := below_grown (v := .slice (some ⟨W5.heap.size, 0, none⟩) 0 0) ⟨rfl, rfl, rfl, Nat.le_refl _, fun _ _ => rfl⟩ hg7 hs56 (fun q hq => by simp [Value.ownBlock] at hq; omega)
        have hB7 := hB6.trans (hb57.mono hs05)
        have hs57 : W5.heap.size ≤ w7.heap.size := Nat.le_trans hs56 hb57.size
        have hl7 : ∀ q, (Value.slice a7 m c7).ownBlock = some q → W5.heap.size ≤ q := Ho7.out.lo
        have Hl7 := Lib.hid hl7
        clear ho7 hg7 hl7 hW4 hW5 hW6
        go_wp2_with (first | (at_builtin; go_loud (refine wpList_pushC (by rfl) (by rfl) _ _ (by rfl) Ho7.out (by rfl) (by rfl) (by omega) hs57 ?_)))
        intro a8 c8 w8 ho8 hg8
        have hb68 : Below W5.heap.size W6 w8 := below_grown hb57 hg8 hs57 Hl7.out
        have hB8 := hB6.trans (hb68.mono hs05)
        have hs08 := hB8.size
        have hs58 : W5.heap.size ≤ w8.heap.size := Nat.le_trans hs56 hb68.size
        have Hmo8 := Lib.hid (show CO w8 B w8.heap.size a8 (m + 1) c8 (cs ++ [((row : Int), (col : Int))]) from ho8.mono (by omega) (Nat.le_refl _))
        have Hsh8 := Lib.hid (show OwI w8 B w8.heap.size (some ⟨gs, 0, none⟩) n c3 (shortD xs K) from (Hsh6.out.only (B' := W5.heap.size) (S' := w8.heap.size) ⟨hb68.os, hb68.tape, hb68.output, hb68.size, fun q hq hn => hb68.block q (by have := hb68.size; omega)⟩ (.inl (Nat.le_refl _))).mono (Nat.le_refl _) hs58)
        have Hleft8 := Lib.hid ((Hleft.out.below hB8).mono (Nat.le_refl _) hs08)
        have Hcr8 := Lib.hid ((Hcr.out.below hB8).mono (Nat.le_refl _) hs08)
        have Hl8 := Lib.hid ((Hl.out.below hB8).mono hs08)
        have Hd := Lib.hid (show l3D n (f + 1) xs row col cs = l3D n f (shortD xs K) row (nextC n row col) (cs ++ [((row : Int), (col : Int))]) ++ l3D n f xs row (nextC n row col) cs by
          rw [l3D_yes (by rw [Hz.out]; exact hz0) hend (by rw [HK.out, HJ.out, getD_of Hx.out, getD_of Hy.out]; omega), HK.out, HR.out])
        have Hk1 := Lib.hid (show k + (l3D n f (shortD xs K) row (nextC n row col) (cs ++ [((row : Int), (col : Int))])).length ≤ 1048576 by have := Hk.out; rw [Hd.out, List.length_append] at this; omega)
        clear ho8 hg8 Ho7
        have HI := Lib.hid (ih B (some ⟨gs, 0, none⟩) c3 (shortD xs K) row (nextC n row col) D a8 (m + 1) c8 (cs ++ [((row : Int), (col : Int))]) a k c xss w8 Hsh8.out Hmo8.out Hl8.out (by omega) (by rw [shortD_length]; exact Hn.out) (shortD_in Hin.out (by rw [HJ.out]; exact hJn)) hRn hDb HDc.out Hfr.out (by omega) Hk1.out)
        go_wp2_with fail
        refine HI.out.mono ?_
        rintro e w9 ⟨a9, k9, c9, rfl, ho9, hg9⟩
        have hk9 := ho9.len
        have Hleft9 := Lib.hid ((Hleft8.out.growsC hg9 Hl8.out).mono (Nat.le_refl _) hg9.grown.size)
        have Hcr9 := Lib.hid ((Hcr8.out.growsS hg9 Hl8.out).mono (Nat.le_refl _) hg9.grown.size)
        have hs9 := hg9.grown.size
        have Ho9 := Lib.hid ho9
        have Hk2 := Lib.hid (show k9 + (l3D n f xs row (nextC n row col) cs).length ≤ 1048576 by have h1 := Hk.out; have h2 := Hl8.out.len; rw [Hd.out, List.length_append] at h1; rw [List.length_append] at hk9; omega)
        have HG := Lib.hid ((Grows.of_below (.slice a k c) hB8).trans hg9)
        clear ho9 hg9 hk9 HI
        have HI := Lib.hid (ih B al cl xs row (nextC n row col) D ax m cx cs a9 k9 c9 _ w9 Hleft9.out Hcr9.out Ho9.out (by omega) Hn.out Hin.out hRn hDb HDc.out Hfr.out (by omega) Hk2.out)
        go_wp2_with fail
        refine HI.out.mono ?_
        rintro e w10 ⟨a10, k10, c10, rfl, ho10, hg10⟩
        have Ho10 := Lib.hid (show CCS w10 B w10.heap.size a10 k10 c10 (xss ++ l3D n (f + 1) xs row col cs) by rw [Hd.out, ← List.append_assoc]; exact ho10)
        have hgf := HG.out.trans hg10
        clear ho10 hg10 HI
        go_wp2
        go_ret
        exact ⟨_, _, _, rfl, Ho10.out, hgf⟩
      · go_enter Try.func59, Try.ntmps59
        go_wp2_with fail
        refine (isInt (l1Length_any _ _ _ xs _ Hleft.out.rd Hn.out (by omega)) Hz.out).mono ?_
        rintro e w1 ⟨rfl, hb1⟩
        have hr1 := Hleft.out.rd.below hb1
        go_wp2_with fail
        refine (specInverse_any _ _ _ xs _ hr1 Hn.out (by omega) Hin.out).mono ?_
        rintro e w2 ⟨ab, cb, rfl, hob, hb2⟩
        have hB2 := hb1.trans (hb2.mono hb1.size)
        have hBd := hB2.trans ((Drew.below (w := w2) (w' := w2.drew) ⟨1, rfl⟩ _))
        have hsd := hBd.size
        have Hod := Lib.hid (hob.below (Drew.below (w := w2) (w' := w2.drew) ⟨1, rfl⟩ _))
        obtain ⟨g, rfl, hgB, ⟨x1, hx1, hcx⟩, hfx⟩ := OI.cons hob.1 hKn
        obtain rfl : x1 = (p : Int) := Option.some.inj (hx1.symm.trans Hx.out)
        obtain ⟨g2, eg, _, ⟨y1, hy1, hcy⟩, hfy⟩ := OI.cons hob.1 hJn
        obtain rfl : g = g2 := by simpa using eg
        obtain rfl : y1 = (r : Int) := Option.some.inj (hy1.symm.trans Hy.out)
        have hgw : g < w2.heap.size := hob.2 g rfl
        clear hx1 hy1 eg hob hb1 hb2 hB2 hr1
        go_wp2
        go_region
        clear hcx hcy hfx hfy
        have Hleft8 := Lib.hid ((Hleft.out.below hBd).mono (Nat.le_refl _) hsd)
        have Hcr8 := Lib.hid ((Hcr.out.below hBd).mono (Nat.le_refl _) hsd)
        have Hl8 := Lib.hid ((Hl.out.below hBd).mono hsd)
        have Hd := Lib.hid (show l3D n (f + 1) xs row col cs = l3D n f xs row (nextC n row col) cs by
          rw [l3D_no (by rw [Hz.out]; exact hz0) hend (by rw [HK.out, HJ.out, getD_of Hx.out, getD_of Hy.out]; omega), HR.out])
        have HI := Lib.hid (ih B al cl xs row (nextC n row col) D ax m cx cs a k c xss w2.drew Hleft8.out Hcr8.out Hl8.out (by omega) Hn.out Hin.out hRn hDb HDc.out Hfr.out (by omega) (by rw [← Hd.out]; exact Hk.out))
        go_wp2_with fail
        refine HI.out.mono ?_
        rintro e w10 ⟨a10, k10, c10, rfl, ho10, hg10⟩
        have Ho10 := Lib.hid (show CCS w10 B w10.heap.size a10 k10 c10 (xss ++ l3D n (f + 1) xs row col cs) by rw [Hd.out]; exact ho10)
        have hgf := (Grows.of_below (.slice a k c) hBd).trans hg10
        clear ho10 hg10 HI
        go_wp2
        go_ret
        exact ⟨_, _, _, rfl, Ho10.out, hgf⟩
end Go.Proofs.Ytageojkepoejiaa
