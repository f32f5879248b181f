/-
  Slices of slices whose blocks obey a predicate: appended to, marked, held.
-/
import Derived.Test.YtleehkgfoicmdaaIIQ
namespace Go.Proofs.Ytleehkgfoicmdaa
open Go.RowKit

theorem wpList_pushNilQ {w : World} {W : World} (hW : W = w.alloc (.cells #[.slice none 0 0] 22)) {ops : Array Oper} {rest : List Oper} {o : Oper} {ac : Act} {Q' : Exit → Act → World → Prop} (hgd : o.guard = none) (s x : Operand)
    (ho : o.op = .call { callee := .builtin .append, args := #[s, x], argTypes := #[29, 29] })
    {Q : Nat → Prop} {a : Option Addr} {n c : Nat} {xss : List (List Int)} (hown : IIQ w Q a n c xss) (hs : ac.eval s = .slice a n c)
    (hx : ac.eval x = .slice (some ⟨w.heap.size, 0, none⟩) 1 1) (hn : n + 1 ≤ 16777216)
    (h : ∀ a' c' w', IIQ w' (OrNew Q w w') a' (n + 1) c' (xss ++ [[]]) → OnlyQ Q w w' → wpList Try.prog ops Q' rest (ac.put o.dst (.slice a' (n + 1) c')) w') :
    wpList Try.prog ops Q' (o :: rest) ac W := by
  subst hW
  obtain ⟨i0, hi, hz0, hz1, hz2⟩ := info_parts Try.info22
  obtain ⟨vs, h1, h2, h3⟩ := hown
  refine wpList_app _ hgd s x 29 ho 0 22 i0 (.slice none 0 0) 24 Try.underlying29 hi hz0 hz1 hz2 rfl _ n vs hs (h1.alloc _) _ 1 1 [.slice none 0 0] hx rfl (by simp) ?_ ?_ hn (by omega) (Nat.zero_le _) ?_
  · intro ad had j u hu
    obtain rfl := Option.some.inj had
    match j, hu with
    | 0, hu => simp at hu; subst hu; simp [Addr.add]
  · intro u hu; simp at hu; subst hu; rfl
  · intro a' c' w' h4 h5
    have hb0 : Below w.heap.size w (w.alloc (.cells #[.slice none 0 0] 22)) := (Below.refl _ _).alloc (Nat.le_refl _) _
    have hg := (Grows.of_below (.slice a n c) hb0).trans h5
    refine h a' c' w' ⟨vs ++ [.slice none 0 0], h4, fun k hk => ?_, by simp [h3.len], fun k zs hz => ?_, fun i v g hv hg' => ?_, ?_⟩ (OnlyQ.of_grown hg.grown h2)
    · rcases hg.home with e | e
      · exact .inl (h2 k (by rw [← e]; exact hk))
      · exact .inr ⟨e k hk, (h4.lt k hk).2⟩
    · rcases Nat.lt_or_ge k xss.length with hk | hk
      · rw [List.getElem?_append_left hk] at hz
        obtain ⟨a2, c2, e1, e2⟩ := h3.each k zs hz
        exact ⟨a2, c2, by rw [List.getElem?_append_left (by rw [h3.len]; exact hk)]; exact e1, e2.kept hg.grown (fun q hq e => ne_blockS h1 e2 q e hq)⟩
      · rw [List.getElem?_append_right hk] at hz
        have hk0 : k - xss.length = 0 := by have := lt_of_some hz; simp at this; omega
        rw [hk0] at hz
        obtain rfl : [] = zs := by simpa using hz
        exact ⟨none, 0, by rw [List.getElem?_append_right (by rw [h3.len]; exact hk), h3.len, hk0]; rfl, OS.of ⟨rfl, .inl ⟨rfl, rfl⟩⟩⟩
    · rcases Nat.lt_or_ge i vs.length with hk | hk
      · rw [List.getElem?_append_left hk] at hv
        exact .inl (h3.home i v g hv hg')
      · rw [List.getElem?_append_right hk] at hv
        have hk0 : i - vs.length = 0 := by have := lt_of_some hv; simp at this; omega
        rw [hk0] at hv
        obtain rfl : Value.slice none 0 0 = v := by simpa using hv
        cases hg'
    · intro i j u v g hu hv hug hvg
      rcases Nat.lt_or_ge i vs.length with hi | hi
      · rcases Nat.lt_or_ge j vs.length with hj | hj
        · rw [List.getElem?_append_left hi] at hu
          rw [List.getElem?_append_left hj] at hv
          exact h3.apart i j u v g hu hv hug hvg
        · rw [List.getElem?_append_right hj] at hv
          have hj0 : j - vs.length = 0 := by have := lt_of_some hv; simp at this; omega
          rw [hj0] at hv
          obtain rfl : Value.slice none 0 0 = v := by simpa using hv
          cases hvg
      · rw [List.getElem?_append_right hi] at hu
        have hi0 : i - vs.length = 0 := by have := lt_of_some hu; simp at this; omega
        rw [hi0] at hu
        obtain rfl : Value.slice none 0 0 = u := by simpa using hu
        cases hug

set_option maxHeartbeats 800000 in
theorem markQ {Q : Nat → Prop} (a : Option Addr) (n c : Nat) (xs : List (List Int)) (k : Int) (w : World) {Z : Nat} (ho : IIQ w Q a n c xs) (hk0 : 0 ≤ k) (hk : k ≤ 4398046511104) (hb : Z ≤ 1099511627776) (hZ : sz_II xs = Z) (hbn : n ≤ 17592186044416) :
    Calls Try.prog 33 #[.slice a n c, .int .i64 k] w fun e w' => e = .returned (.int .i64 (k + Z)) ∧ IIQ w' Q a n c (mk_II xs k) ∧ OnlyQ Q w w' := by
  have hn := ho.len
  have Hn := Lib.hid hn; clear hn
  have HZ := Lib.hid hZ; clear hZ
  go_enter Try.func33, Try.ntmps33
  go_wp2
  go_loopw [1, 5] (fun kk i wr => ∃ j : Nat, j ≤ n ∧ i = .int .i64 j ∧ kk = .int .i64 (k + (sz_II (xs.take j) : Int)) ∧ IIQ wr Q a n c (mark_part xs k j) ∧ OnlyQ Q w wr) (fun _ i _ => n - (intOf i).toNat)
  case atStart => exact ⟨0, Nat.zero_le _, rfl, by simp [sz_II], by rw [mark_part_zero]; exact ho, OnlyQ.refl _ _⟩
  case round =>
    obtain ⟨j, hj, rfl, rfl, hr, hg⟩ := hrel
    by_cases hlt : j < n
    · obtain ⟨x, hx⟩ := some_of (show j < xs.length by rw [Hn.out]; exact hlt)
      obtain ⟨g, a', c', rfl, hc, hio, hqq, hset⟩ := hr.open (mark_part_at hx k)
      have hs1 := sz_II_take hx
      have hs2 := sz_II_le xs j
      have hs3 := sz_II_le xs (j + 1)
      have hst := mark_part_succ hx k
      rw [HZ.out] at hs2 hs3
      obtain ⟨s, hs⟩ : ∃ s, sz_II (xs.take j) = s := ⟨_, rfl⟩
      obtain ⟨l, hl⟩ : ∃ l, x.length = l := ⟨_, rfl⟩
      rw [hs] at hs1 hs2 hst ⊢
      rw [hl] at hs1 hc hio hset hqq
      have hsl : s + l ≤ 1099511627776 := by omega
      have Hs1 := Lib.hid hs1; clear hs1 hs3
      have Hs := Lib.hid hs; clear hs
      have Hl := Lib.hid hl; clear hl
      have Hst := Lib.hid hst; clear hst hx
      have Hset := Lib.hid hset; clear hset
      go_wp2_with fail
      refine (markIntS_any _ _ _ _ _ _ _ hio (by omega) (by omega) (by omega)).mono ?_
      rintro e w1 ⟨rfl, hos, hgr⟩
      have hio' : IIQ w1 Q (some ⟨g, 0, none⟩) n c (mark_part xs k (j + 1)) := by
        have := Hset.out w1 (mk_I x (k + (s : Int))) (by rw [mk_I_length, Hl.out]) (by unfold mk_I; rw [Hl.out]; exact hos) hgr
        rw [Hst.out] at this
        exact this
      have ho1 : OnlyQ Q w w1 := hg.trans (OnlyQ.of_grown hgr hqq)
      clear hos hgr hio hr hg
      go_wp2
      go_roundw
      case rel => exact ⟨j + 1, by omega, by go_num, by rw [Hs1.out]; go_num, hio', ho1⟩
      case measure => simp [intOf]; omega
    · obtain rfl : j = n := by omega
      go_wp2
      go_ret
      rw [mark_part_all Hn.out] at hr
      exact ⟨ret_int (by rw [List.take_of_length_le (by rw [Hn.out]; omega), HZ.out]), hr, hg⟩
theorem heldQ {Q : Nat → Prop} (a : Option Addr) (n c : Nat) (xs : List (List Int)) (k : Int) (w : World) {Z : Nat} (ho : IIQ w Q a n c (mk_II xs k)) (hk0 : 0 ≤ k) (hk : k ≤ 4398046511104) (hb : Z ≤ 1099511627776) (hZ : sz_II xs = Z) (hbn : n ≤ 17592186044416) :
    Calls Try.prog 34 #[.slice a n c, .int .i64 k] w fun e w' => e = .returned (.int .i64 (k + Z)) ∧ Drew w w' :=
  heldIntSS_any a n c xs k w ho.rd (by have := ho.len; rw [mk_II_length] at this; exact this) hk0 hk hb hZ hbn
end Go.Proofs.Ytleehkgfoicmdaa
