/-
  Contract of slices.Clone of cells.
-/
import Derived.Test.YtnjfbgdighaiiaaBottom
import Derived.Test.YtnjfbgdighaiiaaCloneI
import Derived.Test.YtnjfbgdighaiiaaKC3
namespace Go.Proofs.Ytnjfbgdighaiiaa
open Go.RowKit

theorem ms_C_sz (xs : List (Int × Int)) : sz_C xs ≤ 2 * ms_C xs := by unfold sz_C ms_C; omega
theorem prs_one (xs : List (Int × Int)) : ∀ u ∈ prs xs, u.oneCell' = true := by
  induction xs with
  | nil => intro u hu; simp [prs] at hu
  | cons p xs ih =>
    intro u hu
    simp only [prs, List.mem_cons] at hu
    rcases hu with rfl | rfl | hu
    · rfl
    · rfl
    · exact ih u hu
theorem prs_cells {w : World} {b : Nat} {off : Nat} {xs : List (Int × Int)} (h : ∀ k p, xs[k]? = some p → w.cell? ⟨b, off + k * 2, none⟩ = some (.int .i64 p.1) ∧ w.cell? ⟨b, off + k * 2 + 1, none⟩ = some (.int .i64 p.2)) :
    ∀ j u, (prs xs)[j]? = some u → w.cell? ((⟨b, off, none⟩ : Addr).add j) = some u := by
  intro j u hu
  have hj := (List.getElem?_eq_some_iff.1 hu).1
  rw [prs_length] at hj
  obtain ⟨p, q, hp⟩ := pair_at (k := j / 2) rfl (show j / 2 < xs.length by omega)
  obtain ⟨h1, h2⟩ := h _ _ hp
  obtain ⟨e1, e2⟩ := prs_at hp
  have ea : (⟨b, off, none⟩ : Addr).add j = ⟨b, off + j, none⟩ := by unfold Addr.add; split <;> simp_all
  rw [ea]
  rcases Nat.mod_two_eq_zero_or_one j with h | h
  · have e : j = j / 2 * 2 := by omega
    rw [e] at hu
    rw [e1] at hu
    rw [← hu, e]
    simpa using h1
  · have e : j = j / 2 * 2 + 1 := by omega
    rw [e] at hu
    rw [e2] at hu
    rw [← hu, e]
    rw [← Nat.add_assoc]
    exact h2
theorem RC.cells {w : World} {ad : Addr} {xs : List (Int × Int)} (h : RC w (some ad) xs) : ∀ j u, (prs xs)[j]? = some u → w.cell? (ad.add j) = some u := by
  rcases h with rfl | ⟨b, off, e, hc⟩
  · intro j u hu; simp [prs] at hu
  · obtain rfl := Option.some.inj e
    exact prs_cells hc
theorem wpList_appC {w : World} {ops : Array Oper} {rest : List Oper} {o : Oper} {ac : Act} {Q : Exit → Act → World → Prop} (hgd : o.guard = none) (s x : Operand)
    (ho : o.op = .call { callee := .builtin .append, args := #[s, x], argTypes := #[23, 23] })
    {B S : Nat} {a : Option Addr} {n c : Nat} {xs : List (Int × Int)} (hown : CO w B S a n c xs) (hs : ac.eval s = .slice a n c)
    {ad : Addr} {m d : Nat} {ys : List (Int × Int)} (hr : RC w (some ad) ys) (hm : ys.length = m) (hx : ac.eval x = .slice (some ad) m d) (hn : n + m ≤ 2097152) (hbase : B ≤ w.heap.size)
    (h : ∀ a' c' w', CO w' B w'.heap.size a' (n + m) c' (xs ++ ys) → w.grownBy w' (Value.slice a n c).ownBlock → wpList Try.prog ops Q rest (ac.put o.dst (.slice a' (n + m) c')) w') :
    wpList Try.prog ops Q (o :: rest) ac w := by
  obtain ⟨i0, hi, hz0, hz1, hz2⟩ := info_parts Try.infoCell
  refine wpList_append_own _ hgd s x 23 ho B 44 i0 (.agg #[.int .i64 0, .int .i64 0]) 2 16 Try.underlying23 hi hz0 hz1 hz2 rfl (by decide) _ n (prs xs) hs hown.1 ad m d (prs ys) hx (by rw [prs_length, hm]) hr.cells (prs_one ys) (by unfold maxLen; omega) (by omega) hbase ?_
  intro v' w' h2 h3 _
  obtain ⟨a', c', rfl⟩ := slice_of2 h2
  exact h a' c' w' (CO.mk (by rw [prs_append]; exact h2)) h3

set_option maxRecDepth 100000 in
set_option maxHeartbeats 400000 in
theorem cloneC_any (a : Option Addr) (n c : Nat) (xs : List (Int × Int)) (w : World) (hr : RC w a xs) (hn : xs.length = n) (hb : n ≤ 1048576) :
    Calls Try.prog 95 #[.slice a n c] w fun e w' => ∃ a' c', e = .returned (.slice a' n c') ∧ CO w' w.heap.size w'.heap.size a' n c' xs ∧ Below w.heap.size w w' := by
  have q22 : ∀ (w : World) (a : Option Addr) (n c n' c' : Nat), (binOp .eql 23 (.slice a n c) (.slice none n' c')).run Try.prog w = .ok (.bool a.isNone) w := fun w a n c n' c' => Lib.run_eql_slice_nil w _ _ a n c n' c' Try.underlying23
  rcases a with _ | ad
  · have hx : xs = [] := by
      rcases hr with h | ⟨b, off, h, _⟩
      · exact h
      · cases h
    subst hx
    simp only [List.length_nil] at hn
    subst hn
    go_enter Try.func95, Try.ntmps95
    go_wp2
    go_ret
    exact ⟨_, _, rfl, CO.nil, Below.refl _ _⟩
  · have h1 : CO (w.alloc (.cells #[] 44)) w.heap.size (w.alloc (.cells #[] 44)).heap.size (some ⟨w.heap.size, 0, none⟩) 0 0 [] := CO.made w
    have hB0 : Below w.heap.size w (w.alloc (.cells #[] 44)) := (Below.refl _ _).alloc (Nat.le_refl _) _
    have Hn := Lib.hid hn; clear hn
    have H1 := Lib.hid h1; clear h1
    have hr0 := hr.below hB0
    go_enter Try.func95, Try.ntmps95
    go_wp2_with (first | (at_builtin; go_loud (refine wpList_appC (by rfl) _ _ (by rfl) H1.out (by rfl) hr0 Hn.out (by rfl) (by omega) (by simp) ?_)))
    intro a2 c2 w2 ho2 hg2
    have hB2 : Below w.heap.size w w2 := hB0.grown hg2 (by simp) (fun k hk => by simp [Value.ownBlock] at hk; omega)
    go_wp2
    go_ret
    exact ⟨a2, c2, by simp, by simpa using ho2, hB2⟩
end Go.Proofs.Ytnjfbgdighaiiaa
