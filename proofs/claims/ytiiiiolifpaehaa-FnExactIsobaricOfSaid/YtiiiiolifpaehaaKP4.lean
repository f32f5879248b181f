/-
  Contract of toTermS; what came in, opened: a slice of pairs of a slice of integers and an integer.
-/
import Derived.Test.YtiiiiolifpaehaaKP3
import Derived.Test.YtiiiiolifpaehaaOpen
import Derived.Deep.SlicePairs
namespace Go.Proofs.Ytiiiiolifpaehaa
open Go.RowKit Go.ChangeShapes

/-- the row in block B holds the pairs, their slices lie in blocks behind B and below S -/
def PR (w : World) (B S n : Nat) (xs : List (List Int × Int)) : Prop :=
  ∃ vs, w.ownsRow B 121 2 (.slice (some ⟨B, 0, none⟩) n n) n vs ∧ xs.length = n ∧
    ∀ k p, xs[k]? = some p → ∃ a' c', vs[k * 2]? = some (.slice a' p.1.length c') ∧ vs[k * 2 + 1]? = some (.int .i64 p.2) ∧ OwI w (B + 1) S a' p.1.length c' p.1
theorem PR.rd {w : World} {B S n : Nat} {xs : List (List Int × Int)} (h : PR w B S n xs) : RP w (some ⟨B, 0, none⟩) xs := by
  obtain ⟨vs, h1, h2, h3⟩ := h
  refine .inr ⟨B, 0, rfl, fun k p hp => ?_⟩
  obtain ⟨a', c', e1, e2, e3⟩ := h3 k p hp
  have hk := (List.getElem?_eq_some_iff.1 hp).1
  exact ⟨a', c', by rw [Nat.zero_add, h1.cellAt _ (by omega)]; exact e1, by rw [Nat.zero_add, h1.cellAt _ (by omega)]; exact e2, e3.rd, e3.1.lt⟩
theorem PR.below {w w' : World} {B S n : Nat} {xs : List (List Int × Int)} (h : PR w B S n xs) (hb : Below w.heap.size w w') : PR w' B S n xs := by
  obtain ⟨vs, h1, h2, h3⟩ := h
  refine ⟨vs, ⟨h1.1, ?_⟩, h2, fun k p hp => ?_⟩
  · rcases h1.2 with e | ⟨g, cap, cur, hv, hg, hh, r⟩
    · exact .inl e
    · exact .inr ⟨g, cap, cur, hv, hg, by rw [hb.block g (Array.getElem?_eq_some_iff.1 hh).1]; exact hh, r⟩
  · obtain ⟨a', c', e1, e2, e3⟩ := h3 k p hp
    exact ⟨a', c', e1, e2, e3.below hb⟩
theorem PR.put {w : World} {B S n : Nat} {xs : List (List Int × Int)} (h : PR w B S n xs) {k : Nat} (hk : k < n) {S1 S' : Nat} {a' : Option Addr} {l c' : Nat} {ys : List Int} (hy : OwI w S1 S' a' l c' ys) (hB : B + 1 ≤ S1) (hS : S ≤ S') (x : Int) :
    (∃ old, w.cell? ⟨B, k * 2, none⟩ = some old) ∧ w.frozen? ⟨B, k * 2, none⟩ = false ∧
    (∃ old, (w.setCell ⟨B, k * 2, none⟩ (.slice a' l c')).cell? ⟨B, k * 2 + 1, none⟩ = some old) ∧ (w.setCell ⟨B, k * 2, none⟩ (.slice a' l c')).frozen? ⟨B, k * 2 + 1, none⟩ = false ∧
    PR ((w.setCell ⟨B, k * 2, none⟩ (.slice a' l c')).setCell ⟨B, k * 2 + 1, none⟩ (.int .i64 x)) B S' n (xs.set k (ys, x)) := by
  obtain ⟨vs, h1, h2, h3⟩ := h
  have hlv : vs.length = n * 2 := h1.1
  have s1 := h1.stored (k * 2) (.slice a' l c')
  have s2 := s1.1.stored (k * 2 + 1) (.int .i64 x)
  refine ⟨⟨vs[k * 2]'(by omega), by rw [h1.cellAt _ (by omega)]; exact List.getElem?_eq_getElem (by omega)⟩, h1.frozenAt _,
    ⟨(vs.set (k * 2) (.slice a' l c'))[k * 2 + 1]'(by rw [List.length_set]; omega), by rw [s1.1.cellAt _ (by omega)]; exact List.getElem?_eq_getElem _⟩, s1.1.frozenAt _, _, s2.1, by rw [List.length_set]; exact h2, fun j p hp => ?_⟩
  have hin : ∀ {b : Option Addr} {m d S2 S3 : Nat} {zs : List Int}, B + 1 ≤ S2 → OwI w S2 S3 b m d zs → OwI ((w.setCell ⟨B, k * 2, none⟩ (.slice a' l c')).setCell ⟨B, k * 2 + 1, none⟩ (.int .i64 x)) S2 S3 b m d zs := by
    intro b m d S2 S3 zs hb hz
    exact hz.only ((Only.setCell w B (k * 2) (.slice a' l c') (Nat.le_refl _) (Nat.lt_succ_self _)).trans (Only.setCell _ B (k * 2 + 1) (.int .i64 x) (Nat.le_refl _) (Nat.lt_succ_self _))) (.inr hb)
  rw [List.getElem?_set] at hp
  by_cases hj : k = j
  · subst hj
    rw [if_pos rfl, if_pos (by omega)] at hp
    obtain rfl := Option.some.inj hp
    obtain rfl := hy.len
    refine ⟨a', c', ?_, ?_, ?_⟩
    · rw [List.getElem?_set, if_neg (by omega), List.getElem?_set, if_pos rfl, if_pos (by omega)]
    · rw [List.getElem?_set, if_pos rfl, if_pos (by rw [List.length_set]; omega)]
    · exact (hin hB hy).mono hB (Nat.le_refl _)
  · rw [if_neg hj] at hp
    obtain ⟨a2, c2, e1, e2, e3⟩ := h3 j p hp
    refine ⟨a2, c2, ?_, ?_, (hin (Nat.le_refl _) e3).mono (Nat.le_refl _) hS⟩
    · rw [List.getElem?_set, if_neg (by omega), List.getElem?_set, if_neg (by omega)]; exact e1
    · rw [List.getElem?_set, if_neg (by omega), List.getElem?_set, if_neg (by omega)]; exact e2

def fillP (xs : List (List Int × Int)) (n k : Nat) : List (List Int × Int) := xs.take k ++ List.replicate (n - k) ([], 0)
theorem fillP_length {xs : List (List Int × Int)} {n k : Nat} (h : xs.length = n) (hk : k ≤ n) : (fillP xs n k).length = n := by simp [fillP]; omega
theorem fillP_all {xs : List (List Int × Int)} {n : Nat} (h : xs.length = n) : fillP xs n n = xs := by simp [fillP, ← h]
theorem fillP_succ {xs : List (List Int × Int)} {n k : Nat} {x : List Int × Int} (h : xs.length = n) (hk : k < n) (hx : xs[k]? = some x) : (fillP xs n k).set k x = fillP xs n (k + 1) := by
  subst h
  apply List.ext_getElem?
  intro j
  obtain ⟨_, rfl⟩ := List.getElem?_eq_some_iff.1 hx
  rw [List.getElem?_set]
  by_cases hj : k = j
  · subst hj
    rw [if_pos rfl, if_pos (by rw [fillP_length rfl (by omega)]; exact hk)]
    unfold fillP
    rw [List.getElem?_append_left (by simp; omega), List.getElem?_take, if_pos (by omega), List.getElem?_eq_getElem hk]
  · simp only [if_neg hj, fillP]
    rw [List.getElem?_append, List.getElem?_append]
    simp only [List.length_take, List.getElem?_take, List.getElem?_replicate]
    repeat' split
    all_goals first | rfl | omega
theorem PR.made {w : World} {B n : Nat} {vs : List Value} (h : w.ownsRow B 121 2 (.slice (some ⟨B, 0, none⟩) n n) n vs)
    (hv : ∀ k, k < n → vs[k * 2]? = some (.slice none 0 0) ∧ vs[k * 2 + 1]? = some (.int .i64 0)) : PR w B w.heap.size n (List.replicate n ([], 0)) := by
  refine ⟨vs, h, by simp, fun k p hp => ?_⟩
  rw [List.getElem?_replicate] at hp
  split at hp
  · rename_i hk
    obtain rfl := Option.some.inj hp
    exact ⟨none, 0, (hv k hk).1, (hv k hk).2, ⟨rfl, World.ownsRow_nil _ _ _ _⟩, by simp [Value.ownBlock]⟩
  · cases hp

def Wf_P (xs : List (List Int × Int)) : Prop := ∀ p ∈ xs, (∀ n ∈ p.1, (Lit.int .i64 n).wf = true) ∧ (Lit.int .i64 p.2).wf = true
def sz_P (xs : List (List Int × Int)) : Nat := xs.length + sz_II (heads xs)
def Short_P (xs : List (List Int × Int)) : Prop := ∀ p ∈ xs, p.1.length ≤ 1048576
theorem ms_P_len (xs : List (List Int × Int)) : xs.length ≤ ms_P xs := Nat.le_add_right _ _
theorem ms_P_sz (xs : List (List Int × Int)) : sz_P xs ≤ ms_P xs := Nat.le_refl _
theorem ms_P_short (xs : List (List Int × Int)) (h : ms_P xs ≤ 1048576) : Short_P xs := by
  intro p hp
  have h1 : p.1 ∈ heads xs := List.mem_map_of_mem hp
  have := sz_II_each h1
  unfold ms_P at h
  omega
theorem add_of' (b off k : Nat) : (⟨b, off, none⟩ : Addr).add k = ⟨b, off + k, none⟩ := by
  unfold Addr.add; split <;> simp_all
theorem plain_addr' {w : World} {x : Addr} {v : Value} (h : w.cell? (x.add 0) = some v) : ∃ b off, x = ⟨b, off, none⟩ := by
  obtain ⟨b, off, spot⟩ := x
  have : spot = none := by simpa [Addr.add] using World.cell?_spot h
  exact ⟨b, off, by rw [this]⟩
theorem open_P {H : Type} {enc : TypeId × Value → H} {W : World} {a : Option Addr} {len cap : Nat} {d : DataW H} {p : List MemPlace} (h : DataW.Trod enc Try.prog W 0 (fun _ => true) true 58 (.slice a len cap) d p) :
    ∃ xs, RP W a xs ∧ xs.length = len ∧ Wide_P len xs ∧ Wf_P xs := by
  obtain ⟨fuel, hf⟩ := h
  rcases Go.Deep.open_slice_pairs Try.underlying58 Try.underlying117 (by kernel_rfl) rfl rfl (by kernel_rfl) (by kernel_rfl) hf with ⟨hcs, _⟩ | ⟨x, l, c, m, n, V0, V1, D0, D1, P0, P1, hcs, _, hl, hm, hmm, _, hx⟩
  · simp [Value.cells] at hcs
    obtain ⟨rfl, rfl, rfl⟩ := hcs
    exact ⟨[], .inl rfl, rfl, ⟨by omega, by simp⟩, by simp [Wf_P]⟩
  · simp [Value.cells] at hcs
    obtain ⟨rfl, rfl, rfl⟩ := hcs
    unfold maxLen at hm
    have hmc : len ≤ m := by split at hmm <;> omega
    have each : ∀ r, r < m → ∃ q : List Int × Int, ∃ A C, W.cell? (x.add (r * 2)) = some (.slice A q.1.length C) ∧ W.cell? (x.add (r * 2 + 1)) = some (.int .i64 q.2) ∧ RI W A q.1 ∧ q.1.length ≤ 9223372036854775807 ∧ (∀ n ∈ q.1, (Lit.int .i64 n).wf = true) ∧ (Lit.int .i64 q.2).wf = true ∧ q.1.length ≤ C := by
      intro r hr
      obtain ⟨h1, h2, h3, h4⟩ := hx r hr
      obtain ⟨y, hy, _, hyw⟩ := DataW.trod_int Try.underlying3 h4
      simp only [List.cons.injEq, and_true] at hy
      rw [hy] at h2
      obtain ⟨A, L, C, hV, hLC⟩ : ∃ A L C, V0 r = .slice A L C ∧ L ≤ C := by
        rcases open_ints Try.underlying22 Try.underlying3 (by kernel_rfl) h3 with ⟨e, _⟩ | ⟨a, l, c, z, e, _, hl, _⟩
        · exact ⟨_, _, _, by simpa using e, Nat.le_refl _⟩
        · exact ⟨_, _, _, by simpa using e, hl⟩
      rw [hV] at h3 h1
      obtain ⟨xs, e1, e2, e3, e4⟩ := open_I (a := A) (len := L) (cap := C) ⟨n, by simpa [Value.cells] using h3⟩
      exact ⟨(xs, y), A, C, by rw [e2]; exact h1, h2, e1, by rw [e2]; exact e3, e4, hyw, by rw [e2]; exact hLC⟩
    obtain ⟨Z, hZ⟩ := Go.Deep.choose_lt each
    refine ⟨(List.range len).map Z, ?_, by simp, ⟨by omega, fun q hq => ?_⟩, fun q hq => ?_⟩
    · by_cases h0 : len = 0
      · left; simp [h0]
      · right
        obtain ⟨A, C, h1, _⟩ := hZ 0 (by omega)
        obtain ⟨b, off, rfl⟩ := plain_addr' (by rw [Nat.zero_mul] at h1; exact h1)
        refine ⟨b, off, rfl, fun k q hk => ?_⟩
        simp only [List.getElem?_map, Option.map_eq_some_iff] at hk
        obtain ⟨r, hr, rfl⟩ := hk
        have hkl := lt_of_some hr
        simp at hkl
        obtain rfl : k = r := by simpa [hkl] using hr
        obtain ⟨A, C, h1, h2, h3, _, _, _, h7⟩ := hZ k (by omega)
        rw [add_of'] at h1 h2
        exact ⟨A, C, h1, by rw [Nat.add_assoc]; exact h2, h3, h7⟩
    · simp only [List.mem_map, List.mem_range] at hq
      obtain ⟨r, hr, rfl⟩ := hq
      obtain ⟨A, C, h1, h2, h3, h4, h5, h6, _⟩ := hZ r (by omega)
      exact h4
    · simp only [List.mem_map, List.mem_range] at hq
      obtain ⟨r, hr, rfl⟩ := hq
      obtain ⟨A, C, h1, h2, h3, h4, h5, h6, _⟩ := hZ r (by omega)
      exact ⟨h5, h6⟩
end Go.Proofs.Ytiiiiolifpaehaa
