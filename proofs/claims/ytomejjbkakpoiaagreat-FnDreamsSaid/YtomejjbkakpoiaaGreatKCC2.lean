/-
  Slices of slices of cells: marked, held, copied.
-/
import Derived.Test.YtomejjbkakpoiaaGreatBuY3
namespace Go.Proofs.YtomejjbkakpoiaaGreat
open Go.RowKit

def mk_CC : List (List (Int × Int)) → Int → List (List (Int × Int))
  | [], _ => []
  | xs :: r, k => mk_C xs k :: mk_CC r (k + (sz_C xs : Int))
def sz_CC : List (List (Int × Int)) → Nat
  | [] => 0
  | xs :: r => sz_C xs + sz_CC r
theorem sz_CC_append (xs ys : List (List (Int × Int))) : sz_CC (xs ++ ys) = sz_CC xs + sz_CC ys := by
  induction xs with
  | nil => simp [sz_CC]
  | cons x xs ih => rw [List.cons_append, sz_CC, sz_CC, ih]; omega
theorem mk_CC_length (xs : List (List (Int × Int))) (k : Int) : (mk_CC xs k).length = xs.length := by
  induction xs generalizing k with
  | nil => rfl
  | cons x xs ih => rw [mk_CC, List.length_cons, List.length_cons, ih]
theorem mk_CC_append (xs ys : List (List (Int × Int))) (k : Int) : mk_CC (xs ++ ys) k = mk_CC xs k ++ mk_CC ys (k + (sz_CC xs : Int)) := by
  induction xs generalizing k with
  | nil => simp [sz_CC, mk_CC]
  | cons x xs ih =>
    rw [List.cons_append, mk_CC, mk_CC, ih, sz_CC, List.cons_append]
    congr 3
    simp; omega
theorem sz_CC_take {xs : List (List (Int × Int))} {i : Nat} {x : List (Int × Int)} (h : xs[i]? = some x) : sz_CC (xs.take (i + 1)) = sz_CC (xs.take i) + sz_C x := by
  rw [take_at h, sz_CC_append]; rfl
theorem sz_CC_le (xs : List (List (Int × Int))) (i : Nat) : sz_CC (xs.take i) ≤ sz_CC xs := by
  conv => rhs; rw [← List.take_append_drop i xs, sz_CC_append]
  omega
theorem sz_CC_each {xs : List (List (Int × Int))} {x : List (Int × Int)} (h : x ∈ xs) : sz_C x ≤ sz_CC xs := by
  induction xs with
  | nil => cases h
  | cons y ys ih =>
    rw [sz_CC]
    rcases List.mem_cons.1 h with rfl | h
    · omega
    · have := ih h; omega
def markC_part (xs : List (List (Int × Int))) (k : Int) (i : Nat) : List (List (Int × Int)) := mk_CC (xs.take i) k ++ xs.drop i
theorem markC_part_zero (xs : List (List (Int × Int))) (k : Int) : markC_part xs k 0 = xs := by simp [markC_part, mk_CC]
theorem markC_part_all {xs : List (List (Int × Int))} {n : Nat} (h : xs.length = n) (k : Int) : markC_part xs k n = mk_CC xs k := by simp [markC_part, ← h]
theorem markC_part_at {xs : List (List (Int × Int))} {i : Nat} {x : List (Int × Int)} (h : xs[i]? = some x) (k : Int) : (markC_part xs k i)[i]? = some x := by
  have hi := lt_of_some h
  have hl : (mk_CC (xs.take i) k).length = i := by rw [mk_CC_length, List.length_take]; omega
  unfold markC_part
  rw [List.getElem?_append_right (by omega), hl, Nat.sub_self, List.getElem?_drop, Nat.add_zero]
  exact h
theorem markC_part_succ {xs : List (List (Int × Int))} {i : Nat} {x : List (Int × Int)} (h : xs[i]? = some x) (k : Int) : (markC_part xs k i).set i (mk_C x (k + (sz_CC (xs.take i) : Int))) = markC_part xs k (i + 1) := by
  have hi := lt_of_some h
  have hl : (mk_CC (xs.take i) k).length = i := by rw [mk_CC_length, List.length_take]; omega
  unfold markC_part
  rw [drop_at h, List.set_append_right _ _ (by omega), hl, Nat.sub_self, take_at h, mk_CC_append]
  simp [mk_CC]
theorem mk_CC_at {xs : List (List (Int × Int))} {i : Nat} {x : List (Int × Int)} (h : xs[i]? = some x) (k : Int) : (mk_CC xs k)[i]? = some (mk_C x (k + (sz_CC (xs.take i) : Int))) := by
  have hi := lt_of_some h
  have hl : (mk_CC (xs.take i) k).length = i := by rw [mk_CC_length, List.length_take]; omega
  conv => lhs; rw [← List.take_append_drop i xs, mk_CC_append, drop_at h]
  rw [List.getElem?_append_right (by omega), hl, Nat.sub_self, mk_CC]
  rfl
/-- a row of integers lies in another block than a row of slices -/
theorem neC_block {w : World} {B S B' n l : Nat} {a a' : Option Addr} {c c' : Nat} {vs : List Value} {xs : List (Int × Int)} (h : w.ownsRow B' 33 1 (.slice a n c) n vs) (hi : CO w B S a' l c' xs) :
    ∀ k, (Value.slice a n c).ownBlock = some k → (Value.slice a' l c').ownBlock ≠ some k := by
  intro k hk hk'
  rcases ownsRow_shape h with ⟨_, rfl, _⟩ | ⟨g, rfl, _, _, _, cur, hg⟩
  · cases hk
  · have e1 : g = k := by simpa [Value.ownBlock] using hk
    rcases hi.1.2 with ⟨hv, _⟩ | ⟨g', cap', cur', hv, _, hh, _⟩
    · rw [hv] at hk'; cases hk'
    · rw [hv] at hk'
      have e2 : g' = k := by simpa [Value.ownBlock] using hk'
      subst e1 e2
      rw [hg] at hh
      simp at hh
theorem CCO.open {w : World} {B S : Nat} {a : Option Addr} {n c : Nat} {yss : List (List (Int × Int))} (h : CCO w B S a n c yss) {i : Nat} {xs : List (Int × Int)} (hi : yss[i]? = some xs) :
    ∃ g a' c', a = some ⟨g, 0, none⟩ ∧ w.cell? ⟨g, i, none⟩ = some (.slice a' xs.length c') ∧ CO w B S a' xs.length c' xs ∧
      ∀ w' ys, ys.length = xs.length → CO w' B S a' xs.length c' ys → w.grownBy w' (Value.slice a' xs.length c').ownBlock → CCO w' B S a n c (yss.set i ys) := by
  obtain ⟨vs, h1, h2, h3⟩ := h
  obtain ⟨a', c', hv, ho⟩ := h3.each i xs hi
  rcases ownsRow_shape h1 with ⟨_, _, _, hv0⟩ | ⟨g, rfl, hB, hlt, hc, _⟩
  · rw [hv0] at hv; cases hv
  · refine ⟨g, a', c', rfl, hc i _ hv, ho, fun w' ys hl hos hg => ?_⟩
    refine ⟨vs, grown_keeps h1 hg (fun k hk e => neC_block h1 ho k hk e), h2, ?_⟩
    refine ⟨by rw [List.length_set]; exact h3.len, fun k zs hz => ?_, h3.apart⟩
    rw [List.getElem?_set] at hz
    by_cases hk : i = k
    · subst hk
      rw [if_pos rfl, if_pos (lt_of_some hi)] at hz
      obtain rfl := Option.some.inj hz
      exact ⟨a', c', by rw [hl]; exact hv, by rw [hl]; exact hos⟩
    · rw [if_neg hk] at hz
      obtain ⟨a2, c2, hv2, ho2⟩ := h3.each k zs hz
      exact ⟨a2, c2, hv2, ho2.kept hg (fun q hq e => hk (h3.apart i k _ _ q hv hv2 e hq))⟩

end Go.Proofs.YtomejjbkakpoiaaGreat
