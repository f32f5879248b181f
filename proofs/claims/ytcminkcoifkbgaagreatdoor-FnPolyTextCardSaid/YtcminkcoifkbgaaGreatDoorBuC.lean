/-
  Lists of monomials (a key, a coefficient) up to sums of those that are alike, modulo 2^64; their one ordered form.
  Maps from exponents (seven numbers, written as one key) to coefficients in memory: what they hold, up to order; looked up, stored, deleted, ranged over.
  What the operators of polynomials make of lists of monomials; keys and their digits.
  'm[k] += c': the entry laid first, then its value stored; contract of (poly).add.
  The laws of a range over a map of exponents at the operations, for walks.
  Contracts of plus, raised, divided, demazure, isobaric.
  Contracts of raised and divided.
  Contract of divided.
  Contracts of demazure, isobaric and of what AtomOf adds, of impl.
-/
import Derived.Test.YtcminkcoifkbgaaGreatDoorBase
import Derived.Maps.RangeWalk
import Derived.WideKeyPair
import Derived.RegionTactic
import Derived.ChangeAlike
import Derived.WideKeyEntry
import Derived.Laws.Rows
namespace Go.Proofs.YtcminkcoifkbgaaGreatDoor
open Go.RowKit

abbrev Mons := List (Int × Int)
def W64 : Int := 18446744073709551616
/-- a sum over the monomials, each with a weight that hangs on its key -/
def wsum : Mons → (Int → Int) → Int
  | [], _ => 0
  | p :: l, v => p.2 * v p.1 + wsum l v
def hit (k : Int) (j : Int) : Int := if j = k then 1 else 0
def raw (l : Mons) (k : Int) : Int := wsum l (hit k)
/-- the coefficient at a key -/
def coef (l : Mons) (k : Int) : Int := wrap64 (raw l k)
theorem wrap_dvd (a : Int) : W64 ∣ a - wrap64 a := by unfold wrap64 W64; omega
theorem wrap_eq {a b : Int} : wrap64 a = wrap64 b ↔ W64 ∣ a - b := by unfold wrap64 W64; omega
theorem wrap_range (a : Int) : -9223372036854775808 ≤ wrap64 a ∧ wrap64 a ≤ 9223372036854775807 := by unfold wrap64; omega
theorem wrap_self {a : Int} (h : -9223372036854775808 ≤ a ∧ a ≤ 9223372036854775807) : wrap64 a = a := by unfold wrap64; omega
theorem wrap_zero : wrap64 0 = 0 := by unfold wrap64; omega
theorem wrap_mul (a b : Int) : wrap64 (a * wrap64 b) = wrap64 (a * b) := by
  rw [wrap_eq]
  have h := wrap_dvd b
  have : a * wrap64 b - a * b = -(a * (b - wrap64 b)) := by rw [Int.mul_sub]; omega
  rw [this]
  exact Int.dvd_neg.2 (Int.dvd_mul_of_dvd_right h)
theorem wrap_addr (a b : Int) : wrap64 (a + wrap64 b) = wrap64 (a + b) := by unfold wrap64; omega
theorem wrap_addl (a b : Int) : wrap64 (wrap64 a + b) = wrap64 (a + b) := by unfold wrap64; omega

theorem wsum_append (l m : Mons) (v : Int → Int) : wsum (l ++ m) v = wsum l v + wsum m v := by
  induction l with
  | nil => simp [wsum]
  | cons p l ih => simp only [List.cons_append, wsum, ih]; omega
theorem wsum_perm {l m : Mons} (h : l.Perm m) (v : Int → Int) : wsum l v = wsum m v := by
  induction h with
  | nil => rfl
  | cons p _ ih => simp only [wsum, ih]
  | swap p q l => simp only [wsum]; omega
  | trans _ _ h1 h2 => rw [h1, h2]
def less1 (l : Mons) (k : Int) : Mons := l.filter fun p => decide (p.1 ≠ k)
theorem wsum_split (l : Mons) (k : Int) (v : Int → Int) : wsum l v = raw l k * v k + wsum (less1 l k) v := by
  induction l with
  | nil => simp [raw, wsum, less1]
  | cons p l ih =>
    unfold raw at *
    by_cases h : p.1 = k
    · have e : less1 (p :: l) k = less1 l k := by simp [less1, h]
      rw [e, wsum, ih, wsum, h, hit, if_pos rfl, Int.add_mul, Int.mul_one]
      omega
    · have e : less1 (p :: l) k = p :: less1 l k := by simp [less1, h]
      rw [e, wsum, ih, wsum, wsum, hit, if_neg h]
      simp only [Int.mul_zero, Int.zero_add]
      omega
theorem raw_less1 (l : Mons) (k j : Int) : raw (less1 l k) j = if j = k then 0 else raw l j := by
  induction l with
  | nil => simp [raw, wsum, less1]
  | cons p l ih =>
    unfold raw at *
    by_cases h : p.1 = k
    · have e : less1 (p :: l) k = less1 l k := by simp [less1, h]
      rw [e, ih]
      by_cases hj : j = k
      · rw [if_pos hj, if_pos hj]
      · rw [if_neg hj, if_neg hj, wsum, hit, if_neg (by rw [h]; exact fun e => hj e.symm)]; simp
    · have e : less1 (p :: l) k = p :: less1 l k := by simp [less1, h]
      rw [e, wsum, ih]
      by_cases hj : j = k
      · rw [if_pos hj, if_pos hj, hit, if_neg (by rw [hj]; exact h)]; simp
      · rw [if_neg hj, if_neg hj, wsum]
theorem less1_length (l : Mons) (k : Int) : (less1 l k).length ≤ l.length := List.length_filter_le _ _
theorem wsum_none : ∀ (n : Nat) (l : Mons), l.length ≤ n → (∀ k, W64 ∣ raw l k) → ∀ v, W64 ∣ wsum l v := by
  intro n
  induction n with
  | zero =>
    intro l hl _ v
    have : l = [] := List.length_eq_zero_iff.1 (by omega)
    subst this
    exact Int.dvd_zero _
  | succ n ih =>
    intro l hl h v
    cases l with
    | nil => exact Int.dvd_zero _
    | cons p l =>
      rw [wsum_split (p :: l) p.1 v]
      refine Int.dvd_add (Int.dvd_mul_of_dvd_left (h p.1)) (ih _ ?_ ?_ v)
      · have e : less1 (p :: l) p.1 = less1 l p.1 := by simp [less1]
        rw [e]
        have := less1_length l p.1
        simp only [List.length_cons] at hl
        omega
      · intro k
        rw [raw_less1]
        split
        · exact Int.dvd_zero _
        · exact h k
def negs (l : Mons) : Mons := l.map fun p => (p.1, -p.2)
theorem wsum_negs (l : Mons) (v : Int → Int) : wsum (negs l) v = -wsum l v := by
  induction l with
  | nil => rfl
  | cons p l ih =>
    have e : negs (p :: l) = (p.1, -p.2) :: negs l := rfl
    rw [e]
    show -p.2 * v p.1 + wsum (negs l) v = -(p.2 * v p.1 + wsum l v)
    rw [ih, Int.neg_mul]
    omega
/-- two lists of one polynomial -/
def Eqv (l m : Mons) : Prop := ∀ k, coef l k = coef m k
theorem Eqv.refl (l : Mons) : Eqv l l := fun _ => rfl
theorem Eqv.symm {l m : Mons} (h : Eqv l m) : Eqv m l := fun k => (h k).symm
theorem Eqv.trans {l m n : Mons} (h : Eqv l m) (h' : Eqv m n) : Eqv l n := fun k => (h k).trans (h' k)
theorem Eqv.of_perm {l m : Mons} (h : l.Perm m) : Eqv l m := fun k => by unfold coef raw; rw [wsum_perm h]
theorem Eqv.wsum {l m : Mons} (h : Eqv l m) (v : Int → Int) : W64 ∣ wsum l v - wsum m v := by
  have h1 : ∀ k, W64 ∣ raw (l ++ negs m) k := by
    intro k
    have := wrap_eq.1 (h k)
    unfold raw at *
    rw [wsum_append, wsum_negs]
    simpa [Int.sub_eq_add_neg] using this
  have h2 := wsum_none _ (l ++ negs m) (Nat.le_refl _) h1 v
  rw [wsum_append, wsum_negs] at h2
  simpa [Int.sub_eq_add_neg] using h2
theorem Eqv.of_wsum {l m : Mons} (h : ∀ v, W64 ∣ Go.Proofs.YtcminkcoifkbgaaGreatDoor.wsum l v - Go.Proofs.YtcminkcoifkbgaaGreatDoor.wsum m v) : Eqv l m := fun _k => wrap_eq.2 (h _)
theorem Eqv.append {l m l' m' : Mons} (h : Eqv l m) (h' : Eqv l' m') : Eqv (l ++ l') (m ++ m') := Eqv.of_wsum fun v => by
  rw [wsum_append, wsum_append]
  have h1 := h.wsum v
  have h2 := h'.wsum v
  have := Int.dvd_add h1 h2
  have e : ∀ a b c d : Int, a - b + (c - d) = a + c - (b + d) := by intros; omega
  rwa [e] at this
/-- what an operator makes of one monomial hangs on its coefficient as a factor -/
def Lin (f : Int × Int → Mons) : Prop := ∃ A : Int → (Int → Int) → Int, ∀ k c v, wsum (f (k, c)) v = c * A k v
theorem Lin.flat {f : Int × Int → Mons} (h : Lin f) : ∃ A : Int → (Int → Int) → Int, ∀ l v, wsum (l.flatMap f) v = wsum l (fun k => A k v) := by
  obtain ⟨A, hA⟩ := h
  refine ⟨A, fun l v => ?_⟩
  induction l with
  | nil => rfl
  | cons p l ih =>
    rw [List.flatMap_cons, wsum_append, ih, wsum, ← hA p.1 p.2 v]
theorem Eqv.flatMap {f : Int × Int → Mons} (hf : Lin f) {l m : Mons} (h : Eqv l m) : Eqv (l.flatMap f) (m.flatMap f) := by
  obtain ⟨A, hA⟩ := hf.flat
  exact Eqv.of_wsum fun v => by rw [hA, hA]; exact h.wsum _
theorem Lin.one {g : Int → Int} (c : Int) : Lin (fun p => [(g p.1, c * p.2)]) :=
  ⟨fun k v => c * v (g k), fun k d v => by simp only [Go.Proofs.YtcminkcoifkbgaaGreatDoor.wsum, Int.add_zero]; rw [Int.mul_comm c d, Int.mul_assoc]⟩
theorem flat_one (g : Int → Int) (c : Int) (l : Mons) : l.flatMap (fun p => [(g p.1, c * p.2)]) = l.map fun p => (g p.1, c * p.2) := by
  induction l with
  | nil => rfl
  | cons p l ih => rw [List.flatMap_cons, ih]; rfl

/-! the one ordered form -/
def uniq : List Int → List Int
  | [] => []
  | a :: l => a :: (uniq l).filter fun b => decide (b ≠ a)
theorem mem_uniq {l : List Int} {x : Int} : x ∈ uniq l ↔ x ∈ l := by
  induction l with
  | nil => rfl
  | cons a l ih =>
    rw [uniq, List.mem_cons, List.mem_cons, List.mem_filter, ih]
    simp only [decide_eq_true_eq]
    by_cases h : x = a
    · simp [h]
    · simp [h]
theorem uniq_nodup (l : List Int) : (uniq l).Nodup := by
  induction l with
  | nil => exact List.Pairwise.nil
  | cons a l ih =>
    rw [uniq, List.nodup_cons]
    refine ⟨?_, List.Pairwise.filter _ ih⟩
    rw [List.mem_filter]
    simp
def keysOf (l : Mons) : List Int := ((uniq (l.map fun p => p.1)).filter fun k => decide (coef l k ≠ 0)).mergeSort fun a b => decide (b ≤ a)
def canon (l : Mons) : Mons := (keysOf l).map fun k => (k, coef l k)
theorem raw_miss {l : Mons} {k : Int} (h : ∀ p ∈ l, p.1 ≠ k) : raw l k = 0 := by
  induction l with
  | nil => rfl
  | cons p l ih =>
    unfold raw at *
    rw [Go.Proofs.YtcminkcoifkbgaaGreatDoor.wsum, ih fun q hq => h q (List.mem_cons_of_mem _ hq), hit, if_neg (h p List.mem_cons_self)]
    simp
theorem coef_miss {l : Mons} {k : Int} (h : ∀ p ∈ l, p.1 ≠ k) : coef l k = 0 := by rw [coef, raw_miss h, wrap_zero]
theorem mem_keysOf {l : Mons} {k : Int} : k ∈ keysOf l ↔ coef l k ≠ 0 := by
  unfold keysOf
  rw [(List.mergeSort_perm _ _).mem_iff, List.mem_filter, mem_uniq]
  simp only [decide_eq_true_eq]
  constructor
  · exact fun h => h.2
  · intro h
    refine ⟨?_, h⟩
    rcases Decidable.em (k ∈ l.map fun p => p.1) with h1 | h1
    · exact h1
    · exact absurd (coef_miss fun p hp e => h1 (List.mem_map.2 ⟨p, hp, e⟩)) h
theorem keysOf_nodup (l : Mons) : (keysOf l).Nodup := by
  unfold keysOf
  rw [(List.mergeSort_perm _ _).nodup_iff]
  exact List.Pairwise.filter _ (uniq_nodup _)
theorem keysOf_sorted (l : Mons) : (keysOf l).Pairwise fun a b => b < a := by
  have h1 : (keysOf l).Pairwise fun a b => decide (b ≤ a) = true := by
    unfold keysOf
    exact List.pairwise_mergeSort (fun a b c h1 h2 => by simp at *; omega) (fun a b => by simp; omega) _
  have h2 := keysOf_nodup l
  exact (h1.and h2).imp fun h => by
    obtain ⟨h3, h4⟩ := h
    simp at h3
    omega
theorem sorted_ext {a b : List Int} (ha : a.Pairwise fun x y => y < x) (hb : b.Pairwise fun x y => y < x) (h : ∀ x, x ∈ a ↔ x ∈ b) : a = b := by
  have na : a.Nodup := ha.imp fun h => by omega
  have nb : b.Nodup := hb.imp fun h => by omega
  refine List.Perm.eq_of_pairwise (le := fun x y => y < x) (fun x y _ _ h1 h2 => by omega) ha hb ?_
  exact (List.perm_ext_iff_of_nodup na nb).2 h
theorem canon_eqv {l m : Mons} (h : Eqv l m) : canon l = canon m := by
  have hk : keysOf l = keysOf m := sorted_ext (keysOf_sorted l) (keysOf_sorted m) fun x => by rw [mem_keysOf, mem_keysOf, h x]
  unfold canon
  rw [hk]
  exact List.map_congr_left fun k _ => by rw [h k]
theorem raw_map {ks : List Int} {f : Int → Int} (hn : ks.Nodup) (k : Int) : raw (ks.map fun j => (j, f j)) k = if k ∈ ks then f k else 0 := by
  induction ks with
  | nil => rfl
  | cons a ks ih =>
    rw [List.nodup_cons] at hn
    unfold raw at *
    rw [List.map_cons, Go.Proofs.YtcminkcoifkbgaaGreatDoor.wsum, ih hn.2, hit]
    by_cases h : a = k
    · subst h
      rw [if_pos rfl, if_neg hn.1, if_pos List.mem_cons_self]
      simp
    · rw [if_neg h]
      have : (k ∈ a :: ks) ↔ k ∈ ks := by simp [Ne.symm h]
      simp only [this, Int.mul_zero, Int.zero_add]
theorem coef_range (l : Mons) (k : Int) : wrap64 (coef l k) = coef l k := wrap_self (wrap_range _)
theorem coef_canon (l : Mons) (k : Int) : coef (canon l) k = coef l k := by
  unfold canon
  rw [coef, raw_map (keysOf_nodup l)]
  split
  · exact coef_range l k
  · rename_i h
    rw [mem_keysOf] at h
    rw [Decidable.not_not.1 h, wrap_zero]
theorem canon_self (l : Mons) : Eqv (canon l) l := coef_canon l
theorem canon_sorted (l : Mons) : (canon l).Pairwise fun p q => q.1 < p.1 := by
  unfold canon
  rw [List.pairwise_map]
  exact keysOf_sorted l
theorem canon_mem {l : Mons} {p : Int × Int} : p ∈ canon l ↔ p.2 ≠ 0 ∧ p.2 = coef l p.1 := by
  unfold canon
  rw [List.mem_map]
  constructor
  · rintro ⟨k, hk, rfl⟩
    exact ⟨mem_keysOf.1 hk, rfl⟩
  · rintro ⟨h1, h2⟩
    exact ⟨p.1, mem_keysOf.2 (by rw [← h2]; exact h1), by rw [← h2]⟩
/-- there is one such list -/
theorem canon_unique {l m : Mons} (hs : m.Pairwise fun p q => q.1 < p.1) (hz : ∀ p ∈ m, p.2 ≠ 0 ∧ -9223372036854775808 ≤ p.2 ∧ p.2 ≤ 9223372036854775807) (h : Eqv m l) : m = canon l := by
  have hn : (m.map fun p => p.1).Nodup := by
    rw [List.Nodup, List.pairwise_map]
    exact hs.imp fun h => by omega
  have hc : ∀ p ∈ m, coef m p.1 = p.2 := by
    intro p hp
    clear h hs
    induction m with
    | nil => cases hp
    | cons q m ih =>
      rw [List.map_cons, List.nodup_cons] at hn
      unfold coef raw
      rw [Go.Proofs.YtcminkcoifkbgaaGreatDoor.wsum, hit]
      rcases List.mem_cons.1 hp with rfl | hp'
      · rw [if_pos rfl]
        have : Go.Proofs.YtcminkcoifkbgaaGreatDoor.wsum m (hit p.1) = 0 := raw_miss fun q hq e => hn.1 (List.mem_map.2 ⟨q, hq, e⟩)
        rw [this, Int.mul_one, Int.add_zero]
        exact wrap_self (hz p List.mem_cons_self).2
      · rw [if_neg (fun e => hn.1 (List.mem_map.2 ⟨p, hp', e.symm⟩))]
        have := ih (fun q hq => hz q (List.mem_cons_of_mem _ hq)) hn.2 hp'
        unfold coef raw at this
        simpa using this
  have hk : m.map (fun p => p.1) = keysOf l := by
    refine sorted_ext (by rw [List.pairwise_map]; exact hs) (keysOf_sorted l) fun x => ?_
    rw [mem_keysOf, ← h x]
    constructor
    · intro hx
      obtain ⟨p, hp, rfl⟩ := List.mem_map.1 hx
      rw [hc p hp]
      exact (hz p hp).1
    · intro hx
      rcases Decidable.em (x ∈ m.map fun p => p.1) with h1 | h1
      · exact h1
      · exact absurd (coef_miss fun p hp e => h1 (List.mem_map.2 ⟨p, hp, e⟩)) hx
  unfold canon
  rw [← hk, List.map_map]
  have : ∀ p ∈ m, ((fun k => (k, coef l k)) ∘ fun p => p.1) p = p := by
    intro p hp
    simp only [Function.comp]
    rw [← h p.1, hc p hp]
  conv => lhs; rw [← List.map_id m]
  exact (List.map_congr_left fun p hp => by rw [this p hp]; rfl)
end Go.Proofs.YtcminkcoifkbgaaGreatDoor

namespace Go.Proofs.YtcminkcoifkbgaaGreatDoor
open Go.RowKit Go.MapKept Go.ChangeMaps

/-! keys -/
def dig (k : Int) (i : Nat) : Int := k / 128 ^ i % 128
def kV (k : Int) : Value := .agg #[.int .i64 (dig k 0), .int .i64 (dig k 1), .int .i64 (dig k 2), .int .i64 (dig k 3), .int .i64 (dig k 4), .int .i64 (dig k 5), .int .i64 (dig k 6)]
def inK (k : Int) : Prop := 0 ≤ k ∧ k < 562949953421312
def in64 (c : Int) : Prop := -9223372036854775808 ≤ c ∧ c ≤ 9223372036854775807
theorem dig_range (k : Int) (i : Nat) : 0 ≤ dig k i ∧ dig k i < 128 := ⟨Int.emod_nonneg _ (by omega), Int.emod_lt_of_pos _ (by omega)⟩
theorem dig_wf (k : Int) (i : Nat) : (Lit.int .i64 (dig k i)).wf = true := by
  have := dig_range k i
  simp [Lit.wf, IntKind.min, IntKind.max, IntKind.signed, IntKind.bits]
  omega
theorem digs_key {k : Int} (h : inK k) : k = dig k 0 + 128 * dig k 1 + 16384 * dig k 2 + 2097152 * dig k 3 + 268435456 * dig k 4 + 34359738368 * dig k 5 + 4398046511104 * dig k 6 := by
  unfold inK at h
  unfold dig
  simp only [show (128 : Int) ^ 0 = 1 by decide, show (128 : Int) ^ 1 = 128 by decide, show (128 : Int) ^ 2 = 16384 by decide, show (128 : Int) ^ 3 = 2097152 by decide, show (128 : Int) ^ 4 = 268435456 by decide, show (128 : Int) ^ 5 = 34359738368 by decide, show (128 : Int) ^ 6 = 4398046511104 by decide]
  omega
theorem kV_inj {j k : Int} (hj : inK j) (hk : inK k) (h : kV j = kV k) : j = k := by
  unfold kV at h
  simp only [Value.agg.injEq, Array.mk.injEq, List.cons.injEq, Value.int.injEq, true_and, and_true] at h
  rw [digs_key hj, digs_key hk]
  omega
theorem arrK : WideMaps.ArrKey Tryz.prog 96 3 7 := ⟨by kernel_rfl, by kernel_rfl, by kernel_rfl, by kernel_rfl⟩
theorem undInt : Tryz.prog.underlying 3 = some (.int .i64) := by kernel_rfl
theorem typesSome : ∃ m, Tryz.prog.types.size = m + 1 := ⟨Tryz.prog.types.size - 1, by kernel_rfl⟩
theorem keyed : Go.Maps.Keyed Tryz.prog 96 := Go.Maps.Keyed.of_law arrK.law
theorem keyOf_kV (k : Int) : ∃ l, keyOf Tryz.prog 96 (kV k) = some l := by
  have hkt := arrK.keyType typesSome
  obtain ⟨m, hm⟩ := typesSome
  refine ⟨.string (keyBytes [.int .i64 (dig k 0), .int .i64 (dig k 1), .int .i64 (dig k 2), .int .i64 (dig k 3), .int .i64 (dig k 4), .int .i64 (dig k 5), .int .i64 (dig k 6)]), ?_⟩
  unfold keyOf kV
  simp only [arrK.hu]
  rw [if_pos (by simp [hkt, Value.formed, arrK.hu, arrK.size]), hm]
  unfold Program.keyLits
  simp only [arrK.hu, Value.cells]
  rw [if_pos (by rw [arrK.size]; rfl), show List.range 7 = [0, 1, 2, 3, 4, 5, 6] from rfl]
  simp [List.mapM_cons, arrK.one, Program.keyLits, dig_wf]
theorem undM : Tryz.prog.underlying 82 = some (.map 96 3) := by kernel_rfl
theorem zeroInt (w : World) : (zeroValue 3).run Tryz.prog w = .ok (.int .i64 0) w := by kernel_rfl

/-! a map's block -/
def kv (p : Int × Int) : Value × Value := (kV p.1, .int .i64 p.2)
def ent (e : MapEntry) : Value × Value := (e.key, e.val)
/-- block b is a map with just these entries -/
def PM (w : World) (b : Nat) (l : Mons) : Prop :=
  ∃ es clock, w.heap[b]? = some (.map es clock) ∧ Stamped es clock ∧ es.toList.map ent = l.map kv ∧ ∀ p ∈ l, inK p.1 ∧ in64 p.2
theorem PM.lt {w : World} {b : Nat} {l : Mons} (h : PM w b l) : b < w.heap.size := by
  obtain ⟨es, clock, hb, _⟩ := h
  exact (Array.getElem?_eq_some_iff.1 hb).1
theorem PM.kept {w w' : World} {b : Nat} {l : Mons} {row : Option Nat} (h : PM w b l) (hg : w.grownBy w' row) (hne : some b ≠ row) : PM w' b l := by
  have hlt := h.lt
  obtain ⟨es, clock, hb, hs⟩ := h
  exact ⟨es, clock, (hg.block b hlt hne).trans hb, hs⟩
theorem PM.same {w w' : World} {b : Nat} {l : Mons} (h : PM w b l) (hg : w'.heap[b]? = w.heap[b]?) : PM w' b l := by
  obtain ⟨es, clock, hb, hs⟩ := h
  exact ⟨es, clock, hg.trans hb, hs⟩
theorem PM.below {w w' : World} {b : Nat} {l : Mons} (h : PM w b l) (hb : Below w.heap.size w w') : PM w' b l := h.same (hb.block b h.lt)
theorem PM.made (w : World) : PM (w.alloc (.map #[] 0)) w.heap.size [] := ⟨#[], 0, (heap_alloc w _).1, stamped_empty 0, rfl, by simp⟩
theorem keys_nodup {es : List MapEntry} {l : Mons} (hs : es.Pairwise fun x y => x.key ≠ y.key) (he : es.map ent = l.map kv) : (l.map fun p => p.1).Nodup := by
  have h1 : (es.map ent).Pairwise fun x y => x.1 ≠ y.1 := by rw [List.pairwise_map]; exact hs
  rw [he, List.pairwise_map] at h1
  rw [List.Nodup, List.pairwise_map]
  exact h1.imp fun h e => h (by unfold kv; rw [e])
theorem PM.nodup {w : World} {b : Nat} {l : Mons} (h : PM w b l) : (l.map fun p => p.1).Nodup := by
  obtain ⟨es, clock, _, hs, he, _⟩ := h
  exact keys_nodup ((stamped_iff es clock).1 hs).2.2 he
theorem nodup_le {ks : List Int} {n : Nat} (hn : ks.Nodup) (h : ∀ k ∈ ks, 0 ≤ k ∧ k < n) : ks.length ≤ n := by
  have h1 : (ks.map Int.toNat).Nodup := by
    rw [List.Nodup, List.pairwise_map]
    refine List.Pairwise.imp_of_mem ?_ hn
    intro a b ha hb hne e
    have := h a ha
    have := h b hb
    exact hne (by omega)
  have h2 : ∀ k ∈ ks.map Int.toNat, k ∈ List.range n := by
    intro k hk
    obtain ⟨a, ha, rfl⟩ := List.mem_map.1 hk
    have := h a ha
    rw [List.mem_range]
    omega
  have h3 := h1.length_le_of_subset h2
  simpa using h3
theorem PM.size {w : World} {b : Nat} {l : Mons} (h : PM w b l) : l.length ≤ 562949953421312 := by
  have h1 := h.nodup
  obtain ⟨es, clock, _, hs, he, hr⟩ := h
  have := nodup_le (n := 562949953421312) h1 (by
    intro k hk
    obtain ⟨p, hp, rfl⟩ := List.mem_map.1 hk
    have := (hr p hp).1
    unfold inK at this
    omega)
  simpa using this

/-! the entry at a key -/
theorem mem_ent {es : List MapEntry} {l : Mons} (he : es.map ent = l.map kv) {e : MapEntry} (h : e ∈ es) : ∃ p ∈ l, e.key = kV p.1 ∧ e.val = .int .i64 p.2 := by
  have : ent e ∈ l.map kv := by rw [← he]; exact List.mem_map.2 ⟨e, h, rfl⟩
  obtain ⟨p, hp, hk⟩ := List.mem_map.1 this
  unfold kv ent at hk
  simp only [Prod.mk.injEq] at hk
  exact ⟨p, hp, hk.1.symm, hk.2.symm⟩
theorem ent_keys {es : List MapEntry} {l : Mons} (he : es.map ent = l.map kv) : ∀ e ∈ es, ∃ q, keyOf Tryz.prog 96 e.key = some q := by
  intro e h
  obtain ⟨p, _, hk, _⟩ := mem_ent he h
  rw [hk]
  exact keyOf_kV p.1
theorem raw_at {l : Mons} (hn : (l.map fun p => p.1).Nodup) {p : Int × Int} (hp : p ∈ l) : raw l p.1 = p.2 := by
  induction l with
  | nil => cases hp
  | cons q l ih =>
    rw [List.map_cons, List.nodup_cons] at hn
    unfold raw
    rw [wsum, hit]
    rcases List.mem_cons.1 hp with rfl | hp'
    · rw [if_pos rfl]
      have : wsum l (hit p.1) = 0 := raw_miss fun q hq e => hn.1 (List.mem_map.2 ⟨q, hq, e⟩)
      rw [this, Int.mul_one, Int.add_zero]
    · rw [if_neg (fun e => hn.1 (List.mem_map.2 ⟨p, hp', e.symm⟩))]
      have := ih hn.2 hp'
      unfold raw at this
      simpa using this
theorem PM.coef {w : World} {b : Nat} {l : Mons} (h : PM w b l) {p : Int × Int} (hp : p ∈ l) : coef l p.1 = p.2 := by
  have h1 := h.nodup
  obtain ⟨_, _, _, _, _, hr⟩ := h
  unfold Go.Proofs.YtcminkcoifkbgaaGreatDoor.coef
  rw [raw_at h1 hp]
  exact wrap_self (hr p hp).2
theorem PM.find {w : World} {b : Nat} {es : Array MapEntry} {clock : Nat} {l : Mons} (_hb : w.heap[b]? = some (.map es clock)) (he : es.toList.map ent = l.map kv) (hr : ∀ p ∈ l, inK p.1 ∧ in64 p.2) {k : Int} (hk : inK k) :
    ((Instr.findKey 96 (kV k) es.toList).run Tryz.prog w = .ok none w ∧ (∀ e ∈ es.toList, e.key ≠ kV k) ∧ ∀ p ∈ l, p.1 ≠ k) ∨
    ∃ j e c, (Instr.findKey 96 (kV k) es.toList).run Tryz.prog w = .ok (some (j, e.val)) w ∧ es.toList[j]? = some e ∧ e.key = kV k ∧ e.val = .int .i64 c ∧ l[j]? = some (k, c) := by
  obtain ⟨q, hq⟩ := keyOf_kV k
  rcases keyed.find w hq es.toList (ent_keys he) with ⟨h1, h2⟩ | ⟨j, e, h1, h2, h3⟩
  · refine .inl ⟨h1, h2, fun p hp e => ?_⟩
    have : kv p ∈ es.toList.map ent := by rw [he]; exact List.mem_map.2 ⟨p, hp, rfl⟩
    obtain ⟨x, hx, hxe⟩ := List.mem_map.1 this
    refine h2 x hx ?_
    unfold kv ent at hxe
    simp only [Prod.mk.injEq] at hxe
    rw [hxe.1, e]
  · have h4 : (l.map kv)[j]? = some (ent e) := by rw [← he, List.getElem?_map, h2]; rfl
    rw [List.getElem?_map] at h4
    obtain ⟨p, hp, hpe⟩ := Option.map_eq_some_iff.1 h4
    unfold kv ent at hpe
    simp only [Prod.mk.injEq] at hpe
    have hpk : p.1 = k := kV_inj (hr p (List.mem_of_getElem? hp)).1 hk (hpe.1.trans h3)
    exact .inr ⟨j, e, p.2, h1, h2, h3, hpe.2.symm, by rw [hp, ← hpk]⟩

/-- what is looked up -/
theorem PM.look {w : World} {b : Nat} {l : Mons} (h : PM w b l) {k : Int} (hk : inK k) :
    (Instr.lookup 82 (.map (some b)) (kV k) false).run Tryz.prog w = .ok (.int .i64 (Go.Proofs.YtcminkcoifkbgaaGreatDoor.coef l k)) w := by
  have hc := fun p hp => h.coef (p := p) hp
  obtain ⟨es, clock, hb, hs, he, hr⟩ := h
  obtain ⟨q, hq⟩ := keyOf_kV k
  rcases PM.find hb he hr hk with ⟨h1, _, h2⟩ | ⟨j, e, c, h1, _, _, h4, h5⟩
  · rw [coef_miss h2]
    simp [Instr.lookup, run_underlying undM, MapKept.run_getObj_map hb, keyed.check w _ hq, h1, Result.andThen]
  · rw [hc (k, c) (List.mem_of_getElem? h5)]
    simp [Instr.lookup, run_underlying undM, MapKept.run_getObj_map hb, keyed.check w _ hq, h1, h4, Result.andThen]
theorem PM.length {w : World} {b : Nat} {l : Mons} (h : PM w b l) (ty : TypeId) : (Builtin.len_ #[82] ty #[.map (some b)]).run Tryz.prog w = .ok (.int .i64 l.length) w := by
  obtain ⟨es, clock, hb, hs, he, hr⟩ := h
  have e1 : es.size = l.length := by
    have := congrArg List.length he
    simpa using this
  simp [Builtin.len_, run_underlying undM, MapKept.run_getObj_map hb, goInt, Result.andThen, e1]

theorem less1_at {l : Mons} (hn : (l.map fun p => p.1).Nodup) : ∀ {j : Nat} {k c : Int}, l[j]? = some (k, c) → less1 l k = l.eraseIdx j := by
  induction l with
  | nil => intro j k c h; simp at h
  | cons q l ih =>
    intro j k c h
    rw [List.map_cons, List.nodup_cons] at hn
    rcases j with _ | j
    · simp only [List.getElem?_cons_zero, Option.some.injEq] at h
      subst h
      have : less1 l k = l := by
        unfold less1
        rw [List.filter_eq_self]
        intro p hp
        simp only [decide_eq_true_eq]
        exact fun e => hn.1 (List.mem_map.2 ⟨p, hp, e⟩)
      simp only [less1, List.filter_cons, decide_not, List.eraseIdx_cons_zero]
      simpa [less1] using this
    · simp only [List.getElem?_cons_succ] at h
      have h2 := ih hn.2 h
      have hq : q.1 ≠ k := fun e => hn.1 (List.mem_map.2 ⟨(k, c), List.mem_of_getElem? h, e.symm⟩)
      rw [List.eraseIdx_cons_succ, ← h2]
      simp [less1, hq]

/-- 'm[k] = c' -/
theorem PM.store {w : World} {b : Nat} {l : Mons} (h : PM w b l) {k c : Int} (hk : inK k) (hc : in64 c) :
    ∃ w' l', (Instr.mapUpdate 82 (.map (some b)) (kV k) (.int .i64 c)).run Tryz.prog w = .ok () w' ∧ PM w' b l' ∧ l'.Perm ((k, c) :: less1 l k) ∧ w.grownBy w' (some b) ∧ w'.heap.size = w.heap.size := by
  have hn := h.nodup
  have hsz := h.size
  obtain ⟨es, clock, hb, hs, he, hr⟩ := h
  have hlen : es.size = l.length := by
    have := congrArg List.length he
    simpa using this
  obtain ⟨q, hq⟩ := keyOf_kV k
  have hgrow : ∀ o, w.grownBy (setBlock w b o) (some b) := fun o => ⟨rfl, rfl, rfl, by simp [setBlock], fun i _ hi => heap_setBlock_other hb _ (fun e => hi (by rw [e]))⟩
  rcases PM.find hb he hr hk with ⟨h1, h2, h3⟩ | ⟨j, e, d, h1, h2, h3, h4, h5⟩
  · refine ⟨setBlock w b (.map (es.push ⟨kV k, .int .i64 c, clock⟩) (clock + 1)), l ++ [(k, c)], ?_, ⟨_, _, heap_setBlock_same hb _, stamped_push hs h2, ?_, ?_⟩, ?_, hgrow _, by simp [setBlock]⟩
    · have hroom : ¬ maxLen ≤ es.size := by rw [hlen]; unfold maxLen; omega
      simp [Instr.mapUpdate, run_underlying undM, MapKept.run_getObj_map hb, keyed.check w false hq, h1, MapKept.run_setObj_map _ hb, Result.andThen, setBlock]
    · rw [Array.toList_push, List.map_append, List.map_append, he]
      rfl
    · intro p hp
      rcases List.mem_append.1 hp with hp | hp
      · exact hr p hp
      · rw [List.mem_singleton] at hp
        subst hp
        exact ⟨hk, hc⟩
    · have : less1 l k = l := by
        unfold less1
        rw [List.filter_eq_self]
        intro p hp
        simpa using h3 p hp
      rw [this]
      exact List.perm_append_singleton _ _
  · have hj : es[j]? = some e := by simpa using h2
    have hkeyf : ∀ e', es[j]? = some e' → ({ e' with key := kV k, val := .int .i64 c } : MapEntry).key = e'.key := fun e' he' => by rw [hj] at he'; cases he'; exact h3.symm
    have hlist : (es.modify j (fun e' => { e' with key := kV k, val := .int .i64 c })).toList = es.toList.set j { e with key := kV k, val := .int .i64 c } := by rw [Array.toList_modify, modify_eq_set _ _ _ _ h2]
    refine ⟨setBlock w b (.map (es.modify j (fun e' => { e' with key := kV k, val := .int .i64 c })) clock), l.set j (k, c), ?_, ⟨_, _, heap_setBlock_same hb _, stamped_modify hs _ _ (fun _ _ => rfl) (fun e' _ he' => hkeyf e' he'), ?_, ?_⟩, ?_, hgrow _, by simp [setBlock]⟩
    · simp [Instr.mapUpdate, run_underlying undM, MapKept.run_getObj_map hb, keyed.check w false hq, h1, hj, h3, keyed.stays w hq, MapKept.run_setObj_map _ hb, Result.andThen, setBlock]
    · rw [hlist, List.map_set, List.map_set, he]
      rfl
    · intro p hp
      rcases List.mem_or_eq_of_mem_set hp with hp | rfl
      · exact hr p hp
      · exact ⟨hk, hc⟩
    · rw [less1_at hn h5]
      exact set_perm _ _ (List.getElem?_eq_some_iff.1 h5).1 _
/-- 'delete(m, k)' -/
theorem PM.drop {w : World} {b : Nat} {l : Mons} (h : PM w b l) {k : Int} (hk : inK k) (ty : TypeId) :
    ∃ w' l', (Builtin.delete_ #[82, 96] ty #[.map (some b), kV k]).run Tryz.prog w = .ok (.tuple #[]) w' ∧ PM w' b l' ∧ l' = less1 l k ∧ w.grownBy w' (some b) ∧ w'.heap.size = w.heap.size := by
  have hn := h.nodup
  obtain ⟨es, clock, hb, hs, he, hr⟩ := h
  obtain ⟨q, hq⟩ := keyOf_kV k
  have hgrow : ∀ o, w.grownBy (setBlock w b o) (some b) := fun o => ⟨rfl, rfl, rfl, by simp [setBlock], fun i _ hi => heap_setBlock_other hb _ (fun e => hi (by rw [e]))⟩
  have hr' : ∀ p ∈ less1 l k, inK p.1 ∧ in64 p.2 := fun p hp => hr p (List.mem_filter.1 hp).1
  rcases PM.find hb he hr hk with ⟨h1, h2, h3⟩ | ⟨j, e, d, h1, h2, h3, h4, h5⟩
  · have e1 : less1 l k = l := by
      unfold less1
      rw [List.filter_eq_self]
      intro p hp
      simpa using h3 p hp
    refine ⟨setBlock w b (.map es clock), less1 l k, ?_, ⟨_, _, heap_setBlock_same hb _, hs, by rw [e1]; exact he, hr'⟩, rfl, hgrow _, by simp [setBlock]⟩
    simp [Builtin.delete_, run_underlying undM, MapKept.run_getObj_map hb, keyed.check w _ hq, h1, MapKept.run_setObj_map _ hb, Result.andThen, setBlock]
  · have hj : es[j]? = some e := by simpa using h2
    have hjs : j < es.size := (Array.getElem?_eq_some_iff.1 hj).1
    have hsub : (es.eraseIdxIfInBounds j).toList = es.toList.eraseIdx j := by
      unfold Array.eraseIdxIfInBounds
      rw [dif_pos hjs]
      simp
    refine ⟨setBlock w b (.map (es.eraseIdxIfInBounds j) clock), less1 l k, ?_, ⟨_, _, heap_setBlock_same hb _, stamped_erase hs j, ?_, hr'⟩, rfl, hgrow _, by simp [setBlock]⟩
    · simp [Builtin.delete_, run_underlying undM, MapKept.run_getObj_map hb, keyed.check w _ hq, h1, MapKept.run_setObj_map _ hb, Result.andThen, setBlock]
    · rw [hsub, less1_at hn h5, map_eraseIdx, map_eraseIdx, he]

/-! ranged over -/
/-- block r is an iterator over the map in block b; these entries are still to come -/
def PRg (w : World) (b r : Nat) (l left : Mons) : Prop :=
  ∃ es clock since seen c0, w.heap[b]? = some (.map es clock) ∧ Stamped es clock ∧ es.toList.map ent = l.map kv ∧ (∀ p ∈ l, inK p.1 ∧ in64 p.2) ∧
    w.heap[r]? = some (.mapIter (some b) since seen c0) ∧ (∀ x ∈ es.toList, x.born < since) ∧ since ≤ c0 ∧ since ≤ clock ∧ (leftOf es seen).toList.map ent = left.map kv
theorem PRg.pm {w : World} {b r : Nat} {l left : Mons} (h : PRg w b r l left) : PM w b l := by
  obtain ⟨es, clock, since, seen, c0, hb, hs, he, hr, _⟩ := h
  exact ⟨es, clock, hb, hs, he, hr⟩
theorem PRg.lt {w : World} {b r : Nat} {l left : Mons} (h : PRg w b r l left) : r < w.heap.size := by
  obtain ⟨es, clock, since, seen, c0, _, _, _, _, hr, _⟩ := h
  exact (Array.getElem?_eq_some_iff.1 hr).1
theorem PRg.ne {w : World} {b r : Nat} {l left : Mons} (h : PRg w b r l left) : r ≠ b := by
  obtain ⟨es, clock, since, seen, c0, hb, _, _, _, hr, _⟩ := h
  intro e
  rw [e, hb] at hr
  cases hr
theorem PRg.left_eq {w : World} {b r : Nat} {l left : Mons} (h : PRg w b r l left) : w.rangeLeft b r = left.length := by
  obtain ⟨es, clock, since, seen, c0, hb, _, _, _, hr, _, _, _, hl⟩ := h
  simp only [World.rangeLeft, hb, hr]
  have := congrArg List.length hl
  simpa using this
theorem PRg.same {w w' : World} {b r : Nat} {l left : Mons} (h : PRg w b r l left) (h1 : w'.heap[b]? = w.heap[b]?) (h2 : w'.heap[r]? = w.heap[r]?) : PRg w' b r l left := by
  obtain ⟨es, clock, since, seen, c0, hb, hs, he, hr, hi, hh⟩ := h
  exact ⟨es, clock, since, seen, c0, h1.trans hb, hs, he, hr, h2.trans hi, hh⟩
theorem PRg.below {w w' : World} {b r : Nat} {l left : Mons} (h : PRg w b r l left) (hb : Below w.heap.size w w') : PRg w' b r l left := h.same (hb.block b h.pm.lt) (hb.block r h.lt)
theorem PRg.kept {w w' : World} {b r : Nat} {l left : Mons} {row : Option Nat} (h : PRg w b r l left) (hg : w.grownBy w' row) (hb : some b ≠ row) (hr : some r ≠ row) : PRg w' b r l left := h.same (hg.block b h.pm.lt hb) (hg.block r h.lt hr)
/-- 'range m' -/
theorem PM.range {w : World} {b : Nat} {l : Mons} (h : PM w b l) :
    ∃ o, (Instr.range 82 (.map (some b))).run Tryz.prog w = .ok (.pointer (some ⟨w.heap.size, 0, none⟩)) (w.alloc o) ∧ PRg (w.alloc o) b w.heap.size l l := by
  have hlt := h.lt
  obtain ⟨es, clock, hb, hs, he, hr⟩ := h
  refine ⟨_, run_range_map w _ _ _ b es clock undM hb, es, clock, clock, #[], clock, ((heap_alloc w _).2 b hlt).trans hb, hs, he, hr, (heap_alloc w _).1, hs.1, Nat.le_refl _, Nat.le_refl _, ?_⟩
  have : leftOf es #[] = es := by unfold leftOf; simp
  rw [this, he]
theorem perm_filter_one {α : Type} {l : List α} {f : α → Nat} (hn : (l.map f).Nodup) {x : α} (hx : x ∈ l) : l.Perm (x :: l.filter fun y => !(f y == f x)) := by
  induction l with
  | nil => cases hx
  | cons a l ih =>
    rw [List.map_cons, List.nodup_cons] at hn
    rcases List.mem_cons.1 hx with rfl | hx'
    · have : (l.filter fun y => !(f y == f x)) = l := by
        rw [List.filter_eq_self]
        intro y hy
        simp only [Bool.not_eq_true', beq_eq_false_iff_ne]
        exact fun e => hn.1 (List.mem_map.2 ⟨y, hy, e⟩)
      simp [this]
    · have hne : f a ≠ f x := fun e => hn.1 (List.mem_map.2 ⟨x, hx', e.symm⟩)
      have : ((a :: l).filter fun y => !(f y == f x)) = a :: l.filter fun y => !(f y == f x) := by simp [hne]
      rw [this]
      exact ((ih hn.2 hx').cons a).trans (List.Perm.swap ..)
theorem perm_of_map {es : List MapEntry} {l : Mons} (he : es.map ent = l.map kv) {x : MapEntry} {es' : List MapEntry} (hp : es.Perm (x :: es')) :
    ∃ p l', ent x = kv p ∧ es'.map ent = l'.map kv ∧ l.Perm (p :: l') := by
  have h1 : (l.map kv).Perm (ent x :: es'.map ent) := by rw [← he, ← List.map_cons]; exact hp.map _
  have key : ∀ (m : List (Value × Value)), m.Perm (l.map kv) → ∃ l' : Mons, m = l'.map kv ∧ l'.Perm l := by
    intro m hm
    have : ∀ (m' : List (Value × Value)) (l : Mons), m'.Perm (l.map kv) → ∃ l' : Mons, m' = l'.map kv ∧ l'.Perm l := by
      intro m' l h
      generalize hg : l.map kv = g at h
      induction h generalizing l with
      | nil => exact ⟨[], rfl, by rw [List.map_eq_nil_iff] at hg; rw [hg]⟩
      | cons y _ ih =>
        rw [List.map_eq_cons_iff] at hg
        obtain ⟨p, l2, rfl, rfl, h2⟩ := hg
        obtain ⟨l', h3, h4⟩ := ih l2 h2
        exact ⟨p :: l', by rw [List.map_cons, h3], h4.cons p⟩
      | swap y z g2 =>
        rw [List.map_eq_cons_iff] at hg
        obtain ⟨p, l2, rfl, rfl, h2⟩ := hg
        rw [List.map_eq_cons_iff] at h2
        obtain ⟨p2, l3, rfl, rfl, rfl⟩ := h2
        exact ⟨p2 :: p :: l3, rfl, List.Perm.swap ..⟩
      | trans _ _ ih1 ih2 =>
        obtain ⟨l1, h1, h2⟩ := ih2 l hg
        obtain ⟨l2, h3, h4⟩ := ih1 l1 h1.symm
        exact ⟨l2, h3, h4.trans h2⟩
    exact this m l hm
  obtain ⟨l', h2, h3⟩ := key _ h1.symm
  cases l' with
  | nil => simp at h2
  | cons p l' =>
    simp only [List.map_cons, List.cons.injEq] at h2
    exact ⟨p, l', h2.1, h2.2, h3.symm⟩
/-- one step -/
theorem PRg.next {w : World} {b r : Nat} {l left : Mons} (h : PRg w b r l left) (ty : TypeId) :
    (left = [] ∧ (Instr.next (.pointer (some ⟨r, 0, none⟩)) false ty).run Tryz.prog w = .ok (.tuple #[.bool false]) w) ∨
    ∃ p left' w', left.Perm (p :: left') ∧ (Instr.next (.pointer (some ⟨r, 0, none⟩)) false ty).run Tryz.prog w = .ok (.tuple #[.bool true, kV p.1, .int .i64 p.2]) w' ∧ PRg w' b r l left' ∧ w.grownBy w' (some r) ∧ w'.heap.size = w.heap.size ∧
      (Instr.entry (.pointer (some ⟨r, 0, none⟩))).run Tryz.prog w' = .ok (.tuple #[kV p.1, .int .i64 p.2]) w' := by
  have hne := h.ne
  obtain ⟨es, clock, since, seen, c0, hb, hs, he, hrr, hr, hold, hsc, hsk, hl⟩ := h
  rcases run_next_at (P := Tryz.prog) w ty r b since c0 seen es clock hr hb hold hsc with ⟨h0, hrun⟩ | ⟨e, hel, w1, hal, hrun⟩
  · refine .inl ⟨?_, hrun⟩
    have := congrArg List.length hl
    rw [List.length_map, List.length_map, Array.length_toList, h0] at this
    exact List.eq_nil_of_length_eq_zero this.symm
  · obtain ⟨hem, hes⟩ := mem_left hel
    have hr1 : w1.heap[r]? = some (.mapIter (some b) since seen c0) := by rcases hal with rfl | rfl <;> exact hr
    have hb1 : w1.heap[b]? = some (.map es clock) := by rcases hal with rfl | rfl <;> exact hb
    have hset := heap_set (o' := .mapIter (some b) since (seen.push e.born) clock) hr1
    have hb' : (setBlock w1 r (.mapIter (some b) since (seen.push e.born) clock)).heap[b]? = some (.map es clock) := (hset.2 b (fun e1 => hne e1.symm)).trans hb1
    have hnb : ((leftOf es seen).toList.map (·.born)).Nodup := by
      have h2 := ((stamped_iff es clock).1 hs).2.1
      have : (leftOf es seen).toList = es.toList.filter fun e => !seen.contains e.born := by unfold leftOf; rw [← Array.toList_filter]
      rw [this]
      exact ((List.filter_sublist (p := fun e => !seen.contains e.born) (l := es.toList)).map _).nodup h2
    have hleft : (leftOf es (seen.push e.born)).toList = (leftOf es seen).toList.filter fun y => !(y.born == e.born) := by
      unfold leftOf
      simp only [Array.toList_filter, List.filter_filter]
      congr 1
      funext y
      rw [contains_push]
      cases seen.contains y.born <;> cases (y.born == e.born) <;> rfl
    obtain ⟨p, left', hp1, hp2, hp3⟩ := perm_of_map hl (perm_filter_one hnb hel)
    rw [← hleft] at hp2
    unfold ent kv at hp1
    simp only [Prod.mk.injEq] at hp1
    refine .inr ⟨p, left', _, hp3, by rw [← hp1.1, ← hp1.2]; exact hrun, ⟨es, clock, since, seen.push e.born, clock, hb', hs, he, hrr, hset.1, hold, hsk, hsk, hp2⟩, ?_, ?_, by
      rw [← hp1.1, ← hp1.2]
      exact run_entry_at _ r b since seen es clock e hset.1 hb' hem ((stamped_iff es clock).1 hs).2.1⟩
    · rcases hal with rfl | rfl <;> exact ⟨rfl, rfl, rfl, by simp [setBlock], fun i _ hi => hset.2 i (fun e1 => hi (by rw [e1]))⟩
    · rcases hal with rfl | rfl <;> simp [setBlock]

/-! up to order: a polynomial -/
/-- block b is the map of a polynomial -/
def PF (w : World) (b : Nat) (F : Mons) : Prop := ∃ l, PM w b l ∧ l.Perm (canon F)
theorem PF.below {w w' : World} {b : Nat} {F : Mons} (h : PF w b F) (hb : Below w.heap.size w w') : PF w' b F := by
  obtain ⟨l, h1, h2⟩ := h
  exact ⟨l, h1.below hb, h2⟩
theorem PF.kept {w w' : World} {b : Nat} {F : Mons} {row : Option Nat} (h : PF w b F) (hg : w.grownBy w' row) (hne : some b ≠ row) : PF w' b F := by
  obtain ⟨l, h1, h2⟩ := h
  exact ⟨l, h1.kept hg hne, h2⟩
theorem PF.eqv {w : World} {b : Nat} {F G : Mons} (h : PF w b F) (he : Eqv F G) : PF w b G := by
  obtain ⟨l, h1, h2⟩ := h
  exact ⟨l, h1, by rw [← canon_eqv he]; exact h2⟩
theorem PF.lt {w : World} {b : Nat} {F : Mons} (h : PF w b F) : b < w.heap.size := by
  obtain ⟨l, h1, _⟩ := h
  exact h1.lt
theorem canon_nil : canon [] = [] := by unfold canon keysOf; simp [uniq]
theorem PF.made (w : World) : PF (w.alloc (.map #[] 0)) w.heap.size [] := ⟨[], PM.made w, by rw [canon_nil]⟩
theorem PF.keys {w : World} {b : Nat} {F : Mons} (h : PF w b F) : ∀ p ∈ canon F, inK p.1 := by
  obtain ⟨l, ⟨_, _, _, _, _, hr⟩, h2⟩ := h
  exact fun p hp => (hr p (h2.mem_iff.2 hp)).1
theorem coef_perm {l m : Mons} (h : l.Perm m) (k : Int) : coef l k = coef m k := Eqv.of_perm h k
theorem PF.look {w : World} {b : Nat} {F : Mons} (h : PF w b F) {k : Int} (hk : inK k) :
    (Instr.lookup 82 (.map (some b)) (kV k) false).run Tryz.prog w = .ok (.int .i64 (coef F k)) w := by
  obtain ⟨l, h1, h2⟩ := h
  rw [h1.look hk, coef_perm h2, coef_canon]
theorem PF.length {w : World} {b : Nat} {F : Mons} (h : PF w b F) (ty : TypeId) : (Builtin.len_ #[82] ty #[.map (some b)]).run Tryz.prog w = .ok (.int .i64 (canon F).length) w := by
  obtain ⟨l, h1, h2⟩ := h
  rw [h1.length, h2.length_eq]
theorem coef_cons (k c : Int) (F : Mons) (j : Int) : coef ((k, c) :: F) j = if k = j then wrap64 (coef F j + c) else coef F j := by
  unfold coef raw
  rw [wsum]
  unfold hit
  by_cases h : k = j
  · simp only [if_pos h, Int.mul_one]
    unfold wrap64
    omega
  · simp only [if_neg h, Int.mul_zero, Int.zero_add]
theorem canon_nodup (F : Mons) : ((canon F).map fun p => p.1).Nodup := by
  rw [List.Nodup, List.pairwise_map]
  exact (canon_sorted F).imp fun h => by omega
theorem canon_list_nodup (F : Mons) : (canon F).Nodup := (canon_sorted F).imp fun h e => by rw [e] at h; omega
theorem nodup_of_keys {l : Mons} (h : (l.map fun p => p.1).Nodup) : l.Nodup := by
  rw [List.Nodup, List.pairwise_map] at h
  exact h.imp fun hne e => hne (by rw [e])
theorem canon_cons (k c : Int) (F : Mons) : (canon ((k, c) :: F)).Perm (if wrap64 (coef F k + c) = 0 then less1 (canon F) k else (k, wrap64 (coef F k + c)) :: less1 (canon F) k) := by
  have hless : ∀ p, p ∈ less1 (canon F) k ↔ p ∈ canon F ∧ p.1 ≠ k := by
    intro p
    unfold less1
    rw [List.mem_filter]
    simp
  have hnl : (less1 (canon F) k).Nodup := List.Pairwise.filter _ (canon_list_nodup F)
  refine (List.perm_ext_iff_of_nodup (canon_list_nodup _) ?_).2 fun p => ?_
  · split
    · exact hnl
    · rw [List.nodup_cons]
      exact ⟨fun h => ((hless _).1 h).2 rfl, hnl⟩
  · rw [canon_mem, coef_cons]
    by_cases hk : k = p.1
    · rw [if_pos hk]
      subst hk
      split
      · rename_i h0
        rw [hless, h0]
        constructor
        · rintro ⟨h1, h2⟩; exact absurd h2 h1
        · rintro ⟨_, h2⟩; exact absurd rfl h2
      · rename_i h0
        rw [List.mem_cons, hless]
        constructor
        · rintro ⟨h1, h2⟩; exact .inl (by rw [← h2])
        · rintro (h | ⟨_, h2⟩)
          · have : p.2 = wrap64 (coef F p.1 + c) := by rw [h]
            exact ⟨by rw [this]; exact h0, this⟩
          · exact absurd rfl h2
    · rw [if_neg hk]
      have e : (p.2 ≠ 0 ∧ p.2 = coef F p.1) ↔ p ∈ canon F := canon_mem.symm
      rw [e]
      split
      · rw [hless]
        exact ⟨fun h => ⟨h, fun e => hk e.symm⟩, fun h => h.1⟩
      · rw [List.mem_cons, hless]
        constructor
        · exact fun h => .inr ⟨h, fun e => hk e.symm⟩
        · rintro (h | h)
          · exact absurd (by rw [h]) hk
          · exact h.1
end Go.Proofs.YtcminkcoifkbgaaGreatDoor

namespace Go.Proofs.YtcminkcoifkbgaaGreatDoor
open Go.RowKit

def unit (i : Nat) : Int := 128 ^ i
theorem unit0 : unit 0 = 1 := by decide
theorem unit1 : unit 1 = 128 := by decide
theorem unit2 : unit 2 = 16384 := by decide
theorem unit3 : unit 3 = 2097152 := by decide
theorem unit4 : unit 4 = 268435456 := by decide
theorem unit5 : unit 5 = 34359738368 := by decide
theorem unit6 : unit 6 = 4398046511104 := by decide
theorem dig0 (k : Int) : dig k 0 = k % 128 := by unfold dig; simp
theorem dig1 (k : Int) : dig k 1 = k / 128 % 128 := by unfold dig; simp
theorem dig2 (k : Int) : dig k 2 = k / 16384 % 128 := by unfold dig; simp
theorem dig3 (k : Int) : dig k 3 = k / 2097152 % 128 := by unfold dig; simp
theorem dig4 (k : Int) : dig k 4 = k / 268435456 % 128 := by unfold dig; simp
theorem dig5 (k : Int) : dig k 5 = k / 34359738368 % 128 := by unfold dig; simp
theorem dig6 (k : Int) : dig k 6 = k / 4398046511104 % 128 := by unfold dig; simp
/-- a key out of its digits -/
def pack (a b c d e f g : Int) : Int := a + 128 * b + 16384 * c + 2097152 * d + 268435456 * e + 34359738368 * f + 4398046511104 * g
def isD (x : Int) : Prop := 0 ≤ x ∧ x < 128
theorem pack_digs {a b c d e f g : Int} (ha : isD a) (hb : isD b) (hc : isD c) (hd : isD d) (he : isD e) (hf : isD f) (hg : isD g) :
    inK (pack a b c d e f g) ∧ dig (pack a b c d e f g) 0 = a ∧ dig (pack a b c d e f g) 1 = b ∧ dig (pack a b c d e f g) 2 = c ∧ dig (pack a b c d e f g) 3 = d ∧ dig (pack a b c d e f g) 4 = e ∧ dig (pack a b c d e f g) 5 = f ∧ dig (pack a b c d e f g) 6 = g := by
  unfold isD at *
  rw [dig0, dig1, dig2, dig3, dig4, dig5, dig6]
  unfold pack inK
  omega
theorem key_pack {k : Int} (h : inK k) : k = pack (dig k 0) (dig k 1) (dig k 2) (dig k 3) (dig k 4) (dig k 5) (dig k 6) := digs_key h
theorem dig_isD (k : Int) (i : Nat) : isD (dig k i) := dig_range k i
/-- one digit put anew -/
def dset (k : Int) (i : Nat) (x : Int) : Int := k + (x - dig k i) * unit i
theorem dset_pack0 {a b c d e f g x : Int} (ha : isD a) (hb : isD b) (hc : isD c) (hd : isD d) (he : isD e) (hf : isD f) (hg : isD g) : dset (pack a b c d e f g) 0 x = pack x b c d e f g := by
  have := pack_digs ha hb hc hd he hf hg
  unfold dset
  rw [this.2.1, unit0]
  unfold pack
  omega
theorem dset_pack1 {a b c d e f g x : Int} (ha : isD a) (hb : isD b) (hc : isD c) (hd : isD d) (he : isD e) (hf : isD f) (hg : isD g) : dset (pack a b c d e f g) 1 x = pack a x c d e f g := by
  have := pack_digs ha hb hc hd he hf hg
  unfold dset
  rw [this.2.2.1, unit1]
  unfold pack
  omega
theorem dset_pack2 {a b c d e f g x : Int} (ha : isD a) (hb : isD b) (hc : isD c) (hd : isD d) (he : isD e) (hf : isD f) (hg : isD g) : dset (pack a b c d e f g) 2 x = pack a b x d e f g := by
  have := pack_digs ha hb hc hd he hf hg
  unfold dset
  rw [this.2.2.2.1, unit2]
  unfold pack
  omega
theorem dset_pack3 {a b c d e f g x : Int} (ha : isD a) (hb : isD b) (hc : isD c) (hd : isD d) (he : isD e) (hf : isD f) (hg : isD g) : dset (pack a b c d e f g) 3 x = pack a b c x e f g := by
  have := pack_digs ha hb hc hd he hf hg
  unfold dset
  rw [this.2.2.2.2.1, unit3]
  unfold pack
  omega
theorem dset_pack4 {a b c d e f g x : Int} (ha : isD a) (hb : isD b) (hc : isD c) (hd : isD d) (he : isD e) (hf : isD f) (hg : isD g) : dset (pack a b c d e f g) 4 x = pack a b c d x f g := by
  have := pack_digs ha hb hc hd he hf hg
  unfold dset
  rw [this.2.2.2.2.2.1, unit4]
  unfold pack
  omega
theorem dset_pack5 {a b c d e f g x : Int} (ha : isD a) (hb : isD b) (hc : isD c) (hd : isD d) (he : isD e) (hf : isD f) (hg : isD g) : dset (pack a b c d e f g) 5 x = pack a b c d e x g := by
  have := pack_digs ha hb hc hd he hf hg
  unfold dset
  rw [this.2.2.2.2.2.2.1, unit5]
  unfold pack
  omega
theorem dset_pack6 {a b c d e f g x : Int} (ha : isD a) (hb : isD b) (hc : isD c) (hd : isD d) (he : isD e) (hf : isD f) (hg : isD g) : dset (pack a b c d e f g) 6 x = pack a b c d e f x := by
  have := pack_digs ha hb hc hd he hf hg
  unfold dset
  rw [this.2.2.2.2.2.2.2, unit6]
  unfold pack
  omega
theorem dset_digs {k : Int} (h : inK k) {i : Nat} (hi : i ≤ 6) {x : Int} (hx : isD x) : inK (dset k i x) ∧ dig (dset k i x) i = x ∧ ∀ j, j < 7 → j ≠ i → dig (dset k i x) j = dig k j := by
  have h0 := dig_isD k 0
  have h1 := dig_isD k 1
  have h2 := dig_isD k 2
  have h3 := dig_isD k 3
  have h4 := dig_isD k 4
  have h5 := dig_isD k 5
  have h6 := dig_isD k 6
  have hk := key_pack h
  have hd := pack_digs h0 h1 h2 h3 h4 h5 h6
  rw [← hk] at hd
  generalize dig k 0 = a at *
  generalize dig k 1 = b at *
  generalize dig k 2 = c at *
  generalize dig k 3 = d at *
  generalize dig k 4 = e at *
  generalize dig k 5 = f at *
  generalize dig k 6 = g at *
  clear hd
  subst hk
  have q := pack_digs h0 h1 h2 h3 h4 h5 h6
  have hc : i = 0 ∨ i = 1 ∨ i = 2 ∨ i = 3 ∨ i = 4 ∨ i = 5 ∨ i = 6 := by omega
  rcases hc with rfl | rfl | rfl | rfl | rfl | rfl | rfl
  · have r := pack_digs hx h1 h2 h3 h4 h5 h6
    rw [dset_pack0 h0 h1 h2 h3 h4 h5 h6]
    refine ⟨r.1, r.2.1, fun j hj hne => ?_⟩
    have hc : j = 0 ∨ j = 1 ∨ j = 2 ∨ j = 3 ∨ j = 4 ∨ j = 5 ∨ j = 6 := by omega
    rcases hc with rfl | rfl | rfl | rfl | rfl | rfl | rfl <;> omega
  · have r := pack_digs h0 hx h2 h3 h4 h5 h6
    rw [dset_pack1 h0 h1 h2 h3 h4 h5 h6]
    refine ⟨r.1, r.2.2.1, fun j hj hne => ?_⟩
    have hc : j = 0 ∨ j = 1 ∨ j = 2 ∨ j = 3 ∨ j = 4 ∨ j = 5 ∨ j = 6 := by omega
    rcases hc with rfl | rfl | rfl | rfl | rfl | rfl | rfl <;> omega
  · have r := pack_digs h0 h1 hx h3 h4 h5 h6
    rw [dset_pack2 h0 h1 h2 h3 h4 h5 h6]
    refine ⟨r.1, r.2.2.2.1, fun j hj hne => ?_⟩
    have hc : j = 0 ∨ j = 1 ∨ j = 2 ∨ j = 3 ∨ j = 4 ∨ j = 5 ∨ j = 6 := by omega
    rcases hc with rfl | rfl | rfl | rfl | rfl | rfl | rfl <;> omega
  · have r := pack_digs h0 h1 h2 hx h4 h5 h6
    rw [dset_pack3 h0 h1 h2 h3 h4 h5 h6]
    refine ⟨r.1, r.2.2.2.2.1, fun j hj hne => ?_⟩
    have hc : j = 0 ∨ j = 1 ∨ j = 2 ∨ j = 3 ∨ j = 4 ∨ j = 5 ∨ j = 6 := by omega
    rcases hc with rfl | rfl | rfl | rfl | rfl | rfl | rfl <;> omega
  · have r := pack_digs h0 h1 h2 h3 hx h5 h6
    rw [dset_pack4 h0 h1 h2 h3 h4 h5 h6]
    refine ⟨r.1, r.2.2.2.2.2.1, fun j hj hne => ?_⟩
    have hc : j = 0 ∨ j = 1 ∨ j = 2 ∨ j = 3 ∨ j = 4 ∨ j = 5 ∨ j = 6 := by omega
    rcases hc with rfl | rfl | rfl | rfl | rfl | rfl | rfl <;> omega
  · have r := pack_digs h0 h1 h2 h3 h4 hx h6
    rw [dset_pack5 h0 h1 h2 h3 h4 h5 h6]
    refine ⟨r.1, r.2.2.2.2.2.2.1, fun j hj hne => ?_⟩
    have hc : j = 0 ∨ j = 1 ∨ j = 2 ∨ j = 3 ∨ j = 4 ∨ j = 5 ∨ j = 6 := by omega
    rcases hc with rfl | rfl | rfl | rfl | rfl | rfl | rfl <;> omega
  · have r := pack_digs h0 h1 h2 h3 h4 h5 hx
    rw [dset_pack6 h0 h1 h2 h3 h4 h5 h6]
    refine ⟨r.1, r.2.2.2.2.2.2.2, fun j hj hne => ?_⟩
    have hc : j = 0 ∨ j = 1 ∨ j = 2 ∨ j = 3 ∨ j = 4 ∨ j = 5 ∨ j = 6 := by omega
    rcases hc with rfl | rfl | rfl | rfl | rfl | rfl | rfl <;> omega
/-- two digits that stand one beside the other put anew -/
def put2 (k : Int) (i : Nat) (x y : Int) : Int := k - dig k i * unit i - dig k (i + 1) * unit (i + 1) + x * unit i + y * unit (i + 1)
theorem put2_dset {k : Int} (h : inK k) {i : Nat} (hi : i ≤ 5) {x y : Int} (hx : isD x) : put2 k i x y = dset (dset k i x) (i + 1) y := by
  obtain ⟨_, _, h3⟩ := dset_digs h (i := i) (by omega) hx
  have e := h3 (i + 1) (by omega) (by omega)
  unfold put2
  rw [dset, e, dset]
  generalize unit i = u
  generalize unit (i + 1) = v
  rw [Int.sub_mul, Int.sub_mul]
  omega
theorem put2_digs {k : Int} (h : inK k) {i : Nat} (hi : i ≤ 5) {x y : Int} (hx : isD x) (hy : isD y) :
    inK (put2 k i x y) ∧ dig (put2 k i x y) i = x ∧ dig (put2 k i x y) (i + 1) = y ∧ ∀ j, j < 7 → j ≠ i → j ≠ i + 1 → dig (put2 k i x y) j = dig k j := by
  obtain ⟨h1, h2, h3⟩ := dset_digs h (i := i) (by omega) hx
  obtain ⟨h4, h5, h6⟩ := dset_digs h1 (i := i + 1) (by omega) hy
  rw [put2_dset h hi hx]
  exact ⟨h4, by rw [h6 i (by omega) (by omega), h2], h5, fun j hj hn hn' => by rw [h6 j hj hn', h3 j hj hn]⟩
theorem key_ext {j k : Int} (hj : inK j) (hk : inK k) (h : ∀ i, i < 7 → dig j i = dig k i) : j = k := by
  rw [key_pack hj, key_pack hk, h 0 (by omega), h 1 (by omega), h 2 (by omega), h 3 (by omega), h 4 (by omega), h 5 (by omega), h 6 (by omega)]

/-! the operators -/
def ddKeys (i : Nat) (k : Int) : List Int :=
  (List.range (dig k i - dig k (i + 1)).natAbs).map fun j : Nat => put2 k i (min (dig k i) (dig k (i + 1)) + (dig k i - dig k (i + 1)).natAbs - 1 - j) (min (dig k i) (dig k (i + 1)) + j)
def sg (i : Nat) (k : Int) : Int := if dig k i < dig k (i + 1) then -1 else 1
def dd (i : Nat) (p : Int × Int) : Mons := (ddKeys i p.1).map fun k => (k, sg i p.1 * p.2)
def dividedM (i : Nat) (F : Mons) : Mons := F.flatMap (dd i)
def raisedM (i : Nat) (F : Mons) : Mons := F.map fun p => (p.1 + unit i, p.2)
def scaleM (c : Int) (F : Mons) : Mons := F.map fun p => (p.1, c * p.2)
def plusM (F : Mons) (c : Int) (G : Mons) : Mons := F ++ scaleM c G
def timesM (F G : Mons) : Mons := F.flatMap fun p => G.map fun q => (p.1 + q.1, p.2 * q.2)
def swapK (i : Nat) (k : Int) : Int := put2 k i (dig k (i + 1)) (dig k i)
def swapM (i : Nat) (F : Mons) : Mons := F.map fun p => (swapK i p.1, p.2)
def demM (i : Nat) (F : Mons) : Mons := dividedM i (raisedM i F)
def isoM (i : Nat) (F : Mons) : Mons := dividedM i (plusM F (-1) (raisedM (i + 1) F))
def atomM (i : Nat) (F : Mons) : Mons := plusM (demM i F) (-1) F

theorem lin_keys (ks : Int → List Int) (s : Int → Int) : Lin fun p => (ks p.1).map fun q => (q, s p.1 * p.2) := by
  refine ⟨fun k v => s k * (ks k).foldr (fun q t => v q + t) 0, fun k c v => ?_⟩
  show wsum ((ks k).map fun q => (q, s k * c)) v = c * (s k * (ks k).foldr (fun q t => v q + t) 0)
  generalize ks k = l
  induction l with
  | nil => simp [wsum]
  | cons a l ih =>
    rw [List.map_cons, wsum, ih, List.foldr_cons]
    simp only
    rw [← Int.mul_assoc, ← Int.mul_assoc, Int.mul_comm c (s k), Int.mul_add]
theorem lin_dd (i : Nat) : Lin (dd i) := lin_keys (ddKeys i) (sg i)
theorem dividedM_eqv {i : Nat} {F G : Mons} (h : Eqv F G) : Eqv (dividedM i F) (dividedM i G) := h.flatMap (lin_dd i)
theorem map_eqv (g : Int → Int) {F G : Mons} (h : Eqv F G) : Eqv (F.map fun p => (g p.1, p.2)) (G.map fun p => (g p.1, p.2)) := by
  have e : ∀ F : Mons, (F.map fun p => (g p.1, p.2)) = F.flatMap fun p => [(g p.1, 1 * p.2)] := by
    intro F
    rw [flat_one]
    simp
  rw [e, e]
  exact h.flatMap (Lin.one 1)
theorem raisedM_eqv {i : Nat} {F G : Mons} (h : Eqv F G) : Eqv (raisedM i F) (raisedM i G) := map_eqv (fun k => k + unit i) h
theorem swapM_eqv {i : Nat} {F G : Mons} (h : Eqv F G) : Eqv (swapM i F) (swapM i G) := map_eqv (swapK i) h
theorem scaleM_eqv {c : Int} {F G : Mons} (h : Eqv F G) : Eqv (scaleM c F) (scaleM c G) := by
  have e : ∀ F : Mons, scaleM c F = F.flatMap fun p => [(id p.1, c * p.2)] := fun F => by rw [flat_one]; rfl
  rw [e, e]
  exact h.flatMap (Lin.one c)
theorem plusM_eqv {c : Int} {F G F' G' : Mons} (h : Eqv F G) (h' : Eqv F' G') : Eqv (plusM F c F') (plusM G c G') := h.append (scaleM_eqv h')
theorem timesM_lin (G : Mons) : Lin fun p => G.map fun q => (p.1 + q.1, p.2 * q.2) := by
  refine ⟨fun k v => wsum G fun j => v (k + j), fun k c v => ?_⟩
  show wsum (G.map fun q => (k + q.1, c * q.2)) v = c * wsum G fun j => v (k + j)
  induction G with
  | nil => simp [wsum]
  | cons a l ih =>
    rw [List.map_cons, wsum, ih, wsum]
    simp only
    rw [Int.mul_add, Int.mul_assoc]
theorem wsum_times (F G : Mons) (v : Int → Int) : wsum (timesM F G) v = wsum F fun k => wsum G fun j => v (k + j) := by
  have e : ∀ (k c : Int), wsum (G.map fun q => (k + q.1, c * q.2)) v = c * wsum G fun j => v (k + j) := by
    intro k c
    induction G with
    | nil => simp [wsum]
    | cons a l ih =>
      rw [List.map_cons, wsum, ih, wsum]
      simp only
      rw [Int.mul_add, Int.mul_assoc]
  unfold timesM
  induction F with
  | nil => rfl
  | cons p F ih => rw [List.flatMap_cons, wsum_append, ih, wsum, e]
theorem wsum_zero (G : Mons) : wsum G (fun _ => 0) = 0 := by
  induction G with
  | nil => rfl
  | cons q G ih => rw [wsum, ih]; simp
theorem wsum_add (G : Mons) (c : Int) (f g : Int → Int) : wsum G (fun j => c * f j + g j) = c * wsum G f + wsum G g := by
  induction G with
  | nil => simp [wsum]
  | cons q G ih =>
    rw [wsum, ih, wsum, wsum, Int.mul_add, Int.mul_add, ← Int.mul_assoc, ← Int.mul_assoc, Int.mul_comm q.2 c]
    omega
theorem wsum_swap (F G : Mons) (f : Int → Int → Int) : wsum F (fun k => wsum G fun j => f k j) = wsum G fun j => wsum F fun k => f k j := by
  induction F with
  | nil => exact (wsum_zero G).symm
  | cons p F ih =>
    rw [wsum, ih, ← wsum_add]
    rfl
theorem times_comm (F G : Mons) : Eqv (timesM F G) (timesM G F) := Eqv.of_wsum fun v => by
  rw [wsum_times, wsum_times, wsum_swap]
  have : (fun j => wsum F fun k => v (k + j)) = fun k => wsum F fun j => v (k + j) := by
    funext j
    congr 1
    funext k
    rw [Int.add_comm]
  rw [this, Int.sub_self]
  exact Int.dvd_zero _
theorem timesM_eqv {F G F' G' : Mons} (h : Eqv F G) (h' : Eqv F' G') : Eqv (timesM F F') (timesM G G') :=
  (h.flatMap (timesM_lin F')).trans ((times_comm G F').trans ((h'.flatMap (timesM_lin G)).trans (times_comm G' G)))
theorem demM_eqv {i : Nat} {F G : Mons} (h : Eqv F G) : Eqv (demM i F) (demM i G) := dividedM_eqv (raisedM_eqv h)
theorem isoM_eqv {i : Nat} {F G : Mons} (h : Eqv F G) : Eqv (isoM i F) (isoM i G) := dividedM_eqv (plusM_eqv h (raisedM_eqv h))
theorem atomM_eqv {i : Nat} {F G : Mons} (h : Eqv F G) : Eqv (atomM i F) (atomM i G) := plusM_eqv (demM_eqv h) h

/-! bounds of digits -/
def Bd (B : Int) (F : Mons) : Prop := ∀ p ∈ F, inK p.1 ∧ ∀ i, i < 7 → dig p.1 i ≤ B
theorem Bd.mono {B C : Int} {F : Mons} (h : Bd B F) (hB : B ≤ C) : Bd C F := fun p hp => ⟨(h p hp).1, fun i hi => Int.le_trans ((h p hp).2 i hi) hB⟩
theorem Bd.append {B : Int} {F G : Mons} (h : Bd B F) (h' : Bd B G) : Bd B (F ++ G) := fun p hp => by
  rcases List.mem_append.1 hp with hp | hp
  · exact h p hp
  · exact h' p hp
theorem Bd.keys {B : Int} {F G : Mons} (h : Bd B F) (hs : ∀ p ∈ G, ∃ q ∈ F, q.1 = p.1) : Bd B G := fun p hp => by
  obtain ⟨q, hq, e⟩ := hs p hp
  rw [← e]
  exact h q hq
theorem mem_canon {F : Mons} {p : Int × Int} (hp : p ∈ canon F) : ∃ q ∈ F, q.1 = p.1 := by
  obtain ⟨h1, h2⟩ := canon_mem.1 hp
  rcases Decidable.em (∃ q ∈ F, q.1 = p.1) with h | h
  · exact h
  · exact absurd (h2.trans (coef_miss fun q hq e => h ⟨q, hq, e⟩)) h1
theorem Bd.canon {B : Int} {F : Mons} (h : Bd B F) : Bd B (canon F) := h.keys fun _ hp => mem_canon hp
theorem Bd.scale {B c : Int} {F : Mons} (h : Bd B F) : Bd B (scaleM c F) := h.keys fun p hp => by
  obtain ⟨q, hq, rfl⟩ := List.mem_map.1 hp
  exact ⟨q, hq, rfl⟩
theorem Bd.plus {B c : Int} {F G : Mons} (h : Bd B F) (h' : Bd B G) : Bd B (plusM F c G) := h.append h'.scale
theorem key_raise {k : Int} (hk : inK k) {i : Nat} (hi : i ≤ 6) (h : dig k i ≤ 126) : inK (k + unit i) ∧ dig (k + unit i) i = dig k i + 1 ∧ ∀ j, j < 7 → j ≠ i → dig (k + unit i) j = dig k j := by
  have hd := dig_range k i
  have e : k + unit i = dset k i (dig k i + 1) := by
    unfold dset
    have : dig k i + 1 - dig k i = 1 := by omega
    rw [this, Int.one_mul]
  rw [e]
  exact dset_digs hk hi (by unfold isD; omega)
theorem Bd.raised {B : Int} {F : Mons} (h : Bd B F) {i : Nat} (hi : i ≤ 6) (hB : B ≤ 126) : Bd (B + 1) (raisedM i F) := fun p hp => by
  obtain ⟨q, hq, rfl⟩ := List.mem_map.1 hp
  obtain ⟨h1, h2⟩ := h q hq
  obtain ⟨h3, h4, h5⟩ := key_raise h1 hi (by have := h2 i (by omega); omega)
  refine ⟨h3, fun j hj => ?_⟩
  by_cases e : j = i
  · subst e
    rw [h4]
    have := h2 j hj
    omega
  · rw [h5 j hj e]
    have := h2 j hj
    omega
theorem dd_key {k : Int} (hk : inK k) {i : Nat} (hi : i ≤ 5) {q : Int} (hq : q ∈ ddKeys i k) :
    inK q ∧ (0 ≤ dig q i ∧ dig q i < max (dig k i) (dig k (i + 1))) ∧ (0 ≤ dig q (i + 1) ∧ dig q (i + 1) < max (dig k i) (dig k (i + 1))) ∧ ∀ j, j < 7 → j ≠ i → j ≠ i + 1 → dig q j = dig k j := by
  unfold ddKeys at hq
  obtain ⟨j, hj, rfl⟩ := List.mem_map.1 hq
  rw [List.mem_range] at hj
  have h1 := dig_range k i
  have h2 := dig_range k (i + 1)
  obtain ⟨e1, e2, e3, e4⟩ := put2_digs hk hi (x := min (dig k i) (dig k (i + 1)) + (dig k i - dig k (i + 1)).natAbs - 1 - j) (y := min (dig k i) (dig k (i + 1)) + j) (by unfold isD; omega) (by unfold isD; omega)
  rw [e2, e3]
  exact ⟨e1, by omega, by omega, e4⟩
theorem Bd.divided {B : Int} {F : Mons} (h : Bd B F) {i : Nat} (hi : i ≤ 5) : Bd B (dividedM i F) := fun p hp => by
  obtain ⟨q, hq, hp⟩ := List.mem_flatMap.1 hp
  obtain ⟨k, hk, rfl⟩ := List.mem_map.1 hp
  obtain ⟨h1, h2⟩ := h q hq
  obtain ⟨h3, h4, h5, h6⟩ := dd_key h1 hi hk
  refine ⟨h3, fun j hj => ?_⟩
  have b1 := h2 i (by omega)
  have b2 := h2 (i + 1) (by omega)
  by_cases e : j = i
  · subst e; show dig k j ≤ B; omega
  · by_cases e' : j = i + 1
    · subst e'; show dig k (i + 1) ≤ B; omega
    · show dig k j ≤ B
      rw [h6 j hj e e']
      exact h2 j hj
/-- of a monomial without one digit above B + 1 at i or behind it: the divided difference brings both below -/
theorem Bd.divided_less {B : Int} {F : Mons} {i : Nat} (hi : i ≤ 5) (h : ∀ p ∈ F, inK p.1 ∧ (∀ j, j < 7 → j ≠ i → j ≠ i + 1 → dig p.1 j ≤ B) ∧ dig p.1 i ≤ B + 1 ∧ dig p.1 (i + 1) ≤ B + 1) : Bd B (dividedM i F) := fun p hp => by
  obtain ⟨q, hq, hp⟩ := List.mem_flatMap.1 hp
  obtain ⟨k, hk, rfl⟩ := List.mem_map.1 hp
  obtain ⟨h1, h2, b1, b2⟩ := h q hq
  obtain ⟨h3, h4, h5, h6⟩ := dd_key h1 hi hk
  refine ⟨h3, fun j hj => ?_⟩
  by_cases e : j = i
  · subst e; show dig k j ≤ B; omega
  · by_cases e' : j = i + 1
    · subst e'; show dig k (i + 1) ≤ B; omega
    · show dig k j ≤ B
      rw [h6 j hj e e']
      exact h2 j hj e e'
theorem Bd.dem {B : Int} {F : Mons} (h : Bd B F) {i : Nat} (hi : i ≤ 5) (hB : B ≤ 126) : Bd B (demM i F) := by
  refine Bd.divided_less hi fun p hp => ?_
  obtain ⟨q, hq, rfl⟩ := List.mem_map.1 hp
  obtain ⟨h1, h2⟩ := h q hq
  obtain ⟨h3, h4, h5⟩ := key_raise h1 (i := i) (by omega) (by have := h2 i (by omega); omega)
  refine ⟨h3, fun j hj hn hn' => by rw [h5 j hj hn]; exact h2 j hj, by rw [h4]; have := h2 i (by omega); omega, ?_⟩
  rw [h5 (i + 1) (by omega) (by omega)]
  have := h2 (i + 1) (by omega)
  omega
theorem Bd.iso {B : Int} {F : Mons} (h : Bd B F) {i : Nat} (hi : i ≤ 5) (hB : B ≤ 126) : Bd B (isoM i F) := by
  refine Bd.divided_less hi fun p hp => ?_
  rcases List.mem_append.1 hp with hp | hp
  · obtain ⟨h1, h2⟩ := h p hp
    exact ⟨h1, fun j hj _ _ => h2 j hj, by have := h2 i (by omega); omega, by have := h2 (i + 1) (by omega); omega⟩
  · obtain ⟨r, hr, rfl⟩ := List.mem_map.1 hp
    obtain ⟨q, hq, rfl⟩ := List.mem_map.1 hr
    obtain ⟨h1, h2⟩ := h q hq
    obtain ⟨h3, h4, h5⟩ := key_raise h1 (i := i + 1) (by omega) (by have := h2 (i + 1) (by omega); omega)
    refine ⟨h3, fun j hj hn hn' => by show dig (q.1 + unit (i + 1)) j ≤ B; rw [h5 j hj hn']; exact h2 j hj, ?_, ?_⟩
    · show dig (q.1 + unit (i + 1)) i ≤ B + 1
      rw [h5 i (by omega) (by omega)]; have := h2 i (by omega); omega
    · show dig (q.1 + unit (i + 1)) (i + 1) ≤ B + 1
      rw [h4]; have := h2 (i + 1) (by omega); omega
theorem key_add {j k : Int} (hj : inK j) (hk : inK k) (h : ∀ i, i < 7 → dig j i + dig k i ≤ 127) : inK (j + k) ∧ ∀ i, i < 7 → dig (j + k) i = dig j i + dig k i := by
  have e : j + k = pack (dig j 0 + dig k 0) (dig j 1 + dig k 1) (dig j 2 + dig k 2) (dig j 3 + dig k 3) (dig j 4 + dig k 4) (dig j 5 + dig k 5) (dig j 6 + dig k 6) := by
    have h1 := key_pack hj
    have h2 := key_pack hk
    unfold pack at *
    omega
  have hd : ∀ i, i < 7 → isD (dig j i + dig k i) := fun i hi => by
    have := h i hi
    have := dig_range j i
    have := dig_range k i
    unfold isD
    omega
  have q := pack_digs (hd 0 (by omega)) (hd 1 (by omega)) (hd 2 (by omega)) (hd 3 (by omega)) (hd 4 (by omega)) (hd 5 (by omega)) (hd 6 (by omega))
  rw [← e] at q
  refine ⟨q.1, fun i hi => ?_⟩
  have hc : i = 0 ∨ i = 1 ∨ i = 2 ∨ i = 3 ∨ i = 4 ∨ i = 5 ∨ i = 6 := by omega
  rcases hc with rfl | rfl | rfl | rfl | rfl | rfl | rfl
  · exact q.2.1
  · exact q.2.2.1
  · exact q.2.2.2.1
  · exact q.2.2.2.2.1
  · exact q.2.2.2.2.2.1
  · exact q.2.2.2.2.2.2.1
  · exact q.2.2.2.2.2.2.2
theorem Bd.times {B C : Int} {F G : Mons} (h : Bd B F) (h' : Bd C G) (hB : B + C ≤ 127) : Bd (B + C) (timesM F G) := fun p hp => by
  obtain ⟨a, ha, hp⟩ := List.mem_flatMap.1 hp
  obtain ⟨b, hb, rfl⟩ := List.mem_map.1 hp
  obtain ⟨h1, h2⟩ := h a ha
  obtain ⟨h3, h4⟩ := h' b hb
  obtain ⟨h5, h6⟩ := key_add h1 h3 fun i hi => by have := h2 i hi; have := h4 i hi; omega
  refine ⟨h5, fun i hi => ?_⟩
  show dig (a.1 + b.1) i ≤ B + C
  rw [h6 i hi]
  have := h2 i hi
  have := h4 i hi
  omega
theorem Bd.swap {B : Int} {F : Mons} (h : Bd B F) {i : Nat} (hi : i ≤ 5) : Bd B (swapM i F) := fun p hp => by
  obtain ⟨q, hq, rfl⟩ := List.mem_map.1 hp
  obtain ⟨h1, h2⟩ := h q hq
  obtain ⟨h3, h4, h5, h6⟩ := put2_digs h1 hi (dig_isD q.1 (i + 1)) (dig_isD q.1 i)
  refine ⟨h3, fun j hj => ?_⟩
  show dig (swapK i q.1) j ≤ B
  unfold swapK
  by_cases e : j = i
  · subst e; rw [h4]; exact h2 _ (by omega)
  · by_cases e' : j = i + 1
    · subst e'; rw [h5]; exact h2 _ (by omega)
    · rw [h6 j hj e e']; exact h2 j hj
end Go.Proofs.YtcminkcoifkbgaaGreatDoor

namespace Go.Proofs.YtcminkcoifkbgaaGreatDoor
open Go.RowKit Go.MapKept Go.ChangeMaps

theorem less1_append (l m : Mons) (k : Int) : less1 (l ++ m) k = less1 l k ++ less1 m k := by unfold less1; rw [List.filter_append]
/-- the entry at a key, laid if there is none; then its value -/
theorem PM.entry {w : World} {b : Nat} {l : Mons} (h : PM w b l) {k : Int} (hk : inK k) :
    ∃ v0 st w1 l1, (Instr.mapEntry 82 (.map (some b)) (kV k)).run Tryz.prog w = .ok (.tuple #[v0, goInt (st : Nat)]) w1 ∧ PM w1 b l1 ∧ (∀ j, Go.Proofs.YtcminkcoifkbgaaGreatDoor.coef l1 j = Go.Proofs.YtcminkcoifkbgaaGreatDoor.coef l j) ∧ w.grownBy w1 (some b) ∧ w1.heap.size = w.heap.size ∧
      ∀ c, in64 c → ∃ w2 l2, (Instr.entryStore 82 (.map (some b)) (goInt st) (.int .i64 c)).run Tryz.prog w1 = .ok () w2 ∧ PM w2 b l2 ∧ l2.Perm ((k, c) :: less1 l k) ∧ w1.grownBy w2 (some b) ∧ w2.heap.size = w1.heap.size := by
  have hn := h.nodup
  have hsz := h.size
  obtain ⟨es, clock, hb, hs, he, hr⟩ := h
  have hlen : es.size = l.length := by
    have := congrArg List.length he
    simpa using this
  obtain ⟨q, hq⟩ := keyOf_kV k
  have hgrow : ∀ (w : World) (x : Array MapEntry) (t : Nat), w.heap[b]? = some (.map x t) → ∀ o, w.grownBy (setBlock w b o) (some b) := fun w x t hb o => ⟨rfl, rfl, rfl, by simp [setBlock], fun i _ hi => heap_setBlock_other hb _ (fun e => hi (by rw [e]))⟩
  rcases PM.find hb he hr hk with ⟨h1, h2, h3⟩ | ⟨j, e, d, h1, h2, h3, h4, h5⟩
  · have hless : less1 l k = l := by
      unfold less1
      rw [List.filter_eq_self]
      intro p hp
      simpa using h3 p hp
    have hb1 : (setBlock w b (.map (es.push ⟨kV k, .int .i64 0, clock⟩) (clock + 1))).heap[b]? = some (.map (es.push ⟨kV k, .int .i64 0, clock⟩) (clock + 1)) := heap_setBlock_same hb _
    refine ⟨.int .i64 0, clock, setBlock w b (.map (es.push ⟨kV k, .int .i64 0, clock⟩) (clock + 1)), l ++ [(k, 0)], ?_, ⟨_, _, hb1, stamped_push hs h2, ?_, ?_⟩, ?_, hgrow _ _ _ hb _, by simp [setBlock], fun c hc => ⟨setBlock (setBlock w b (.map (es.push ⟨kV k, .int .i64 0, clock⟩) (clock + 1))) b (.map (es.push ⟨kV k, .int .i64 c, clock⟩) (clock + 1)), l ++ [(k, c)], ?_, ⟨_, _, heap_setBlock_same hb1 _, stamped_push hs h2, ?_, ?_⟩, ?_, hgrow _ _ _ hb1 _, by simp [setBlock]⟩⟩
    · simp [Instr.mapEntry, run_underlying undM, MapKept.run_getObj_map hb, keyed.check w false hq, h1, MapKept.run_setObj_map _ hb, Result.andThen, setBlock]
    · rw [Array.toList_push, List.map_append, List.map_append, he]
      rfl
    · intro p hp
      rcases List.mem_append.1 hp with hp | hp
      · exact hr p hp
      · rw [List.mem_singleton] at hp
        subst hp
        exact ⟨hk, by unfold in64; omega⟩
    · intro j
      unfold Go.Proofs.YtcminkcoifkbgaaGreatDoor.coef raw
      rw [wsum_append]
      simp [wsum]
    · have hidx : (es.push ⟨kV k, .int .i64 0, clock⟩).findIdx? (fun e => ((e.born : Nat) : Int) == ((clock : Nat) : Int)) = some es.size := by
        have hn1 := ((stamped_iff _ _).1 (stamped_push (val := .int .i64 0) hs h2)).2.1
        have := Go.WideElems.findIdx_born (l := (es.push ⟨kV k, .int .i64 0, clock⟩).toList) (j := es.size) (e0 := ⟨kV k, .int .i64 0, clock⟩) hn1 (by simp)
        rw [Go.WideElems.findIdx_arr]
        exact this
      have hmod : (es.push ⟨kV k, .int .i64 0, clock⟩).modify es.size (fun e => { e with val := .int .i64 c }) = es.push ⟨kV k, .int .i64 c, clock⟩ := by
        apply Array.toList_inj.1
        rw [Array.toList_modify, Array.toList_push, Array.toList_push]
        have := Go.WideElems.modify_last (fun e : MapEntry => { e with val := .int .i64 c }) ⟨kV k, .int .i64 0, clock⟩ es.toList
        simpa using this
      have key : ∀ W1 : World, W1.heap[b]? = some (.map (es.push ⟨kV k, .int .i64 0, clock⟩) (clock + 1)) → (Instr.entryStore 82 (.map (some b)) (goInt clock) (.int .i64 c)).run Tryz.prog W1 = .ok () (setBlock W1 b (.map (es.push ⟨kV k, .int .i64 c, clock⟩) (clock + 1))) := by
        intro W1 hW1
        simp [Instr.entryStore, MapKept.run_getObj_map hW1, goInt, asInt, asIntOf, hidx, hmod, MapKept.run_setObj_map _ hW1, Result.andThen, setBlock]
      exact key _ hb1
    · rw [Array.toList_push, List.map_append, List.map_append, he]
      rfl
    · intro p hp
      rcases List.mem_append.1 hp with hp | hp
      · exact hr p hp
      · rw [List.mem_singleton] at hp
        subst hp
        exact ⟨hk, hc⟩
    · rw [hless]
      exact List.perm_append_singleton _ _
  · have hj : es[j]? = some e := by simpa using h2
    have hkeep : es.modify j (fun e' => { e' with key := kV k }) = es := by
      apply Array.toList_inj.1
      rw [Array.toList_modify, modify_eq_set _ _ _ _ h2]
      have : ({ e with key := kV k } : MapEntry) = e := by rw [← h3]
      rw [this]
      exact Go.WideElems.set_self _ _ _ h2
    have hsame : setBlock w b (.map es clock) = w := by
      unfold setBlock
      have : w.heap.setIfInBounds b (.map es clock) = w.heap := by
        apply Array.ext_getElem?
        intro i
        by_cases hi : i = b
        · subst hi
          rw [Array.getElem?_setIfInBounds, if_pos rfl]
          obtain ⟨h6, h7⟩ := Array.getElem?_eq_some_iff.1 hb
          simp only [h6, if_true]
          rw [hb]
        · rw [Array.getElem?_setIfInBounds, if_neg (fun e => hi e.symm)]
      rw [this]
    refine ⟨e.val, e.born, w, l, ?_, ⟨es, clock, hb, hs, he, hr⟩, fun _ => rfl, ⟨rfl, rfl, rfl, Nat.le_refl _, fun _ _ _ => rfl⟩, rfl, fun c hc => ?_⟩
    · have e1 : (es.modify j fun e => { e with key := kV k }) = es := hkeep
      have : (Instr.mapEntry 82 (.map (some b)) (kV k)).run Tryz.prog w = .ok (.tuple #[e.val, goInt e.born]) (setBlock w b (.map es clock)) := by
        simp [Instr.mapEntry, run_underlying undM, MapKept.run_getObj_map hb, keyed.check w false hq, h1, hj, h3, keyed.stays w hq, MapKept.run_setObj_map _ hb, Result.andThen, setBlock, e1]
      rw [this, hsame]
    · have hidx : es.findIdx? (fun x => ((x.born : Nat) : Int) == ((e.born : Nat) : Int)) = some j := by
        rw [Go.WideElems.findIdx_arr]
        exact Go.WideElems.findIdx_born ((stamped_iff _ _).1 hs).2.1 h2
      have hlist : (es.modify j (fun e' => { e' with val := .int .i64 c })).toList = es.toList.set j { e with val := .int .i64 c } := by rw [Array.toList_modify, modify_eq_set _ _ _ _ h2]
      refine ⟨setBlock w b (.map (es.modify j (fun e' => { e' with val := .int .i64 c })) clock), l.set j (k, c), ?_, ⟨_, _, heap_setBlock_same hb _, stamped_modify hs _ _ (fun _ _ => rfl) (fun _ _ _ => rfl), ?_, ?_⟩, ?_, hgrow _ _ _ hb _, by simp [setBlock]⟩
      · simp [Instr.entryStore, MapKept.run_getObj_map hb, goInt, asInt, asIntOf, hidx, MapKept.run_setObj_map _ hb, Result.andThen, setBlock]
      · have e1 : ent { e with val := .int .i64 c } = kv (k, c) := by
          show (e.key, Value.int .i64 c) = (kV k, .int .i64 c)
          rw [h3]
        rw [hlist, List.map_set, List.map_set, he, e1]
      · intro p hp
        rcases List.mem_or_eq_of_mem_set hp with hp | rfl
        · exact hr p hp
        · exact ⟨hk, hc⟩
      · rw [less1_at hn h5]
        exact set_perm _ _ (List.getElem?_eq_some_iff.1 h5).1 _

/-- the seven cells of a key -/
def cells7 (k : Int) : Array Value := #[.int .i64 (dig k 0), .int .i64 (dig k 1), .int .i64 (dig k 2), .int .i64 (dig k 3), .int .i64 (dig k 4), .int .i64 (dig k 5), .int .i64 (dig k 6)]
theorem grownBy_trans {a b c : World} {r : Option Nat} (h : a.grownBy b r) (h' : b.grownBy c r) : a.grownBy c r :=
  ⟨h'.os.trans h.os, h'.tape.trans h.tape, h'.output.trans h.output, Nat.le_trans h.size h'.size, fun i hi hn => (h'.block i (Nat.lt_of_lt_of_le hi h.size) hn).trans (h.block i hi hn)⟩
theorem grownBy_of_below {w w' : World} (r : Option Nat) (h : Below w.heap.size w w') : w.grownBy w' r := ⟨h.os, h.tape, h.output, h.size, fun k hk _ => h.block k hk⟩
theorem in64_wrap (a : Int) : in64 (wrap64 a) := wrap_range a
theorem undA : Tryz.prog.underlying 96 = some (.array 7 3) := arrK.hu

theorem cells7_at {w : World} {g : Nat} {k : Int} (h : w.heap[g]? = some (.cells (cells7 k) 96)) :
    w.cell? ⟨g, 0, none⟩ = some (.int .i64 (dig k 0)) ∧ w.cell? ⟨g, 1, none⟩ = some (.int .i64 (dig k 1)) ∧ w.cell? ⟨g, 2, none⟩ = some (.int .i64 (dig k 2)) ∧ w.cell? ⟨g, 3, none⟩ = some (.int .i64 (dig k 3)) ∧
    w.cell? ⟨g, 4, none⟩ = some (.int .i64 (dig k 4)) ∧ w.cell? ⟨g, 5, none⟩ = some (.int .i64 (dig k 5)) ∧ w.cell? ⟨g, 6, none⟩ = some (.int .i64 (dig k 6)) := by
  refine ⟨?_, ?_, ?_, ?_, ?_, ?_, ?_⟩ <;> (rw [cell_of_row w _ _ _ _ (0, 0) h]; rfl)
set_option maxRecDepth 100000 in
set_option maxHeartbeats 3200000 in
theorem add_any (b : Nat) (k c : Int) (F : Mons) (w : World) (h : PF w b F) (hk : inK k) (_hc : in64 c) :
    Calls Tryz.prog 71 #[.map (some b), kV k, .int .i64 c] w fun e w' => e = .returned (.tuple #[]) ∧ PF w' b ((k, c) :: F) ∧ w.grownBy w' (some b) := by
  obtain ⟨l, hl, hp⟩ := h
  have hbz := hl.lt
  obtain ⟨W, hW⟩ : ∃ W, w.alloc (.cells (cells7 k) 96) = W := ⟨_, rfl⟩
  have hBW : Below w.heap.size w W := by rw [← hW]; exact (Below.refl _ _).alloc (Nat.le_refl _) _
  have g0 : W.heap[w.heap.size]? = some (.cells (cells7 k) 96) := by rw [← hW]; exact heap_alloc_new w _
  have hBV : Below w.heap.size w W.drew := hBW.trans (Drew.below ⟨1, rfl⟩ _)
  have hlV : PM W.drew b l := hl.below hBV
  have e0 := hlV.look hk
  have hc0 : coef l k = coef F k := by rw [coef_perm hp, coef_canon]
  rw [hc0] at e0
  obtain ⟨v0, st, w1, l1, e1, hl1, hcc, hg1, hz1, hst⟩ := hlV.entry hk
  have e2 := hl1.look hk
  rw [hcc, hc0] at e2
  obtain ⟨w2, l2, e3, hl2, hp2, hg2, hz2⟩ := hst (wrap64 (coef F k + c)) (in64_wrap _)
  have g1 : w1.heap[w.heap.size]? = some (.cells (cells7 k) 96) := by rw [hg1.block _ (by have := (Array.getElem?_eq_some_iff.1 g0).1; exact this) (by simp; omega)]; exact g0
  have g2 : w2.heap[w.heap.size]? = some (.cells (cells7 k) 96) := by rw [hg2.block _ (by have := (Array.getElem?_eq_some_iff.1 g1).1; exact this) (by simp; omega)]; exact g1
  have e4 := hl2.look hk
  have hz : coef l2 k = wrap64 (coef F k + c) := by rw [coef_perm hp2, coef_cons, if_pos rfl, coef_miss (by intro p hp; have := (List.mem_filter.1 hp).2; simpa using this)]; unfold wrap64; omega
  rw [hz] at e4
  obtain ⟨s, hs⟩ : ∃ s, wrap64 (coef F k + c) = s := ⟨_, rfl⟩
  rw [hs] at e3 e4 hp2
  have hgw : w.grownBy w2 (some b) := grownBy_trans (grownBy_of_below _ hBV) (grownBy_trans hg1 hg2)
  have hqw : IntKind.i64.wrap (coef F k + c) = s := by rw [← hs]; exact IntWalk.i64_left _
  obtain ⟨a0, a1, a2, a3, a4, a5, a6⟩ := cells7_at g0
  obtain ⟨b0, b1, b2, b3, b4, b5, b6⟩ := cells7_at g1
  obtain ⟨c0, c1, c2, c3, c4, c5, c6⟩ := cells7_at g2
  have Hlast : s ≠ 0 → PF w2 b ((k, c) :: F) := fun h0 => ⟨l2, hl2, by
    have := canon_cons k c F
    rw [hs, if_neg h0] at this
    exact hp2.trans ((((hp.filter _).cons _)).trans this.symm)⟩
  have Hgw := Lib.hid hgw
  have Hlast' := Lib.hid Hlast
  have Hp2 := Lib.hid hp2
  have hpl : (less1 l k).Perm (less1 (canon F) k) := hp.filter _
  by_cases h0 : s = 0
  · obtain ⟨w3, l3, e5, hl3, hl3e, hg3, hz3⟩ := hl2.drop hk 0
    have hfin : PF w3 b ((k, c) :: F) := ⟨l3, hl3, by
      have h1 := canon_cons k c F
      rw [hs, if_pos h0] at h1
      have h2 : (less1 l2 k).Perm (less1 ((k, s) :: less1 l k) k) := Hp2.out.filter _
      have h3 : less1 ((k, s) :: less1 l k) k = less1 l k := by
        unfold less1
        rw [List.filter_cons_of_neg (by simp), List.filter_filter]
        simp
      rw [hl3e]
      rw [h3] at h2
      exact h2.trans (hpl.trans h1.symm)⟩
    have Hfin := Lib.hid hfin
    have Hgw3 := Lib.hid (grownBy_trans hgw hg3)
    unfold kV at e0 e1 e2 e4 e5
    unfold goInt at e1 e3
    unfold cells7 at hW
    generalize coef F k = c0 at *
    clear hp2 hgw hg1 hg2 hz hst hcc hl1 hlV hBV hBW hc0 hz1 hz2 g0 g1 g2 Hlast hs hfin hg3 hz3 hl3e hl3
    subst h0
    unfold kV
    go_enter Tryz.func71, Tryz.ntmps71
    go_wp2
    go_region
    go_wp2
    go_end0
    exact ⟨rfl, Hfin.out, Hgw3.out⟩
  · have q0 : (s == 0) = false := by simp [h0]
    have Hfin := Lib.hid (Hlast h0)
    unfold kV at e0 e1 e2 e4
    unfold goInt at e1 e3
    unfold cells7 at hW
    generalize coef F k = c0 at *
    clear hp2 hgw hg1 hg2 hz hst hcc hl1 hlV hBV hBW hc0 hz1 hz2 g0 g1 g2 Hlast hs
    unfold kV
    go_enter Tryz.func71, Tryz.ntmps71
    go_wp2
    go_region
    go_wp2
    go_end0
    exact ⟨rfl, Hfin.out, Hgw.out⟩
end Go.Proofs.YtcminkcoifkbgaaGreatDoor

namespace Go.Proofs.YtcminkcoifkbgaaGreatDoor
open Go.RowKit Go.MapKept Go.ChangeMaps

section
variable (w : World) {ops : Array Oper} {rest : List Oper} {o : Oper} {a : Act} {Q : Exit → Act → World → Prop}
theorem wpList_range_P (hg : o.guard = none) (m : Operand) (hop : o.op = Op.range 82 m) (b : Nat) (l : Mons) (hm : a.eval m = .map (some b)) (hown : PM w b l)
    (hK : ∀ w', PRg w' b w.heap.size l l → Below w.heap.size w w' → w'.heap.size = w.heap.size + 1 → wpList Tryz.prog ops Q rest (a.put o.dst (.pointer (some ⟨w.heap.size, 0, none⟩))) w') :
    wpList Tryz.prog ops Q (o :: rest) a w := by
  refine wpList_plain hg fun K' hK' => ?_
  obtain ⟨ob, hrun, hr⟩ := hown.range
  unfold Oper.wp
  simp [execOp, hop, hm, hrun, Result.andThen]
  exact hK' _ _ (hK _ hr ((Below.refl _ _).alloc (Nat.le_refl _) _) (by simp))
theorem wpList_next_P (hg : o.guard = none) (it : Operand) (hop : o.op = Op.next it false) (b r : Nat) (l left : Mons) (hit : a.eval it = .pointer (some ⟨r, 0, none⟩)) (h : PRg w b r l left)
    (hDone : left = [] → wpList Tryz.prog ops Q rest (a.put o.dst (.tuple #[.bool false])) w)
    (hMore : ∀ (k c : Int) (left' : Mons) (w' : World), left.Perm ((k, c) :: left') → PRg w' b r l left' → w.grownBy w' (some r) → w'.heap.size = w.heap.size →
      (Instr.entry (.pointer (some ⟨r, 0, none⟩))).run Tryz.prog w' = .ok (.tuple #[kV k, .int .i64 c]) w' → wpList Tryz.prog ops Q rest (a.put o.dst (.tuple #[.bool true, kV k, .int .i64 c])) w') :
    wpList Tryz.prog ops Q (o :: rest) a w := by
  refine wpList_plain hg fun K' hK' => ?_
  unfold Oper.wp
  rcases h.next o.type with ⟨h0, hrun⟩ | ⟨⟨k, c⟩, left', w', hp, hrun, hrg, hgr, hsz, hen⟩
  · simp [execOp, hop, hit, hrun, Result.andThen]
    exact hK' _ _ (hDone h0)
  · simp [execOp, hop, hit, hrun, Result.andThen]
    exact hK' _ _ (hMore k c left' w' hp hrg hgr hsz hen)
end
theorem below_of_grown {B : Nat} {wS w w' : World} {r : Nat} (hb : Below B wS w) (hg : w.grownBy w' (some r)) (hB : B ≤ w.heap.size) (hr : B ≤ r) : Below B wS w' :=
  hb.grown hg hB (by intro q hq; obtain rfl := Option.some.inj hq; exact hr)
end Go.Proofs.YtcminkcoifkbgaaGreatDoor

namespace Go.Proofs.YtcminkcoifkbgaaGreatDoor
open Go.RowKit Go.MapKept Go.ChangeMaps

theorem Eqv.wrap (k c : Int) (F : Mons) : Eqv ((k, wrap64 c) :: F) ((k, c) :: F) := fun j => by
  rw [coef_cons, coef_cons]
  split
  · unfold wrap64; omega
  · rfl
theorem Eqv.perm_canon {l F G : Mons} (h : l.Perm (canon F)) (h' : l.Perm G) : Eqv G F := (Eqv.of_perm h'.symm).trans ((Eqv.of_perm h).trans (canon_self F))
theorem Eqv.cons {F G : Mons} (h : Eqv F G) (p : Int × Int) : Eqv (p :: F) (p :: G) := (Eqv.refl [p]).append h
set_option maxRecDepth 100000 in
set_option maxHeartbeats 3200000 in
theorem plus_any (b d : Nat) (c : Int) (F G : Mons) (w : World) (hF : PF w b F) (hG : PF w d G) :
    Calls Tryz.prog 51 #[.map (some b), .int .i64 c, .map (some d)] w fun e w' => ∃ r, e = .returned (.map (some r)) ∧ w.heap.size ≤ r ∧ PF w' r (plusM F c G) ∧ Below w.heap.size w w' := by
  obtain ⟨lf, hlf, hpf⟩ := hF
  obtain ⟨lg, hlg, hpg⟩ := hG
  have hkf : ∀ p ∈ lf, inK p.1 ∧ in64 p.2 := by obtain ⟨_, _, _, _, _, h⟩ := hlf; exact h
  have hkg : ∀ p ∈ lg, inK p.1 ∧ in64 p.2 := by obtain ⟨_, _, _, _, _, h⟩ := hlg; exact h
  have hmm := @run_makeMap Tryz.prog
  obtain ⟨W, hW⟩ : ∃ W, w.alloc (.map #[] 0) = W := ⟨_, rfl⟩
  have hBW : Below w.heap.size w W := by rw [← hW]; exact (Below.refl _ _).alloc (Nat.le_refl _) _
  have hM : PF W w.heap.size [] := by rw [← hW]; exact PF.made w
  have HzW := Lib.hid (show W.heap.size = w.heap.size + 1 by rw [← hW]; simp)
  have hlfW := hlf.below hBW
  have hblt := hlf.lt
  have hdlt := hlg.lt
  go_enter Tryz.func51, Tryz.ntmps51
  go_wp2_with (first | (at_range; refine wpList_range_P _ (by rfl) _ (by rfl) b lf (by rfl) hlfW ?_; intro w0 hr0 hB0 _) | go_in)
  go_frame
  go_loopw [15] (fun _ wr => ∃ don left, PRg wr b W.heap.size lf left ∧ Hid (lf.Perm (don ++ left)) ∧ PF wr w.heap.size don ∧ Below w.heap.size w wr) (fun _ wr => wr.rangeLeft b W.heap.size)
  case atStart => exact ⟨[], lf, hr0, List.Perm.refl _, hM.below hB0, hBW.trans (hB0.mono hBW.size)⟩
  case round =>
    obtain ⟨don, left, hr, HP, hM1, hB⟩ := hrel
    obtain ⟨wo, rfl⟩ : ∃ wo : World, wo = wr := ⟨_, rfl⟩
    go_wp2_with (first | (at_next; refine wpList_next_P _ (by rfl) _ (by rfl) b W.heap.size lf left (by rfl) hr ?_ ?_) | go_in)
    · intro hleft
      subst hleft
      rw [List.append_nil] at HP
      have hB1 := hB
      have hlgW := hlg.below (hB.mono (Nat.le_refl _))
      have Hlt := Lib.hid hM1.lt
      clear hr hM hlfW hr0 hB0
      go_wp2_with (first | (at_range; refine wpList_range_P _ (by rfl) _ (by rfl) d lg (by rfl) hlgW ?_; intro w0 hr0 hB0 _) | go_in)
      go_frame
      go_loopw [26] (fun _ wr => ∃ don2 left, PRg wr d wo.heap.size lg left ∧ Hid (lg.Perm (don2 ++ left)) ∧ PF wr w.heap.size (scaleM c don2 ++ don) ∧ Below w.heap.size w wr) (fun _ wr => wr.rangeLeft d wo.heap.size)
      case atStart => exact ⟨[], lg, hr0, List.Perm.refl _, hM1.below hB0, hB.trans (hB0.mono hB.size)⟩
      case round =>
        clear hlgW hM1
        obtain ⟨don2, left, hr, HP2, hM1, hB⟩ := hrel
        obtain ⟨wp, rfl⟩ : ∃ wp : World, wp = wr := ⟨_, rfl⟩
        go_wp2_with (first | (at_next; refine wpList_next_P _ (by rfl) _ (by rfl) d wo.heap.size lg left (by rfl) hr ?_ ?_) | go_in)
        · intro hleft
          subst hleft
          rw [List.append_nil] at HP2
          have hfin : PF wp w.heap.size (plusM F c G) := hM1.eqv ((Eqv.of_perm List.perm_append_comm).trans ((Eqv.perm_canon hpf HP.out).append (scaleM_eqv (Eqv.perm_canon hpg HP2.out))))
          clear hM1 hr
          go_wp2
          go_ret
          exact ⟨_, rfl, Nat.le_refl _, hfin, hB⟩
        · intro k0 c0 left' w1 hp hr1 hg1 hz1 hen
          obtain ⟨hk0, hc0⟩ := hkg (k0, c0) (HP2.out.mem_iff.2 (List.mem_append_right _ (hp.mem_iff.2 List.mem_cons_self)))
          unfold kV at hen ⊢
          obtain ⟨W1, hW1⟩ : ∃ W1, w1.alloc (.cells (cells7 k0) 96) = W1 := ⟨_, rfl⟩
          have g0 : W1.heap[w1.heap.size]? = some (.cells (cells7 k0) 96) := by rw [← hW1]; exact heap_alloc_new w1 _
          obtain ⟨a0, a1, a2, a3, a4, a5, a6⟩ := cells7_at g0
          unfold cells7 at hW1
          clear g0
          have Hz1 := Lib.hid hz1
          clear hz1
          have hwo := hB1.size
          have hBW1 : Below w1.heap.size w1 W1 := by rw [← hW1]; exact (Below.refl _ _).alloc (Nat.le_refl _) _
          have hB1 := below_of_grown hB hg1 hB.size hwo
          have hwM : w.heap.size < wo.heap.size := Hlt.out
          have hM2 : PF W1 w.heap.size (scaleM c don2 ++ don) := (hM1.kept hg1 (by simp; omega)).below hBW1
          have hB2 := hB1.trans (hBW1.mono hB1.size)
          have hr2 := hr1.below hBW1
          have hmeas := hr.left_eq
          have hlen := hp.length_eq
          have hq : IntKind.i64.wrap (c * c0) = wrap64 (c * c0) := IntWalk.i64_left _
          obtain ⟨cc, hcc⟩ : ∃ cc, wrap64 (c * c0) = cc := ⟨_, rfl⟩
          have hcc0 : in64 cc := by rw [← hcc]; exact in64_wrap _
          rw [hcc] at hq
          have Hcc := Lib.hid hcc
          clear hM1 hB hg1 hB1 hr1 hBW1 hcc
          go_wp2_with fail
          refine (add_any w.heap.size k0 cc (scaleM c don2 ++ don) _ hM2 hk0 hcc0).mono ?_
          rintro e w3 ⟨rfl, hM3, hg3⟩
          have hr3 := hr2.kept hg3 (by simp; omega) (by simp; omega)
          have hB3 := below_of_grown hB2 hg3 hB2.size (Nat.le_refl _)
          have HP3 := Lib.hid (show lg.Perm ((k0, c0) :: don2 ++ left') from HP2.out.trans ((hp.append_left don2).trans List.perm_middle))
          have hM4 : PF w3 w.heap.size (scaleM c ((k0, c0) :: don2) ++ don) := hM3.eqv (by rw [← Hcc.out]; exact Eqv.wrap _ _ _)
          clear hr2 hB2 hM2 hg3 hp hM3
          go_wp2
          go_roundw
          case rel => exact ⟨(k0, c0) :: don2, left', hr3, HP3, hM4, hB3⟩
          case measure =>
            rw [hr3.left_eq, hmeas, hlen]
            simp
    · intro k0 c0 left' w1 hp hr1 hg1 hz1 hen
      obtain ⟨hk0, hc0⟩ := hkf (k0, c0) (HP.out.mem_iff.2 (List.mem_append_right _ (hp.mem_iff.2 List.mem_cons_self)))
      unfold kV at hen ⊢
      obtain ⟨W1, hW1⟩ : ∃ W1, w1.alloc (.cells (cells7 k0) 96) = W1 := ⟨_, rfl⟩
      have g0 : W1.heap[w1.heap.size]? = some (.cells (cells7 k0) 96) := by rw [← hW1]; exact heap_alloc_new w1 _
      obtain ⟨a0, a1, a2, a3, a4, a5, a6⟩ := cells7_at g0
      unfold cells7 at hW1
      clear g0
      have Hz1 := Lib.hid hz1
      clear hz1
      have hBW1 : Below w1.heap.size w1 W1 := by rw [← hW1]; exact (Below.refl _ _).alloc (Nat.le_refl _) _
      have hB1 := below_of_grown hB hg1 hB.size (by rw [HzW.out]; omega)
      have hM2 : PF W1 w.heap.size don := (hM1.kept hg1 (by rw [HzW.out]; simp)).below hBW1
      have hB2 := hB1.trans (hBW1.mono hB1.size)
      have hr2 := hr1.below hBW1
      have hmeas := hr.left_eq
      have hlen := hp.length_eq
      clear hM1 hB hg1 hB1 hr1 hBW1
      go_wp2_with fail
      refine (add_any w.heap.size k0 c0 don _ hM2 hk0 hc0).mono ?_
      rintro e w3 ⟨rfl, hM3, hg3⟩
      have hr3 := hr2.kept hg3 (by simp; omega) (by rw [HzW.out]; simp)
      have hB3 := below_of_grown hB2 hg3 hB2.size (Nat.le_refl _)
      have HP3 := Lib.hid (show lf.Perm ((k0, c0) :: don ++ left') from HP.out.trans ((hp.append_left don).trans List.perm_middle))
      clear hr2 hB2 hM2 hg3 hp
      go_wp2
      go_roundw
      case rel => exact ⟨(k0, c0) :: don, left', hr3, HP3, hM3, hB3⟩
      case measure =>
        rw [hr3.left_eq, hmeas, hlen]
        simp
end Go.Proofs.YtcminkcoifkbgaaGreatDoor

namespace Go.Proofs.YtcminkcoifkbgaaGreatDoor
open Go.RowKit Go.MapKept Go.ChangeMaps

/-- one exponent stored anew -/
theorem cells7_set {w : World} {g : Nat} {k : Int} (h : w.heap[g]? = some (.cells (cells7 k) 96)) (hk : inK k) {i : Nat} (hi : i ≤ 6) {x : Int} (hx : isD x) :
    (w.setCell ⟨g, i, none⟩ (.int .i64 x)).heap[g]? = some (.cells (cells7 (dset k i x)) 96) := by
  obtain ⟨h1, h2, h3⟩ := dset_digs hk hi hx
  rw [heap_setCell_same w g i _ _ _ h]
  have : (cells7 k).setIfInBounds i (.int .i64 x) = cells7 (dset k i x) := by
    have hc : i = 0 ∨ i = 1 ∨ i = 2 ∨ i = 3 ∨ i = 4 ∨ i = 5 ∨ i = 6 := by omega
    unfold cells7
    rcases hc with rfl | rfl | rfl | rfl | rfl | rfl | rfl <;>
    · simp only [h2]
      simp [h3]
  rw [this]
theorem cells7_cell {w : World} {g : Nat} {k : Int} (h : w.heap[g]? = some (.cells (cells7 k) 96)) {i : Nat} (hi : i ≤ 6) :
    w.cell? ⟨g, i, none⟩ = some (.int .i64 (dig k i)) ∧ w.frozen? ⟨g, i, none⟩ = false := by
  constructor
  · rw [cell_of_row w _ _ _ _ (0, 0) h]
    have hc : i = 0 ∨ i = 1 ∨ i = 2 ∨ i = 3 ∨ i = 4 ∨ i = 5 ∨ i = 6 := by omega
    rcases hc with rfl | rfl | rfl | rfl | rfl | rfl | rfl <;> rfl
  · rw [frozen_of_row w _ _ _ _ h]
theorem below_setCell {B : Nat} {w : World} {g : Nat} (i : Nat) (v : Value) (hg : B ≤ g) : Below B w (w.setCell ⟨g, i, none⟩ v) :=
  ⟨rfl, rfl, rfl, by simp, fun k hk => heap_setCell_other w ⟨g, i, none⟩ k v (by show k ≠ g; omega)⟩
/-- 'm[k] = c' where there is none -/
theorem PF.store {w : World} {b : Nat} {F : Mons} (h : PF w b F) {k c : Int} (hk : inK k) (hc : in64 c) (h0 : c ≠ 0) (hm : coef F k = 0) :
    ∃ w', (Instr.mapUpdate 82 (.map (some b)) (kV k) (.int .i64 c)).run Tryz.prog w = .ok () w' ∧ PF w' b ((k, c) :: F) ∧ w.grownBy w' (some b) := by
  obtain ⟨l, hl, hp⟩ := h
  obtain ⟨w', l', h1, h2, h3, h4, _⟩ := hl.store hk hc
  refine ⟨w', h1, ⟨l', h2, ?_⟩, h4⟩
  have e := canon_cons k c F
  have e2 : wrap64 (coef F k + c) = c := by rw [hm, Int.zero_add]; exact wrap_self hc
  rw [e2, if_neg h0] at e
  exact h3.trans (((hp.filter _).cons _).trans e.symm)
theorem raised_miss {i : Nat} {l don left : Mons} {k c : Int} (hn : (l.map fun p => p.1).Nodup) (hp : l.Perm (don ++ (k, c) :: left)) : coef (raisedM i don) (k + unit i) = 0 := by
  refine coef_miss fun p hp' e => ?_
  obtain ⟨q, hq, rfl⟩ := List.mem_map.1 hp'
  simp only at e
  have hk : q.1 = k := by omega
  have h2 := (hp.map fun p => p.1).nodup_iff.1 hn
  rw [List.map_append, List.nodup_append] at h2
  exact h2.2.2 q.1 (List.mem_map.2 ⟨q, hq, rfl⟩) k (by simp) hk

end Go.Proofs.YtcminkcoifkbgaaGreatDoor

namespace Go.Proofs.YtcminkcoifkbgaaGreatDoor
open Go.RowKit Go.MapKept Go.ChangeMaps

theorem put_key {k0 kj : Int} (h0 : inK k0) (hj : inK kj) {i : Nat} (hi : i ≤ 5) (hs : ∀ j, j < 7 → j ≠ i → j ≠ i + 1 → dig kj j = dig k0 j) {x y : Int} (hx : isD x) (hy : isD y) :
    dset (dset kj (i + 1) y) i x = put2 k0 i x y := by
  obtain ⟨h1, h2, h3⟩ := dset_digs hj (i := i + 1) (by omega) hy
  obtain ⟨h4, h5, h6⟩ := dset_digs h1 (i := i) (by omega) hx
  obtain ⟨h7, h8, h9, h10⟩ := put2_digs h0 hi hx hy
  refine key_ext h4 h7 fun j hj7 => ?_
  by_cases e : j = i
  · subst e; rw [h5, h8]
  · by_cases e' : j = i + 1
    · subst e'; rw [h6 _ hj7 e, h2, h9]
    · rw [h6 j hj7 e, h3 j hj7 e', hs j hj7 e e', h10 j hj7 e e']
theorem ddKeys_at {i : Nat} {k lo hi : Int} (hlo : min (dig k i) (dig k (i + 1)) = lo) (hhi : max (dig k i) (dig k (i + 1)) = hi) {j : Nat} (hj : lo + j < hi) :
    (ddKeys i k)[j]? = some (put2 k i (hi - 1 - j) (lo + j)) := by
  unfold ddKeys
  rw [List.getElem?_map, List.getElem?_range (by omega)]
  simp only [Option.map_some, hlo]
  congr 2
  omega
theorem ddKeys_length {i : Nat} {k lo hi : Int} (hlo : min (dig k i) (dig k (i + 1)) = lo) (hhi : max (dig k i) (dig k (i + 1)) = hi) : ((ddKeys i k).length : Int) = hi - lo := by
  unfold ddKeys
  rw [List.length_map, List.length_range]
  omega
def ddTo (i : Nat) (k c : Int) (j : Nat) : Mons := ((ddKeys i k).take j).map fun q => (q, sg i k * c)
theorem ddTo_succ {i : Nat} {k c q : Int} {j : Nat} (h : (ddKeys i k)[j]? = some q) (D : Mons) : Eqv ((q, sg i k * c) :: (ddTo i k c j ++ D)) (ddTo i k c (j + 1) ++ D) := by
  refine Eqv.of_perm ?_
  unfold ddTo
  rw [List.take_add_one, h, List.map_append, List.append_assoc]
  exact List.perm_middle.symm

end Go.Proofs.YtcminkcoifkbgaaGreatDoor

namespace Go.Proofs.YtcminkcoifkbgaaGreatDoor
open Go.RowKit

end Go.Proofs.YtcminkcoifkbgaaGreatDoor
