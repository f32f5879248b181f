/-
  How many monomials a polynomial has whose exponents are bounded each.
  First ascents, exchanged one behind the other: plain.
  Contract of l3Up.
  Contract of l3Stair.
  Polynomials below the staircase of seven: closed under divided differences, 5040 monomials at most.
  Contract of l3Schubert.
-/
import Derived.Test.YtblhndkaikelaaaBuG
import Derived.Test.YtblhndkaikelaaaSwap
import Derived.Test.YtblhndkaikelaaaTrim
namespace Go.Proofs.Ytblhndkaikelaaa
open Go.RowKit

/-- all keys whose exponents stay below the bounds (bound + 1 each) -/
def box : List Nat → List Int
  | [] => [0]
  | b :: r => (List.range b).flatMap fun x : Nat => (box r).map fun y => (x : Int) + 128 * y
theorem box_length (bs : List Nat) : (box bs).length = bs.foldr (fun b t => b * t) 1 := by
  induction bs with
  | nil => rfl
  | cons b r ih =>
    rw [box, List.foldr_cons, ← ih]
    generalize box r = l
    have : ∀ n, ((List.range n).flatMap fun x : Nat => l.map fun y => (x : Int) + 128 * y).length = n * l.length := by
      intro n
      induction n with
      | zero => simp
      | succ n ih2 => rw [List.range_succ, List.flatMap_append, List.length_append, ih2, Nat.succ_mul]; simp
    exact this b
theorem keyL_box {bs : List Nat} : ∀ {s : List Int}, s.length = bs.length → (∀ (i : Nat) (x : Int) (b : Nat), s[i]? = some x → bs[i]? = some b → 0 ≤ x ∧ x < b) → keyL s ∈ box bs := by
  induction bs with
  | nil =>
    intro s hl _
    obtain rfl := List.eq_nil_of_length_eq_zero hl
    exact List.mem_singleton.2 rfl
  | cons b r ih =>
    intro s hl h
    cases s with
    | nil => simp at hl
    | cons x s =>
      have h0 := h 0 x b rfl rfl
      have h1 := ih (s := s) (by simpa using hl) (fun i y c hi hc => h (i + 1) y c (by simpa using hi) (by simpa using hc))
      rw [keyL, box, List.mem_flatMap]
      exact ⟨x.toNat, by rw [List.mem_range]; omega, List.mem_map.2 ⟨keyL s, h1, by omega⟩⟩
/-- the exponents at each place are below the bounds -/
def Bx (bs : List Nat) (F : Mons) : Prop := ∀ p ∈ F, inK p.1 ∧ ∀ (i b : Nat), bs[i]? = some b → i < 7 → dig p.1 i < b
theorem Bx.canon {bs : List Nat} {F : Mons} (h : Bx bs F) : Bx bs (canon F) := fun p hp => by
  obtain ⟨q, hq, e⟩ := mem_canon hp
  rw [← e]
  exact h q hq
theorem nodup_sub {l : List Int} : ∀ {m : List Int}, l.Nodup → (∀ x ∈ l, x ∈ m) → l.length ≤ m.length := by
  induction l with
  | nil => intro m _ _; exact Nat.zero_le _
  | cons a t ih =>
    intro m hn h
    rw [List.nodup_cons] at hn
    have ha := h a List.mem_cons_self
    have h1 := ih (m := m.erase a) hn.2 (fun x hx => (List.mem_erase_of_ne (fun e => hn.1 (by rw [← e]; exact hx))).2 (h x (List.mem_cons_of_mem _ hx)))
    rw [List.length_erase_of_mem ha] at h1
    have h2 := List.length_pos_of_mem ha
    rw [List.length_cons]
    omega
theorem Bx.count {bs : List Nat} {F : Mons} (h : Bx bs F) (h7 : bs.length = 7) : (Go.Proofs.Ytblhndkaikelaaa.canon F).length ≤ bs.foldr (fun b t => b * t) 1 := by
  rw [← box_length]
  have hn := canon_nodup F
  have := nodup_sub (m := box bs) hn (fun k hk => by
    obtain ⟨p, hp, rfl⟩ := List.mem_map.1 hk
    obtain ⟨h1, h2⟩ := h.canon p hp
    rw [← keyL_digs h1]
    refine keyL_box (by rw [digs_length, h7]) (fun i x b hi hb => ?_)
    have hi7 := lt_of_some hi
    rw [digs_length] at hi7
    rw [digs_at hi7] at hi
    obtain rfl := Option.some.inj hi
    exact ⟨(dig_isD p.1 i).1, h2 i b hb hi7⟩)
  rw [List.length_map] at this
  exact this
end Go.Proofs.Ytblhndkaikelaaa

namespace Go.Proofs.Ytblhndkaikelaaa
open Go.RowKit

def sw : List Int → Nat → List Int
  | a :: b :: r, 0 => b :: a :: r
  | a :: r, k + 1 => a :: sw r k
  | l, _ => l
theorem sw_swp {w : List Int} : ∀ {k : Nat}, k + 1 < w.length → swp w k (k + 1) = sw w k := by
  induction w with
  | nil => intro k h; simp at h
  | cons a r ih =>
    intro k h
    cases k with
    | zero =>
      cases r with
      | nil => simp at h
      | cons b r => rfl
    | succ k =>
      have h2 := ih (k := k) (by simpa using h)
      unfold swp at h2 ⊢
      cases r with
      | nil => simp at h
      | cons b r =>
        rw [sw, ← h2]
        rfl
theorem sw_perm (w : List Int) : ∀ k : Nat, (sw w k).Perm w := by
  induction w with
  | nil => intro k; cases k <;> exact List.Perm.refl _
  | cons a r ih =>
    intro k
    cases k with
    | zero =>
      cases r with
      | nil => exact List.Perm.refl _
      | cons b r => exact List.Perm.swap _ _ _
    | succ k => rw [sw]; exact (ih k).cons a
theorem sw_length (w : List Int) (k : Nat) : (sw w k).length = w.length := (sw_perm w k).length_eq
/-- how many pairs rise -/
def nin : List Int → Nat
  | [] => 0
  | a :: r => (r.filter fun x => decide (a < x)).length + nin r
def asc : List Int → Option Nat
  | a :: b :: r => if a < b then some 0 else (asc (b :: r)).map (· + 1)
  | _ => none
theorem asc_some {w : List Int} : ∀ {k : Nat}, asc w = some k → ∃ x y, w[k]? = some x ∧ w[k + 1]? = some y ∧ x < y ∧ ∀ (j : Nat) (u v : Int), j < k → w[j]? = some u → w[j + 1]? = some v → ¬ u < v := by
  induction w with
  | nil => intro k h; simp [asc] at h
  | cons a r ih =>
    intro k h
    cases r with
    | nil => simp [asc] at h
    | cons b r =>
      rw [asc] at h
      split at h
      · rename_i hab
        obtain rfl := Option.some.inj h
        exact ⟨a, b, rfl, rfl, hab, fun j _ _ hj => by omega⟩
      · rename_i hab
        obtain ⟨q, hq, rfl⟩ := Option.map_eq_some_iff.1 h
        obtain ⟨x, y, h1, h2, h3, h4⟩ := ih hq
        refine ⟨x, y, h1, h2, h3, fun j u v hj hu hv => ?_⟩
        cases j with
        | zero =>
          obtain rfl : a = u := Option.some.inj hu
          obtain rfl : b = v := Option.some.inj hv
          exact hab
        | succ j => exact h4 j u v (by omega) hu hv
theorem asc_none {w : List Int} (h : asc w = none) : ∀ (j : Nat) (u v : Int), w[j]? = some u → w[j + 1]? = some v → ¬ u < v := by
  induction w with
  | nil => intro j u v hu; simp at hu
  | cons a r ih =>
    intro j u v hu hv
    cases r with
    | nil => simp at hv
    | cons b r =>
      rw [asc] at h
      split at h
      · cases h
      · rename_i hab
        have h2 := Option.map_eq_none_iff.1 h
        cases j with
        | zero =>
          obtain rfl : a = u := Option.some.inj hu
          obtain rfl : b = v := Option.some.inj hv
          exact hab
        | succ j => exact ih h2 j u v hu hv
theorem asc_at {w : List Int} {k : Nat} {x y : Int} (hx : w[k]? = some x) (hy : w[k + 1]? = some y) (h : x < y) (hb : ∀ (j : Nat) (u v : Int), j < k → w[j]? = some u → w[j + 1]? = some v → ¬ u < v) : asc w = some k := by
  cases ha : asc w with
  | none => exact absurd h (asc_none ha k x y hx hy)
  | some q =>
    obtain ⟨x', y', h1, h2, h3, h4⟩ := asc_some ha
    rcases Nat.lt_trichotomy q k with hq | hq | hq
    · exact absurd h3 (hb q x' y' hq h1 h2)
    · rw [hq]
    · exact absurd h (h4 k x y hq hx hy)
theorem asc_all {w : List Int} (hb : ∀ (j : Nat) (u v : Int), w[j]? = some u → w[j + 1]? = some v → ¬ u < v) : asc w = none := by
  cases ha : asc w with
  | none => rfl
  | some q =>
    obtain ⟨x, y, h1, h2, h3, _⟩ := asc_some ha
    exact absurd h3 (hb q x y h1 h2)
theorem nin_sw {w : List Int} : ∀ {k : Nat}, asc w = some k → nin (sw w k) + 1 = nin w := by
  induction w with
  | nil => intro k h; simp [asc] at h
  | cons a r ih =>
    intro k h
    cases r with
    | nil => simp [asc] at h
    | cons b r =>
      rw [asc] at h
      split at h
      · rename_i hab
        obtain rfl := Option.some.inj h
        have hba : ¬ b < a := by omega
        simp only [sw, nin, List.filter_cons, hab, hba, decide_true, decide_false, if_true, List.length_cons]
        simp
        omega
      · rename_i hab
        obtain ⟨q, hq, rfl⟩ := Option.map_eq_some_iff.1 h
        have h1 := ih hq
        have h2 := ((sw_perm (b :: r) q).filter fun x => decide (a < x)).length_eq
        show nin (a :: sw (b :: r) q) + 1 = nin (a :: b :: r)
        rw [nin, h2]
        show _ = (List.filter (fun x => decide (a < x)) (b :: r)).length + nin (b :: r)
        omega
def upf : Nat → List Int → List Nat
  | 0, _ => []
  | f + 1, w => match asc w with
    | none => []
    | some k => k :: upf f (sw w k)
def endf : Nat → List Int → List Int
  | 0, w => w
  | f + 1, w => match asc w with
    | none => w
    | some k => endf f (sw w k)
/-- the places of the first ascents, one behind the other; and what is left, which falls -/
def ups (w : List Int) : List Nat := upf (nin w) w
def fell (w : List Int) : List Int := endf (nin w) w
theorem ups_some {w : List Int} {k : Nat} (h : asc w = some k) : ups w = k :: ups (sw w k) ∧ fell w = fell (sw w k) := by
  have h1 := nin_sw h
  unfold ups fell
  rw [← h1, upf, endf, h]
  exact ⟨rfl, rfl⟩
theorem ups_none {w : List Int} (h : asc w = none) : ups w = [] ∧ fell w = w := by
  unfold ups fell
  cases nin w with
  | zero => exact ⟨rfl, rfl⟩
  | succ n => rw [upf, endf, h]; exact ⟨rfl, rfl⟩
theorem fell_perm (w : List Int) : (fell w).Perm w := by
  have : ∀ n v, (endf n v).Perm v := by
    intro n
    induction n with
    | zero => intro v; exact List.Perm.refl _
    | succ n ih =>
      intro v
      rw [endf]
      split
      · exact List.Perm.refl _
      · exact (ih _).trans (sw_perm _ _)
  exact this _ w
theorem asc_lt {w : List Int} {k : Nat} (h : asc w = some k) : k + 1 < w.length := by
  obtain ⟨_, y, _, h2, _⟩ := asc_some h
  exact (List.getElem?_eq_some_iff.1 h2).1
theorem ups_lt (w : List Int) : ∀ k ∈ ups w, k + 1 < w.length := by
  have : ∀ n v, ∀ k ∈ upf n v, k + 1 < v.length := by
    intro n
    induction n with
    | zero => intro v k hk; cases hk
    | succ n ih =>
      intro v k hk
      rw [upf] at hk
      split at hk
      · cases hk
      · rename_i q hq
        rcases List.mem_cons.1 hk with rfl | hk
        · exact asc_lt hq
        · have := ih _ k hk
          rw [sw_length] at this
          exact this
  exact this _ w
end Go.Proofs.Ytblhndkaikelaaa

namespace Go.Proofs.Ytblhndkaikelaaa
open Go.RowKit

def lenOf : Value → Nat
  | .slice _ n _ => n
  | _ => 0
def natI (l : List Nat) : List Int := l.map fun k : Nat => (k : Int)
theorem natI_append (l : List Nat) (k : Nat) : natI (l ++ [k]) = natI l ++ [(k : Int)] := by simp [natI]
/-- no ascent ahead of place k -/
def flat (v : List Int) (k : Nat) : Prop := ∀ (j : Nat) (p q : Int), j < k → v[j]? = some p → v[j + 1]? = some q → ¬ p < q

set_option maxRecDepth 100000 in
set_option maxHeartbeats 6400000 in
theorem l3Up_any (a : Option Addr) (n c : Nat) (xs : List Int) (w : World) (hr : RI w a xs) (hn : xs.length = n) (hb : n ≤ 1000) (hN : nin xs ≤ 1000000) :
    Calls Try.prog 72 #[.slice a n c] w fun e w' => ∃ a' m c', e = .returned (.slice a' m c') ∧ OwI w' w.heap.size w'.heap.size a' m c' (natI (ups xs)) ∧ Below w.heap.size w w' := by
  have Hn := Lib.hid hn; clear hn
  obtain ⟨N, hN'⟩ : ∃ N, nin xs = N := ⟨_, rfl⟩
  rw [hN'] at hN
  have HN := Lib.hid hN'
  clear hN'
  have h1 : OwI (w.alloc (.cells #[] 3)) w.heap.size (w.alloc (.cells #[] 3)).heap.size (some ⟨w.heap.size, 0, none⟩) 0 0 [] := OwI.mk (World.ownsRow_made _ #[] 0 (Nat.le_refl _) (Nat.zero_le _) rfl)
  have hB0 : Below w.heap.size w (w.alloc (.cells #[] 3)) := (Below.refl _ _).alloc (Nat.le_refl _) _
  have hr0 := hr.below hB0
  go_enter Try.func72, Try.ntmps72
  go_wp2_with fail
  refine (l1Ints_any _ _ _ xs _ hr0 Hn.out (by omega)).mono ?_
  rintro e w1 ⟨a1, c1, rfl, ho1, hb1⟩
  have hB1 := hB0.trans (hb1.mono hB0.size)
  have hO1 := (h1.below hb1).mono (B' := w.heap.size) (S' := w1.heap.size) (Nat.le_refl _) hb1.size
  have hne : ∀ g, (Value.slice a1 n c1).ownBlock = some g → (Value.slice (some ⟨w.heap.size, 0, none⟩) 0 0).ownBlock ≠ some g := by
    intro g hg e
    have h2 := ho1.1.lo g hg
    simp [Value.ownBlock] at e
    subst e
    simp at h2
    omega
  have hsz : w.heap.size ≤ (w.alloc (.cells #[] 3)).heap.size := hB0.size
  have hV1 := ho1.mono (B' := w.heap.size) (S' := w1.heap.size) hsz (Nat.le_refl _)
  clear h1 hr0 hB0 ho1 hb1 hsz
  go_wp2
  go_loopw [3, 4, 5] (fun ov vv kv wr => Hid (∃ (k : Nat) (don : List Nat) (v : List Int) (a1 : Option Addr) (m c1 : Nat) (a2 : Option Addr) (c2 : Nat), kv = .int .i64 k ∧ k ≤ n ∧ ov = .slice a1 m c1 ∧ vv = .slice a2 n c2 ∧ OwI wr w.heap.size wr.heap.size a1 m c1 (natI don) ∧ OwI wr w.heap.size wr.heap.size a2 n c2 v ∧ (∀ g, (Value.slice a2 n c2).ownBlock = some g → (Value.slice a1 m c1).ownBlock ≠ some g) ∧ ups xs = don ++ ups v ∧ flat v k ∧ m + nin v = N) ∧ Below w.heap.size w wr) (fun ov _ kv _ => (N - lenOf ov) * (n + 1) + (n - (intOf kv).toNat))
  case atStart => exact ⟨⟨0, [], xs, _, 0, _, _, _, rfl, Nat.zero_le _, rfl, rfl, hO1, hV1, hne, rfl, fun j _ _ hj => by omega, by rw [HN.out]; omega⟩, hB1⟩
  case round =>
    clear hO1 hV1 hne hB1
    obtain ⟨HV, hB⟩ := hrel
    obtain ⟨wo, rfl⟩ : ∃ wo : World, wo = wr := ⟨_, rfl⟩
    obtain ⟨k, don, v, a1, m, c1, a2, c2, rfl, hk, rfl, rfl, hO, hV, hne, hup, hfl, hmN⟩ := HV.out
    clear HV
    have Hvl := Lib.hid hV.len
    have Hup := Lib.hid hup
    have Hfl := Lib.hid hfl
    have Hml := Lib.hid hO.len
    clear hup hfl
    have hbs := hB.size
    by_cases hlt : k + 1 < n
    · obtain ⟨x, hx⟩ := some_at Hvl.out (show k < n by omega)
      obtain ⟨y, hy⟩ := some_at Hvl.out hlt
      obtain ⟨b, off, hab, hcell⟩ := hV.rd.at (k := k) (by rw [Hvl.out]; omega)
      have p1 := hcell k x hx
      have p2 := hcell (k + 1) y hy
      have q1 : (k : Int) + 1 < (n : Int) := by omega
      have q2 : (k : Int) < (n : Int) := by omega
      have q3 : IntKind.i64.wrap ((k : Int) + 1) = ((k + 1 : Nat) : Int) := by rw [IntWalk.i64_in _ (by omega)]; omega
      have q4 : ((k + 1 : Nat) : Int) < (n : Int) := by omega
      have Hx := Lib.hid hx
      have Hy := Lib.hid hy
      clear hcell hx hy
      subst hab
      by_cases hxy : x < y
      · have Hasc := Lib.hid (asc_at Hx.out Hy.out hxy Hfl.out)
        have hnin := nin_sw Hasc.out
        have Hus := Lib.hid (ups_some Hasc.out).1
        have Hsw := Lib.hid (sw_swp (w := v) (k := k) (by rw [Hvl.out]; exact hlt))
        have HO := Lib.hid (fun d : Nat => hO.below (Drew.below (Drew.drewN wo d) _))
        have HVr := Lib.hid (fun d : Nat => hV.rd.below (Drew.below (Drew.drewN wo d) _))
        have hBd : ∀ d : Nat, Below w.heap.size w (wo.drewN d) := fun d => hB.trans (Drew.below (Drew.drewN wo d) _)
        have HBd := Lib.hid hBd
        have hg : decide (x < y) = true := by simp [hxy]
        clear hO hV hne hBd
        go_wp2
        go_quiet (fail)
        go_wp2_with fail
        refine (l1Swap_any _ _ _ v k (k + 1) _ _ _ (HVr.out _) Hvl.out (by omega) rfl rfl (by omega) hlt).mono ?_
        rintro e w2 ⟨a3, c3, rfl, ho3, hb3⟩
        rw [Hsw.out] at ho3
        have HO2 := Lib.hid ((HO.out _).below hb3)
        have hB2 := (HBd.out _).trans (hb3.mono (HBd.out _).size)
        have Ho3 := Lib.hid ho3
        have hs2 := hB2.size
        have hne2 : ∀ g, (Value.slice a3 n c3).ownBlock = some g → (Value.slice a1 m c1).ownBlock ≠ some g := by
          intro g hg e
          have e1 := Ho3.out.1.lo g hg
          have e2 := (HO.out 0).2 g e
          simp at e1 e2
          omega
        have Hne2 := Lib.hid hne2
        clear ho3 hb3 hne2 HVr HO
        go_wp2_with (first | (at_builtin; go_loud (refine wpList_pushI (by rfl) (by rfl) _ _ (by rfl) HO2.out (by rfl) (by rfl) (by omega) hs2 ?_)))
        intro a4 c4 w4 ho4 hg4
        have hB4 := below_grown hB2 hg4.grown hs2 HO2.out.1.lo
        have hv4 : OwI w4 w.heap.size w4.heap.size a3 n c3 (sw v k) := by
          have h5 : OwI w4 _ _ a3 n c3 (sw v k) := ⟨Ho3.out.1.kept hg4.grown (fun g hg e => Hne2.out g hg e), Ho3.out.2⟩
          exact h5.mono hbs hg4.grown.size
        have hne4 : ∀ g, (Value.slice a3 n c3).ownBlock = some g → (Value.slice a4 (m + 1) c4).ownBlock ≠ some g := by
          intro g hg e
          rcases hg4.home with h6 | h6
          · rw [h6] at e
            exact Hne2.out g hg e
          · have e1 := h6 g e
            have e2 := Ho3.out.2 g hg
            omega
        rw [← natI_append] at ho4
        have HF := Lib.hid (And.intro ho4 (And.intro hv4 hne4))
        clear ho4 hv4 hne4 HO2 Ho3 Hne2 hg4 HBd
        go_wp2
        go_roundw
        case rel => exact ⟨⟨0, don ++ [k], sw v k, _, m + 1, _, _, _, by go_num, Nat.zero_le _, rfl, rfl, HF.out.1, HF.out.2.1, HF.out.2.2, by rw [Hup.out, Hus.out, List.append_assoc]; rfl, fun j _ _ hj => by omega, by omega⟩, hB4⟩
        case measure =>
          simp only [lenOf, intOf]
          obtain ⟨r, hr'⟩ : ∃ r, N - m = r + 1 := ⟨N - m - 1, by omega⟩
          have e2 : N - (m + 1) = r := by omega
          rw [hr', e2, Nat.succ_mul]
          simp
          omega
      · have HF := Lib.hid (And.intro (hO.below (Drew.below (Drew.drewN wo 1) _)) (And.intro (hV.below (Drew.below (Drew.drewN wo 1) _)) hne))
        have Hfl2 := Lib.hid (show flat v (k + 1) from fun j p q hj hp hq => by
          rcases Nat.lt_or_ge j k with h | h
          · exact Hfl.out j p q h hp hq
          · obtain rfl : j = k := by omega
            rw [Hx.out] at hp
            rw [Hy.out] at hq
            obtain rfl := Option.some.inj hp
            obtain rfl := Option.some.inj hq
            exact hxy)
        have hBd : ∀ d : Nat, Below w.heap.size w (wo.drewN d) := fun d => hB.trans (Drew.below (Drew.drewN wo d) _)
        have HG := Lib.hid (fun d : Nat => And.intro (hO.below (Drew.below (Drew.drewN wo d) _)) (And.intro (hV.below (Drew.below (Drew.drewN wo d) _)) hne))
        have HBd := Lib.hid hBd
        have hg : decide (x < y) = false := by simp [hxy]
        clear hO hV hne hBd HF
        go_wp2
        go_quiet (fail)
        go_wp2
        go_roundw
        case rel => exact ⟨⟨k + 1, don, v, _, m, _, _, _, by go_num, by omega, rfl, rfl, (HG.out _).1, (HG.out _).2.1, (HG.out 0).2.2, Hup.out, Hfl2.out, hmN⟩, HBd.out _⟩
        case measure =>
          simp only [lenOf, intOf]
          simp
          omega
    · have Hnone := Lib.hid (ups_none (asc_all (w := v) (fun j p q hp hq => by
        have := (List.getElem?_eq_some_iff.1 hq).1
        rw [Hvl.out] at this
        exact Hfl.out j p q (by omega) hp hq))).1
      have hfin : OwI wo w.heap.size wo.heap.size a1 m c1 (natI (ups xs)) := by rw [Hup.out, Hnone.out, List.append_nil]; exact hO
      have q1 : ¬ (k : Int) + 1 < (n : Int) := by omega
      have HF := Lib.hid hfin
      clear hfin hO hV hne
      go_wp2
      go_ret
      exact ⟨_, _, _, rfl, HF.out, hB⟩
end Go.Proofs.Ytblhndkaikelaaa

namespace Go.Proofs.Ytblhndkaikelaaa
open Go.RowKit

/-- the first j exponents of the staircase of n, as a key -/
def partK (n j : Nat) : Int := (List.range j).foldl (fun k i => k + ((n : Int) - 1 - i) * unit i) 0
theorem partK_succ (n j : Nat) : partK n (j + 1) = partK n j + ((n : Int) - 1 - j) * unit j := by
  unfold partK
  rw [List.range_succ, List.foldl_append]
  rfl
theorem partK_in : ∀ n, n < 8 → ∀ j, j < 8 → j ≤ n → 0 ≤ partK n j ∧ partK n j < 562949953421312 ∧ 0 ≤ ((n : Int) - 1 - j) * unit j + 128 ^ 7 ∧ ((n : Int) - 1 - j) * unit j < 562949953421312 := by decide
theorem MO.one (w : World) (p q : Int) : MO (w.alloc (.cells #[.int .i64 p, .int .i64 q] 78)) w.heap.size (w.alloc (.cells #[.int .i64 p, .int .i64 q] 78)).heap.size (some ⟨w.heap.size, 0, none⟩) 1 1 [(p, q)] :=
  MO.mk ⟨rfl, .inr ⟨w.heap.size, 1, #[.int .i64 p, .int .i64 q], rfl, Nat.le_refl _, heap_alloc_new w _, Nat.le_refl _, by unfold maxLen; omega, rfl, rfl⟩⟩
set_option maxRecDepth 100000 in
set_option maxHeartbeats 3200000 in
theorem l3Stair_any (n : Nat) (w : World) (hn : n ≤ 7) :
    Calls Try.prog 71 #[.int .i64 n] w fun e w' => ∃ a' c', e = .returned (.slice a' 1 c') ∧ MO w' w.heap.size w'.heap.size a' 1 c' [(partK n n, 1)] ∧ Below w.heap.size w w' := by
  have q0 : IntKind.i64.wrap ((n : Int) - 1) = (n : Int) - 1 := IntWalk.i64_in _ (by omega)
  go_enter Try.func71, Try.ntmps71
  go_wp2
  go_loopw [3, 4] (fun kv iv wr => ∃ j : Nat, j ≤ n ∧ iv = .int .i64 j ∧ kv = .int .i64 (partK n j) ∧ wr = w) (fun _ iv _ => n - (intOf iv).toNat)
  case atStart => exact ⟨0, Nat.zero_le _, rfl, rfl, rfl⟩
  case round =>
    obtain ⟨j, hj, rfl, rfl, rfl⟩ := hrel
    by_cases hlt : j < n
    · obtain ⟨b1, b2, b3, b4⟩ := partK_in n (by omega) j (by omega) hj
      obtain ⟨b5, b6, _, _⟩ := partK_in n (by omega) (j + 1) (by omega) hlt
      have Hs := Lib.hid (partK_succ n j)
      rw [Hs.out] at b5 b6
      have q1 : (j : Int) < (n : Int) := by omega
      have q2 : IntKind.i64.wrap ((n : Int) - 1 - j) = (n : Int) - 1 - j := IntWalk.i64_in _ (by omega)
      have HU := Lib.hid (l2Unit_any j)
      generalize unit j = u at *
      have q3 : IntKind.i64.wrap (((n : Int) - 1 - j) * u) = ((n : Int) - 1 - j) * u := IntWalk.i64_in _ (by omega)
      have q4 : IntKind.i64.wrap (partK n j + ((n : Int) - 1 - j) * u) = partK n j + ((n : Int) - 1 - j) * u := IntWalk.i64_in _ (by omega)
      go_wp2_with fail
      refine (HU.out _ _ rfl (by omega)).mono ?_
      rintro e w1 ⟨rfl, hw⟩
      subst hw
      go_wp2
      go_roundw
      case rel => exact ⟨j + 1, by omega, by go_num, by rw [Hs.out], trivial⟩
      case measure => clear q2 q3 q4; simp [intOf]; omega
    · obtain rfl : j = n := by omega
      have HM := Lib.hid (MO.one wr (partK j j) 1)
      have hB : Below wr.heap.size wr (wr.alloc (.cells #[.int .i64 (partK j j), .int .i64 1] 78)) := (Below.refl _ _).alloc (Nat.le_refl _) _
      go_wp2
      go_ret
      exact ⟨_, _, rfl, HM.out, hB⟩
end Go.Proofs.Ytblhndkaikelaaa

namespace Go.Proofs.Ytblhndkaikelaaa
open Go.RowKit

def B7 (F : Mons) : Prop := ∀ p ∈ F, inK p.1 ∧ ∀ j : Nat, j < 7 → dig p.1 j < 7 - (j : Int)
theorem B7.bx {F : Mons} (h : B7 F) : Bx [7, 6, 5, 4, 3, 2, 1] F := fun p hp => ⟨(h p hp).1, fun i b hb hi => by
  have h2 := (h p hp).2 i hi
  have hc : i = 0 ∨ i = 1 ∨ i = 2 ∨ i = 3 ∨ i = 4 ∨ i = 5 ∨ i = 6 := by omega
  rcases hc with rfl | rfl | rfl | rfl | rfl | rfl | rfl <;> simp at hb <;> omega⟩
theorem B7.count {F : Mons} (h : B7 F) : (canon F).length ≤ 5040 := h.bx.count rfl
theorem B7.canon {F : Mons} (h : B7 F) : B7 (canon F) := fun p hp => by
  obtain ⟨q, hq, e⟩ := mem_canon hp
  rw [← e]
  exact h q hq
theorem B7.divided {F : Mons} (h : B7 F) {i : Nat} (hi : i ≤ 5) : B7 (dividedM i F) := fun p hp => by
  obtain ⟨q, hq, hp⟩ := List.mem_flatMap.1 hp
  obtain ⟨k, hk, rfl⟩ := List.mem_map.1 hp
  obtain ⟨h1, h2⟩ := h q hq
  obtain ⟨h3, h4, h5, h6⟩ := dd_key h1 hi hk
  refine ⟨h3, fun j hj => ?_⟩
  have b1 := h2 i (by omega)
  have b2 := h2 (i + 1) (by omega)
  by_cases e : j = i
  · subst e; show dig k j < _; omega
  · by_cases e' : j = i + 1
    · subst e'; show dig k (i + 1) < _; omega
    · show dig k j < _
      rw [h6 j hj e e']
      exact h2 j hj
theorem B7.bd {F : Mons} (h : B7 F) : Bd 24 F := fun p hp => ⟨(h p hp).1, fun j hj => by have := (h p hp).2 j hj; omega⟩
theorem partK_digs : ∀ n, n < 8 → ∀ j : Nat, j < 7 → dig (partK n n) j < 7 - (j : Int) := by decide
theorem B7.stair {n : Nat} (hn : n ≤ 7) : B7 [(partK n n, 1)] := fun p hp => by
  rw [List.mem_singleton] at hp
  subst hp
  obtain ⟨h1, h2, _⟩ := partK_in n (by omega) n (by omega) (Nat.le_refl _)
  exact ⟨⟨h1, h2⟩, partK_digs n (by omega)⟩
def lowM (op : Nat → Mons → Mons) (w : List Int) (F : Mons) : Mons := (ups w).foldr op F
theorem B7.low {F : Mons} (h : B7 F) : ∀ l : List Nat, (∀ k ∈ l, k ≤ 5) → B7 (l.foldr dividedM F) := by
  intro l
  induction l with
  | nil => intro _; exact h
  | cons k l ih => intro hl; exact (ih fun q hq => hl q (List.mem_cons_of_mem _ hq)).divided (hl k List.mem_cons_self)
theorem canon_one {k c : Int} (h0 : c ≠ 0) (hc : in64 c) : canon [(k, c)] = [(k, c)] :=
  (canon_unique (List.pairwise_singleton _ _) (fun p hp => by rw [List.mem_singleton] at hp; subst hp; exact ⟨h0, hc.1, hc.2⟩) (Eqv.refl _)).symm
end Go.Proofs.Ytblhndkaikelaaa

namespace Go.Proofs.Ytblhndkaikelaaa
open Go.RowKit

theorem nin_le (l : List Int) : nin l ≤ l.length * l.length := by
  induction l with
  | nil => exact Nat.le_refl _
  | cons a r ih =>
    rw [nin, List.length_cons, Nat.succ_mul, Nat.mul_succ]
    have := List.length_filter_le (fun x => decide (a < x)) r
    omega
theorem upf_le : ∀ (f : Nat) (w : List Int), (upf f w).length ≤ f := by
  intro f
  induction f with
  | zero => intro w; exact Nat.le_refl _
  | succ f ih =>
    intro w
    rw [upf]
    split
    · exact Nat.zero_le _
    · rw [List.length_cons]; exact Nat.succ_le_succ (ih _)
theorem nin_small {v : List Int} (h : v.length ≤ 7) : nin v ≤ 49 := Nat.le_trans (nin_le v) (Nat.mul_le_mul h h)
def schM (v : List Int) (m : Nat) : Mons := (ups v).foldr dividedM [(partK m m, 1)]
set_option maxRecDepth 100000 in
set_option maxHeartbeats 3200000 in
theorem l3Schubert_any (a : Option Addr) (n c : Nat) (xs : List Int) (w : World) (hr : RI w a xs) (hn : xs.length = n) (hb : n ≤ 7) (hnc : n ≤ c) :
    Calls Try.prog 52 #[.slice a n c] w fun e w' => ∃ a' n' c', e = .returned (.slice a' n' c') ∧ MO w' w.heap.size w'.heap.size a' n' c' (canon (schM (xs.take (trimLen xs n)) (trimLen xs n))) ∧ Below w.heap.size w w' := by
  have Hn := Lib.hid hn; clear hn
  have HT := Lib.hid (fun w => l1Trim_any a n c xs w)
  have hmn := trimLen_le xs n
  obtain ⟨m, hm⟩ : ∃ m, trimLen xs n = m := ⟨_, rfl⟩
  rw [hm] at HT hmn ⊢
  obtain ⟨v, hv⟩ : ∃ v, xs.take m = v := ⟨_, rfl⟩
  have Hvl := Lib.hid (show v.length = m by rw [← hv, List.length_take, Hn.out]; omega)
  rw [hv] at HT ⊢
  clear hm hv
  have HB7 := Lib.hid (B7.stair (n := m) (by omega))
  have Hu5 := Lib.hid (show ∀ k ∈ ups v, k ≤ 5 from fun k hk => by have := ups_lt v k hk; rw [Hvl.out] at this; omega)
  have h49 := nin_small (v := v) (by rw [Hvl.out]; omega)
  have HNv := Lib.hid (show nin v ≤ 1000000 by omega)
  go_enter Try.func52, Try.ntmps52
  go_wp2_with fail
  refine (HT.out _ hr Hn.out (by omega) hnc).mono ?_
  rintro e w1 ⟨a1, c1, rfl, ho1, hb1⟩
  have Ho1 := Lib.hid ho1
  clear ho1
  go_wp2_with fail
  refine (l3Stair_any m _ (by omega)).mono ?_
  rintro e w2 ⟨a2, c2, rfl, ho2, hb2⟩
  have hB2 := hb1.trans (hb2.mono hb1.size)
  have Ho2 := Lib.hid ho2
  have Ho12 := Lib.hid (Ho1.out.below hb2)
  clear ho2
  go_wp2_with fail
  refine (l3Up_any _ _ _ v _ Ho12.out.rd Hvl.out (by omega) HNv.out).mono ?_
  rintro e w3 ⟨a3, L, c3, rfl, ho3, hb3⟩
  have hB3 := hB2.trans (hb3.mono hB2.size)
  have Hr3 := Lib.hid ho3.rd
  have Hl3 := Lib.hid (show (ups v).length = L by have := ho3.len; simpa [natI] using this)
  have HF0 := Lib.hid (show MO w3 w.heap.size w3.heap.size a2 1 c2 (canon (((ups v).drop L).foldr dividedM [(partK m m, 1)])) by
    rw [List.drop_of_length_le (by rw [Hl3.out]; exact Nat.le_refl _), List.foldr_nil, canon_one (by decide) (by unfold in64; omega)]
    exact (Ho2.out.below hb3).mono hb1.size hb3.size)
  have hL : L ≤ 1000000 := by have := upf_le (nin v) v; have h2 := Hl3.out; unfold ups at h2; omega
  clear h49
  clear ho3 Ho1 Ho2 Ho12
  have q0 : IntKind.i64.wrap ((L : Int) - 1) = (L : Int) - 1 := IntWalk.i64_in _ (by omega)
  go_wp2
  go_loopw [4, 6] (fun fv iv wr => Hid (∃ (j : Nat) (a' : Option Addr) (n' c' : Nat), j ≤ L ∧ iv = .int .i64 ((j : Int) - 1) ∧ fv = .slice a' n' c' ∧ MO wr w.heap.size wr.heap.size a' n' c' (canon (((ups v).drop j).foldr dividedM [(partK m m, 1)]))) ∧ Below w3.heap.size w3 wr) (fun _ iv _ => (intOf iv + 1).toNat)
  case atStart => exact ⟨⟨L, _, _, _, Nat.le_refl _, rfl, rfl, HF0.out⟩, Below.refl _ _⟩
  case round =>
    clear HF0 q0
    obtain ⟨HV, hB⟩ := hrel
    obtain ⟨wo, rfl⟩ : ∃ wo : World, wo = wr := ⟨_, rfl⟩
    obtain ⟨j, a4, n4, c4, hj, rfl, rfl, hM⟩ := HV.out
    clear HV
    have hBw := hB3.trans (hB.mono hB3.size)
    rcases j with _ | j
    · rw [List.drop_zero] at hM
      have HM := Lib.hid hM
      clear hM
      go_wp2
      go_ret
      exact ⟨_, _, _, rfl, HM.out, hBw⟩
    · obtain ⟨k, hk⟩ : ∃ k, (ups v)[j]? = some k := ⟨(ups v)[j]'(by rw [Hl3.out]; omega), List.getElem?_eq_getElem _⟩
      have hk5 := Hu5.out k (List.mem_of_getElem? hk)
      obtain ⟨b, off, rfl, hcell⟩ := (Hr3.out.below hB).at (k := j) (by rw [natI, List.length_map, Hl3.out]; omega)
      have p1 := hcell j (k : Int) (by rw [natI, List.getElem?_map, hk]; rfl)
      have hF7 : B7 (((ups v).drop (j + 1)).foldr dividedM [(partK m m, 1)]) := HB7.out.low _ (fun q hq => Hu5.out q (List.mem_of_mem_drop hq))
      have Hst := Lib.hid (show canon (dividedM k (canon (((ups v).drop (j + 1)).foldr dividedM [(partK m m, 1)]))) = canon (((ups v).drop j).foldr dividedM [(partK m m, 1)]) by
        rw [drop_at hk, List.foldr_cons]
        exact canon_eqv (dividedM_eqv (canon_self _)))
      have hcnt := hF7.count
      have Hlen := Lib.hid hM.len
      rw [Hlen.out] at hcnt
      have Hk4 := Lib.hid (show ∀ p ∈ canon (((ups v).drop (j + 1)).foldr dividedM [(partK m m, 1)]), inK p.1 ∧ in64 p.2 from fun p hp => ⟨(hF7.canon p hp).1, canon_64 _ p hp⟩)
      have HM := Lib.hid hM
      clear hM hk hcell hF7
      have e1 : ((j + 1 : Nat) : Int) - 1 = (j : Int) := by omega
      rw [e1]
      have q1 : (j : Int) < (L : Int) := by omega
      have q2 : (0 : Int) ≤ (j : Int) := by omega
      have q5 : IntKind.i64.wrap ((j : Int) - 1) = (j : Int) - 1 := IntWalk.i64_in _ (by omega)
      clear e1
      go_wp2_with fail
      refine (l2Divided_any k _ _ _ _ _ _ HM.out.rd Hlen.out (by omega) rfl hk5 Hk4.out (Nat.le_trans (dividedW_le _ _) (by rw [Hlen.out]; omega))).mono ?_
      rintro e w5 ⟨a5, n5, c5, rfl, ho5, hb5⟩
      rw [Hst.out] at ho5
      have HM5 := Lib.hid (ho5.mono (B' := w.heap.size) (S' := w5.heap.size) hBw.size (Nat.le_refl _))
      have hB5 := hB.trans (hb5.mono hB.size)
      clear ho5 hb5 HM
      go_wp2
      go_roundw
      case rel => exact ⟨⟨j, _, _, _, by omega, rfl, rfl, HM5.out⟩, hB5⟩
      case measure => clear q5; simp [intOf]
end Go.Proofs.Ytblhndkaikelaaa
