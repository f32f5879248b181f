/-
  Contract of DrawClassesPoly: what is known of the classes drawn.
-/
import Derived.Test.YtomejjbkakpoiaaGreatL3AddG
import Derived.Test.YtomejjbkakpoiaaGreatBuE32
namespace Go.Proofs.YtomejjbkakpoiaaGreat
open Go.RowKit

/-- a class of a permutation of at most 4, without what is not moved at its end, the number at most D -/
def DrawnK (D : Int) (p : List Int × Int) : Prop := (∃ n u, 1 ≤ n ∧ n ≤ 4 ∧ u ∈ perms n ∧ p.1 = u.take (trimLen u n)) ∧ -D ≤ p.2 ∧ p.2 ≤ D
theorem DrawnK.mono {D E : Int} {p : List Int × Int} (h : DrawnK D p) (hDE : D ≤ E) : DrawnK E p := ⟨h.1, by have := h.2.1; omega, by have := h.2.2; omega⟩
theorem DrawnK.short {D : Int} {p : List Int × Int} (h : DrawnK D p) : p.1.length ≤ 4 := by
  obtain ⟨⟨n, u, h1, h4, hu, e⟩, _⟩ := h
  have := (perms_ok hu h1 (by omega)).1
  rw [e, List.length_take]
  omega
theorem drawn_add {D : Int} {xs : List (List Int × Int)} {n : Nat} {u : List Int} {x : Int} (h : ∀ p ∈ xs, DrawnK D p) (h1 : 1 ≤ n) (h4 : n ≤ 4) (hu : u ∈ perms n) (hx : -3 ≤ x ∧ x ≤ 3) (hD : 0 ≤ D) {z : List Int × Int} (hz : FromAdd xs (u.take (trimLen u n)) x z) : DrawnK (D + 3) z := by
  rcases hz with hz | ⟨e, hz⟩
  · exact (h z hz).mono (by omega)
  · refine ⟨⟨n, u, h1, h4, hu, e⟩, ?_⟩
    rcases hz with hz | ⟨q, hq, hz⟩
    · omega
    · have := (h q hq).2
      omega
theorem KN.put {w : World} {B S g n c : Nat} {xs : List (List Int × Int)} (h : KN w B S (some ⟨g, 0, none⟩) n c xs) {j : Nat} {p : List Int × Int} (hp : xs[j]? = some p) (t : Int) :
    w.cell? ⟨g, j * 2 + 1, none⟩ = some (.int .i64 p.2) ∧ w.frozen? ⟨g, j * 2 + 1, none⟩ = false ∧ B ≤ g ∧ g < S ∧
      KN (w.setCell ⟨g, j * 2 + 1, none⟩ (.int .i64 t)) B S (some ⟨g, 0, none⟩) n c (xs.set j (p.1, t)) ∧ w.grownBy (w.setCell ⟨g, j * 2 + 1, none⟩ (.int .i64 t)) (some g) := by
  obtain ⟨vs, h1, h2, h3⟩ := h
  obtain ⟨a, c1, e1, e2, ho⟩ := h3.each j p hp
  have hs := h1.stored (j * 2 + 1) (.int .i64 t)
  have hjl := lt_of_some hp
  refine ⟨?_, h1.frozenAt _, (h1.lt g rfl).1, h2 g rfl, ⟨vs.set (j * 2 + 1) (.int .i64 t), hs.1, h2, by rw [List.length_set, List.length_set]; exact h3.len, fun k q hq => ?_⟩, hs.2⟩
  · rw [h1.cellAt (j * 2 + 1) (by rw [← h1.1, h3.len]; omega)]
    exact e2
  · have hne : ∀ q, (Value.slice (some ⟨g, 0, none⟩) n c).ownBlock = some q → True := fun _ _ => trivial
    have hkeep : ∀ (a2 : Option Addr) (l2 c2 : Nat) (ys : List Int), OwI w B S a2 l2 c2 ys → OwI (w.setCell ⟨g, j * 2 + 1, none⟩ (.int .i64 t)) B S a2 l2 c2 ys := fun a2 l2 c2 ys hi => by
      refine ⟨hi.1.kept hs.2 (fun r hr e => ?_), hi.2⟩
      obtain rfl := Option.some.inj e
      rcases h1.2 with ⟨hv, _⟩ | ⟨g', cap, cur, hv, _, hh, _⟩
      · simp at hv
      · simp only [Value.slice.injEq, Option.some.injEq, Addr.mk.injEq] at hv
        obtain ⟨⟨rfl, _⟩, _⟩ := hv
        rcases ownsRow_shape hi.own with ⟨_, rfl, _⟩ | ⟨g2, rfl, _, _, _, cur2, hg2⟩
        · cases hr
        · have e3 : g2 = g := by simpa [Value.ownBlock] using hr
          subst e3
          rw [hg2] at hh
          simp at hh
    rw [List.getElem?_set] at hq
    by_cases hk : j = k
    · subst hk
      rw [if_pos rfl, if_pos hjl] at hq
      obtain rfl := Option.some.inj hq
      refine ⟨a, c1, ?_, ?_, hkeep _ _ _ _ ho⟩
      · rw [List.getElem?_set_ne (by omega)]; exact e1
      · rw [List.getElem?_set_self (by rw [h3.len]; omega)]
    · rw [if_neg hk] at hq
      obtain ⟨a2, c2, f1, f2, ho2⟩ := h3.each k q hq
      refine ⟨a2, c2, ?_, ?_, hkeep _ _ _ _ ho2⟩
      · rw [List.getElem?_set_ne (by omega)]; exact f1
      · rw [List.getElem?_set_ne (by omega)]; exact f2
theorem KN.addr {w : World} {B S n c : Nat} {a : Option Addr} {xs : List (List Int × Int)} (h : KN w B S a n c xs) (hn : 0 < n) : ∃ g, a = some ⟨g, 0, none⟩ := by
  obtain ⟨vs, h1, _⟩ := h
  rcases h1.2 with ⟨hv, h0⟩ | ⟨g, cap, cur, hv, _⟩
  · omega
  · simp only [Value.slice.injEq] at hv
    exact ⟨g, hv.1⟩

def ClsPost (g : Nat) (a : Option Addr) (m c : Nat) (xs : List Int) (w : World) (e : Ending) (w' : World) : Prop :=
  ∃ L a' n' c', e = .returned (.slice a' n' c') ∧ KN w' w.heap.size w'.heap.size a' n' c' L ∧ Hid (L.length ≤ 3 ∧ ∀ p ∈ L, DrawnK 9 p) ∧ Cur w' g a m c xs ∧ Only g (g + 1) w w'

set_option maxRecDepth 100000 in
set_option maxHeartbeats 3200000 in
theorem dClasses_any (g : Nat) (a : Option Addr) (m c : Nat) (xs : List Int) (w : World) (hc : Cur w g a m c xs) :
    Calls Tryz.prog 45 #[.pointer (some ⟨g, 0, none⟩)] w (ClsPost g a m c xs w) := by
  have hgw := hc.lt
  have hB0 : Below w.heap.size w (w.alloc (.cells #[] 52)) := (Below.refl _ _).alloc (Nat.le_refl _) _
  have hO0 := (Only.refl g (g + 1) w).laid hB0
  have hC0 := hc.below hB0
  have HK0 := Lib.hid (KN.made w)
  have hz0 := hB0.size
  go_enter Tryz.func45, Tryz.ntmps45
  go_wp2_with fail
  refine (l1Below_any 4 (by omega) (by omega) _ _ _ _ _ _ hC0).mono ?_
  rintro e w1 ⟨r, rfl, hr4, hC1, hO1⟩
  have hO1' := hO0.trans hO1
  have hz1 := hO1.size
  have HK1 := Lib.hid ((HK0.out.only hO1 (.inr (by omega))).mono (B' := w.heap.size) (S' := w1.heap.size) (Nat.le_refl _) hz1)
  clear HK0 hC0 hO0 hO1 hB0
  go_wp2
  go_loopw [3, 5] (fun lv iv wr => Hid (∃ (i : Nat) (L : List (List Int × Int)) (al : Option Addr) (nl cl : Nat), iv = .int .i64 i ∧ i ≤ r ∧ lv = .slice al nl cl ∧ KN wr w.heap.size wr.heap.size al nl cl L ∧ nl ≤ i ∧ (∀ p ∈ L, DrawnK (3 * i) p) ∧ Cur wr g a m c xs) ∧ Only g (g + 1) w wr) (fun _ iv _ => r - (intOf iv).toNat)
  case atStart => exact ⟨⟨0, [], _, _, _, rfl, Nat.zero_le _, rfl, HK1.out, Nat.le_refl _, (fun p hp => by cases hp), hC1⟩, hO1'⟩
  case round =>
    clear HK1 hC1 hO1' hz1 hz0
    obtain ⟨HV, hO⟩ := hrel
    obtain ⟨wo, rfl⟩ : ∃ wo : World, wo = wr := ⟨_, rfl⟩
    obtain ⟨i, L, al, nl, cl, rfl, hi, rfl, hK, hnl, hL, hC⟩ := HV.out
    clear HV
    have HK := Lib.hid hK
    have HL := Lib.hid hL
    have hzo := hO.size
    clear hK hL
    by_cases hlt : i < r
    · have q1 : (i : Int) < (r : Int) := by omega
      go_wp2_with fail
      refine (l1Below_any 4 (by omega) (by omega) _ _ _ _ _ _ hC).mono ?_
      rintro e w2 ⟨k, rfl, hk4, hC2, hO2⟩
      have hO2' := hO.trans hO2
      have hz2 := hO2.size
      have HK2 := Lib.hid ((HK.out.only hO2 (.inr (by omega))).mono (B' := w.heap.size) (S' := w2.heap.size) (Nat.le_refl _) hz2)
      have h1 : 1 ≤ 1 + k := by omega
      have h5 : 1 + k ≤ 5 := by omega
      clear HK hC hO hO2
      go_wp2_with fail
      refine (dPerm_at _ (1 + k) (by omega) h1 h5 _ _ _ _ _ _ hC2).mono ?_
      rintro e w3 ⟨u, a3, c3, rfl, hu, ho3, hC3, hO3⟩
      have hO3' := hO2'.trans hO3
      have hz3 := hO3.size
      have HK3 := Lib.hid ((HK2.out.only hO3 (.inr (by omega))).mono (B' := w.heap.size) (S' := w3.heap.size) (Nat.le_refl _) hz3)
      have Hu := Lib.hid hu
      have Ho3 := Lib.hid ho3
      clear HK2 hC2 hO2' hO3 hu ho3
      go_wp2_with fail
      refine (l1Below_any 7 (by omega) (by omega) _ _ _ _ _ _ hC3).mono ?_
      rintro e w4 ⟨x, rfl, hx7, hC4, hO4⟩
      have hO4' := hO3'.trans hO4
      have hz4 := hO4.size
      have HK4 := Lib.hid ((HK3.out.only hO4 (.inr (by omega))).mono (B' := w.heap.size) (S' := w4.heap.size) (Nat.le_refl _) hz4)
      have Ho4 := Lib.hid (Ho3.out.only hO4 (.inr (by omega)))
      have q2 : IntKind.i64.wrap ((x : Int) - 3) = (x : Int) - 3 := IntWalk.i64_in _ (by omega)
      have hsh := Lib.hid (show Short_P L from fun p hp => by have := (HL.out p hp).short; omega)
      have hbd := Lib.hid (show ∀ q ∈ L, -1000000 ≤ q.2 ∧ q.2 ≤ 1000000 from fun q hq => by have := (HL.out q hq).2; omega)
      have hul : u.length = 1 + k := (perms_ok Hu.out h1 h5).1
      have hcap : 1 + k ≤ c3 := Ho3.out.1.lt
      clear HK3 hC3 hO3' hO4 Ho3
      go_wp2_with fail
      refine (l3Add_from _ _ _ L _ (1 + k) _ u ((x : Int) - 3) _ HK4.out.rd HK4.out.len (by omega) hsh.out Ho4.out.rd hul (by omega) hcap (by omega) hbd.out rfl).mono ?_
      rintro e w5 ⟨a5, n5, c5, zs, rfl, ho5, hzs, hB5⟩
      have hC5 := hC4.below hB5
      have hO5 := hO4'.laid hB5
      have HK5 := Lib.hid (ho5.mono (B' := w.heap.size) (S' := w5.heap.size) (by omega) (Nat.le_refl _))
      have hn5 : n5 ≤ i + 1 := by have h1 := hzs.out.1; have h2 := ho5.len; have h3 := HK4.out.len; omega
      have HZ := Lib.hid (show ∀ p ∈ zs, DrawnK (3 * ((i + 1 : Nat) : Int)) p from fun p hp => by
        have := drawn_add HL.out h1 (by omega) Hu.out (by omega) (by omega) (hzs.out.2 p hp)
        exact this.mono (by omega))
      clear ho5 hzs hB5 HK4 Ho4 hC4 hO4' hsh hbd
      go_wp2
      go_roundw
      case rel => exact ⟨⟨i + 1, zs, _, _, _, by go_num, by omega, rfl, HK5.out, hn5, HZ.out, hC5⟩, hO5⟩
      case measure => simp [intOf]; omega
    · obtain rfl : i = r := by omega
      have Hf := Lib.hid (show L.length ≤ 3 ∧ ∀ p ∈ L, DrawnK 9 p from ⟨by rw [HK.out.len]; omega, fun p hp => (HL.out p hp).mono (by omega)⟩)
      clear HL
      go_wp2
      go_ret
      exact ⟨L, _, _, _, rfl, HK.out, Hf.out, hC, hO⟩

def DrawnPost (w : World) (e : Ending) (w' : World) : Prop :=
  ∃ L a' n' c', e = .returned (.slice a' n' c') ∧ KN w' w.heap.size w'.heap.size a' n' c' L ∧ Hid (L.length ≤ 3 ∧ ∀ p ∈ L, DrawnK 9 p) ∧ Below w.heap.size w w'
set_option maxRecDepth 100000 in
set_option maxHeartbeats 3200000 in
theorem drawCls_any (a : Option Addr) (m c : Nat) (xs : List Int) (w : World) (hr : RB w a xs) (hm : xs.length = m) (hb : m ≤ 1048576) (hx : Bytes xs) :
    Calls Tryz.prog 14 #[.slice a m c] w (DrawnPost w) := by
  go_enter Tryz.func14, Tryz.ntmps14
  go_wp2_with fail
  refine (l1New_any _ _ _ xs _ hr hm hb hx).mono ?_
  rintro e w1 ⟨rfl, hC1, hB1, hz1⟩
  go_wp2_with fail
  refine (dClasses_any _ _ _ _ _ _ hC1).mono ?_
  rintro e w2 ⟨L, a2, n2, c2, rfl, ho2, hL, hC2, hO2⟩
  have hz2 := hO2.size
  have HL := Lib.hid hL.out
  have HK2 := Lib.hid ho2
  clear ho2 hL
  go_wp2_with fail
  refine (l1Once_any 12 (by omega) (by omega) _ _ _ _ _ _ hC2).mono ?_
  rintro e w3 ⟨bb, rfl, hC3, hO3⟩
  have hz3 := hO3.size
  have hO3' := hO2.trans hO3
  have HK3 := Lib.hid ((HK2.out.only hO3 (.inr (by omega))).mono (B' := w1.heap.size) (S' := w3.heap.size) (Nat.le_refl _) hz3)
  have hB3 : Below w.heap.size w w3 := hO3'.below hB1 (by omega) (by omega)
  clear HK2 hC2 hO2 hO3 hC1 hO3'
  cases bb with
  | false =>
    have HF := Lib.hid (HK3.out.mono (B' := w.heap.size) (S' := w3.heap.size) (by omega) (Nat.le_refl _))
    go_wp2
    go_ret
    exact ⟨L, _, _, _, rfl, HF.out, HL.out, hB3⟩
  | true =>
    by_cases hn0 : n2 = 0
    · subst hn0
      have HF := Lib.hid (HK3.out.mono (B' := w.heap.size) (S' := w3.heap.size) (by omega) (Nat.le_refl _))
      go_wp2
      go_ret
      exact ⟨L, _, _, _, rfl, HF.out, HL.out, hB3⟩
    · obtain ⟨p0, hp0⟩ := some_of (show 0 < L.length by rw [HK3.out.len]; omega)
      obtain ⟨g2, rfl⟩ := HK3.out.addr (by omega)
      obtain ⟨h1, h2, h3, h4, h5, h6⟩ := HK3.out.put hp0 0
      rw [show 0 * 2 + 1 = 1 from rfl] at h1 h2 h5 h6
      have q1 : (0 : Int) < (n2 : Int) := by omega
      have HF := Lib.hid (h5.mono (B' := w.heap.size) (S' := (w3.setCell ⟨g2, 1, none⟩ (.int .i64 0)).heap.size) (by omega) (by simp))
      have hB4 : Below w.heap.size w (w3.setCell ⟨g2, 1, none⟩ (.int .i64 0)) := below_grown (v := .slice (some ⟨g2, 0, none⟩) n2 c2) hB3 h6 hB3.size (fun q hq => by simp [Value.ownBlock] at hq; omega)
      have HL2 := Lib.hid (show (L.set 0 (p0.1, 0)).length ≤ 3 ∧ ∀ p ∈ L.set 0 (p0.1, 0), DrawnK 9 p from ⟨by rw [List.length_set]; exact HL.out.1, fun p hp => by
        rcases List.mem_or_eq_of_mem_set hp with h | h
        · exact HL.out.2 p h
        · subst h
          exact ⟨(HL.out.2 p0 (List.mem_of_getElem? hp0)).1, by omega, by omega⟩⟩)
      clear h5 h6 h3 h4
      go_wp2
      go_ret
      exact ⟨_, _, _, _, rfl, HF.out, HL2.out, hB4⟩
end Go.Proofs.YtomejjbkakpoiaaGreat
