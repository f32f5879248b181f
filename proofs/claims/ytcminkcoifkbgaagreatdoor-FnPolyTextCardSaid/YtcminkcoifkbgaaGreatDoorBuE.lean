/-
  Contract of l2Divided.
  Contracts of l2Plus and l2Times.
  Contract of l2Times.
-/
import Derived.Test.YtcminkcoifkbgaaGreatDoorGather
import Derived.Test.YtcminkcoifkbgaaGreatDoorBuC
import Derived.Deep.RegionHeld3
namespace Go.Proofs.YtcminkcoifkbgaaGreatDoor
open Go.RowKit

theorem unit_bound {x : Int} (hx : isD x) {i : Nat} (hi : i ≤ 6) : 0 ≤ x * unit i ∧ x * unit i < 562949953421312 := by
  unfold isD at hx
  rcases seven hi with rfl | rfl | rfl | rfl | rfl | rfl | rfl
  · rw [unit0]; omega
  · rw [unit1]; omega
  · rw [unit2]; omega
  · rw [unit3]; omega
  · rw [unit4]; omega
  · rw [unit5]; omega
  · rw [unit6]; omega
theorem unit_le {k : Int} (hk : inK k) {i : Nat} (hi : i ≤ 5) : dig k i * unit i + dig k (i + 1) * unit (i + 1) ≤ k := by
  have h0 := dig_isD k 0
  have h1 := dig_isD k 1
  have h2 := dig_isD k 2
  have h3 := dig_isD k 3
  have h4 := dig_isD k 4
  have h5 := dig_isD k 5
  have h6 := dig_isD k 6
  have e := key_pack hk
  unfold pack at e
  unfold isD at *
  have hc : i = 0 ∨ i = 1 ∨ i = 2 ∨ i = 3 ∨ i = 4 ∨ i = 5 := by omega
  rcases hc with rfl | rfl | rfl | rfl | rfl | rfl
  · show dig k 0 * unit 0 + dig k 1 * unit 1 ≤ k
    rw [unit0, unit1]; omega
  · show dig k 1 * unit 1 + dig k 2 * unit 2 ≤ k
    rw [unit1, unit2]; omega
  · show dig k 2 * unit 2 + dig k 3 * unit 3 ≤ k
    rw [unit2, unit3]; omega
  · show dig k 3 * unit 3 + dig k 4 * unit 4 ≤ k
    rw [unit3, unit4]; omega
  · show dig k 4 * unit 4 + dig k 5 * unit 5 ≤ k
    rw [unit4, unit5]; omega
  · show dig k 5 * unit 5 + dig k 6 * unit 6 ≤ k
    rw [unit5, unit6]; omega
theorem MO.ofSucc {w : World} {B S n c : Nat} {a : Option Addr} {xs : List (Int × Int)} (h : MO w B S a (n + 1) c xs) : ∃ b, a = some b := by
  obtain ⟨p, hp⟩ := some_of (show 0 < xs.length by rw [h.len]; omega)
  obtain ⟨g, e, _⟩ := h.cons hp
  exact ⟨_, e⟩
def ddW (i : Nat) (p : Int × Int) : Mons := (ddKeys i p.1).map fun k => (k, wrap64 (sg i p.1 * p.2))
def dividedW (i : Nat) (F : Mons) : Mons := F.flatMap (ddW i)
theorem ddW_eqv (i : Nat) (p : Int × Int) : Eqv (ddW i p) (dd i p) := by
  unfold ddW dd
  generalize ddKeys i p.1 = l
  induction l with
  | nil => exact Eqv.refl _
  | cons a l ih => exact (Eqv.wrap a _ _).trans (ih.cons _)
theorem dividedW_eqv (i : Nat) (F : Mons) : Eqv (dividedW i F) (dividedM i F) := by
  induction F with
  | nil => exact Eqv.refl _
  | cons p F ih => exact (ddW_eqv i p).append ih
theorem dividedW_take {i : Nat} {xs : Mons} {k : Nat} {p : Int × Int} (h : xs[k]? = some p) : dividedW i (xs.take (k + 1)) = dividedW i (xs.take k) ++ ddW i p := by
  rw [take_at h]
  unfold dividedW
  rw [List.flatMap_append]
  simp
theorem dividedW_part (i : Nat) (xs : Mons) (k : Nat) : (dividedW i (xs.take k)).length ≤ (dividedW i xs).length := by
  conv => rhs; rw [← List.take_append_drop k xs]
  unfold dividedW
  rw [List.flatMap_append, List.length_append]
  omega
theorem dividedW_64 (i : Nat) (xs : Mons) : ∀ p ∈ dividedW i xs, in64 p.2 := by
  intro p hp
  obtain ⟨q, _, hp⟩ := List.mem_flatMap.1 hp
  obtain ⟨k, _, rfl⟩ := List.mem_map.1 hp
  exact in64_wrap _

set_option maxRecDepth 100000 in
set_option maxHeartbeats 6400000 in
theorem l2Divided_any (i : Nat) (I : Int) (a : Option Addr) (n c : Nat) (xs : Mons) (w : World) (hr : RM w a xs) (hn : xs.length = n) (hb : n ≤ 1048576) (hI : I = (i : Int)) (hi : i ≤ 5) (hk : ∀ p ∈ xs, inK p.1 ∧ in64 p.2) (hlen : (dividedW i xs).length ≤ 1048576) :
    Calls Tryz.prog 59 #[.slice a n c, .int .i64 I] w fun e w' => ∃ a' n' c', e = .returned (.slice a' n' c') ∧ MO w' w.heap.size w'.heap.size a' n' c' (canon (dividedM i xs)) ∧ Below w.heap.size w w' := by
  subst hI
  have Hn := Lib.hid hn; clear hn
  have Hk := Lib.hid hk; clear hk
  have Hlen := Lib.hid hlen; clear hlen
  have h1 : MO (w.alloc (.cells #[] 88)) w.heap.size (w.alloc (.cells #[] 88)).heap.size (some ⟨w.heap.size, 0, none⟩) 0 0 [] := MO.made w
  have hB1 : Below w.heap.size w (w.alloc (.cells #[] 88)) := (Below.refl _ _).alloc (Nat.le_refl _) _
  have q4 : IntKind.i64.wrap ((i : Int) + 1) = (i : Int) + 1 := IntWalk.i64_in _ (by omega)
  go_enter Tryz.func59, Tryz.ntmps59
  go_wp2
  go_loopw [5, 6] (fun ov kv wr => Hid (∃ (k m : Nat) (a' : Addr) (c' : Nat), kv = .int .i64 k ∧ k ≤ n ∧ ov = .slice (some a') m c' ∧ MO wr w.heap.size wr.heap.size (some a') m c' (dividedW i (xs.take k))) ∧ Below w.heap.size w wr) (fun _ kv _ => n - (intOf kv).toNat)
  case atStart => exact ⟨⟨0, 0, _, _, rfl, by omega, rfl, h1⟩, hB1⟩
  case round =>
    clear h1 hB1
    obtain ⟨HV, hB⟩ := hrel
    obtain ⟨wo, rfl⟩ : ∃ wo : World, wo = wr := ⟨_, rfl⟩
    obtain ⟨k, m, ⟨g2, o2, pp⟩, c2, rfl, hkn, rfl, ho⟩ := HV.out
    clear HV
    have hbs := hB.size
    have Ho := Lib.hid ho
    clear ho
    by_cases hlt : k < n
    · obtain ⟨b, off, rfl, hcell⟩ := (hr.below hB).at (k := k) (by rw [Hn.out]; exact hlt)
      obtain ⟨K, x, hx⟩ := pairM_at Hn.out hlt
      obtain ⟨p1, p2⟩ := hcell k _ hx
      simp only at p1 p2
      obtain ⟨hK, hx64⟩ := Hk.out (K, x) (List.mem_of_getElem? hx)
      simp only at hK hx64
      have HK := Lib.hid hK
      have Hnx := Lib.hid (dividedW_take (i := i) hx)
      have Hle := Lib.hid (dividedW_part i xs (k + 1))
      clear hcell hx
      have d0 := dig_range K i
      have d1 := dig_range K (i + 1)
      have u0 := unit_bound (dig_isD K i) (i := i) (by omega)
      have u1 := unit_bound (dig_isD K (i + 1)) (i := i + 1) (by omega)
      have u2 := unit_le hK hi
      unfold inK at hK
      have q1 : (k : Int) < (n : Int) := by omega
      obtain ⟨A, hA⟩ : ∃ A, dig K i * unit i = A := ⟨_, rfl⟩
      obtain ⟨B, hB'⟩ : ∃ B, dig K (i + 1) * unit (i + 1) = B := ⟨_, rfl⟩
      rw [hA] at u0 u2
      rw [hB'] at u1 u2
      have r1 : IntKind.i64.wrap (dig K i * unit i) = A := by rw [hA]; exact IntWalk.i64_in _ (by omega)
      have r2 : IntKind.i64.wrap (dig K (i + 1) * unit (i + 1)) = B := by rw [hB']; exact IntWalk.i64_in _ (by omega)
      have r3 : IntKind.i64.wrap (K - A) = K - A := IntWalk.i64_in _ (by omega)
      have r4 : IntKind.i64.wrap (K - A - B) = K - A - B := IntWalk.i64_in _ (by omega)
      have HA := Lib.hid hA
      have HB' := Lib.hid hB'
      clear hA hB'
      go_wp2_with fail
      refine (l2At_any K i _ _ HK.out rfl (by omega)).mono ?_
      rintro e w2 ⟨rfl, rfl⟩
      go_wp2_with fail
      refine (l2At_any K (i + 1) _ _ HK.out (by simp) (by omega)).mono ?_
      rintro e w2 ⟨rfl, rfl⟩
      go_wp2
      go_quiet ((first | (go_at_call 54; exact quiet ((isInt (l2Unit_any i _ _ rfl (by omega)) rfl).mono fun _ _ ⟨he, hw⟩ => ⟨he, hw ▸ Drew.refl _⟩)) | (go_at_call 54; exact quiet ((isInt (l2Unit_any (i + 1) _ _ (by simp) (by omega)) rfl).mono fun _ _ ⟨he, hw⟩ => ⟨he, hw ▸ Drew.refl _⟩))))
      have HB2 := Lib.hid (Ho.out.below (Drew.below (Drew.drewN w2 nq) _))
      have hBw := hB.trans (Drew.below (Drew.drewN w2 nq) w.heap.size)
      by_cases hab : dig K i < dig K (i + 1)
      · have hlo : min (dig K i) (dig K (i + 1)) = dig K i := by omega
        have hhi : max (dig K i) (dig K (i + 1)) = dig K (i + 1) := by omega
        have Hsg := Lib.hid (show sg i K = -1 by unfold sg; rw [if_pos hab])
        have Hlen2 := Lib.hid (ddKeys_length hlo hhi)
        have Hat := Lib.hid (fun (j : Nat) (hj : dig K i + j < dig K (i + 1)) => ddKeys_at (i := i) hlo hhi hj)
        clear hlo hhi
        obtain ⟨aa, ha⟩ : ∃ aa, dig K i = aa := ⟨_, rfl⟩
        obtain ⟨bb, hbb⟩ : ∃ bb, dig K (i + 1) = bb := ⟨_, rfl⟩
        rw [ha, hbb] at Hlen2 Hat hab
        rw [ha] at d0
        rw [hbb] at d1
        rw [ha, hbb]
        clear ha hbb
        have s1 : (if bb < aa then bb else aa) = aa := by split <;> omega
        have s2 : IntKind.i64.wrap (aa - bb) = aa - bb := IntWalk.i64_in _ (by omega)
        have s3 : decide (aa - bb < 0) = true := by simp; omega
        have hq0 : IntKind.i64.wrap (-x) = wrap64 (-x) := IntWalk.i64_left _
        obtain ⟨cc, hcc0⟩ : ∃ cc, wrap64 (-x) = cc := ⟨_, rfl⟩
        rw [hcc0] at hq0
        have hcc : wrap64 (-1 * x) = cc := by rw [← hcc0]; congr 1; omega
        clear hcc0
        have Hc := Lib.hid hcc
        obtain ⟨N, hN⟩ : ∃ N : Nat, bb - aa = (N : Int) := ⟨(bb - aa).toNat, by omega⟩
        have hNN : IntKind.i64.wrap (-(aa - bb)) = (N : Int) := by rw [IntWalk.i64_in _ (by omega)]; omega
        have HN := Lib.hid hN
        clear hcc
        go_wp2
        go_loopw [5, 13] (fun ov jv wr => Hid (∃ (j m : Nat) (a' : Addr) (c' : Nat), jv = .int .i64 j ∧ j ≤ N ∧ ov = .slice (some a') m c' ∧ MO wr w.heap.size wr.heap.size (some a') m c' (dividedW i (xs.take k) ++ (ddW i (K, x)).take j)) ∧ Below w.heap.size w wr) (fun _ jv _ => N - (intOf jv).toNat)
        case atStart => exact ⟨⟨0, m, _, _, rfl, by omega, rfl, by rw [List.take_zero, List.append_nil]; exact HB2.out⟩, hBw⟩
        case round =>
          clear HB2 Ho s1 s2 s3 hNN p1 p2
          obtain ⟨HV, hB3⟩ := hrel
          obtain ⟨wi, rfl⟩ : ∃ wi : World, wi = wr := ⟨_, rfl⟩
          obtain ⟨j, m, a2, c2, rfl, hj, rfl, hoi⟩ := HV.out
          clear HV
          have Hoi := Lib.hid hoi
          have hoil := hoi.len
          have hbi := hB3.size
          clear hoi
          by_cases hjn : j < N
          · have hkey := Hat.out j (by have := HN.out; omega)
            have x1 : isD (bb - 1 - j) := by have := HN.out; unfold isD; omega
            have x2 : isD (aa + j) := by have := HN.out; unfold isD; omega
            have y1 := unit_bound x1 (i := i) (by omega)
            have y2 := unit_bound x2 (i := i + 1) (by omega)
            have hput : put2 K i (bb - 1 - j) (aa + j) = K - A - B + (bb - 1 - j) * unit i + (aa + j) * unit (i + 1) := by unfold put2; rw [HA.out, HB'.out]
            obtain ⟨P, hP⟩ : ∃ P, (bb - 1 - j) * unit i = P := ⟨_, rfl⟩
            obtain ⟨Q, hQ⟩ : ∃ Q, (aa + j) * unit (i + 1) = Q := ⟨_, rfl⟩
            rw [hP] at y1 hput
            rw [hQ] at y2 hput
            have hent : (ddW i (K, x))[j]? = some (K - A - B + P + Q, cc) := by
              unfold ddW
              rw [List.getElem?_map, hkey, Option.map_some, hput]
              simp only [Hsg.out]
              rw [show wrap64 (-1 * x) = cc from Hc.out]
            have Hst := Lib.hid (take_at hent)
            have hml : m + 1 ≤ 1048576 := by
              have h1 := Hle.out
              have h2 := Hlen.out
              have h3 := Hnx.out
              rw [h3, List.length_append] at h1
              have h4 : j < (ddW i (K, x)).length := (List.getElem?_eq_some_iff.1 hent).1
              rw [List.length_append, List.length_take] at hoil
              omega
            have z1 : IntKind.i64.wrap (aa + (N : Int)) = aa + (N : Int) := IntWalk.i64_in _ (by omega)
            have z2 : IntKind.i64.wrap (aa + (N : Int) - 1) = aa + (N : Int) - 1 := IntWalk.i64_in _ (by omega)
            have z3 : IntKind.i64.wrap (aa + (N : Int) - 1 - (j : Int)) = bb - 1 - j := by rw [IntWalk.i64_in _ (by omega)]; have := HN.out; omega
            have z4 : IntKind.i64.wrap ((bb - 1 - (j : Int)) * unit i) = P := by rw [hP]; exact IntWalk.i64_in _ (by omega)
            have z5 : IntKind.i64.wrap (K - A - B + P) = K - A - B + P := IntWalk.i64_in _ (by omega)
            have z6 : IntKind.i64.wrap (aa + (j : Int)) = aa + j := IntWalk.i64_in _ (by omega)
            have z7 : IntKind.i64.wrap ((aa + (j : Int)) * unit (i + 1)) = Q := by rw [hQ]; exact IntWalk.i64_in _ (by omega)
            have z8 : IntKind.i64.wrap (K - A - B + P + Q) = K - A - B + P + Q := IntWalk.i64_in _ (by omega)
            have t1 : (j : Int) < (N : Int) := by omega
            clear hkey hput hent hP hQ hoil
            go_wp2_with fail
            refine (l2Unit_any i _ _ rfl (by omega)).mono ?_
            rintro e w5 ⟨rfl, rfl⟩
            go_wp2_with fail
            refine (l2Unit_any (i + 1) _ _ (by simp) (by omega)).mono ?_
            rintro e w5 ⟨rfl, rfl⟩
            go_wp2_with (first | (at_builtin; go_loud (refine wpList_pushM (by rfl) (by rfl) _ _ (by rfl) Hoi.out (by rfl) (by rfl) hml hbi ?_)))
            intro a3 c3 w6 ho6 hg6
            have hB6 : Below w.heap.size w w6 := below_grown (v := .slice (some a2) m c2) hB3 hg6 hbi Hoi.out.lo
            rw [← Hst.out] at ho6
            obtain ⟨a4, rfl⟩ := ho6.ofSucc
            have HO6 := Lib.hid ho6
            clear ho6 hg6 z1 z2 z3 z4 z5 z6 z7 z8
            clear q4
            go_wp2
            go_roundw
            case rel => exact ⟨⟨j + 1, _, _, _, by go_num, by omega, rfl, HO6.out⟩, hB6⟩
            case measure => simp [intOf]; omega
          · have hjl : (ddW i (K, x)).length ≤ j := by
              unfold ddW
              rw [List.length_map]
              have := Hlen2.out
              have := HN.out
              simp only
              omega
            have ho6 := Hoi.out
            rw [List.take_of_length_le hjl, ← Hnx.out] at ho6
            have HO6 := Lib.hid ho6
            clear ho6 hjl hoil
            have t1 : ¬ (j : Int) < (N : Int) := by omega
            clear q4
            go_wp2
            go_roundw
            case rel => exact ⟨⟨k + 1, _, _, _, by go_num, by omega, rfl, HO6.out⟩, hB3⟩
            case measure => simp [intOf]; omega
      · have hlo : min (dig K i) (dig K (i + 1)) = dig K (i + 1) := by omega
        have hhi : max (dig K i) (dig K (i + 1)) = dig K i := by omega
        have Hsg := Lib.hid (show sg i K = 1 by unfold sg; rw [if_neg hab])
        have Hlen2 := Lib.hid (ddKeys_length hlo hhi)
        have Hat := Lib.hid (fun (j : Nat) (hj : dig K (i + 1) + j < dig K i) => ddKeys_at (i := i) hlo hhi hj)
        clear hlo hhi
        obtain ⟨aa, ha⟩ : ∃ aa, dig K i = aa := ⟨_, rfl⟩
        obtain ⟨bb, hbb⟩ : ∃ bb, dig K (i + 1) = bb := ⟨_, rfl⟩
        rw [ha, hbb] at Hlen2 Hat hab
        rw [ha] at d0
        rw [hbb] at d1
        rw [ha, hbb]
        clear ha hbb
        have s1 : (if bb < aa then bb else aa) = bb := by split <;> omega
        have s2 : IntKind.i64.wrap (aa - bb) = aa - bb := IntWalk.i64_in _ (by omega)
        have s3 : decide (aa - bb < 0) = false := by simp; omega
        obtain ⟨cc, hcc0⟩ : ∃ cc, x = cc := ⟨_, rfl⟩
        have hcc : wrap64 (1 * x) = cc := by rw [Int.one_mul, ← hcc0]; exact wrap_self hx64
        subst hcc0
        have Hc := Lib.hid hcc
        obtain ⟨N, hN⟩ : ∃ N : Nat, aa - bb = (N : Int) := ⟨(aa - bb).toNat, by omega⟩
        have hNN : aa - bb = (N : Int) := hN
        have HN := Lib.hid hN
        clear hcc
        go_wp2
        go_loopw [5, 13] (fun ov jv wr => Hid (∃ (j m : Nat) (a' : Addr) (c' : Nat), jv = .int .i64 j ∧ j ≤ N ∧ ov = .slice (some a') m c' ∧ MO wr w.heap.size wr.heap.size (some a') m c' (dividedW i (xs.take k) ++ (ddW i (K, x)).take j)) ∧ Below w.heap.size w wr) (fun _ jv _ => N - (intOf jv).toNat)
        case atStart => exact ⟨⟨0, m, _, _, rfl, by omega, rfl, by rw [List.take_zero, List.append_nil]; exact HB2.out⟩, hBw⟩
        case round =>
          clear HB2 Ho s1 s2 s3 hNN p1 p2
          obtain ⟨HV, hB3⟩ := hrel
          obtain ⟨wi, rfl⟩ : ∃ wi : World, wi = wr := ⟨_, rfl⟩
          obtain ⟨j, m, a2, c2, rfl, hj, rfl, hoi⟩ := HV.out
          clear HV
          have Hoi := Lib.hid hoi
          have hoil := hoi.len
          have hbi := hB3.size
          clear hoi
          by_cases hjn : j < N
          · have hkey := Hat.out j (by have := HN.out; omega)
            have x1 : isD (aa - 1 - j) := by have := HN.out; unfold isD; omega
            have x2 : isD (bb + j) := by have := HN.out; unfold isD; omega
            have y1 := unit_bound x1 (i := i) (by omega)
            have y2 := unit_bound x2 (i := i + 1) (by omega)
            have hput : put2 K i (aa - 1 - j) (bb + j) = K - A - B + (aa - 1 - j) * unit i + (bb + j) * unit (i + 1) := by unfold put2; rw [HA.out, HB'.out]
            obtain ⟨P, hP⟩ : ∃ P, (aa - 1 - j) * unit i = P := ⟨_, rfl⟩
            obtain ⟨Q, hQ⟩ : ∃ Q, (bb + j) * unit (i + 1) = Q := ⟨_, rfl⟩
            rw [hP] at y1 hput
            rw [hQ] at y2 hput
            have hent : (ddW i (K, x))[j]? = some (K - A - B + P + Q, x) := by
              unfold ddW
              rw [List.getElem?_map, hkey, Option.map_some, hput]
              simp only [Hsg.out]
              rw [show wrap64 (1 * x) = x from Hc.out]
            have Hst := Lib.hid (take_at hent)
            have hml : m + 1 ≤ 1048576 := by
              have h1 := Hle.out
              have h2 := Hlen.out
              have h3 := Hnx.out
              rw [h3, List.length_append] at h1
              have h4 : j < (ddW i (K, x)).length := (List.getElem?_eq_some_iff.1 hent).1
              rw [List.length_append, List.length_take] at hoil
              omega
            have z1 : IntKind.i64.wrap (bb + (N : Int)) = bb + (N : Int) := IntWalk.i64_in _ (by omega)
            have z2 : IntKind.i64.wrap (bb + (N : Int) - 1) = bb + (N : Int) - 1 := IntWalk.i64_in _ (by omega)
            have z3 : IntKind.i64.wrap (bb + (N : Int) - 1 - (j : Int)) = aa - 1 - j := by rw [IntWalk.i64_in _ (by omega)]; have := HN.out; omega
            have z4 : IntKind.i64.wrap ((aa - 1 - (j : Int)) * unit i) = P := by rw [hP]; exact IntWalk.i64_in _ (by omega)
            have z5 : IntKind.i64.wrap (K - A - B + P) = K - A - B + P := IntWalk.i64_in _ (by omega)
            have z6 : IntKind.i64.wrap (bb + (j : Int)) = bb + j := IntWalk.i64_in _ (by omega)
            have z7 : IntKind.i64.wrap ((bb + (j : Int)) * unit (i + 1)) = Q := by rw [hQ]; exact IntWalk.i64_in _ (by omega)
            have z8 : IntKind.i64.wrap (K - A - B + P + Q) = K - A - B + P + Q := IntWalk.i64_in _ (by omega)
            have t1 : (j : Int) < (N : Int) := by omega
            clear hkey hput hent hP hQ hoil
            go_wp2_with fail
            refine (l2Unit_any i _ _ rfl (by omega)).mono ?_
            rintro e w5 ⟨rfl, rfl⟩
            go_wp2_with fail
            refine (l2Unit_any (i + 1) _ _ (by simp) (by omega)).mono ?_
            rintro e w5 ⟨rfl, rfl⟩
            go_wp2_with (first | (at_builtin; go_loud (refine wpList_pushM (by rfl) (by rfl) _ _ (by rfl) Hoi.out (by rfl) (by rfl) hml hbi ?_)))
            intro a3 c3 w6 ho6 hg6
            have hB6 : Below w.heap.size w w6 := below_grown (v := .slice (some a2) m c2) hB3 hg6 hbi Hoi.out.lo
            rw [← Hst.out] at ho6
            obtain ⟨a4, rfl⟩ := ho6.ofSucc
            have HO6 := Lib.hid ho6
            clear ho6 hg6 z1 z2 z3 z4 z5 z6 z7 z8
            clear q4
            go_wp2
            go_roundw
            case rel => exact ⟨⟨j + 1, _, _, _, by go_num, by omega, rfl, HO6.out⟩, hB6⟩
            case measure => simp [intOf]; omega
          · have hjl : (ddW i (K, x)).length ≤ j := by
              unfold ddW
              rw [List.length_map]
              have := Hlen2.out
              have := HN.out
              simp only
              omega
            have ho6 := Hoi.out
            rw [List.take_of_length_le hjl, ← Hnx.out] at ho6
            have HO6 := Lib.hid ho6
            clear ho6 hjl hoil
            have t1 : ¬ (j : Int) < (N : Int) := by omega
            clear q4
            go_wp2
            go_roundw
            case rel => exact ⟨⟨k + 1, _, _, _, by go_num, by omega, rfl, HO6.out⟩, hB3⟩
            case measure => simp [intOf]; omega
    · obtain rfl : k = n := by omega
      obtain ⟨g3, hg3, hBg3⟩ := Ho.out.addr'
      cases hg3
      have hol := Ho.out
      rw [List.take_of_length_le (by rw [Hn.out]; exact Nat.le_refl _)] at hol
      have Hol := Lib.hid hol
      have hl2 : m ≤ 1048576 := by have := hol.len; have := Hlen.out; omega
      have t1 : ¬ (k : Int) < (k : Int) := by omega
      clear hol q4
      go_wp2_with fail
      refine (gather_any _ _ _ _ _ _ _ Hol.out hl2 (dividedW_64 i xs)).mono ?_
      rintro e w4 ⟨a4, n4, c4, rfl, ho4, hB4⟩
      have hfin := ho4.mono (B' := w.heap.size) (S' := w4.heap.size) hbs (Nat.le_refl _)
      rw [canon_eqv (dividedW_eqv i xs)] at hfin
      have Hfin := Lib.hid hfin
      have hB5 := hB.trans (hB4.mono hbs)
      clear hfin ho4
      go_wp2
      go_ret
      exact ⟨_, _, _, rfl, Hfin.out, hB5⟩
end Go.Proofs.YtcminkcoifkbgaaGreatDoor

namespace Go.Proofs.YtcminkcoifkbgaaGreatDoor
open Go.RowKit

/-- append of one monomial, as a step of a region that draws its order -/
theorem step_pushM {w : World} {W : World} {p q : Int} (hW : W = w.alloc (.cells #[.int .i64 p, .int .i64 q] 88)) {ops : Array Oper} {o : Oper} {ac : Act} {K : Act → World → Prop} {Q : Exit → Act → World → Prop} (hwant : Region.wanted o (yielded ops ac.tmps) = true) (s x : Operand)
    (ho : o.op = .call { callee := .builtin .append, args := #[s, x], argTypes := #[63, 63] })
    {B S : Nat} {a : Option Addr} {n c : Nat} {xs : List (Int × Int)} (hown : MO w B S a n c xs) (hs : ac.eval s = .slice a n c)
    (hx : ac.eval x = .slice (some ⟨w.heap.size, 0, none⟩) 1 1) (hn : n + 1 ≤ 1048576) (hbase : B ≤ w.heap.size)
    (h : ∀ a' c' w', MO w' B w'.heap.size a' (n + 1) c' (xs ++ [(p, q)]) → w.grownBy w' (Value.slice a n c).ownBlock → K (ac.put o.dst (.slice a' (n + 1) c')) w') :
    if Region.wanted o (yielded ops ac.tmps) = true then Oper.wp Tryz.prog o ac W K Q else K (ac.put o.dst undef) W := by
  rw [if_pos hwant]
  subst hW
  obtain ⟨i0, hi, hz0, hz1, hz2⟩ := info_parts Tryz.infoMon
  obtain ⟨v', w', hr, h2, h3, _⟩ := run_append_own (P := Tryz.prog) (w.alloc (.cells #[.int .i64 p, .int .i64 q] 88)) B 63 o.type 88 i0 (.agg #[.int .i64 0, .int .i64 0]) 2 16 Tryz.underlying63 hi hz0 hz1 hz2 rfl (by decide) (.slice a n c) n (prm xs) (hown.1.alloc _) ⟨w.heap.size, 0, none⟩ 1 1 [.int .i64 p, .int .i64 q] rfl
    (by
      intro j y hj
      match j, hj with
      | 0, hj => simp at hj; subst hj; simp [Addr.add]
      | 1, hj => simp at hj; subst hj; simp [Addr.add])
    (by
      intro y hy
      simp at hy
      rcases hy with rfl | rfl <;> rfl) (by unfold maxLen; omega) (by omega) (by simp; omega)
  obtain ⟨a', c', rfl⟩ := slice_of2M h2
  unfold Oper.wp execOp
  simp only [ho, resolve, invoke, builtin, Sem.run_bind, Sem.run_pure, Result.andThen_ok, List.map_toArray, List.map_cons, List.map_nil, hs, hx, hr]
  exact h a' c' w' (MO.mk (by rw [prm_append]; exact h2)) (grownBy.trans (World.grownBy_alloc w _ _) h3)
/-- as the program of the reference reckons it -/
def scaleW (c : Int) (F : Mons) : Mons := F.map fun p => (p.1, wrap64 (c * p.2))
theorem scaleW_eqv (c : Int) (F : Mons) : Eqv (scaleW c F) (scaleM c F) := by
  induction F with
  | nil => exact Eqv.refl _
  | cons p F ih => exact (Eqv.wrap _ _ _).trans (ih.cons _)
theorem scaleW_take {c : Int} {xs : Mons} {k : Nat} {p : Int × Int} (h : xs[k]? = some p) : scaleW c (xs.take (k + 1)) = scaleW c (xs.take k) ++ [(p.1, wrap64 (c * p.2))] := by
  rw [take_at h]
  unfold scaleW
  rw [List.map_append]
  rfl

end Go.Proofs.YtcminkcoifkbgaaGreatDoor

namespace Go.Proofs.YtcminkcoifkbgaaGreatDoor
open Go.RowKit

def rowW (K x : Int) (ys : Mons) : Mons := ys.map fun q => (K + q.1, wrap64 (x * q.2))
/-- as the program of the reference reckons it -/
def timesW (xs ys : Mons) : Mons := xs.flatMap fun p => rowW p.1 p.2 ys
theorem rowW_eqv (K x : Int) (ys : Mons) : Eqv (rowW K x ys) (ys.map fun q => (K + q.1, x * q.2)) := by
  induction ys with
  | nil => exact Eqv.refl _
  | cons p F ih => exact (Eqv.wrap _ _ _).trans (ih.cons _)
theorem timesW_eqv (xs ys : Mons) : Eqv (timesW xs ys) (timesM xs ys) := by
  induction xs with
  | nil => exact Eqv.refl _
  | cons p F ih => exact (rowW_eqv p.1 p.2 ys).append ih
theorem timesW_take {xs ys : Mons} {k : Nat} {p : Int × Int} (h : xs[k]? = some p) : timesW (xs.take (k + 1)) ys = timesW (xs.take k) ys ++ rowW p.1 p.2 ys := by
  rw [take_at h]
  unfold timesW
  rw [List.flatMap_append]
  simp
theorem rowW_take {K x : Int} {ys : Mons} {j : Nat} {q : Int × Int} (h : ys[j]? = some q) : rowW K x (ys.take j) ++ [(K + q.1, wrap64 (x * q.2))] = rowW K x (ys.take (j + 1)) := by
  rw [take_at h]
  unfold rowW
  rw [List.map_append]
  rfl

end Go.Proofs.YtcminkcoifkbgaaGreatDoor
