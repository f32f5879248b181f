/-
  Contract of slices.DeleteFunc at dreams, as PipeDreams calls it.
  Contracts of slices.Clone of integers and l1Ints.
  Contract of slices.Clone of cells.
-/
import Derived.Test.YtomejjbkakpoiaaGreatBuY7
import Derived.Test.YtomejjbkakpoiaaGreatBuY8
import Derived.Test.YtomejjbkakpoiaaGreatApp
import Derived.Test.YtomejjbkakpoiaaGreatBuY5
import Derived.Test.YtomejjbkakpoiaaGreatBuY6
namespace Go.Proofs.YtomejjbkakpoiaaGreat
open Go.RowKit

set_option maxRecDepth 100000 in
set_option maxHeartbeats 1600000 in
/-- the first dream of a list that is in another one -/
theorem pipeFirst_any (A : Nat) (aa a : Option Addr) (na ca n c : Nat) (all xss : List (List (Int × Int))) (w : World) (hA : w.cell? ⟨A, 0, none⟩ = some (.slice aa na ca)) (hra : RCC w aa all) (hr : RCC w a xss) (hna : all.length = na) (hn : xss.length = n) (hb : n ≤ 1048576) (hba : na ≤ 1048576) (hsa : ShortCC all) :
    Calls Tryz.prog 77 #[.slice a n c, .func (.func 34) #[] #[.pointer (some ⟨A, 0, none⟩)]] w fun e w' => ∃ r : Int, e = .returned (.int .i64 r) ∧
      Hid ((r = -1 ∧ ∀ (j : Nat) (x : List (Int × Int)), xss[j]? = some x → hasD all x = false) ∨ ∃ k : Nat, k < n ∧ r = (k : Int) ∧ (∀ x, xss[k]? = some x → hasD all x = true) ∧ ∀ (j : Nat) (x : List (Int × Int)), j < k → xss[j]? = some x → hasD all x = false) ∧ Below w.heap.size w w' := by
  have Hn := Lib.hid hn; clear hn
  have Hna := Lib.hid hna; clear hna
  have Hsa := Lib.hid hsa; clear hsa
  go_enter Tryz.func77, Tryz.ntmps77
  go_wp2
  go_loopw [8] (fun iv wr => Hid (∃ k : Nat, k ≤ n ∧ iv = .int .i64 k ∧ ∀ (j : Nat) (x : List (Int × Int)), j < k → xss[j]? = some x → hasD all x = false) ∧ Below w.heap.size w wr) (fun iv _ => n - (intOf iv).toNat)
  case atStart => exact ⟨⟨0, Nat.zero_le _, rfl, fun j x hj => by omega⟩, Below.refl _ _⟩
  case round =>
    obtain ⟨HV, hd⟩ := hrel
    obtain ⟨wo, rfl⟩ : ∃ wo : World, wo = wr := ⟨_, rfl⟩
    obtain ⟨k, hk, rfl, hno⟩ := HV.out
    clear HV
    have Hno := Lib.hid hno
    clear hno
    by_cases hlt : k < n
    · obtain ⟨x, hx⟩ := some_of (show k < xss.length by rw [Hn.out]; exact hlt)
      obtain ⟨b1, off, rfl, hcell⟩ := (hr.below hd).at (k := k) (by rw [Hn.out]; exact hlt)
      obtain ⟨a1, c1, hc1, hr1⟩ := hcell k x hx
      have hAo : wo.cell? ⟨A, 0, none⟩ = some (.slice aa na ca) := by rw [hd.cell (World.block_lt_of_cell? _ _ hA)]; exact hA
      have hrao := hra.below hd
      obtain ⟨lx, hlx⟩ : ∃ l, x.length = l := ⟨_, rfl⟩
      rw [hlx] at hc1
      have Hlx := Lib.hid hlx
      have Hx := Lib.hid hx
      have q1 : (k : Int) < (n : Int) := by omega
      clear hcell hx hlx
      cases he : hasD all x
      · have He := Lib.hid he
        have Hno2 := Lib.hid (show ∀ (j : Nat) (y : List (Int × Int)), j < k + 1 → xss[j]? = some y → hasD all y = false from fun j y hj hy => by
          rcases Nat.lt_or_ge j k with h | h
          · exact Hno.out j y h hy
          · obtain rfl : j = k := by omega
            rw [Hx.out] at hy
            obtain rfl := Option.some.inj hy
            exact He.out)
        clear he
        go_wp2_with fail
        refine (is (pipeHas_any A _ _ _ _ _ _ all x _ hAo hrao hr1 Hna.out Hlx.out hba Hsa.out) He.out).mono ?_
        rintro e w1 ⟨rfl, hb1⟩
        have hB1 := hd.trans (hb1.mono hd.size)
        go_wp2
        go_roundw
        case rel => exact ⟨⟨k + 1, by omega, by go_num, Hno2.out⟩, hB1⟩
        case measure => simp [intOf]; omega
      · have He := Lib.hid he
        clear he
        go_wp2_with fail
        refine (is (pipeHas_any A _ _ _ _ _ _ all x _ hAo hrao hr1 Hna.out Hlx.out hba Hsa.out) He.out).mono ?_
        rintro e w1 ⟨rfl, hb1⟩
        have hB1 := hd.trans (hb1.mono hd.size)
        go_wp2
        go_ret
        exact ⟨_, rfl, .inr ⟨k, hlt, rfl, fun y hy => by rw [Hx.out] at hy; obtain rfl := Option.some.inj hy; exact He.out, Hno.out⟩, hB1⟩
    · obtain rfl : k = n := by omega
      go_wp2
      go_ret
      exact ⟨_, rfl, .inl ⟨rfl, fun j x hx => Hno.out j x (by have := (List.getElem?_eq_some_iff.1 hx).1; rw [Hn.out] at this; exact this) hx⟩, hd⟩

/-- the places kept among the first m -/
def kI (keep : Nat → Bool) (m : Nat) : List Nat := (List.range m).filter keep
theorem kI_succ (keep : Nat → Bool) (m : Nat) : kI keep (m + 1) = if keep m = true then kI keep m ++ [m] else kI keep m := by
  unfold kI
  rw [List.range_succ, List.filter_append]
  cases h : keep m
  · simp [h]
  · simp [h]
theorem kI_le (keep : Nat → Bool) (m : Nat) : (kI keep m).length ≤ m := by
  unfold kI
  have := List.length_filter_le keep (List.range m)
  simpa using this
theorem kI_lt {keep : Nat → Bool} {m i : Nat} (h : i ∈ kI keep m) : i < m := by
  unfold kI at h
  exact List.mem_range.1 (List.mem_filter.1 h).1
theorem kI_all {keep : Nat → Bool} : ∀ {m : Nat}, (∀ i, i < m → keep i = true) → kI keep m = List.range m
  | 0, _ => rfl
  | m + 1, h => by rw [kI_succ, if_pos (h m (by omega)), kI_all (fun i hi => h i (by omega)), List.range_succ]
theorem kI_less {keep : Nat → Bool} {k : Nat} (hk : keep k = false) : ∀ {m : Nat}, k < m → (kI keep m).length + 1 ≤ m
  | 0, h => by omega
  | m + 1, h => by
    rw [kI_succ]
    rcases Nat.lt_or_ge k m with h1 | h1
    · have := kI_less hk h1
      split
      · rw [List.length_append]; simp; omega
      · omega
    · obtain rfl : k = m := by omega
      rw [if_neg (by rw [hk]; simp)]
      have := kI_le keep k
      omega
def notIn (all xss : List (List (Int × Int))) (i : Nat) : Bool := !(hasD all (xss.getD i []))
def dropD (all xss : List (List (Int × Int))) : List (List (Int × Int)) := (kI (notIn all xss) xss.length).map fun i => xss.getD i []

set_option maxRecDepth 100000 in
set_option maxHeartbeats 3200000 in
theorem deleteC_any (A : Nat) (aa : Option Addr) (na ca : Nat) (all : List (List (Int × Int))) (B S g c n : Nat) (xss : List (List (Int × Int))) (w : World) (ho : CCO w B S (some ⟨g, 0, none⟩) n c xss)
    (hA : ∀ w', w.grownBy w' (some g) → w'.cell? ⟨A, 0, none⟩ = some (.slice aa na ca) ∧ RCC w' aa all) (hna : all.length = na) (hb : n ≤ 1048576) (hba : na ≤ 1048576) (hsa : ShortCC all) :
    Calls Tryz.prog 32 #[.slice (some ⟨g, 0, none⟩) n c, .func (.func 34) #[] #[.pointer (some ⟨A, 0, none⟩)]] w fun e w' => ∃ n', e = .returned (.slice (some ⟨g, 0, none⟩) n' c) ∧ CCO w' B S (some ⟨g, 0, none⟩) n' c (dropD all xss) ∧ w.grownBy w' (some g) := by
  have Hn := Lib.hid ho.len
  have HO := Lib.hid ho
  have HA := Lib.hid hA
  have Hna := Lib.hid hna
  have Hsa := Lib.hid hsa
  have hr := ho.rd
  obtain ⟨z0, z1⟩ := hA w (Grows.refl w (.slice (some ⟨g, 0, none⟩) n c)).grown
  have hcap : n ≤ c := by
    obtain ⟨vs, h1, _⟩ := ho
    rcases h1.2 with ⟨h', _⟩ | ⟨g', cap', cur, h', hb, hg, hnc, _⟩
    · simp at h'
    · simp only [Value.slice.injEq] at h'
      omega
  have Hall := Lib.hid (show (∀ i, i < n → notIn all xss i = true) → dropD all xss = xss from fun h => by
    unfold dropD
    rw [kI_all (by rw [Hn.out]; exact h)]
    apply List.ext_getElem?
    intro k
    rcases Nat.lt_or_ge k xss.length with hk | hk
    · rw [List.getElem?_map, List.getElem?_range hk, List.getElem?_eq_getElem hk, Option.map_some, List.getD_eq_getElem?_getD, List.getElem?_eq_getElem hk]
      rfl
    · rw [List.getElem?_eq_none (by simp; omega), List.getElem?_eq_none hk])
  have hget : ∀ i, i < n → xss[i]? = some (xss.getD i []) := fun i hi => by
    rw [List.getD_eq_getElem?_getD, List.getElem?_eq_getElem (by rw [Hn.out]; exact hi)]
    rfl
  have Hget := Lib.hid hget
  clear ho hA hna hsa hget
  go_enter Tryz.func32, Tryz.ntmps32
  go_wp2_with fail
  refine (pipeFirst_any A _ _ _ _ _ _ all xss _ z0 z1 hr Hna.out Hn.out hb hba Hsa.out).mono ?_
  rintro e w1 ⟨r, rfl, hr1, hb1⟩
  have hg1 : w.grownBy w1 (some g) := (Grows.of_below (.slice (some ⟨g, 0, none⟩) n c) hb1).grown
  rcases hr1.out with ⟨rfl, hno⟩ | ⟨k, hk, rfl, hyes, hno⟩
  · have Hfin := Lib.hid (show CCO w1 B S (some ⟨g, 0, none⟩) n c (dropD all xss) by
      rw [Hall.out (fun i hi => by unfold notIn; rw [hno i _ (Hget.out i hi)]; rfl)]
      exact HO.out.below hb1)
    clear hr1 hno
    go_wp2
    go_ret
    exact ⟨_, rfl, Hfin.out, hg1⟩
  have q0 : ((k : Int) == -1) = false := by simp
  have Hk0 := Lib.hid (show notIn all xss k = false by unfold notIn; rw [hyes _ (Hget.out k hk)]; rfl)
  have Hkeep := Lib.hid (show ∀ i, i < k → notIn all xss i = true from fun i hi => by unfold notIn; rw [hno i _ hi (Hget.out i (by omega))]; rfl)
  have q1 : wrap64 ((k : Int) + 1) = ((k + 1 : Nat) : Int) := by unfold wrap64; omega
  obtain ⟨vs, v1, v2, v3⟩ := HO.out
  have hvl : vs.length = n := by rw [v3.len]; exact Hn.out
  have HV3 := Lib.hid v3
  have hci : (kI (notIn all xss) (k + 1)).length = k := by rw [kI_succ, if_neg (by rw [Hk0.out]; simp), kI_all Hkeep.out, List.length_range]
  have hkm : (kI (notIn all xss) (k + 1)).map (fun i => vs.getD i undef) = vs.take k := by
    rw [kI_succ, if_neg (by rw [Hk0.out]; simp), kI_all Hkeep.out]
    apply List.ext_getElem?
    intro i
    rcases Nat.lt_or_ge i k with h | h
    · rw [List.getElem?_map, List.getElem?_range h, List.getElem?_take_of_lt h, Option.map_some, List.getD_eq_getElem?_getD, List.getElem?_eq_getElem (by omega)]
      rfl
    · rw [List.getElem?_eq_none (by simp; omega), List.getElem?_eq_none (by simp; omega)]
  have h1q : w1.ownsRow B 33 1 (.slice (some ⟨g, 0, none⟩) n c) n ((kI (notIn all xss) (k + 1)).map (fun i => vs.getD i undef) ++ vs.drop k) := by
    rw [hkm, List.take_append_drop]
    exact ownsRow_only v1 v2 (Only.of_below hb1) (.inr (Nat.zero_le _))
  clear hkm hr1 hyes hno hr z0 z1
  go_wp2
  go_loopw [5, 6] (fun kv tv wr => Hid (∃ K t : Nat, kv = .int .i64 K ∧ tv = .int .i64 t ∧ k + 1 ≤ t ∧ t ≤ n ∧ (kI (notIn all xss) t).length = K ∧ wr.ownsRow B 33 1 (.slice (some ⟨g, 0, none⟩) n c) n ((kI (notIn all xss) t).map (fun i => vs.getD i undef) ++ vs.drop K)) ∧ w.grownBy wr (some g)) (fun _ tv _ => n - (intOf tv).toNat)
  case atStart => exact ⟨⟨k, k + 1, rfl, by first | rfl | go_num, Nat.le_refl _, by omega, hci, h1q⟩, hg1⟩
  case round =>
    clear h1q hg1 hci q1
    obtain ⟨HV, hgr⟩ := hrel
    obtain ⟨wt, rfl⟩ : ∃ wt : World, wt = wr := ⟨_, rfl⟩
    obtain ⟨K, t, rfl, rfl, ht1, htn, hK, hrow⟩ := HV.out
    clear HV
    have hKl := kI_less Hk0.out (m := t) (by omega)
    rw [hK] at hKl
    obtain ⟨z0, z1⟩ := HA.out _ hgr
    by_cases htl : t < n
    · have r1 : (t : Int) < (n : Int) := by omega
      obtain ⟨y2, hy2⟩ := some_of (show t < xss.length by rw [Hn.out]; exact htl)
      obtain ⟨d2, e2, hv2, hco2⟩ := HV3.out.each _ y2 hy2
      have hw2 : wt.cell? ⟨g, t, none⟩ = some (.slice d2 y2.length e2) := by
        rw [hrow.cellAt t (by omega), List.getElem?_append_right (by rw [List.length_map, hK]; omega), List.length_map, hK, List.getElem?_drop, show K + (t - K) = t by omega]
        exact hv2
      have hry := (hco2.kept hgr (fun q hq e => neC_block v1 hco2 q (by rw [← e]; rfl) hq)).rd
      have hkt : notIn all xss t = !(hasD all y2) := by
        unfold notIn
        rw [List.getD_eq_getElem?_getD, hy2]
        rfl
      have hgd : vs.getD t undef = .slice d2 y2.length e2 := by rw [List.getD_eq_getElem?_getD, hv2]; rfl
      obtain ⟨ly2, hly2⟩ : ∃ l, y2.length = l := ⟨_, rfl⟩
      rw [hly2] at hw2 hgd
      have Hly2 := Lib.hid hly2
      have Hgd := Lib.hid hgd
      have Hrow := Lib.hid hrow
      clear hy2 hv2 hly2 hco2 hgd hrow
      cases he : hasD all y2
      · have He := Lib.hid he
        have Hci := Lib.hid (show kI (notIn all xss) (t + 1) = kI (notIn all xss) t ++ [t] by rw [kI_succ, if_pos (by rw [hkt, he]; rfl)])
        clear he hkt
        go_wp2_with fail
        refine (is (pipeHas_any A _ _ _ _ _ _ all y2 _ z0 z1 hry Hna.out Hly2.out hba Hsa.out) He.out).mono ?_
        rintro e w3 ⟨rfl, hb3⟩
        have hrowd : w3.ownsRow B 33 1 (.slice (some ⟨g, 0, none⟩) n c) n ((kI (notIn all xss) t).map (fun i => vs.getD i undef) ++ vs.drop K) := ownsRow_only Hrow.out (S := g + 1) (fun q hq => by simp [Value.ownBlock] at hq; omega) (Only.of_below hb3) (.inr (Nat.zero_le _))
        have hwK : w3.cell? ⟨g, K, none⟩ = some (vs.getD K undef) := by
          rw [hrowd.cellAt K (by omega), List.getElem?_append_right (by rw [List.length_map, hK]; omega), List.length_map, hK, Nat.sub_self, List.getElem?_drop, Nat.add_zero, List.getD_eq_getElem?_getD, List.getElem?_eq_getElem (by omega)]
          rfl
        have hfK : w3.frozen? ⟨g, K, none⟩ = false := hrowd.frozenAt K
        have r5 : (K : Int) < (n : Int) := by omega
        have hst := hrowd.stored K (.slice d2 ly2 e2)
        rw [show ((kI (notIn all xss) t).map (fun i => vs.getD i undef) ++ vs.drop K).set K (.slice d2 ly2 e2) = (kI (notIn all xss) (t + 1)).map (fun i => vs.getD i undef) ++ vs.drop (K + 1) by
          rw [List.set_append_right _ _ (by rw [List.length_map, hK]; omega), List.length_map, hK, Nat.sub_self, List.drop_eq_getElem_cons (by omega), List.set_cons_zero, Hci.out, List.map_append, List.append_assoc]
          rw [List.map_singleton, Hgd.out, List.singleton_append]] at hst
        have Hst := Lib.hid hst
        have hgn := grownBy.trans (grownBy.trans hgr (Grows.of_below (.slice (some ⟨g, 0, none⟩) n c) hb3).grown) hst.2
        clear hst hrowd
        go_wp2
        go_roundw
        case rel => exact ⟨⟨K + 1, t + 1, by go_num, by go_num, by omega, by omega, by rw [Hci.out, List.length_append, hK]; rfl, Hst.out.1⟩, hgn⟩
        case measure => simp [intOf]; omega
      · have He := Lib.hid he
        have Hci := Lib.hid (show kI (notIn all xss) (t + 1) = kI (notIn all xss) t by rw [kI_succ, if_neg (by rw [hkt, he]; simp)])
        clear he hkt
        go_wp2_with fail
        refine (is (pipeHas_any A _ _ _ _ _ _ all y2 _ z0 z1 hry Hna.out Hly2.out hba Hsa.out) He.out).mono ?_
        rintro e w3 ⟨rfl, hb3⟩
        go_wp2
        go_roundw
        case rel => exact ⟨⟨K, t + 1, rfl, by go_num, by omega, by omega, by rw [Hci.out]; exact hK, by rw [Hci.out]; exact ownsRow_only Hrow.out (S := g + 1) (fun q hq => by simp [Value.ownBlock] at hq; omega) (Only.of_below hb3) (.inr (Nat.zero_le _))⟩, grownBy.trans hgr (Grows.of_below (.slice (some ⟨g, 0, none⟩) n c) hb3).grown⟩
        case measure => simp [intOf]; omega
    · obtain rfl : n = t := by omega
      have hKn : K < n := by omega
      have r5 : (K : Int) ≤ (n : Int) := by omega
      have r6 : (K : Int) ≤ (c : Int) := by omega
      have r7 : ¬ c = K := by omega
      have hcl : ∀ ty, (Builtin.clear_ #[27] ty #[.slice (some ⟨g, K, none⟩) (n - K) (c - K)]).run Tryz.prog wt = .ok (.tuple #[]) (wt.setCells g K (List.replicate (n - K) (.slice none 0 0))) := fun ty =>
        Lib.run_clear_slice wt _ _ ty _ Tryz.underlying27 (fun w => by kernel_rfl) rfl rfl g K _ _ (by omega) (fun j hj => by rw [hrow.cellAt (K + j) (by omega), List.getElem?_eq_getElem (by rw [List.length_append, List.length_map, hK, List.length_drop]; omega)]; rfl) (fun j hj => hrow.frozenAt (K + j))
      obtain ⟨us, hu1, hu2, hu3⟩ := ownsRow_clear (z := Value.slice none 0 0) (n - K) (K := K) hrow
      have hgf := grownBy.trans hgr hu3
      have hrowK := ownsRow_first hu1 (Nat.le_of_lt hKn)
      rw [hu2, List.take_append_of_le_length (by rw [List.length_map, hK]; exact Nat.le_refl _), List.take_of_length_le (by rw [List.length_map, hK]; exact Nat.le_refl _)] at hrowK
      have hfin : CCO (wt.setCells g K (List.replicate (n - K) (.slice none 0 0))) B S (some ⟨g, 0, none⟩) K c (dropD all xss) := by
        refine ⟨_, hrowK, v2, ⟨by rw [List.length_map, dropD, List.length_map, Hn.out], fun i z hz => ?_, fun i j u v b hu hv hub hvb => ?_⟩⟩
        · unfold dropD at hz
          rw [List.getElem?_map, Hn.out] at hz
          obtain ⟨q, hq, rfl⟩ := Option.map_eq_some_iff.1 hz
          have hqn : q < n := kI_lt (List.mem_of_getElem? hq)
          obtain ⟨a9, c9, e9, o9⟩ := HV3.out.each q (xss.getD q []) (Hget.out q hqn)
          refine ⟨a9, c9, ?_, o9.kept hgf (fun r hr e => neC_block v1 o9 r (by rw [← e]; rfl) hr)⟩
          rw [List.getElem?_map, hq, Option.map_some, List.getD_eq_getElem?_getD, e9]
          rfl
        · rw [List.getElem?_map] at hu hv
          obtain ⟨p1, hp1, rfl⟩ := Option.map_eq_some_iff.1 hu
          obtain ⟨p2, hp2, rfl⟩ := Option.map_eq_some_iff.1 hv
          have hl1 : p1 < n := kI_lt (List.mem_of_getElem? hp1)
          have hl2 : p2 < n := kI_lt (List.mem_of_getElem? hp2)
          have e12 := HV3.out.apart p1 p2 _ _ b (by rw [List.getD_eq_getElem?_getD, List.getElem?_eq_getElem (by omega)]; rfl) (by rw [List.getD_eq_getElem?_getD, List.getElem?_eq_getElem (by omega)]; rfl) hub hvb
          have hnd : (kI (notIn all xss) n).Nodup := List.Nodup.sublist List.filter_sublist List.nodup_range
          exact (List.getElem?_inj (List.getElem?_eq_some_iff.1 hp1).1 hnd).1 (by rw [hp1, hp2, e12])
      have Hfin := Lib.hid hfin
      clear hfin hu1 hu2 hu3 hrowK hrow z0 z1
      go_wp2
      go_ret
      exact ⟨_, rfl, Hfin.out, hgf⟩
end Go.Proofs.YtomejjbkakpoiaaGreat

namespace Go.Proofs.YtomejjbkakpoiaaGreat
open Go.RowKit

theorem OwI.nil {w : World} {B S : Nat} : OwI w B S none 0 0 [] := ⟨OS.of ⟨rfl, .inl ⟨rfl, rfl⟩⟩, fun k hk => by simp [Value.ownBlock] at hk⟩

set_option maxRecDepth 100000 in
set_option maxHeartbeats 400000 in
theorem cloneI_any (a : Option Addr) (n c : Nat) (xs : List Int) (w : World) (hr : RI w a xs) (hn : xs.length = n) (hb : n ≤ 1048576) :
    Calls Tryz.prog 91 #[.slice a n c] w fun e w' => ∃ a' c', e = .returned (.slice a' n c') ∧ OwI w' w.heap.size w'.heap.size a' n c' xs ∧ Below w.heap.size w w' := by
  have q22 : ∀ (w : World) (a : Option Addr) (n c n' c' : Nat), (binOp .eql 24 (.slice a n c) (.slice none n' c')).run Tryz.prog w = .ok (.bool a.isNone) w := fun w a n c n' c' => Lib.run_eql_slice_nil w _ _ a n c n' c' Tryz.underlying24
  rcases a with _ | ad
  · have hx : xs = [] := by
      rcases hr with h | ⟨b, off, h, _⟩
      · exact h
      · cases h
    subst hx
    simp only [List.length_nil] at hn
    subst hn
    go_enter Tryz.func91, Tryz.ntmps91
    go_wp2
    go_ret
    exact ⟨_, _, rfl, OwI.nil, Below.refl _ _⟩
  · have h1 : OwI (w.alloc (.cells #[] 3)) w.heap.size (w.alloc (.cells #[] 3)).heap.size (some ⟨w.heap.size, 0, none⟩) 0 0 [] := OwI.mk (World.ownsRow_made _ #[] 0 (Nat.le_refl _) (Nat.zero_le _) rfl)
    have hB0 : Below w.heap.size w (w.alloc (.cells #[] 3)) := (Below.refl _ _).alloc (Nat.le_refl _) _
    have hr0 := hr.below hB0
    have Hn := Lib.hid hn; clear hn
    have H1 := Lib.hid h1; clear h1
    go_enter Tryz.func91, Tryz.ntmps91
    go_wp2_with (first | (at_builtin; go_loud (refine wpList_appI (by rfl) _ _ (by rfl) H1.out (by rfl) hr0 Hn.out (by rfl) (by omega) (by simp) ?_)))
    intro a2 c2 w2 ho2 hg2
    have hB2 : Below w.heap.size w w2 := hg2.below hB0 (by simp) (fun k hk => by simp [Value.ownBlock] at hk; omega)
    go_wp2
    go_ret
    exact ⟨a2, c2, by simp, by simpa using ho2, hB2⟩
set_option maxHeartbeats 400000 in
theorem l1Ints_any (a : Option Addr) (n c : Nat) (xs : List Int) (w : World) (hr : RI w a xs) (hn : xs.length = n) (hb : n ≤ 1048576) :
    Calls Tryz.prog 66 #[.slice a n c] w fun e w' => ∃ a' c', e = .returned (.slice a' n c') ∧ OwI w' w.heap.size w'.heap.size a' n c' xs ∧ Below w.heap.size w w' := by
  have Hn := Lib.hid hn; clear hn
  have hemp : (w.alloc (.cells #[] 3)).ownsRow w.heap.size 3 1 (.slice (some ⟨w.heap.size, 0, none⟩) 0 0) 0 [] := World.ownsRow_made _ #[] 0 (Nat.le_refl _) (Nat.zero_le _) rfl
  have h1 : OwI (w.alloc (.cells #[] 3)) w.heap.size (w.alloc (.cells #[] 3)).heap.size (some ⟨w.heap.size, 0, none⟩) 0 0 [] := OwI.mk hemp
  have hB0 : Below w.heap.size w (w.alloc (.cells #[] 3)) := (Below.refl _ _).alloc (Nat.le_refl _) _
  have hr0 := hr.below hB0
  have H1 := Lib.hid h1; clear h1 hemp
  go_enter Tryz.func66, Tryz.ntmps66
  go_wp2_with (first | (at_builtin; go_loud (refine wpList_appI (by rfl) _ _ (by rfl) H1.out (by rfl) hr0 Hn.out (by rfl) (by omega) (by simp) ?_)))
  intro a2 c2 w2 ho2 hg2
  have hB2 : Below w.heap.size w w2 := hg2.below hB0 (by simp) (fun k hk => by simp [Value.ownBlock] at hk; omega)
  go_wp2
  go_ret
  exact ⟨a2, c2, by simp, by simpa using ho2, hB2⟩
end Go.Proofs.YtomejjbkakpoiaaGreat

namespace Go.Proofs.YtomejjbkakpoiaaGreat
open Go.RowKit

theorem ms_C_sz (xs : List (Int × Int)) : sz_C xs ≤ 2 * ms_C xs := by unfold sz_C ms_C; omega
theorem prs_one (xs : List (Int × Int)) : ∀ u ∈ prs xs, u.oneCell' = true := by
  induction xs with
  | nil => intro u hu; simp [prs] at hu
  | cons p xs ih =>
    intro u hu
    simp only [prs, List.mem_cons] at hu
    rcases hu with rfl | rfl | hu
    · rfl
    · rfl
    · exact ih u hu
theorem prs_cells {w : World} {b : Nat} {off : Nat} {xs : List (Int × Int)} (h : ∀ k p, xs[k]? = some p → w.cell? ⟨b, off + k * 2, none⟩ = some (.int .i64 p.1) ∧ w.cell? ⟨b, off + k * 2 + 1, none⟩ = some (.int .i64 p.2)) :
    ∀ j u, (prs xs)[j]? = some u → w.cell? ((⟨b, off, none⟩ : Addr).add j) = some u := by
  intro j u hu
  have hj := (List.getElem?_eq_some_iff.1 hu).1
  rw [prs_length] at hj
  obtain ⟨p, q, hp⟩ := pair_at (k := j / 2) rfl (show j / 2 < xs.length by omega)
  obtain ⟨h1, h2⟩ := h _ _ hp
  obtain ⟨e1, e2⟩ := prs_at hp
  have ea : (⟨b, off, none⟩ : Addr).add j = ⟨b, off + j, none⟩ := by unfold Addr.add; split <;> simp_all
  rw [ea]
  rcases Nat.mod_two_eq_zero_or_one j with h | h
  · have e : j = j / 2 * 2 := by omega
    rw [e] at hu
    rw [e1] at hu
    rw [← hu, e]
    simpa using h1
  · have e : j = j / 2 * 2 + 1 := by omega
    rw [e] at hu
    rw [e2] at hu
    rw [← hu, e]
    rw [← Nat.add_assoc]
    exact h2
theorem RC.cells {w : World} {ad : Addr} {xs : List (Int × Int)} (h : RC w (some ad) xs) : ∀ j u, (prs xs)[j]? = some u → w.cell? (ad.add j) = some u := by
  rcases h with rfl | ⟨b, off, e, hc⟩
  · intro j u hu; simp [prs] at hu
  · obtain rfl := Option.some.inj e
    exact prs_cells hc
theorem wpList_appC {w : World} {ops : Array Oper} {rest : List Oper} {o : Oper} {ac : Act} {Q : Exit → Act → World → Prop} (hgd : o.guard = none) (s x : Operand)
    (ho : o.op = .call { callee := .builtin .append, args := #[s, x], argTypes := #[33, 33] })
    {B S : Nat} {a : Option Addr} {n c : Nat} {xs : List (Int × Int)} (hown : CO w B S a n c xs) (hs : ac.eval s = .slice a n c)
    {ad : Addr} {m d : Nat} {ys : List (Int × Int)} (hr : RC w (some ad) ys) (hm : ys.length = m) (hx : ac.eval x = .slice (some ad) m d) (hn : n + m ≤ 2097152) (hbase : B ≤ w.heap.size)
    (h : ∀ a' c' w', CO w' B w'.heap.size a' (n + m) c' (xs ++ ys) → w.grownBy w' (Value.slice a n c).ownBlock → wpList Tryz.prog ops Q rest (ac.put o.dst (.slice a' (n + m) c')) w') :
    wpList Tryz.prog ops Q (o :: rest) ac w := by
  obtain ⟨i0, hi, hz0, hz1, hz2⟩ := info_parts Tryz.infoCell
  refine wpList_append_own _ hgd s x 33 ho B 36 i0 (.agg #[.int .i64 0, .int .i64 0]) 2 16 Tryz.underlying33 hi hz0 hz1 hz2 rfl (by decide) _ n (prs xs) hs hown.1 ad m d (prs ys) hx (by rw [prs_length, hm]) hr.cells (prs_one ys) (by unfold maxLen; omega) (by omega) hbase ?_
  intro v' w' h2 h3 _
  obtain ⟨a', c', rfl⟩ := slice_of2 h2
  exact h a' c' w' (CO.mk (by rw [prs_append]; exact h2)) h3

set_option maxRecDepth 100000 in
set_option maxHeartbeats 400000 in
theorem cloneC_any (a : Option Addr) (n c : Nat) (xs : List (Int × Int)) (w : World) (hr : RC w a xs) (hn : xs.length = n) (hb : n ≤ 1048576) :
    Calls Tryz.prog 74 #[.slice a n c] w fun e w' => ∃ a' c', e = .returned (.slice a' n c') ∧ CO w' w.heap.size w'.heap.size a' n c' xs ∧ Below w.heap.size w w' := by
  have q22 : ∀ (w : World) (a : Option Addr) (n c n' c' : Nat), (binOp .eql 33 (.slice a n c) (.slice none n' c')).run Tryz.prog w = .ok (.bool a.isNone) w := fun w a n c n' c' => Lib.run_eql_slice_nil w _ _ a n c n' c' Tryz.underlying33
  rcases a with _ | ad
  · have hx : xs = [] := by
      rcases hr with h | ⟨b, off, h, _⟩
      · exact h
      · cases h
    subst hx
    simp only [List.length_nil] at hn
    subst hn
    go_enter Tryz.func74, Tryz.ntmps74
    go_wp2
    go_ret
    exact ⟨_, _, rfl, CO.nil, Below.refl _ _⟩
  · have h1 : CO (w.alloc (.cells #[] 36)) w.heap.size (w.alloc (.cells #[] 36)).heap.size (some ⟨w.heap.size, 0, none⟩) 0 0 [] := CO.made w
    have hB0 : Below w.heap.size w (w.alloc (.cells #[] 36)) := (Below.refl _ _).alloc (Nat.le_refl _) _
    have Hn := Lib.hid hn; clear hn
    have H1 := Lib.hid h1; clear h1
    have hr0 := hr.below hB0
    go_enter Tryz.func74, Tryz.ntmps74
    go_wp2_with (first | (at_builtin; go_loud (refine wpList_appC (by rfl) _ _ (by rfl) H1.out (by rfl) hr0 Hn.out (by rfl) (by omega) (by simp) ?_)))
    intro a2 c2 w2 ho2 hg2
    have hB2 : Below w.heap.size w w2 := hB0.grown hg2 (by simp) (fun k hk => by simp [Value.ownBlock] at hk; omega)
    go_wp2
    go_ret
    exact ⟨a2, c2, by simp, by simpa using ho2, hB2⟩
end Go.Proofs.YtomejjbkakpoiaaGreat
