/-
  Contract of slices.DeleteFunc at dreams, as PipeDreams calls it.
  The program's rounds to all reduced dreams: plain.
  append of a row of slices of cells to another, as a step of a region that draws its order.
  Plain: ordered lists of lists of numbers; one put in.
-/
import Derived.Test.YtageojkepoejiaaBuP17
import Derived.Test.YtageojkepoejiaaCompactC
import Derived.Test.YtageojkepoejiaaLadBd0
import Derived.Test.YtageojkepoejiaaBuP9
import Derived.Test.YtageojkepoejiaaBuP14
import Derived.Test.YtageojkepoejiaaBuP8
namespace Go.Proofs.Ytageojkepoejiaa
open Go.RowKit

set_option maxRecDepth 100000 in
set_option maxHeartbeats 1600000 in
/-- the first dream of a list that is in another one -/
theorem pipeFirst_any (A : Nat) (aa a : Option Addr) (na ca n c : Nat) (all xss : List (List (Int × Int))) (w : World) (hA : w.cell? ⟨A, 0, none⟩ = some (.slice aa na ca)) (hra : RCC w aa all) (hr : RCC w a xss) (hna : all.length = na) (hn : xss.length = n) (hb : n ≤ 1048576) (hba : na ≤ 1048576) (hsa : ShortCC all) :
    Calls Try.prog 99 #[.slice a n c, .func (.func 64) #[] #[.pointer (some ⟨A, 0, none⟩)]] w fun e w' => ∃ r : Int, e = .returned (.int .i64 r) ∧
      Hid ((r = -1 ∧ ∀ (j : Nat) (x : List (Int × Int)), xss[j]? = some x → hasD all x = false) ∨ ∃ k : Nat, k < n ∧ r = (k : Int) ∧ (∀ x, xss[k]? = some x → hasD all x = true) ∧ ∀ (j : Nat) (x : List (Int × Int)), j < k → xss[j]? = some x → hasD all x = false) ∧ Below w.heap.size w w' := by
  have Hn := Lib.hid hn; clear hn
  have Hna := Lib.hid hna; clear hna
  have Hsa := Lib.hid hsa; clear hsa
  go_enter Try.func99, Try.ntmps99
  go_wp2
  go_loopw [8] (fun iv wr => Hid (∃ k : Nat, k ≤ n ∧ iv = .int .i64 k ∧ ∀ (j : Nat) (x : List (Int × Int)), j < k → xss[j]? = some x → hasD all x = false) ∧ Below w.heap.size w wr) (fun iv _ => n - (intOf iv).toNat)
  case atStart => exact ⟨⟨0, Nat.zero_le _, rfl, fun j x hj => by omega⟩, Below.refl _ _⟩
  case round =>
    obtain ⟨HV, hd⟩ := hrel
    obtain ⟨wo, rfl⟩ : ∃ wo : World, wo = wr := ⟨_, rfl⟩
    obtain ⟨k, hk, rfl, hno⟩ := HV.out
    clear HV
    have Hno := Lib.hid hno
    clear hno
    by_cases hlt : k < n
    · obtain ⟨x, hx⟩ := some_of (show k < xss.length by rw [Hn.out]; exact hlt)
      obtain ⟨b1, off, rfl, hcell⟩ := (hr.below hd).at (k := k) (by rw [Hn.out]; exact hlt)
      obtain ⟨a1, c1, hc1, hr1⟩ := hcell k x hx
      have hAo : wo.cell? ⟨A, 0, none⟩ = some (.slice aa na ca) := by rw [hd.cell (World.block_lt_of_cell? _ _ hA)]; exact hA
      have hrao := hra.below hd
      obtain ⟨lx, hlx⟩ : ∃ l, x.length = l := ⟨_, rfl⟩
      rw [hlx] at hc1
      have Hlx := Lib.hid hlx
      have Hx := Lib.hid hx
      have q1 : (k : Int) < (n : Int) := by omega
      clear hcell hx hlx
      cases he : hasD all x
      · have He := Lib.hid he
        have Hno2 := Lib.hid (show ∀ (j : Nat) (y : List (Int × Int)), j < k + 1 → xss[j]? = some y → hasD all y = false from fun j y hj hy => by
          rcases Nat.lt_or_ge j k with h | h
          · exact Hno.out j y h hy
          · obtain rfl : j = k := by omega
            rw [Hx.out] at hy
            obtain rfl := Option.some.inj hy
            exact He.out)
        clear he
        go_wp2_with fail
        refine (is (pipeHas_any A _ _ _ _ _ _ all x _ hAo hrao hr1 Hna.out Hlx.out hba Hsa.out) He.out).mono ?_
        rintro e w1 ⟨rfl, hb1⟩
        have hB1 := hd.trans (hb1.mono hd.size)
        go_wp2
        go_roundw
        case rel => exact ⟨⟨k + 1, by omega, by go_num, Hno2.out⟩, hB1⟩
        case measure => simp [intOf]; omega
      · have He := Lib.hid he
        clear he
        go_wp2_with fail
        refine (is (pipeHas_any A _ _ _ _ _ _ all x _ hAo hrao hr1 Hna.out Hlx.out hba Hsa.out) He.out).mono ?_
        rintro e w1 ⟨rfl, hb1⟩
        have hB1 := hd.trans (hb1.mono hd.size)
        go_wp2
        go_ret
        exact ⟨_, rfl, .inr ⟨k, hlt, rfl, fun y hy => by rw [Hx.out] at hy; obtain rfl := Option.some.inj hy; exact He.out, Hno.out⟩, hB1⟩
    · obtain rfl : k = n := by omega
      go_wp2
      go_ret
      exact ⟨_, rfl, .inl ⟨rfl, fun j x hx => Hno.out j x (by have := (List.getElem?_eq_some_iff.1 hx).1; rw [Hn.out] at this; exact this) hx⟩, hd⟩

/-- the places kept among the first m -/
def kI (keep : Nat → Bool) (m : Nat) : List Nat := (List.range m).filter keep
theorem kI_succ (keep : Nat → Bool) (m : Nat) : kI keep (m + 1) = if keep m = true then kI keep m ++ [m] else kI keep m := by
  unfold kI
  rw [List.range_succ, List.filter_append]
  cases h : keep m
  · simp [h]
  · simp [h]
theorem kI_le (keep : Nat → Bool) (m : Nat) : (kI keep m).length ≤ m := by
  unfold kI
  have := List.length_filter_le keep (List.range m)
  simpa using this
theorem kI_lt {keep : Nat → Bool} {m i : Nat} (h : i ∈ kI keep m) : i < m := by
  unfold kI at h
  exact List.mem_range.1 (List.mem_filter.1 h).1
theorem kI_all {keep : Nat → Bool} : ∀ {m : Nat}, (∀ i, i < m → keep i = true) → kI keep m = List.range m
  | 0, _ => rfl
  | m + 1, h => by rw [kI_succ, if_pos (h m (by omega)), kI_all (fun i hi => h i (by omega)), List.range_succ]
theorem kI_less {keep : Nat → Bool} {k : Nat} (hk : keep k = false) : ∀ {m : Nat}, k < m → (kI keep m).length + 1 ≤ m
  | 0, h => by omega
  | m + 1, h => by
    rw [kI_succ]
    rcases Nat.lt_or_ge k m with h1 | h1
    · have := kI_less hk h1
      split
      · rw [List.length_append]; simp; omega
      · omega
    · obtain rfl : k = m := by omega
      rw [if_neg (by rw [hk]; simp)]
      have := kI_le keep k
      omega
def notIn (all xss : List (List (Int × Int))) (i : Nat) : Bool := !(hasD all (xss.getD i []))
def dropD (all xss : List (List (Int × Int))) : List (List (Int × Int)) := (kI (notIn all xss) xss.length).map fun i => xss.getD i []

set_option maxRecDepth 100000 in
set_option maxHeartbeats 3200000 in
theorem deleteC_any (A : Nat) (aa : Option Addr) (na ca : Nat) (all : List (List (Int × Int))) (B S g c n : Nat) (xss : List (List (Int × Int))) (w : World) (ho : CCO w B S (some ⟨g, 0, none⟩) n c xss)
    (hA : ∀ w', w.grownBy w' (some g) → w'.cell? ⟨A, 0, none⟩ = some (.slice aa na ca) ∧ RCC w' aa all) (hna : all.length = na) (hb : n ≤ 1048576) (hba : na ≤ 1048576) (hsa : ShortCC all) :
    Calls Try.prog 63 #[.slice (some ⟨g, 0, none⟩) n c, .func (.func 64) #[] #[.pointer (some ⟨A, 0, none⟩)]] w fun e w' => ∃ n', e = .returned (.slice (some ⟨g, 0, none⟩) n' c) ∧ CCO w' B S (some ⟨g, 0, none⟩) n' c (dropD all xss) ∧ w.grownBy w' (some g) := by
  have Hn := Lib.hid ho.len
  have HO := Lib.hid ho
  have HA := Lib.hid hA
  have Hna := Lib.hid hna
  have Hsa := Lib.hid hsa
  have hr := ho.rd
  obtain ⟨z0, z1⟩ := hA w (Grows.refl w (.slice (some ⟨g, 0, none⟩) n c)).grown
  have hcap : n ≤ c := by
    obtain ⟨vs, h1, _⟩ := ho
    rcases h1.2 with ⟨h', _⟩ | ⟨g', cap', cur, h', hb, hg, hnc, _⟩
    · simp at h'
    · simp only [Value.slice.injEq] at h'
      omega
  have Hall := Lib.hid (show (∀ i, i < n → notIn all xss i = true) → dropD all xss = xss from fun h => by
    unfold dropD
    rw [kI_all (by rw [Hn.out]; exact h)]
    apply List.ext_getElem?
    intro k
    rcases Nat.lt_or_ge k xss.length with hk | hk
    · rw [List.getElem?_map, List.getElem?_range hk, List.getElem?_eq_getElem hk, Option.map_some, List.getD_eq_getElem?_getD, List.getElem?_eq_getElem hk]
      rfl
    · rw [List.getElem?_eq_none (by simp; omega), List.getElem?_eq_none hk])
  have hget : ∀ i, i < n → xss[i]? = some (xss.getD i []) := fun i hi => by
    rw [List.getD_eq_getElem?_getD, List.getElem?_eq_getElem (by rw [Hn.out]; exact hi)]
    rfl
  have Hget := Lib.hid hget
  clear ho hA hna hsa hget
  go_enter Try.func63, Try.ntmps63
  go_wp2_with fail
  refine (pipeFirst_any A _ _ _ _ _ _ all xss _ z0 z1 hr Hna.out Hn.out hb hba Hsa.out).mono ?_
  rintro e w1 ⟨r, rfl, hr1, hb1⟩
  have hg1 : w.grownBy w1 (some g) := (Grows.of_below (.slice (some ⟨g, 0, none⟩) n c) hb1).grown
  rcases hr1.out with ⟨rfl, hno⟩ | ⟨k, hk, rfl, hyes, hno⟩
  · have Hfin := Lib.hid (show CCO w1 B S (some ⟨g, 0, none⟩) n c (dropD all xss) by
      rw [Hall.out (fun i hi => by unfold notIn; rw [hno i _ (Hget.out i hi)]; rfl)]
      exact HO.out.below hb1)
    clear hr1 hno
    go_wp2
    go_ret
    exact ⟨_, rfl, Hfin.out, hg1⟩
  have q0 : ((k : Int) == -1) = false := by simp
  have Hk0 := Lib.hid (show notIn all xss k = false by unfold notIn; rw [hyes _ (Hget.out k hk)]; rfl)
  have Hkeep := Lib.hid (show ∀ i, i < k → notIn all xss i = true from fun i hi => by unfold notIn; rw [hno i _ hi (Hget.out i (by omega))]; rfl)
  have q1 : wrap64 ((k : Int) + 1) = ((k + 1 : Nat) : Int) := by unfold wrap64; omega
  obtain ⟨vs, v1, v2, v3⟩ := HO.out
  have hvl : vs.length = n := by rw [v3.len]; exact Hn.out
  have HV3 := Lib.hid v3
  have hci : (kI (notIn all xss) (k + 1)).length = k := by rw [kI_succ, if_neg (by rw [Hk0.out]; simp), kI_all Hkeep.out, List.length_range]
  have hkm : (kI (notIn all xss) (k + 1)).map (fun i => vs.getD i undef) = vs.take k := by
    rw [kI_succ, if_neg (by rw [Hk0.out]; simp), kI_all Hkeep.out]
    apply List.ext_getElem?
    intro i
    rcases Nat.lt_or_ge i k with h | h
    · rw [List.getElem?_map, List.getElem?_range h, List.getElem?_take_of_lt h, Option.map_some, List.getD_eq_getElem?_getD, List.getElem?_eq_getElem (by omega)]
      rfl
    · rw [List.getElem?_eq_none (by simp; omega), List.getElem?_eq_none (by simp; omega)]
  have h1q : w1.ownsRow B 36 1 (.slice (some ⟨g, 0, none⟩) n c) n ((kI (notIn all xss) (k + 1)).map (fun i => vs.getD i undef) ++ vs.drop k) := by
    rw [hkm, List.take_append_drop]
    exact ownsRow_only v1 v2 (Only.of_below hb1) (.inr (Nat.zero_le _))
  clear hkm hr1 hyes hno hr z0 z1
  go_wp2
  go_loopw [5, 6] (fun kv tv wr => Hid (∃ K t : Nat, kv = .int .i64 K ∧ tv = .int .i64 t ∧ k + 1 ≤ t ∧ t ≤ n ∧ (kI (notIn all xss) t).length = K ∧ wr.ownsRow B 36 1 (.slice (some ⟨g, 0, none⟩) n c) n ((kI (notIn all xss) t).map (fun i => vs.getD i undef) ++ vs.drop K)) ∧ w.grownBy wr (some g)) (fun _ tv _ => n - (intOf tv).toNat)
  case atStart => exact ⟨⟨k, k + 1, rfl, by first | rfl | go_num, Nat.le_refl _, by omega, hci, h1q⟩, hg1⟩
  case round =>
    clear h1q hg1 hci q1
    obtain ⟨HV, hgr⟩ := hrel
    obtain ⟨wt, rfl⟩ : ∃ wt : World, wt = wr := ⟨_, rfl⟩
    obtain ⟨K, t, rfl, rfl, ht1, htn, hK, hrow⟩ := HV.out
    clear HV
    have hKl := kI_less Hk0.out (m := t) (by omega)
    rw [hK] at hKl
    obtain ⟨z0, z1⟩ := HA.out _ hgr
    by_cases htl : t < n
    · have r1 : (t : Int) < (n : Int) := by omega
      obtain ⟨y2, hy2⟩ := some_of (show t < xss.length by rw [Hn.out]; exact htl)
      obtain ⟨d2, e2, hv2, hco2⟩ := HV3.out.each _ y2 hy2
      have hw2 : wt.cell? ⟨g, t, none⟩ = some (.slice d2 y2.length e2) := by
        rw [hrow.cellAt t (by omega), List.getElem?_append_right (by rw [List.length_map, hK]; omega), List.length_map, hK, List.getElem?_drop, show K + (t - K) = t by omega]
        exact hv2
      have hry := (hco2.kept hgr (fun q hq e => neC_block v1 hco2 q (by rw [← e]; rfl) hq)).rd
      have hkt : notIn all xss t = !(hasD all y2) := by
        unfold notIn
        rw [List.getD_eq_getElem?_getD, hy2]
        rfl
      have hgd : vs.getD t undef = .slice d2 y2.length e2 := by rw [List.getD_eq_getElem?_getD, hv2]; rfl
      obtain ⟨ly2, hly2⟩ : ∃ l, y2.length = l := ⟨_, rfl⟩
      rw [hly2] at hw2 hgd
      have Hly2 := Lib.hid hly2
      have Hgd := Lib.hid hgd
      have Hrow := Lib.hid hrow
      clear hy2 hv2 hly2 hco2 hgd hrow
      cases he : hasD all y2
      · have He := Lib.hid he
        have Hci := Lib.hid (show kI (notIn all xss) (t + 1) = kI (notIn all xss) t ++ [t] by rw [kI_succ, if_pos (by rw [hkt, he]; rfl)])
        clear he hkt
        go_wp2_with fail
        refine (is (pipeHas_any A _ _ _ _ _ _ all y2 _ z0 z1 hry Hna.out Hly2.out hba Hsa.out) He.out).mono ?_
        rintro e w3 ⟨rfl, hb3⟩
        have hrowd : w3.ownsRow B 36 1 (.slice (some ⟨g, 0, none⟩) n c) n ((kI (notIn all xss) t).map (fun i => vs.getD i undef) ++ vs.drop K) := ownsRow_only Hrow.out (S := g + 1) (fun q hq => by simp [Value.ownBlock] at hq; omega) (Only.of_below hb3) (.inr (Nat.zero_le _))
        have hwK : w3.cell? ⟨g, K, none⟩ = some (vs.getD K undef) := by
          rw [hrowd.cellAt K (by omega), List.getElem?_append_right (by rw [List.length_map, hK]; omega), List.length_map, hK, Nat.sub_self, List.getElem?_drop, Nat.add_zero, List.getD_eq_getElem?_getD, List.getElem?_eq_getElem (by omega)]
          rfl
        have hfK : w3.frozen? ⟨g, K, none⟩ = false := hrowd.frozenAt K
        have r5 : (K : Int) < (n : Int) := by omega
        have hst := hrowd.stored K (.slice d2 ly2 e2)
        rw [show ((kI (notIn all xss) t).map (fun i => vs.getD i undef) ++ vs.drop K).set K (.slice d2 ly2 e2) = (kI (notIn all xss) (t + 1)).map (fun i => vs.getD i undef) ++ vs.drop (K + 1) by
          rw [List.set_append_right _ _ (by rw [List.length_map, hK]; omega), List.length_map, hK, Nat.sub_self, List.drop_eq_getElem_cons (by omega), List.set_cons_zero, Hci.out, List.map_append, List.append_assoc]
          rw [List.map_singleton, Hgd.out, List.singleton_append]] at hst
        have Hst := Lib.hid hst
        have hgn := grownBy.trans (grownBy.trans hgr (Grows.of_below (.slice (some ⟨g, 0, none⟩) n c) hb3).grown) hst.2
        clear hst hrowd
        go_wp2
        go_roundw
        case rel => exact ⟨⟨K + 1, t + 1, by go_num, by go_num, by omega, by omega, by rw [Hci.out, List.length_append, hK]; rfl, Hst.out.1⟩, hgn⟩
        case measure => simp [intOf]; omega
      · have He := Lib.hid he
        have Hci := Lib.hid (show kI (notIn all xss) (t + 1) = kI (notIn all xss) t by rw [kI_succ, if_neg (by rw [hkt, he]; simp)])
        clear he hkt
        go_wp2_with fail
        refine (is (pipeHas_any A _ _ _ _ _ _ all y2 _ z0 z1 hry Hna.out Hly2.out hba Hsa.out) He.out).mono ?_
        rintro e w3 ⟨rfl, hb3⟩
        go_wp2
        go_roundw
        case rel => exact ⟨⟨K, t + 1, rfl, by go_num, by omega, by omega, by rw [Hci.out]; exact hK, by rw [Hci.out]; exact ownsRow_only Hrow.out (S := g + 1) (fun q hq => by simp [Value.ownBlock] at hq; omega) (Only.of_below hb3) (.inr (Nat.zero_le _))⟩, grownBy.trans hgr (Grows.of_below (.slice (some ⟨g, 0, none⟩) n c) hb3).grown⟩
        case measure => simp [intOf]; omega
    · obtain rfl : n = t := by omega
      have hKn : K < n := by omega
      have r5 : (K : Int) ≤ (n : Int) := by omega
      have r6 : (K : Int) ≤ (c : Int) := by omega
      have r7 : ¬ c = K := by omega
      have hcl : ∀ ty, (Builtin.clear_ #[34] ty #[.slice (some ⟨g, K, none⟩) (n - K) (c - K)]).run Try.prog wt = .ok (.tuple #[]) (wt.setCells g K (List.replicate (n - K) (.slice none 0 0))) := fun ty =>
        Lib.run_clear_slice wt _ _ ty _ Try.underlying34 (fun w => by kernel_rfl) rfl rfl g K _ _ (by omega) (fun j hj => by rw [hrow.cellAt (K + j) (by omega), List.getElem?_eq_getElem (by rw [List.length_append, List.length_map, hK, List.length_drop]; omega)]; rfl) (fun j hj => hrow.frozenAt (K + j))
      obtain ⟨us, hu1, hu2, hu3⟩ := ownsRow_clear (z := Value.slice none 0 0) (n - K) (K := K) hrow
      have hgf := grownBy.trans hgr hu3
      have hrowK := ownsRow_first hu1 (Nat.le_of_lt hKn)
      rw [hu2, List.take_append_of_le_length (by rw [List.length_map, hK]; exact Nat.le_refl _), List.take_of_length_le (by rw [List.length_map, hK]; exact Nat.le_refl _)] at hrowK
      have hfin : CCO (wt.setCells g K (List.replicate (n - K) (.slice none 0 0))) B S (some ⟨g, 0, none⟩) K c (dropD all xss) := by
        refine ⟨_, hrowK, v2, ⟨by rw [List.length_map, dropD, List.length_map, Hn.out], fun i z hz => ?_, fun i j u v b hu hv hub hvb => ?_⟩⟩
        · unfold dropD at hz
          rw [List.getElem?_map, Hn.out] at hz
          obtain ⟨q, hq, rfl⟩ := Option.map_eq_some_iff.1 hz
          have hqn : q < n := kI_lt (List.mem_of_getElem? hq)
          obtain ⟨a9, c9, e9, o9⟩ := HV3.out.each q (xss.getD q []) (Hget.out q hqn)
          refine ⟨a9, c9, ?_, o9.kept hgf (fun r hr e => neC_block v1 o9 r (by rw [← e]; rfl) hr)⟩
          rw [List.getElem?_map, hq, Option.map_some, List.getD_eq_getElem?_getD, e9]
          rfl
        · rw [List.getElem?_map] at hu hv
          obtain ⟨p1, hp1, rfl⟩ := Option.map_eq_some_iff.1 hu
          obtain ⟨p2, hp2, rfl⟩ := Option.map_eq_some_iff.1 hv
          have hl1 : p1 < n := kI_lt (List.mem_of_getElem? hp1)
          have hl2 : p2 < n := kI_lt (List.mem_of_getElem? hp2)
          have e12 := HV3.out.apart p1 p2 _ _ b (by rw [List.getD_eq_getElem?_getD, List.getElem?_eq_getElem (by omega)]; rfl) (by rw [List.getD_eq_getElem?_getD, List.getElem?_eq_getElem (by omega)]; rfl) hub hvb
          have hnd : (kI (notIn all xss) n).Nodup := List.Nodup.sublist List.filter_sublist List.nodup_range
          exact (List.getElem?_inj (List.getElem?_eq_some_iff.1 hp1).1 hnd).1 (by rw [hp1, hp2, e12])
      have Hfin := Lib.hid hfin
      clear hfin hu1 hu2 hu3 hrowK hrow z0 z1
      go_wp2
      go_ret
      exact ⟨_, rfl, Hfin.out, hgf⟩
end Go.Proofs.Ytageojkepoejiaa

namespace Go.Proofs.Ytageojkepoejiaa
open Go.RowKit

def pipeNext (n : Int) (all last : List (List (Int × Int))) : List (List (Int × Int)) := dropD all (ascD (last.flatMap (ladders n)))
/-- the rounds: what is there at the end; nothing where there are too many -/
def pipeTo (n : Int) : Nat → List (List (Int × Int)) → List (List (Int × Int)) → Option (List (List (Int × Int)))
  | 0, _, _ => none
  | f + 1, all, last =>
    if last = [] then some all
    else if 400 < (all ++ pipeNext n all last).length then none
    else pipeTo n f (all ++ pipeNext n all last) (pipeNext n all last)
theorem pipeTo_stop {n : Int} {f : Nat} {all : List (List (Int × Int))} : pipeTo n (f + 1) all [] = some all := by rw [pipeTo, if_pos rfl]
theorem pipeTo_many {n : Int} {f : Nat} {all last : List (List (Int × Int))} (h : last ≠ []) (h4 : 400 < (all ++ pipeNext n all last).length) : pipeTo n (f + 1) all last = none := by rw [pipeTo, if_neg h, if_pos h4]
theorem pipeTo_next {n : Int} {f : Nat} {all last : List (List (Int × Int))} (h : last ≠ []) (h4 : ¬ 400 < (all ++ pipeNext n all last).length) : pipeTo n (f + 1) all last = pipeTo n f (all ++ pipeNext n all last) (pipeNext n all last) := by rw [pipeTo, if_neg h, if_neg h4]
theorem mem_dropD {all xss : List (List (Int × Int))} {d : List (Int × Int)} (h : d ∈ dropD all xss) : d ∈ xss ∧ hasD all d = false := by
  unfold dropD at h
  obtain ⟨i, hi, rfl⟩ := List.mem_map.1 h
  have hl := kI_lt hi
  unfold kI at hi
  have hk := (List.mem_filter.1 hi).2
  unfold notIn at hk
  refine ⟨?_, by simpa using hk⟩
  rw [List.getD_eq_getElem?_getD, List.getElem?_eq_getElem hl]
  exact List.getElem_mem _
theorem pipeNext_mem {n : Int} {all last : List (List (Int × Int))} {d : List (Int × Int)} (h : d ∈ pipeNext n all last) : ∃ e ∈ last, d ∈ ladders n e := by
  have h1 := (mem_dropD h).1
  rw [mem_ascD, List.mem_flatMap] at h1
  exact h1
/-- the dreams of the rounds are as long as the first one, and their numbers are small -/
theorem pipeNext_good {n : Int} {L : Nat} {all last : List (List (Int × Int))} (h : ∀ d ∈ last, d.length = L) : ∀ d ∈ pipeNext n all last, d.length = L ∧ L ≤ 15 ∧ LowL d := by
  intro d hd
  obtain ⟨e, he, hm⟩ := pipeNext_mem hd
  obtain ⟨h1, h2, h3⟩ := ladders_each hm
  refine ⟨by rw [h2, h e he], by have := h e he; omega, ?_⟩
  unfold ladders at hm
  rw [if_pos h1, mem_ascD] at hm
  exact ((ladTo_good h1 (Nat.le_refl _)).1 d hm).1
def pipeOk (xs : List Int) : Bool := isPerm xs && decide (xs.length ≤ 6) && (pipeTo (xs.length : Int) 402 [bottom xs] [bottom xs]).isSome
def pipeT (xs : List Int) : List (List (Int × Int)) := if isPerm xs = true ∧ xs.length ≤ 6 then ascD ((pipeTo (xs.length : Int) 402 [bottom xs] [bottom xs]).getD []) else []
end Go.Proofs.Ytageojkepoejiaa

namespace Go.Proofs.Ytageojkepoejiaa
open Go.RowKit

theorem step_appVC {w : World} {ops : Array Oper} {o : Oper} {ac : Act} {K : Act → World → Prop} {Q : Exit → Act → World → Prop} (hwant : Region.wanted o (yielded ops ac.tmps) = true) (s x : Operand)
    (ho : o.op = .call { callee := .builtin .append, args := #[s, x], argTypes := #[34, 34] })
    {B : Nat} {a : Option Addr} {n c : Nat} {vs : List Value} (hown : w.ownsRow B 36 1 (.slice a n c) n vs) (hs : ac.eval s = .slice a n c)
    {b : Option Addr} {m d : Nat} (us : List Value) (hx : ac.eval x = .slice b m d) (hl : us.length = m) (hna : b = none → m = 0)
    (hnews : ∀ ad, b = some ad → ∀ j u, us[j]? = some u → w.cell? (ad.add j) = some u) (h1 : ∀ u ∈ us, u.oneCell' = true) {N : Nat} (hN : n + m = N) (hn : N ≤ 16777216) (hbase : B ≤ w.heap.size)
    (h : ∀ a' c' w', w'.ownsRow B 36 1 (.slice a' N c') N (vs ++ us) → Grows w w' (.slice a n c) (.slice a' N c') → K (ac.put o.dst (.slice a' N c')) w') :
    if Region.wanted o (yielded ops ac.tmps) = true then Oper.wp Try.prog o ac w K Q else K (ac.put o.dst undef) w := by
  subst hN
  rw [if_pos hwant]
  obtain ⟨i0, hi, hz0, hz1, hz2⟩ := info_parts Try.info36
  obtain ⟨v', w', hr, h2, h3⟩ := run_app (P := Try.prog) w B 34 o.type 36 i0 (.slice none 0 0) 24 Try.underlying34 hi hz0 hz1 hz2 rfl (.slice a n c) n vs hown b m d us hl hna hnews h1 hn (by omega) hbase
  obtain ⟨a', c', rfl, _⟩ := slice_of h2
  unfold Oper.wp execOp
  simp only [ho, resolve, invoke, builtin, Sem.run_bind, Sem.run_pure, Result.andThen_ok, List.map_toArray, List.map_cons, List.map_nil, hs, hx, hr]
  exact h a' c' w' h2 h3
end Go.Proofs.Ytageojkepoejiaa

namespace Go.Proofs.Ytageojkepoejiaa

/-- lists of moderate length, no two alike -/
structure GoodII (xs : List (List Int)) : Prop where
  each : ∀ p ∈ xs, p.length ≤ 1048576
  apart : ∀ (i j : Nat) (p q : List Int), xs[i]? = some p → xs[j]? = some q → p = q → i = j
/-- how many of the list's first ones lie ahead of x -/
def cutL (x : List Int) : List (List Int) → Nat
  | [] => 0
  | y :: l => if less y x = true then cutL x l + 1 else 0
/-- x put in at its place, unless it is there -/
def insL (x : List Int) (l : List (List Int)) : List (List Int) := if l[cutL x l]? = some x then l else l.take (cutL x l) ++ [x] ++ l.drop (cutL x l)
theorem cutL_le (x : List Int) : ∀ l : List (List Int), cutL x l ≤ l.length
  | [] => Nat.le_refl _
  | y :: l => by
    unfold cutL
    split
    · have := cutL_le x l; simp; omega
    · exact Nat.zero_le _
theorem cutL_lo {x : List Int} : ∀ {l : List (List Int)} {k : Nat} {y : List Int}, k < cutL x l → l[k]? = some y → less y x = true
  | [], _, _, h, _ => by simp [cutL] at h
  | z :: l, k, y, h, hy => by
    unfold cutL at h
    split at h
    · rename_i hz
      match k, hy with
      | 0, hy => simp at hy; rw [← hy]; exact hz
      | k + 1, hy => exact cutL_lo (l := l) (k := k) (by omega) (by simpa using hy)
    · omega
theorem cutL_hi {x : List Int} : ∀ {l : List (List Int)} {y : List Int}, l[cutL x l]? = some y → less y x = false
  | [], _, h => by simp at h
  | z :: l, y, h => by
    unfold cutL at h
    split at h
    · exact cutL_hi (l := l) (by simpa using h)
    · rename_i hz
      simp at h
      rw [← h]
      simpa using hz
/-- the place is known by its two sides -/
theorem cutL_at {x : List Int} {l : List (List Int)} {k : Nat} (hk : k ≤ cutL x l) (h : k = l.length ∨ ∃ y, l[k]? = some y ∧ less y x = false) : cutL x l = k := by
  have := cutL_le x l
  rcases h with h | ⟨y, hy, hn⟩
  · omega
  · rcases Nat.lt_or_ge k (cutL x l) with hlt | hge
    · have := cutL_lo hlt hy
      rw [hn] at this
      cases this
    · omega
def AscL (l : List (List Int)) : Prop := l.Pairwise fun p q => less p q = true
theorem mem_insL {x y : List Int} {l : List (List Int)} : y ∈ insL x l ↔ y = x ∨ y ∈ l := by
  unfold insL
  split
  · rename_i h
    exact ⟨.inr, fun h' => h'.elim (fun e => e ▸ List.mem_of_getElem? h) id⟩
  · have e : l = l.take (cutL x l) ++ l.drop (cutL x l) := (List.take_append_drop _ _).symm
    conv => rhs; rw [e]
    simp only [List.mem_append, List.mem_singleton]
    constructor
    · rintro ((h | h) | h)
      · exact .inr (.inl h)
      · exact .inl h
      · exact .inr (.inr h)
    · rintro (h | h | h)
      · exact .inl (.inr h)
      · exact .inl (.inl h)
      · exact .inr h
theorem asc_insL {x : List Int} {l : List (List Int)} (h : AscL l) : AscL (insL x l) := by
  unfold insL
  split
  · exact h
  · rename_i hne
    have h0 := h
    unfold AscL at *
    rw [← List.take_append_drop (cutL x l) l, List.pairwise_append] at h
    obtain ⟨h1, h2, h3⟩ := h
    have lo : ∀ y ∈ l.take (cutL x l), less y x = true := by
      intro y hy
      obtain ⟨k, hk⟩ := List.getElem?_of_mem hy
      have hkl := (List.getElem?_eq_some_iff.1 hk).1
      rw [List.length_take] at hkl
      rw [List.getElem?_take_of_lt (by omega)] at hk
      exact cutL_lo (by omega) hk
    have hi : ∀ y ∈ l.drop (cutL x l), less x y = true := by
      intro y hy
      obtain ⟨k, hk⟩ := List.getElem?_of_mem hy
      rw [List.getElem?_drop] at hk
      have hlt : cutL x l < l.length := by have := (List.getElem?_eq_some_iff.1 hk).1; omega
      have hz : l[cutL x l]? = some l[cutL x l] := List.getElem?_eq_getElem hlt
      have hn := cutL_hi hz
      have hxz : less x l[cutL x l] = true := by
        cases hc : less x l[cutL x l] with
        | true => rfl
        | false => exact absurd (by rw [hz, less_total hn hc]) hne
      match k, hk with
      | 0, hk =>
        rw [Nat.add_zero, hz] at hk
        rw [← Option.some.inj hk]
        exact hxz
      | k + 1, hk =>
        obtain ⟨hkl, e⟩ := List.getElem?_eq_some_iff.1 hk
        have := List.pairwise_iff_getElem.1 h0 (cutL x l) (cutL x l + (k + 1)) hlt hkl (by omega)
        rw [e] at this
        exact less_trans hxz this
    rw [List.append_assoc, List.pairwise_append]
    refine ⟨h1, ?_, ?_⟩
    · rw [List.singleton_append, List.pairwise_cons]
      exact ⟨hi, h2⟩
    · intro y hy z hz
      rw [List.singleton_append, List.mem_cons] at hz
      rcases hz with rfl | hz
      · exact lo y hy
      · exact h3 y hy z hz
theorem asc_ext : ∀ {a b : List (List Int)}, AscL a → AscL b → (∀ x, x ∈ a ↔ x ∈ b) → a = b
  | [], [], _, _, _ => rfl
  | [], y :: b, _, _, h => absurd ((h y).2 List.mem_cons_self) (by simp)
  | x :: a, [], _, _, h => absurd ((h x).1 List.mem_cons_self) (by simp)
  | x :: a, y :: b, ha, hb, h => by
    obtain ⟨ha1, ha2⟩ := List.pairwise_cons.1 ha
    obtain ⟨hb1, hb2⟩ := List.pairwise_cons.1 hb
    have hxy : x = y := by
      rcases List.mem_cons.1 ((h x).1 List.mem_cons_self) with e | e
      · exact e
      · rcases List.mem_cons.1 ((h y).2 List.mem_cons_self) with e' | e'
        · exact e'.symm
        · have := less_trans (hb1 x e) (ha1 y e')
          rw [less_irrefl] at this
          cases this
    subst hxy
    rw [asc_ext ha2 hb2 fun z => ?_]
    constructor
    · intro hz
      rcases List.mem_cons.1 ((h z).1 (List.mem_cons_of_mem _ hz)) with e | e
      · subst e
        have := ha1 z hz
        rw [less_irrefl] at this
        cases this
      · exact e
    · intro hz
      rcases List.mem_cons.1 ((h z).2 (List.mem_cons_of_mem _ hz)) with e | e
      · subst e
        have := hb1 z hz
        rw [less_irrefl] at this
        cases this
      · exact e
/-- all of a list put in one behind the other -/
def ascOf (L : List (List Int)) : List (List Int) := L.foldl (fun l x => insL x l) []
theorem foldl_insL (L : List (List Int)) : ∀ l, AscL l → AscL (L.foldl (fun l x => insL x l) l) ∧ ∀ y, y ∈ L.foldl (fun l x => insL x l) l ↔ y ∈ L ∨ y ∈ l := by
  induction L with
  | nil => intro l h; exact ⟨h, fun y => by simp⟩
  | cons x L ih =>
    intro l h
    obtain ⟨h1, h2⟩ := ih _ (asc_insL (x := x) h)
    refine ⟨h1, fun y => ?_⟩
    rw [List.foldl_cons, h2, mem_insL, List.mem_cons]
    constructor
    · rintro (h | h | h)
      · exact .inl (.inr h)
      · exact .inl (.inl h)
      · exact .inr h
    · rintro ((h | h) | h)
      · exact .inr (.inl h)
      · exact .inl h
      · exact .inr (.inr h)
theorem ascOf_asc (L : List (List Int)) : AscL (ascOf L) := (foldl_insL L [] List.Pairwise.nil).1
theorem mem_ascOf {L : List (List Int)} {y : List Int} : y ∈ ascOf L ↔ y ∈ L := by
  rw [ascOf, (foldl_insL L [] List.Pairwise.nil).2]
  simp
theorem ascOf_snoc (L : List (List Int)) (x : List Int) : ascOf (L ++ [x]) = insL x (ascOf L) := by
  unfold ascOf
  rw [List.foldl_append]
  rfl
/-- an ordered list of the same ones is that list -/
theorem ascOf_perm {L l : List (List Int)} (hp : l.Perm L) (hs : l.Pairwise fun p q => less p q = true) : l = ascOf L := asc_ext hs (ascOf_asc L) fun x => by rw [mem_ascOf]; exact hp.mem_iff
theorem insL_length (x : List Int) (l : List (List Int)) : (insL x l).length ≤ l.length + 1 := by
  unfold insL
  split
  · omega
  · have := cutL_le x l
    simp
    omega
end Go.Proofs.Ytageojkepoejiaa
