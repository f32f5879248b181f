/-
  Contract of PipeDreams, the program's.
  Contract of the laws' own comparison of lists.
-/
import Derived.Test.YtdpjcjnednmoeaaBuM20
import Derived.Test.YtdpjcjnednmoeaaBuM15
import Derived.Test.YtdpjcjnednmoeaaBuM1
namespace Go.Proofs.Ytdpjcjnednmoeaa
open Go.RowKit Go.Shelf Go.Sort

/-- the box of a list of dreams -/
def BoxCC (w : World) (A : Nat) (v : Value) : Prop := w.heap[A]? = some (.cells #[v] 31 (0, 0))
theorem BoxCC.cell {w : World} {A : Nat} {v : Value} (h : BoxCC w A v) (_hv : v.oneCell' = true) : w.cell? ⟨A, 0, none⟩ = some v := by
  rw [cell_of_row w _ 0 _ _ (0, 0) h]; rfl
theorem BoxCC.thaw {w : World} {A : Nat} {v : Value} (h : BoxCC w A v) : w.frozen? ⟨A, 0, none⟩ = false := by unfold BoxCC at h; simp [World.frozen?, h]
theorem BoxCC.lt {w : World} {A : Nat} {v : Value} (h : BoxCC w A v) : A < w.heap.size := (Array.getElem?_eq_some_iff.1 h).1
theorem BoxCC.below {w w' : World} {A B : Nat} {v : Value} (h : BoxCC w A v) (hb : Below B w w') (hA : A < B) : BoxCC w' A v := by
  unfold BoxCC; rw [hb.block A hA]; exact h
theorem BoxCC.set {w : World} {A : Nat} {u v : Value} (h : BoxCC w A u) : BoxCC (w.setCell ⟨A, 0, none⟩ v) A v := heap_setCell_same w A 0 _ _ v h
theorem grown_box (w : World) (A : Nat) (v : Value) : w.grownBy (w.setCell ⟨A, 0, none⟩ v) (some A) :=
  ⟨rfl, rfl, rfl, by simp, fun k _ hk => heap_setCell_other w ⟨A, 0, none⟩ k v (fun e => hk (by simp at e; rw [e]))⟩
theorem CCO.box {w : World} {B S A : Nat} {a : Option Addr} {n c : Nat} {xss : List (List (Int × Int))} {u v : Value} (h : CCO w B S a n c xss) (hA : BoxCC w A u) : CCO (w.setCell ⟨A, 0, none⟩ v) B S a n c xss := by
  obtain ⟨vs, h1, h2, h3⟩ := h
  refine ⟨vs, grown_keeps h1 (grown_box w A v) (fun k hk e => ?_), h2, h3.len, fun k xs hx => ?_, h3.apart⟩
  · rcases ownsRow_shape h1 with ⟨_, rfl, _⟩ | ⟨g, rfl, _, _, _, cur, hg⟩
    · cases hk
    · have e1 : g = k := by simpa [Value.ownBlock] using hk
      have e2 := Option.some.inj e
      subst e1 e2
      unfold BoxCC at hA
      rw [hg] at hA
      simp at hA
  · obtain ⟨a', c', e1, e2⟩ := h3.each k xs hx
    refine ⟨a', c', e1, e2.kept (grown_box w A v) (fun q hq e => ?_)⟩
    rcases e2.1.2 with ⟨hv, _⟩ | ⟨g', cap', cur', hv, _, hh, _⟩
    · rw [hv] at hq; cases hq
    · rw [hv] at hq
      have e3 : g' = q := by simpa [Value.ownBlock] using hq
      have e4 := Option.some.inj e
      subst e3 e4
      unfold BoxCC at hA
      rw [hh] at hA
      simp at hA
/-- one row in a new block: a list of one dream -/
theorem CCO.one {w : World} {B n c : Nat} {a : Option Addr} {xs : List (Int × Int)} (h : CO w B w.heap.size a n c xs) (hB : B ≤ w.heap.size) :
    CCO (w.alloc (.cells #[.slice a n c] 44)) B (w.heap.size + 1) (some ⟨w.heap.size, 0, none⟩) 1 1 [xs] := by
  have hl := h.len
  have hb := (Below.refl w.heap.size w).alloc (Nat.le_refl _) (.cells #[.slice a n c] 44)
  refine ⟨[.slice a n c], World.ownsRow_lit w #[.slice a n c] 1 hB (by decide) rfl, fun k hk => by simp [Value.ownBlock] at hk; omega, rfl, fun k ys hy => ?_, fun i j u v g hu hv _ _ => ?_⟩
  · match k, hy with
    | 0, hy =>
      obtain rfl := Option.some.inj hy
      exact ⟨a, c, by rw [hl]; rfl, by rw [hl]; exact (h.below hb).mono (Nat.le_refl _) (Nat.le_succ _)⟩
  · have h1 := (List.getElem?_eq_some_iff.1 hu).1
    have h2 := (List.getElem?_eq_some_iff.1 hv).1
    simp at h1 h2
    omega
def lenV : Option Value → Nat
  | some (.slice _ n _) => n
  | _ => 0

theorem bot_low (c : List Int) {n : Nat} (h : ∀ (i : Nat) (x : Int), c[i]? = some x → 0 ≤ x ∧ x ≤ n) (hn : n ≤ 1000) : ∀ k, k ≤ 1000 → LowL (bot c k)
  | 0, _ => fun p hp => by cases hp
  | k + 1, hk => fun p hp => by
    rw [bot, List.mem_append] at hp
    rcases hp with hp | hp
    · exact bot_low c h hn k (by omega) p hp
    · unfold rowCells at hp
      rw [List.mem_map] at hp
      obtain ⟨j, hj, rfl⟩ := hp
      rw [List.mem_range] at hj
      have hc : (c.getD k 0).toNat ≤ n := by
        rw [List.getD_eq_getElem?_getD]
        cases hc : c[k]? with
        | none => simp
        | some x => have := h k x hc; simp only [Option.getD_some]; omega
      unfold Low
      simp only
      omega
/-- dreams of moderate length with small numbers -/
def GoodD (xss : List (List (Int × Int))) : Prop := ∀ d ∈ xss, d.length ≤ 36 ∧ LowL d
theorem bottom_good (xs : List Int) : GoodD [bottom xs] := fun d hd => by
  obtain rfl := List.mem_singleton.1 hd
  refine ⟨bottom_len xs, ?_⟩
  unfold bottom
  split
  · rename_i h
    have := h.2
    exact bot_low (code xs) code_bd (by omega) _ (by omega)
  · intro p hp; cases hp
theorem GoodD.short {xss : List (List (Int × Int))} (h : GoodD xss) : ShortCC xss := fun d hd => by have := (h d hd).1; omega
theorem GoodD.low {xss : List (List (Int × Int))} (h : GoodD xss) : ∀ d ∈ xss, LowL d := fun d hd => (h d hd).2
theorem GoodD.next {n : Int} {L : Nat} {all last : List (List (Int × Int))} (h : GoodD all) (hl : ∀ d ∈ last, d.length = L) : GoodD (all ++ pipeNext n all last) := fun d hd => by
  rcases List.mem_append.1 hd with hd | hd
  · exact h d hd
  · obtain ⟨h1, h2, h3⟩ := pipeNext_good hl d hd
    exact ⟨by omega, h3⟩
/-- what is found from the dreams of one round, before it is ordered -/
def moves (n : Int) (last : List (List (Int × Int))) (k : Nat) : List (List (Int × Int)) := (last.take k).flatMap (ladders n)
theorem moves_succ {n : Int} {last : List (List (Int × Int))} {k : Nat} {d : List (Int × Int)} (h : last[k]? = some d) : moves n last (k + 1) = moves n last k ++ ladders n d := by
  obtain ⟨hk, e⟩ := List.getElem?_eq_some_iff.1 h
  unfold moves
  rw [List.take_succ_eq_append_getElem hk, List.flatMap_append, e]
  simp
theorem moves_len (n : Int) (last : List (List (Int × Int))) : ∀ k, (moves n last k).length ≤ 15 * k
  | 0 => by simp [moves]
  | k + 1 => by
    have := moves_len n last k
    cases h : last[k]? with
    | none =>
      have e : moves n last (k + 1) = moves n last k := by
        unfold moves
        rw [List.take_of_length_le (by rw [List.getElem?_eq_none_iff] at h; omega), List.take_of_length_le (by rw [List.getElem?_eq_none_iff] at h; omega)]
      rw [e]; omega
    | some d =>
      rw [moves_succ h, List.length_append]
      have := ladders_few n d
      omega
theorem moves_all (n : Int) {last : List (List (Int × Int))} {k : Nat} (h : last.length = k) : moves n last k = last.flatMap (ladders n) := by unfold moves; rw [List.take_of_length_le (by omega)]
theorem moves_each {n : Int} {last : List (List (Int × Int))} {k : Nat} : ∀ d ∈ moves n last k, d.length ≤ 15 ∧ LowL d := fun d hd => by
  unfold moves at hd
  rw [List.mem_flatMap] at hd
  obtain ⟨e, _, hm⟩ := hd
  obtain ⟨h1, h2, h3⟩ := ladders_each hm
  unfold ladders at hm
  rw [if_pos h1, mem_ascD] at hm
  exact ⟨by omega, ((ladTo_good h1 (Nat.le_refl _)).1 d hm).1⟩
theorem dropD_length (all xss : List (List (Int × Int))) : (dropD all xss).length ≤ xss.length := by
  unfold dropD
  rw [List.length_map]
  exact kI_le _ _
theorem pipeOk_no {xs : List Int} (h : isPerm xs = false ∨ 6 < xs.length) : pipeOk xs = false ∧ pipeT xs = [] := by
  rcases h with h | h
  · exact ⟨by rw [pipeOk, h]; rfl, by rw [pipeT, if_neg (by rw [h]; simp)]⟩
  · exact ⟨by rw [pipeOk, show decide (xs.length ≤ 6) = false by simp; omega]; simp, by rw [pipeT, if_neg (by omega)]⟩
theorem pipe_none {xs : List Int} (h : pipeTo (xs.length : Int) 402 [bottom xs] [bottom xs] = none) : pipeOk xs = false ∧ pipeT xs = [] := by
  refine ⟨by rw [pipeOk, h]; simp, ?_⟩
  rw [pipeT, h]
  split <;> rfl
theorem pipe_some {xs : List Int} {l : List (List (Int × Int))} (h1 : isPerm xs = true) (h6 : xs.length ≤ 6) (h : pipeTo (xs.length : Int) 402 [bottom xs] [bottom xs] = some l) : pipeOk xs = true ∧ pipeT xs = ascD l := by
  refine ⟨by rw [pipeOk, h, h1]; simp; omega, ?_⟩
  rw [pipeT, h, if_pos ⟨h1, h6⟩]
  rfl

set_option maxRecDepth 100000 in
set_option maxHeartbeats 6400000 in
theorem implPipe_any (a : Option Addr) (n c : Nat) (xs : List Int) (w : World) (hr : RI w a xs) (hn : xs.length = n) (hb : n ≤ 17592186044416) (hcap : n ≤ c) :
    Calls Try.prog 10 #[.slice a n c] w fun e w' => ∃ a' n' c' r, e = .returned (.tuple #[.slice a' n' c', .bool r]) ∧ CCO w' w.heap.size w'.heap.size a' n' c' (pipeT xs) ∧ Hid (r = pipeOk xs) ∧ Below w.heap.size w w' := by
  have Hn := Lib.hid hn; clear hn
  cases hp : isPerm xs
  · have Hno := Lib.hid (pipeOk_no (xs := xs) (.inl hp))
    have Hp := Lib.hid hp; clear hp
    go_enter Try.func10, Try.ntmps10
    go_wp2_with fail
    refine (is (implIsPerm_any _ _ _ xs _ hr Hn.out hb) Hp.out).mono ?_
    rintro e w1 ⟨rfl, hd⟩
    go_wp2
    go_ret2
    exact ⟨_, _, _, _, rfl, by rw [Hno.out.2]; exact CCO.nil, Hno.out.1.symm, hd⟩
  have hpl := perm_len hp
  rw [Hn.out] at hpl
  by_cases h6 : 6 < n
  · have Hno := Lib.hid (pipeOk_no (xs := xs) (.inr (by rw [Hn.out]; exact h6)))
    have Hp := Lib.hid hp; clear hp
    go_enter Try.func10, Try.ntmps10
    go_wp2_with fail
    refine (is (implIsPerm_any _ _ _ xs _ hr Hn.out hb) Hp.out).mono ?_
    rintro e w1 ⟨rfl, hd⟩
    go_wp2
    go_ret2
    exact ⟨_, _, _, _, rfl, by rw [Hno.out.2]; exact CCO.nil, Hno.out.1.symm, hd⟩
  have Hp := Lib.hid hp; clear hp
  go_enter Try.func10, Try.ntmps10
  go_wp2_with fail
  refine (is (implIsPerm_any _ _ _ xs _ hr Hn.out hb) Hp.out).mono ?_
  rintro e w1 ⟨rfl, hd1⟩
  have hr1 := hr.below hd1
  go_wp2_with fail
  refine (implBottom_any _ _ _ xs _ hr1 Hn.out hb hcap).mono ?_
  rintro e w2 ⟨ab, nb, cb, rfl, hob, hd2⟩
  obtain ⟨L, hL⟩ : ∃ L, (bottom xs).length = L := ⟨_, rfl⟩
  have HL := Lib.hid hL
  have hs12 := hd2.size
  have hs01 := hd1.size
  have hd02 := hd1.trans (hd2.mono hs01)
  have ho1 := CCO.one (hob.mono (B' := w.heap.size) (S' := w2.heap.size) hs01 (Nat.le_refl _)) (by omega)
  obtain ⟨W3, hW3⟩ : ∃ W3, w2.alloc (.cells #[.slice ab nb cb] 44) = W3 := ⟨_, rfl⟩
  have hz3 : W3.heap.size = w2.heap.size + 1 := by rw [← hW3]; simp
  rw [hW3] at ho1
  have hd3 : Below w.heap.size w W3 := by rw [← hW3]; exact hd02.alloc (by omega) _
  obtain ⟨A, hA⟩ : ∃ A, W3.heap.size = A := ⟨_, rfl⟩
  obtain ⟨W4, hW4⟩ : ∃ W4, W3.alloc (.cells #[.slice none 0 0] 31) = W4 := ⟨_, rfl⟩
  have hz4 : W4.heap.size = A + 1 := by rw [← hW4, ← hA]; simp
  have hg4 : BoxCC W4 A (.slice none 0 0) := by rw [← hW4, ← hA]; exact heap_alloc_new W3 _
  have hd34 : Below W3.heap.size W3 W4 := by rw [← hW4]; exact (Below.refl _ _).alloc (Nat.le_refl _) _
  have hd4 : Below w.heap.size w W4 := hd3.trans (hd34.mono (by omega))
  obtain ⟨W5, hW5⟩ : ∃ W5, W4.setCell ⟨A, 0, none⟩ (.slice (some ⟨w2.heap.size, 0, none⟩) 1 1) = W5 := ⟨_, rfl⟩
  have ho5 := (ho1.below hd34).box (v := .slice (some ⟨w2.heap.size, 0, none⟩) 1 1) hg4
  have hg5 := hg4.set (v := .slice (some ⟨w2.heap.size, 0, none⟩) 1 1)
  have hd5 : Below w.heap.size w W5 := by
    rw [← hW5]
    exact below_grown (v := .slice (some ⟨A, 0, none⟩) 1 1) hd4 (grown_box W4 A _) hd4.size (fun k hk => by simp [Value.ownBlock] at hk; omega)
  rw [hW5] at ho5 hg5
  have hz5 : W5.heap.size = A + 1 := by rw [← hW5]; simp; omega
  have hc4 := hg4.cell rfl
  have hf4 := hg4.thaw
  have hc5 := hg5.cell rfl
  have ho5' := ho5.mono (S' := W5.heap.size) (by omega)
  have hwA : w.heap.size ≤ A := by omega
  have HZ3 := Lib.hid hz3
  have HZ4 := Lib.hid hz4
  have HZ5 := Lib.hid hz5
  clear hz3 hz4 hz5 ho1 hg4 hd34 hd3 hd4 hd02 hob hd1 hd2 hr1 ho5
  obtain ⟨R, hR⟩ : ∃ R, pipeTo (n : Int) 402 [bottom xs] [bottom xs] = R := ⟨_, rfl⟩
  have HR := Lib.hid hR
  have hl64 : -9223372036854775808 ≤ (n : Int) := by omega
  have hu64 : (n : Int) ≤ 9223372036854775807 := by omega
  have hL36 : L ≤ 36 := by rw [← hL]; exact bottom_len xs
  clear hR hL hpl
  go_wp2
  clear hA hW3 hW4 hW5
  go_loopw [5] (fun lv wr => Hid (∃ (f : Nat) (all last : List (List (Int × Int))) (gA nA cA : Nat) (al : Option Addr) (nl cl : Nat), lv = .slice al nl cl ∧ BoxCC wr A (.slice (some ⟨gA, 0, none⟩) nA cA) ∧ CCO wr w.heap.size wr.heap.size (some ⟨gA, 0, none⟩) nA cA all ∧ RCC wr al last ∧ last.length = nl ∧ 1 ≤ nA ∧ nA ≤ 400 ∧ nl ≤ nA ∧ pipeTo (n : Int) f all last = R ∧ 403 ≤ f + nA + (if last = [] then 1 else 0) ∧ GoodD all ∧ ∀ d ∈ last, d.length = L) ∧ Below w.heap.size w wr) (fun lv wr => 2 * (401 - lenV (wr.cell? ⟨A, 0, none⟩)) + min 1 (lenV (some lv)))
  case atStart => exact ⟨⟨402, [bottom xs], [bottom xs], w2.heap.size, 1, 1, _, _, _, rfl, hg5, ho5', ho5'.rd, rfl, Nat.le_refl _, by omega, Nat.le_refl _, HR.out, by simp, bottom_good xs, fun d hd => by obtain rfl := List.mem_singleton.1 hd; exact HL.out⟩, hd5⟩
  case round =>
    clear hg5 hd5 hc4 hf4 hc5 ho5' HZ3 HZ4 HZ5
    obtain ⟨HV, hB⟩ := hrel
    obtain ⟨wo, rfl⟩ : ∃ wo : World, wo = wr := ⟨_, rfl⟩
    obtain ⟨f, all, last, gA, nA, cA, al, nl, cl, rfl, hbx, hall, hlast, hll, hn1, hn4, hnl, hpt, hfu, hgd, hlL⟩ := HV.out
    clear HV
    have hAo := hbx.lt
    have hc := hbx.cell rfl
    have HC := Lib.hid hc
    have Hpt := Lib.hid hpt
    have Hfu := Lib.hid hfu
    have Hll := Lib.hid hll
    have HlL := Lib.hid hlL
    have Hgd := Lib.hid hgd
    have Hall := Lib.hid hall
    have Hbx := Lib.hid hbx
    have hBs := hB.size
    clear hpt hfu hll hlL hgd hall hbx
    by_cases hlt : 0 < nl
    · have q1 : (0 : Int) < (nl : Int) := by omega
      obtain ⟨W, hW⟩ : ∃ W, wo.alloc (.cells #[] 44) = W := ⟨_, rfl⟩
      have hBW : Below wo.heap.size wo W := by rw [← hW]; exact (Below.refl _ _).alloc (Nat.le_refl _) _
      have hm0 : CCO W wo.heap.size W.heap.size (some ⟨wo.heap.size, 0, none⟩) 0 0 [] := by rw [← hW]; exact CCO.made wo
      clear hc
      go_wp2
      go_loopw [6, 27] (fun nv iv wr => Hid (∃ (i m : Nat) (a' : Option Addr) (c' : Nat), i ≤ nl ∧ iv = .int .i64 i ∧ nv = .slice a' m c' ∧ CCO wr wo.heap.size wr.heap.size a' m c' (moves n last i)) ∧ Below wo.heap.size wo wr) (fun _ iv _ => nl - (intOf iv).toNat)
      case atStart => exact ⟨⟨0, 0, _, _, Nat.zero_le _, rfl, rfl, hm0⟩, hBW⟩
      case round =>
        clear hm0 hBW hW
        obtain ⟨HV, hBi⟩ := hrel
        obtain ⟨wi, rfl⟩ : ∃ wi : World, wi = wr := ⟨_, rfl⟩
        obtain ⟨i, m, ai, ci, hi, rfl, rfl, hO⟩ := HV.out
        clear HV
        have hisz := hBi.size
        have hml : m ≤ 15 * i := by rw [← hO.len]; exact moves_len _ _ i
        have HO := Lib.hid hO
        clear hO
        by_cases hil : i < nl
        · obtain ⟨d, hd⟩ := some_of (show i < last.length by rw [Hll.out]; exact hil)
          obtain ⟨b1, off, rfl, hcell⟩ := (hlast.below hBi).at (k := i) (by rw [Hll.out]; exact hil)
          obtain ⟨a1, c1, hc1, hr1⟩ := hcell i d hd
          rw [HlL.out d (List.mem_of_getElem? hd)] at hc1
          have Hdl := Lib.hid (HlL.out d (List.mem_of_getElem? hd))
          have Hmv := Lib.hid (moves_succ (n := (n : Int)) hd)
          have q2 : (i : Int) < (nl : Int) := by omega
          clear hcell hd
          go_wp2_with fail
          refine (implLad_any (n : Int) _ _ _ d _ hl64 hu64 hr1 Hdl.out (by omega) trivial).mono ?_
          rintro e w3 ⟨a3, n3, c3, rfl, ho3, hb3⟩
          have HO3 := Lib.hid (HO.out.below hb3)
          have H3 := Lib.hid ho3
          have h15 : n3 ≤ 15 := by rw [← ho3.len]; exact ladders_few _ _
          have hB3 := hBi.trans (hb3.mono hisz)
          have h3s := hb3.size
          clear ho3 hb3 hc1 hr1
          go_wp2_with (first | (at_builtin; go_loud (refine wpList_appCC (by rfl) _ _ (by rfl) HO3.out (by rfl) H3.out hisz (Nat.le_refl _) (by rfl) (by omega) (by omega) (by omega) (Nat.le_refl _) ?_)))
          intro a4 c4 w4 ho4 hg4
          have hB4 := hg4.below hB3 (by omega) (fun k hk => HO3.out.lo k hk)
          have HO4 := Lib.hid (show CCO w4 wo.heap.size w4.heap.size a4 (m + n3) c4 (moves n last (i + 1)) by rw [Hmv.out]; exact ho4)
          clear ho4 hg4
          go_wp2
          go_roundw
          case rel => exact ⟨⟨i + 1, _, _, _, by omega, by go_num, rfl, HO4.out⟩, hB4⟩
          case measure => simp [intOf]; omega
        · obtain rfl : i = nl := by omega
          have Hma := Lib.hid (moves_all (n : Int) Hll.out)
          have hshort : ShortCC (moves n last i) := fun d hd => by have := (moves_each d hd).1; omega
          have hlow : ∀ d ∈ moves n last i, LowL d := fun d hd => (moves_each d hd).2
          go_wp2_with fail
          refine (inOrder_gen _ _ _ _ _ (moves n last i) _ HO.out hshort hlow (by omega)).mono ?_
          rintro e w3 ⟨n3, rfl, ho3, hon3⟩
          have hB3 := hon3.below hBi (Nat.le_refl _) hisz
          have h3l : n3 ≤ 6000 := by
            have h1 := ascD_length (moves n last i)
            have h2 := ho3.len
            have h3 := HO.out.len
            omega
          have H3 := Lib.hid ho3
          have hs3 := hB3.size
          have his3 := hon3.size
          clear ho3 hon3 hshort hlow HO
          have hDel : ∀ w', w3.grownBy w' (Value.slice ai n3 ci).ownBlock → w'.cell? ⟨A, 0, none⟩ = some (.slice (some ⟨gA, 0, none⟩) nA cA) ∧ RCC w' (some ⟨gA, 0, none⟩) all := fun w' h => by
            have hb := below_grown hB3 h hs3 (fun k hk => H3.out.lo k hk)
            exact ⟨(Hbx.out.below hb hAo).cell rfl, Hall.out.rd.below hb⟩
          have HDel := Lib.hid hDel
          clear hDel
          go_wp2_with fail
          refine (deleteC_gen A _ nA cA all _ _ _ _ _ (ascD (moves n last i)) _ H3.out HDel.out Hall.out.len (by omega) (by omega) Hgd.out.short).mono ?_
          rintro e w4 ⟨n4, rfl, ho4, hg4⟩
          rw [Hma.out, show dropD all (ascD (last.flatMap (ladders (n : Int)))) = pipeNext n all last from rfl] at ho4
          have hB4 := below_grown hB3 hg4 hs3 (fun k hk => H3.out.lo k hk)
          have hs4 := hB4.size
          have hc4 := (Hbx.out.below hB4 hAo).cell rfl
          have hgs4 := hg4.size
          have h4l : n4 ≤ n3 := by
            have h1 := dropD_length all (ascD (last.flatMap (ladders (n : Int))))
            have h2 := ho4.len
            have h3 := H3.out.len
            rw [Hma.out] at h3
            have h5 : (pipeNext n all last).length = (dropD all (ascD (last.flatMap (ladders (n : Int))))).length := rfl
            omega
          have H4 := Lib.hid ho4
          have Hal4 := Lib.hid (Hall.out.below hB4)
          clear ho4 hg4 HDel H3
          go_wp2_with fail
          refine (cloneCC_any _ _ gA _ _ all _ Hal4.out (by omega) (by omega)).mono ?_
          rintro e w5 ⟨a5, c5, rfl, ho5, hlo5, hb5⟩
          have H5 := Lib.hid ho5
          have Hlo5 := Lib.hid hlo5
          have H4' := Lib.hid (H4.out.below hb5)
          have hs5 := hb5.size
          have hB5 := hB4.trans (hb5.mono hs4)
          clear ho5 hlo5 hb5 hc4
          have hi5 : ∀ k, (Value.slice a5 nA c5).ownBlock = some k → k < w5.heap.size := fun k hk => by
            obtain ⟨vs, _, h2, _⟩ := H5.out
            exact h2 k hk
          have Hi5 := Lib.hid hi5
          clear hi5
          go_wp2_with (first | (at_builtin; go_loud (refine wpList_appCC2 (by rfl) _ _ (by rfl) H5.out (by rfl) H4'.out hBs (Nat.le_refl _) (by rfl) (by omega) (by omega) (by omega) (by omega) ?_)))
          intro a6 c6 w6 ho6 hg6
          have hB6 := hg6.below hB5 (by omega) (fun k hk => Nat.le_trans hs4 (Hlo5.out k hk))
          have hx6 := Hbx.out.below hB6 hAo
          have hon6 := hg6.only Hlo5.out Hi5.out
          have H46 := Lib.hid (H4'.out.only hon6 (.inl (by omega)))
          have hs6 := hB6.size
          rcases ho6.shape with ⟨h0, _⟩ | ⟨g6, rfl, hg6B, hg6S⟩
          · omega
          obtain ⟨W7, hW7⟩ : ∃ W7, w6.setCell ⟨A, 0, none⟩ (.slice (some ⟨g6, 0, none⟩) (nA + n4) c6) = W7 := ⟨_, rfl⟩
          have hz7 : W7.heap.size = w6.heap.size := by rw [← hW7]; simp
          have hc6 := hx6.cell rfl
          have hf6 := hx6.thaw
          have hx7 := hx6.set (v := .slice (some ⟨g6, 0, none⟩) (nA + n4) c6)
          have ho7 := ho6.box (v := .slice (some ⟨g6, 0, none⟩) (nA + n4) c6) hx6
          have hn7 := H46.out.box (v := .slice (some ⟨g6, 0, none⟩) (nA + n4) c6) hx6
          have hB7 : Below w.heap.size w W7 := by
            rw [← hW7]
            exact below_grown (v := .slice (some ⟨A, 0, none⟩) 1 1) (hB.trans (hB6.mono hBs)) (grown_box w6 A _) (by omega) (fun k hk => by simp [Value.ownBlock] at hk; omega)
          rw [hW7] at hx7 ho7 hn7
          have hc7 := hx7.cell rfl
          have HC7 := Lib.hid hc7
          have H7 := Lib.hid (show CCO W7 w.heap.size W7.heap.size (some ⟨g6, 0, none⟩) (nA + n4) c6 (all ++ pipeNext n all last) by rw [hz7]; exact ho7)
          have HN7 := Lib.hid hn7
          have HX7 := Lib.hid hx7
          have HZ7 := Lib.hid hz7
          clear ho6 hg6 hon6 hx6 ho7 hn7 hx7 hz7 hB6 hB5 hB4 hB3 H5 H4 H46
          have hne : last ≠ [] := by rintro rfl; have := Hll.out; simp at this; omega
          have Hne := Lib.hid hne
          have hnx := Lib.hid HN7.out.len
          have hat := Lib.hid H7.out.len
          obtain ⟨f', hf'⟩ : ∃ f', f = f' + 1 := ⟨f - 1, by have := Hfu.out; rw [if_neg hne] at this; omega⟩
          have Hf' := Lib.hid hf'
          have Hfu2 := Lib.hid (show 403 ≤ f' + (nA + n4) + (if pipeNext n all last = [] then 1 else 0) by
            have h1 := Hfu.out
            rw [if_neg hne, hf'] at h1
            have h2 := hnx.out
            split
            · omega
            · rename_i h
              have := List.length_pos_iff.2 h
              omega)
          clear hne hf'
          by_cases h4 : 400 < nA + n4
          · have q4 : (400 : Int) < ((nA + n4 : Nat) : Int) := by omega
            have Hno := Lib.hid (pipe_none (xs := xs) (by
              rw [Hn.out, HR.out, ← Hpt.out, Hf'.out]
              exact pipeTo_many Hne.out (by rw [hat.out]; exact h4)))
            go_wp2
            go_ret2
            exact ⟨_, _, _, _, rfl, by rw [Hno.out.2]; exact CCO.nil, Hno.out.1.symm, hB7⟩
          · have q4 : ¬ (400 : Int) < ((nA + n4 : Nat) : Int) := by omega
            have Hp2 := Lib.hid (show pipeTo (n : Int) f' (all ++ pipeNext n all last) (pipeNext n all last) = R by
              rw [← Hpt.out, Hf'.out]
              exact (pipeTo_next Hne.out (by rw [hat.out]; exact h4)).symm)
            have Hg2 := Lib.hid (Hgd.out.next (n := (n : Int)) HlL.out)
            have HL2 := Lib.hid (fun d hd => (pipeNext_good (n := (n : Int)) (all := all) HlL.out d hd).1)
            go_wp2
            go_roundw
            case rel => exact ⟨⟨f', _, _, g6, nA + n4, c6, _, _, _, rfl, HX7.out, H7.out, HN7.out.rd, hnx.out, by omega, by omega, by omega, Hp2.out, Hfu2.out, Hg2.out, HL2.out⟩, hB7⟩
            case measure =>
              rw [HC7.out, HC.out]
              simp only [lenV]
              omega
    · obtain rfl : nl = 0 := by omega
      have hl0 : last = [] := List.eq_nil_of_length_eq_zero Hll.out
      subst hl0
      have Hsm := Lib.hid (pipe_some (xs := xs) (l := all) Hp.out (by rw [Hn.out]; omega) (by
        rw [Hn.out, HR.out, ← Hpt.out]
        obtain ⟨f', rfl⟩ : ∃ f', f = f' + 1 := ⟨f - 1, by have := Hfu.out; rw [if_pos rfl] at this; omega⟩
        exact pipeTo_stop))
      go_wp2_with fail
      refine (inOrder_gen _ _ _ _ _ all _ Hall.out Hgd.out.short Hgd.out.low (by omega)).mono ?_
      rintro e w3 ⟨n3, rfl, ho3, hon3⟩
      have hB3 := hon3.below hB (Nat.le_refl _) hBs
      have H3 := Lib.hid (ho3.mono hon3.size)
      clear ho3 hon3
      go_wp2
      go_ret2
      exact ⟨_, _, _, _, rfl, by rw [Hsm.out.2]; exact H3.out, Hsm.out.1.symm, hB3⟩
end Go.Proofs.Ytdpjcjnednmoeaa

namespace Go.Proofs.Ytdpjcjnednmoeaa
open Go.RowKit

end Go.Proofs.Ytdpjcjnednmoeaa
