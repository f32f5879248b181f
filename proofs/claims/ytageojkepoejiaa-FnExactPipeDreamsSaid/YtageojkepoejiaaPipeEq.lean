/-
  The program's rounds and the reference's search find the same reduced dreams. Plain.
-/
import Derived.Test.YtageojkepoejiaaPipeChk
import Derived.Test.YtageojkepoejiaaBuP18
import Derived.Test.YtageojkepoejiaaSpecPipe
namespace Go.Proofs.Ytageojkepoejiaa
open Go.RowKit

/-! the rounds -/
theorem dropD_filter (all xss : List (List (Int × Int))) : dropD all xss = xss.filter fun d => !(hasD all d) := by
  have h : (List.range xss.length).map (fun i => xss.getD i []) = xss := by
    apply List.ext_getElem?
    intro k
    rcases Nat.lt_or_ge k xss.length with hk | hk
    · rw [List.getElem?_map, List.getElem?_range hk, List.getElem?_eq_getElem hk, Option.map_some, List.getD_eq_getElem?_getD, List.getElem?_eq_getElem hk]
      rfl
    · rw [List.getElem?_eq_none (by simp; omega), List.getElem?_eq_none hk]
  conv => rhs; rw [← h, List.filter_map]
  rfl
theorem mem_pipeNext {n : Int} {all last : List (List (Int × Int))} {e : List (Int × Int)} : e ∈ pipeNext n all last ↔ (∃ d ∈ last, e ∈ ladders n d) ∧ e ∉ all := by
  unfold pipeNext
  rw [dropD_filter, List.mem_filter, mem_ascD, List.mem_flatMap]
  unfold hasD
  simp
theorem ascD_nodup (L : List (List (Int × Int))) : (ascD L).Nodup := (ascD_asc L).imp fun {a b} h e => by
  subst e
  rw [lessD_irrefl] at h
  cases h
theorem pipeNext_nodup {n : Int} {all last : List (List (Int × Int))} (h : all.Nodup) : (all ++ pipeNext n all last).Nodup := by
  rw [List.nodup_append]
  refine ⟨h, ?_, fun a ha b hb e => ?_⟩
  · unfold pipeNext
    rw [dropD_filter]
    exact (ascD_nodup _).filter _
  · subst e
    exact (mem_pipeNext.1 hb).2 ha
theorem pipeTo_sub {n : Int} {P : List (Int × Int) → Prop} (hP : ∀ d, P d → ∀ e ∈ ladders n d, P e) : ∀ (f : Nat) (all last A : List (List (Int × Int))), pipeTo n f all last = some A → (∀ d ∈ all, P d) → (∀ d ∈ last, P d) → ∀ d ∈ A, P d
  | 0, _, _, _, h, _, _ => by rw [pipeTo] at h; cases h
  | f + 1, all, last, A, h, h1, h2 => by
    rw [pipeTo] at h
    split at h
    · obtain rfl := Option.some.inj h
      exact h1
    · split at h
      · cases h
      · have hn : ∀ d ∈ pipeNext n all last, P d := fun d hd => by
          obtain ⟨⟨e, he, hm⟩, _⟩ := mem_pipeNext.1 hd
          exact hP e (h2 e he) d hm
        refine pipeTo_sub hP f _ _ A h (fun d hd => ?_) hn
        rcases List.mem_append.1 hd with hd | hd
        · exact h1 d hd
        · exact hn d hd
theorem pipeTo_closed {n : Int} : ∀ (f : Nat) (all last A : List (List (Int × Int))), pipeTo n f all last = some A → (∀ d ∈ all, d ∈ last ∨ ∀ e ∈ ladders n d, e ∈ all) →
    (∀ d ∈ all, d ∈ A) ∧ ∀ d ∈ A, ∀ e ∈ ladders n d, e ∈ A
  | 0, _, _, _, h, _ => by rw [pipeTo] at h; cases h
  | f + 1, all, last, A, h, h1 => by
    rw [pipeTo] at h
    split at h
    · rename_i hl
      obtain rfl := Option.some.inj h
      refine ⟨fun d hd => hd, fun d hd e he => ?_⟩
      rcases h1 d hd with h2 | h2
      · rw [hl] at h2; cases h2
      · exact h2 e he
    · split at h
      · cases h
      · obtain ⟨g1, g2⟩ := pipeTo_closed f _ _ A h (fun d hd => by
          rcases List.mem_append.1 hd with hd | hd
          · right
            intro e he
            rcases h1 d hd with h2 | h2
            · by_cases hm : e ∈ all
              · exact List.mem_append_left _ hm
              · exact List.mem_append_right _ (mem_pipeNext.2 ⟨⟨d, h2, he⟩, hm⟩)
            · exact List.mem_append_left _ (h2 e he)
          · exact .inl hd)
        exact ⟨fun d hd => g1 d (List.mem_append_left _ hd), g2⟩
theorem pipeTo_done {n : Int} {R : List (List (Int × Int))} (hR : ∀ d ∈ R, ∀ e ∈ ladders n d, e ∈ R) (hl : R.length ≤ 400) : ∀ (f : Nat) (all last : List (List (Int × Int))), all.Nodup → (∀ d ∈ all, d ∈ R) → (∀ d ∈ last, d ∈ R) →
    402 ≤ f + all.length + (if last = [] then 1 else 0) → ∃ A, pipeTo n f all last = some A
  | 0, all, last, h1, h2, _, h4 => by
    have := List.Nodup.length_le_of_subset h1 h2
    split at h4 <;> omega
  | f + 1, all, last, h1, h2, h3, h4 => by
    rw [pipeTo]
    by_cases hn : last = []
    · exact ⟨all, by rw [if_pos hn]⟩
    · rw [if_neg hn] at h4 ⊢
      have hx : ∀ d ∈ pipeNext n all last, d ∈ R := fun d hd => by
        obtain ⟨⟨e, he, hm⟩, _⟩ := mem_pipeNext.1 hd
        exact hR e (h3 e he) d hm
      have ha : ∀ d ∈ all ++ pipeNext n all last, d ∈ R := fun d hd => by
        rcases List.mem_append.1 hd with hd | hd
        · exact h2 d hd
        · exact hx d hd
      have hnd := pipeNext_nodup (n := n) (last := last) h1
      have hle := List.Nodup.length_le_of_subset hnd ha
      rw [if_neg (by omega)]
      refine pipeTo_done hR hl f _ _ hnd ha hx ?_
      rw [List.length_append]
      split
      · omega
      · rename_i h
        have := List.length_pos_iff.2 h
        omega

/-! the reference's search on numbers -/
theorem code_nonneg {xs : List Int} (h : permOk xs.length xs = true) : 0 ≤ sumI (code xs) := by
  unfold permOk at h
  simp only [Bool.and_eq_true, decide_eq_true_eq] at h
  exact h.1.1
theorem code_zero {xs : List Int} (h : permOk xs.length xs = true) (hz : sumI (code xs) = 0) : invN xs = List.range xs.length := by
  unfold permOk at h
  simp only [Bool.and_eq_true, Bool.or_eq_true, decide_eq_true_eq] at h
  rcases h.1.2 with h1 | h1
  · omega
  · exact h1
theorem step_of {xs : List Int} {n k : Nat} (h : permOk n xs = true) (hk : k + 1 < n) (hlt : (inv xs).getD (k + 1) 0 < (inv xs).getD k 0) :
    isPerm (shortD xs k) = true ∧ sumI (code (shortD xs k)) + 1 = sumI (code xs) ∧ invN (shortD xs k) = swpN (invN xs) k := by
  unfold permOk at h
  rw [Bool.and_eq_true, List.all_eq_true] at h
  have hs := h.2 k (List.mem_range.2 (by omega))
  unfold stepOk at hs
  rw [decide_eq_true hlt, Bool.not_true, Bool.false_or, Bool.and_eq_true, Bool.and_eq_true, decide_eq_true_eq, decide_eq_true_eq] at hs
  exact ⟨hs.1.1, hs.1.2, hs.2⟩
theorem swpN_low {b : List Nat} {k i : Nat} (h : i < k) : (swpN b k).getD i 0 = b.getD i 0 := by
  unfold swpN
  rw [List.getD_eq_getElem?_getD, List.getElem?_set_ne (by omega), List.getElem?_set_ne (by omega), ← List.getD_eq_getElem?_getD]
/-- a number that stands wrong ahead of the row stays there: nothing is found -/
theorem l3D_dead {n : Nat} (h6 : n ≤ 6) : ∀ (f : Nat) (xs : List Int) (row col : Nat) (cs : List (Int × Int)), isPerm xs = true → xs.length = n → (row + 2 ≤ n → row + col + 2 ≤ n) → (∃ i, i < row ∧ i < n ∧ (invN xs).getD i 0 ≠ i) →
    l3D n f xs row col cs = []
  | 0, _, _, _, _, _, _, _, _ => rfl
  | f + 1, xs, row, col, cs, hp, hl, hc, ⟨i, hi, hin, hne⟩ => by
    have hk := pipeChk_of hp (by omega)
    unfold pipeChk at hk
    rw [Bool.and_eq_true] at hk
    have hpo := hk.1
    by_cases hz : sumI (code xs) = 0
    · exfalso
      apply hne
      rw [code_zero hpo hz, List.getD_eq_getElem?_getD, List.getElem?_range (by omega)]
      rfl
    · by_cases he : n < row + 2
      · exact l3D_end hz he
      · have hrc := hc (by omega)
        have hc2 : nextR row col + 2 ≤ n → nextR row col + nextC n row col + 2 ≤ n := by
          unfold nextR nextC
          split <;> omega
        have hr : row ≤ nextR row col := by unfold nextR; split <;> omega
        have hrest := l3D_dead h6 f xs (nextR row col) (nextC n row col) cs hp hl hc2 ⟨i, by omega, hin, hne⟩
        by_cases hlt : (inv xs).getD (row + col + 1) 0 < (inv xs).getD (row + col) 0
        · obtain ⟨s1, _, s3⟩ := step_of (k := row + col) hpo (by omega) hlt
          rw [l3D_yes hz he hlt, hrest, List.append_nil]
          refine l3D_dead h6 f _ _ _ _ s1 (by rw [shortD_length]; exact hl) hc2 ⟨i, by omega, hin, ?_⟩
          rw [s3, swpN_low (by omega)]
          exact hne
        · rw [l3D_no hz he hlt, hrest]
theorem invN_at {xs : List Int} (h1 : 1 ≤ xs.length) (i : Nat) : (((invN xs).getD i 0 : Nat) : Int) = (inv xs).getD i 0 := by
  unfold invN
  rw [List.getD_eq_getElem?_getD, List.getD_eq_getElem?_getD, List.getElem?_map]
  cases h : (inv xs)[i]? with
  | none => rfl
  | some x =>
    have := inv_in (n := xs.length) rfl h1 x (List.mem_of_getElem? h)
    simp
    omega
theorem dfs_eq (n : Nat) (h6 : n ≤ 6) : ∀ (f : Nat) (xs : List Int) (row col : Nat) (cs : List (Int × Int)), isPerm xs = true → xs.length = n → (row + 2 ≤ n → row + col + 2 ≤ n) →
    (l3D n f xs row col cs).map maskD = dfsM n f (invN xs) (lenN xs) row col (maskD cs)
  | 0, _, _, _, _, _, _, _ => rfl
  | f + 1, xs, row, col, cs, hp, hl, hc => by
    have hk := pipeChk_of hp (by omega)
    unfold pipeChk at hk
    rw [Bool.and_eq_true] at hk
    have hpo := hk.1
    have h0 := code_nonneg hpo
    have h1 := ((isPerm_iff xs).1 hp).1
    rw [dfsM]
    by_cases hz : sumI (code xs) = 0
    · rw [l3D_zero hz, show Nat.beq (lenN xs) 0 = true by unfold lenN; rw [hz]; rfl]
      rfl
    · have e1 : Nat.beq (lenN xs) 0 = false := by
        rw [Bool.eq_false_iff]
        intro h
        have := Nat.eq_of_beq_eq_true h
        unfold lenN at this
        omega
      rw [e1, cond_false]
      by_cases he : n < row + 2
      · rw [l3D_end hz he, show Nat.blt n (row + 2) = true from by rw [Nat.blt_eq]; exact he]
        rfl
      · have e2 : Nat.blt n (row + 2) = false := by
          rw [Bool.eq_false_iff]
          intro h
          rw [Nat.blt_eq] at h
          exact he h
        rw [e2, cond_false]
        by_cases hd : (!(Nat.beq row 0) && !(Nat.beq ((invN xs).getD (row - 1) 0) (row - 1))) = true
        · rw [hd, cond_true]
          rw [Bool.and_eq_true] at hd
          have h0r : row ≠ 0 := by
            rintro rfl
            simp at hd
          rw [l3D_dead h6 (f + 1) xs row col cs hp hl hc ⟨row - 1, by omega, by omega, fun e => by rw [e] at hd; simp at hd⟩]
          rfl
        rw [Bool.not_eq_true] at hd
        rw [hd, cond_false]
        have hrc := hc (by omega)
        have hc2 : nextR row col + 2 ≤ n → nextR row col + nextC n row col + 2 ≤ n := by
          unfold nextR nextC
          split <;> omega
        have i1 := invN_at h1 (row + col)
        have i2 := invN_at h1 (row + col + 1)
        by_cases hlt : (inv xs).getD (row + col + 1) 0 < (inv xs).getD (row + col) 0
        · have e3 : Nat.blt ((invN xs).getD (row + col + 1) 0) ((invN xs).getD (row + col) 0) = true := by rw [Nat.blt_eq]; omega
          rw [e3, cond_true, l3D_yes hz he hlt, List.map_append]
          obtain ⟨s1, s2, s3⟩ := step_of (k := row + col) hpo (by omega) hlt
          rw [dfs_eq n h6 f _ _ _ _ s1 (by rw [shortD_length]; exact hl) hc2, dfs_eq n h6 f xs _ _ cs hp hl hc2, s3, mask_snoc]
          have e4 : lenN (shortD xs (row + col)) = lenN xs - 1 := by unfold lenN; omega
          have e5 : codeC ((row : Int), (col : Int)) = 8 * row + col := by unfold codeC; simp
          rw [e4, e5]
        · have e3 : Nat.blt ((invN xs).getD (row + col + 1) 0) ((invN xs).getD (row + col) 0) = false := by
            rw [Bool.eq_false_iff]
            intro h
            rw [Nat.blt_eq] at h
            omega
          rw [e3, cond_false, List.nil_append, l3D_no hz he hlt, dfs_eq n h6 f xs _ _ cs hp hl hc2]
theorem l3D_good {n : Nat} : ∀ (f : Nat) (xs : List Int) (row col : Nat) (cs : List (Int × Int)), (row + 2 ≤ n → row + col + 2 ≤ n) → cs.Nodup → InSt n cs → (row + 2 ≤ n → ∀ p ∈ cs, p.1 < (row : Int) ∨ p.1 = (row : Int) ∧ (col : Int) < p.2) →
    ∀ d ∈ l3D n f xs row col cs, d.Nodup ∧ InSt n d
  | 0, _, _, _, _, _, _, _, _, d, hd => by rw [l3D] at hd; cases hd
  | f + 1, xs, row, col, cs, hc, h1, h2, h3, d, hd => by
    rw [l3D] at hd
    split at hd
    · rw [List.mem_singleton] at hd
      subst hd
      exact ⟨h1, h2⟩
    · split at hd
      · cases hd
      · rename_i he
        have hrc := hc (by omega)
        have hc2 : nextR row col + 2 ≤ n → nextR row col + nextC n row col + 2 ≤ n := by
          unfold nextR nextC
          split <;> omega
        have h4 := h3 (by omega)
        have h5 : ∀ p ∈ cs ++ [((row : Int), (col : Int))], p.1 < (nextR row col : Int) ∨ p.1 = (nextR row col : Int) ∧ (nextC n row col : Int) < p.2 := fun p hp => by
          rcases List.mem_append.1 hp with hp | hp
          · have := h4 p hp
            unfold nextR nextC
            split <;> omega
          · rw [List.mem_singleton] at hp
            subst hp
            unfold nextR nextC
            simp only
            split <;> omega
        rw [List.mem_append] at hd
        rcases hd with hd | hd
        · split at hd
          · refine l3D_good f _ _ _ _ hc2 ?_ ?_ (fun _ => h5) d hd
            · rw [List.nodup_append]
              refine ⟨h1, List.nodup_cons.2 ⟨by simp, List.nodup_nil⟩, fun a ha b hb e => ?_⟩
              rw [List.mem_singleton] at hb
              subst hb
              subst e
              have := h4 _ ha
              simp only at this
              omega
            · intro p hp
              rcases List.mem_append.1 hp with hp | hp
              · exact h2 p hp
              · rw [List.mem_singleton] at hp
                subst hp
                exact stair_nat hrc
          · cases hd
        · exact l3D_good f _ _ _ _ hc2 h1 h2 (fun _ p hp => h5 p (List.mem_append_left _ hp)) d hd

/-! both -/
theorem pipe_eq {xs : List Int} (hp : isPerm xs = true) (h6 : xs.length ≤ 6) : (drS xs).length ≤ 400 ∧ pipeOk xs = true ∧ pipeT xs = ascD ((drS xs).map sortD) := by
  obtain ⟨n, hn⟩ : ∃ n, xs.length = n := ⟨_, rfl⟩
  have h1 := ((isPerm_iff xs).1 hp).1
  have hk := pipeChk_of hp h6
  rw [hn] at h6 h1 hk
  obtain ⟨RM, hRM⟩ : ∃ RM, (drS xs).map maskD = RM := ⟨_, rfl⟩
  have hM : RM = dfsM n (n * n) (invN xs) (lenN xs) 0 (n - 2) 0 := by
    rw [← hRM, drS, hn]
    exact dfs_eq n h6 _ xs 0 (n - 2) [] hp hn (by omega)
  unfold pipeChk pipeC pipeB at hk
  rw [← hM] at hk
  simp only [Bool.and_eq_true, List.all_eq_true, decide_eq_true_eq] at hk
  obtain ⟨_, ⟨⟨⟨⟨c1, c2⟩, c3⟩, c4⟩, c5⟩⟩ := hk
  have hlen : (drS xs).length ≤ 400 := by
    have := Nat.le_of_ble_eq_true c1
    rw [← hRM, List.length_map] at this
    exact this
  have hgood : ∀ d ∈ drS xs, d.Nodup ∧ InSt n d := fun d hd => by
    unfold drS at hd
    rw [hn] at hd
    exact l3D_good (n := n) _ xs 0 (n - 2) [] (by omega) List.nodup_nil (fun p hp => by cases hp) (fun _ p hp => by cases hp) d hd
  have hdec : ∀ m ∈ RM, ∃ d ∈ drS xs, maskD d = m ∧ sortD d = decM n m ∧ maskD (decM n m) = m := fun m hm => by
    rw [← hRM, List.mem_map] at hm
    obtain ⟨d, hd, rfl⟩ := hm
    obtain ⟨g1, g2⟩ := hgood d hd
    have := sort_dec h6 g2 g1
    exact ⟨d, hd, rfl, this, by rw [← this, mask_sort]⟩
  obtain ⟨R, hR⟩ : ∃ R, (drS xs).map sortD = R := ⟨_, rfl⟩
  have hRmem : ∀ e, e ∈ R ↔ ∃ m ∈ RM, e = decM n m := fun e => by
    rw [← hR, List.mem_map]
    constructor
    · rintro ⟨d, hd, rfl⟩
      obtain ⟨g1, g2⟩ := hgood d hd
      exact ⟨maskD d, by rw [← hRM]; exact List.mem_map.2 ⟨d, hd, rfl⟩, sort_dec h6 g2 g1⟩
    · rintro ⟨m, hm, rfl⟩
      obtain ⟨d, hd, _, e2, _⟩ := hdec m hm
      exact ⟨d, hd, e2⟩
  have hbot : bottom xs ∈ R := (hRmem _).2 ⟨maskD (bottom xs), List.elem_iff.1 c2, c3⟩
  have hlad : ∀ m ∈ RM, ∀ e, e ∈ ladders (n : Int) (decM n m) ↔ ∃ m' ∈ succs n m, e = decM n m' ∧ maskD e = m' ∧ rsum e < rsum (decM n m) := fun m hm e => by
    obtain ⟨_, _, _, _, e3⟩ := hdec m hm
    have := ladders_mem h1 h6 (e := e) (dec_dream h1 h6 m) (dec_nodup h6 m)
    rw [e3] at this
    exact this
  have hclosed : ∀ d ∈ R, ∀ e ∈ ladders (n : Int) d, e ∈ R := fun d hd e he => by
    obtain ⟨m, hm, rfl⟩ := (hRmem d).1 hd
    obtain ⟨m', hm', rfl, _, _⟩ := (hlad m hm e).1 he
    exact (hRmem _).2 ⟨m', List.elem_iff.1 (c4 m' (List.mem_flatMap.2 ⟨m, hm, hm'⟩)), rfl⟩
  have hRl : R.length ≤ 400 := by rw [← hR, List.length_map]; exact hlen
  obtain ⟨A, hA⟩ := pipeTo_done hclosed hRl 402 [bottom xs] [bottom xs] (List.nodup_cons.2 ⟨by simp, List.nodup_nil⟩) (fun d hd => by rw [List.mem_singleton] at hd; rw [hd]; exact hbot) (fun d hd => by rw [List.mem_singleton] at hd; rw [hd]; exact hbot) (by simp)
  have hsub : ∀ d ∈ A, d ∈ R := pipeTo_sub (P := fun d => d ∈ R) hclosed 402 _ _ A hA (fun d hd => by rw [List.mem_singleton] at hd; rw [hd]; exact hbot) (fun d hd => by rw [List.mem_singleton] at hd; rw [hd]; exact hbot)
  obtain ⟨g1, g2⟩ := pipeTo_closed 402 _ _ A hA (fun d hd => .inl hd)
  have hsup : ∀ (N : Nat), ∀ d ∈ R, (1000 - rsum d).toNat ≤ N → d ∈ A := by
    intro N
    induction N with
    | zero =>
      intro d hd hN
      obtain ⟨m, hm, rfl⟩ := (hRmem d).1 hd
      have h2 := rsum_le h6 (dec_in n m)
      have h3 : (decM n m).length ≤ 15 := dream_short (by omega) (dream_all (dec_dream h1 h6 m)).2
      omega
    | succ N ih =>
      intro d hd hN
      obtain ⟨m, hm, rfl⟩ := (hRmem d).1 hd
      have h5 := c5 m hm
      rw [Bool.or_eq_true] at h5
      rcases h5 with h5 | h5
      · have e := Nat.eq_of_beq_eq_true h5
        rw [e, ← c3]
        exact g1 _ (List.mem_singleton.2 rfl)
      · obtain ⟨m0, hm0, hs⟩ := List.mem_flatMap.1 (List.elem_iff.1 h5)
        obtain ⟨_, _, _, _, e3⟩ := hdec m hm
        obtain ⟨_, _, _, _, e30⟩ := hdec m0 hm0
        have hmem := (ladders_mem h1 h6 (e := decM n m) (dec_dream h1 h6 m0) (dec_nodup h6 m0))
        rw [e30] at hmem
        have hr : rsum (decM n m) < rsum (decM n m0) := by
          have hx : decM n m ∈ ladders (n : Int) (decM n m0) := by
            rw [ladders, if_pos (dec_dream h1 h6 m0), mem_ascD]
            exact succs_ladTo h6 (dec_in n m0) (dec_nodup h6 m0) (by rw [e30]; exact hs)
          obtain ⟨_, _, _, _, h⟩ := hmem.1 hx
          exact h
        have hb := rsum_le h6 (dec_in n m0)
        have h3 : (decM n m0).length ≤ 15 := dream_short (by omega) (dream_all (dec_dream h1 h6 m0)).2
        have hi := ih (decM n m0) ((hRmem _).2 ⟨m0, hm0, rfl⟩) (by omega)
        refine g2 _ hi _ ?_
        rw [ladders, if_pos (dec_dream h1 h6 m0), mem_ascD]
        exact succs_ladTo h6 (dec_in n m0) (dec_nodup h6 m0) (by rw [e30]; exact hs)
  have heq : ascD A = ascD R := ascD_ext (ascD_asc A) (ascD_asc R) fun x => by
    rw [mem_ascD, mem_ascD]
    exact ⟨hsub x, fun h => hsup _ x h (Nat.le_refl _)⟩
  have hA2 : pipeTo (xs.length : Int) 402 [bottom xs] [bottom xs] = some A := by rw [hn]; exact hA
  refine ⟨hlen, ?_, ?_⟩
  · rw [pipeOk, hp, hA2, hn]
    simp
    omega
  · rw [pipeT, hA2, hn, if_pos ⟨hp, h6⟩, hR]
    exact heq
end Go.Proofs.Ytageojkepoejiaa
