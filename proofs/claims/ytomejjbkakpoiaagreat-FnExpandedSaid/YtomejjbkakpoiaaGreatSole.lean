/-
  A region that draws its order, walked once: every operation is quiet in a class of worlds but for one, which comes up alone, and whose value may hang on the world.
-/
import Derived.Deep.Quiet
namespace Go.Proofs.YtomejjbkakpoiaaGreat

section
variable {P : Program} {ops : Array Oper} {md : Region.Mode} {C : World → Prop}

/-- an operation carried out in the world w: it leaves some value and a world of the class -/
def soleUpon (P : Program) (C : World → Prop) (o : Oper) (a : Act) (K : Act → Prop) : Result Next → Prop
  | .ok (.value u) w' => C w' ∧ K (a.put o.dst u)
  | .ok .skip w' => C w' ∧ K (a.put o.dst undef)
  | .ok (.enter f args) w' => Calls P f args w' (fun e w'' => ∃ v, e = .returned v ∧ C w'' ∧ K (a.put o.dst v))
  | _ => False
def soleAt (P : Program) (C : World → Prop) (o : Oper) (a : Act) (w : World) (K : Act → Prop) : Prop := soleUpon P C o a K ((execOp a.eval o).run P w)
theorem soleUpon_mono {o : Oper} {a : Act} {K K' : Act → Prop} (h : ∀ a, K a → K' a) {r : Result Next} (hh : soleUpon P C o a K r) : soleUpon P C o a K' r := by
  cases r with
  | ok n w' =>
    cases n <;> simp only [soleUpon] at hh ⊢
    case value u => exact ⟨hh.1, h _ hh.2⟩
    case skip => exact ⟨hh.1, h _ hh.2⟩
    case enter f args => exact hh.mono fun e w'' ⟨v, h1, h2, h3⟩ => ⟨v, h1, h2, h _ h3⟩
  | halt x w' => simp only [soleUpon] at hh
def opS (P : Program) (ops : Array Oper) (C : World → Prop) (i : Nat) (K : Act → Prop) (a : Act) (w : World) : Prop :=
  match ops[i]? with
  | none => K a
  | some o => if Region.wanted o (yielded ops a.tmps) then soleAt P C o a w K else K (a.put o.dst undef)
theorem opS_mono {i : Nat} {a : Act} {w : World} {K K' : Act → Prop} (h : ∀ a, K a → K' a) (hh : opS P ops C i K a w) : opS P ops C i K' a w := by
  unfold opS at *
  split
  · exact h _ (by simpa [*] using hh)
  · rename_i o ho
    simp only [ho] at hh
    split
    · rename_i hw; simp only [hw, if_true] at hh; exact soleUpon_mono h hh
    · rename_i hw; simp only [hw] at hh; exact h _ hh
/-- whatever order is picked from here on, in every world of the class -/
def wpAnyS (P : Program) (md : Region.Mode) (ops : Array Oper) (C : World → Prop) (Q : Act → Prop) : Nat → Array Bool → Act → Prop
  | 0, listed, a => Region.ready md ops listed = [] ∧ Q a
  | fuel + 1, listed, a =>
    (Region.ready md ops listed = [] → Q a) ∧
    ∀ i ∈ Region.ready md ops listed, ∀ w, C w → opS P ops C i (wpAnyS P md ops C Q fuel (listed.setIfInBounds i true)) a w

theorem wp_of_sole {o : Oper} {a : Act} {K : Act → Prop} {K' : Act → World → Prop} {Q' : Exit → Act → World → Prop} {w : World} (h : ∀ a w', C w' → K a → K' a w') (hh : soleAt P C o a w K) : o.wp P a w K' Q' := by
  unfold soleAt at hh
  unfold Oper.wp
  generalize (execOp a.eval o).run P w = r at *
  cases r with
  | ok n w' =>
    cases n <;> simp only [soleUpon] at hh <;> simp only [Oper.upon]
    case value u => exact h _ _ hh.1 hh.2
    case skip => exact h _ _ hh.1 hh.2
    case enter f args => exact hh.mono fun e w'' ⟨v, he, hw'', hk⟩ => by subst he; exact h _ _ hw'' hk
  | halt x w' => simp only [soleUpon] at hh
theorem wpOp_of_opS {i : Nat} {a : Act} {K : Act → Prop} {K' : Act → World → Prop} {Q' : Exit → Act → World → Prop} {w : World} (hC : C w) (h : ∀ a w', C w' → K a → K' a w') (hh : opS P ops C i K a w) : wpOp P ops Q' i K' a w := by
  unfold opS at hh
  unfold wpOp
  split
  · rename_i ho; simp only [ho] at hh; exact h _ _ hC hh
  · rename_i o ho
    simp only [ho] at hh
    split
    · rename_i hw; simp only [hw, if_true] at hh; exact .inl (wp_of_sole h hh)
    · rename_i hw; simp only [hw] at hh; exact h _ _ hC hh
theorem wpAny_of_S {Q : Act → Prop} {Q' : Exit → Act → World → Prop} (hQ : ∀ a w, C w → Q a → Q' .normal a w) : ∀ (fuel : Nat) (listed : Array Bool) (a : Act) (w : World), C w →
    wpAnyS P md ops C Q fuel listed a → wpAny P md ops Q' fuel listed a w
  | 0, _, _, _, hw, h => ⟨h.1, hQ _ _ hw h.2⟩
  | fuel + 1, _, _, _, hw, h => ⟨fun h0 => hQ _ _ hw (h.1 h0), fun i hi => wpOp_of_opS hw (fun a' w' hw' => wpAny_of_S hQ fuel _ a' w' hw') (h.2 i hi _ hw)⟩

/-- a quiet operation, as one of these -/
theorem opS_of_yields {i : Nat} {o : Oper} {v : Value} {a : Act} (hi : ops[i]? = some o) (hy : YieldsIn P ops C o v a) {K : Act → Prop} (h : K (a.put o.dst v)) {w : World} (hC : C w) : opS P ops C i K a w := by
  unfold opS
  simp only [hi]
  rcases hy with ⟨hw, hv⟩ | ⟨hw, rfl⟩
  · simp only [hw, if_true]
    have h1 := hv w hC
    unfold Oper.quietAt at h1
    unfold soleAt
    generalize (execOp a.eval o).run P w = r at *
    cases r with
    | ok n w' =>
      cases n <;> simp only [Oper.quietUpon] at h1 <;> simp only [soleUpon]
      case value u => obtain ⟨e1, e2⟩ := h1; rw [e1, e2]; exact ⟨hC, h⟩
      case skip => obtain ⟨e1, e2⟩ := h1; rw [e1, ← e2]; exact ⟨hC, h⟩
      case enter f args =>
        obtain ⟨e1, hc⟩ := h1
        rw [e1]
        exact hc.mono fun e w'' ⟨he, hw''⟩ => ⟨v, he, hw'', h⟩
    | halt x w' => simp only [Oper.quietUpon] at h1
  · simp only [hw, Bool.false_eq_true, if_false]; exact h

theorem opS_put {j : Nat} {oi oj : Oper} {v : Value} (hj : ops[j]? = some oj) (hap : oi.apart ops oj = true)
    (hsi : ∀ cs b, oi.op ≠ .select cs b) (hsj : ∀ cs b, oj.op ≠ .select cs b) {K : Act → Prop} {a : Act} {w : World}
    (hy : YieldsIn P ops C oi v a) (h : opS P ops C j K (a.put oi.dst v) w) :
    opS P ops C j (fun a' => YieldsIn P ops C oi v a' ∧ K (a'.put oi.dst v)) a w := by
  obtain ⟨h1, h2, h3⟩ := Oper.apart_spec hap
  have keep : ∀ (a : Act), YieldsIn P ops C oi v a → ∀ u, YieldsIn P ops C oi v (a.put oj.dst u) := fun a hy u =>
    hy.of_same (execOp_put oi hsi a oj.dst u h3) (wanted_put oi a oj.dst u h3)
  unfold opS at *
  simp only [hj] at *
  rw [wanted_put oj a oi.dst v h1] at h
  split
  · rename_i hw
    simp only [hw, if_true] at h
    unfold soleAt at *
    rw [execOp_put oj hsj a oi.dst v h1] at h
    generalize (execOp a.eval oj).run P w = r at *
    cases r with
    | ok n w' =>
      cases n <;> simp only [soleUpon] at h ⊢
      case value u => exact ⟨h.1, keep a hy u, by rw [← Act.put_comm a v u h2]; exact h.2⟩
      case skip => exact ⟨h.1, keep a hy _, by rw [← Act.put_comm a v undef h2]; exact h.2⟩
      case enter f args => exact h.mono fun e w'' ⟨u, e1, e2, e3⟩ => ⟨u, e1, e2, keep a hy u, by rw [← Act.put_comm a v u h2]; exact e3⟩
    | halt x w' => simp only [soleUpon] at h
  · rename_i hw
    simp only [hw] at h
    exact ⟨keep a hy _, by rw [← Act.put_comm a v undef h2]; exact h⟩

theorem wpAnyS_first {Q : Act → Prop} {i : Nat} {oi : Oper} {v : Value} (hi : ops[i]? = some oi) (hsel : ∀ (j : Nat) (o : Oper) cs b, ops[j]? = some o → o.op ≠ .select cs b) :
    ∀ (fuel : Nat) (listed : Array Bool) (a : Act),
      (∀ j oj, ops[j]? = some oj → j ≠ i → listed.getD j true = false → (∀ e ∈ oj.after, Region.binds md e = true → e.on ≠ i) → oi.apart ops oj = true) →
      i ∈ Region.ready md ops listed → YieldsIn P ops C oi v a →
      wpAnyS P md ops C Q fuel (listed.setIfInBounds i true) (a.put oi.dst v) → wpAnyS P md ops C Q (fuel + 1) listed a := by
  intro fuel
  induction fuel with
  | zero =>
    intro listed a _ hr hy H
    refine ⟨fun h => (by rw [h] at hr; cases hr), fun j hj w hw => ?_⟩
    by_cases hji : j = i
    · subst hji; exact opS_of_yields hi hy H hw
    · have := ready_mono hj hji
      rw [H.1] at this
      cases this
  | succ fuel ih =>
    intro listed a hfree hr hy H
    refine ⟨fun h => (by rw [h] at hr; cases hr), fun j hj w hw => ?_⟩
    by_cases hji : j = i
    · subst hji; exact opS_of_yields hi hy H hw
    · have h1 := H.2 j (ready_mono hj hji) w hw
      obtain ⟨hjun, oj, hoj, hall⟩ := mem_ready.1 hj
      have hnot : ∀ e ∈ oj.after, Region.binds md e = true → e.on ≠ i := fun e he hb heq => by
        have h1 := hall e he hb
        have h0 := (mem_ready.1 hr).1
        rw [heq] at h1
        rcases Nat.lt_or_ge i listed.size with h' | h'
        · simp [h'] at h0 h1; rw [h0] at h1; cases h1
        · simp [Array.getElem?_eq_none h'] at h1
      have h2 := opS_put hoj (hfree j oj hoj hji hjun hnot) (fun cs b => hsel i oi cs b hi) (fun cs b => hsel j oj cs b hoj) hy h1
      have hfree' : ∀ k ok, ops[k]? = some ok → k ≠ i → (listed.setIfInBounds j true).getD k true = false →
          (∀ e ∈ ok.after, Region.binds md e = true → e.on ≠ i) → oi.apart ops ok = true := fun k ok hk hki hun hno => by
        refine hfree k ok hk hki ?_ hno
        by_cases hjk : j = k
        · subst hjk; exact hjun
        · rw [getD_set_ne true hjk] at hun; exact hun
      refine opS_mono (fun a' h3 => ih (listed.setIfInBounds j true) a' hfree' (ready_mono hr (Ne.symm hji)) h3.1 ?_) h2
      rw [Array.setIfInBounds_comm _ _ hji]
      exact h3.2
theorem wpAnyS_sole {Q : Act → Prop} {k fuel : Nat} {listed : Array Bool} {a : Act} (hr : Region.ready md ops listed = [k])
    (h : ∀ w, C w → opS P ops C k (wpAnyS P md ops C Q fuel (listed.setIfInBounds k true)) a w) : wpAnyS P md ops C Q (fuel + 1) listed a :=
  ⟨fun h0 => (by rw [hr] at h0; cases h0), fun i hi w hw => by
    rw [hr] at hi
    obtain rfl : i = k := by simpa using hi
    exact h w hw⟩

/-- operations taken one behind the other: each may come up, and nobody that could come before it touches its temporaries -/
def segB (md : Region.Mode) (ops : Array Oper) : List Nat → Array Bool → Bool
  | [], _ => true
  | i :: l, listed => (Region.ready md ops listed).contains i && Region.free md ops listed i && segB md ops l (listed.setIfInBounds i true)
def taken : List Nat → Array Bool → Array Bool
  | [], listed => listed
  | i :: l, listed => taken l (listed.setIfInBounds i true)
theorem wpAnyS_seg {Q R : Act → Prop} {fuel : Nat} (hs : Region.noSelect ops = true) : ∀ (l : List Nat) (os : List Oper) (listed : Array Bool) (a : Act), l.map (fun i => ops[i]?) = os.map some →
    segB md ops l listed = true → wpQuiet P ops C R os a → (∀ a', R a' → wpAnyS P md ops C Q fuel (taken l listed) a') → wpAnyS P md ops C Q (l.length + fuel) listed a
  | [], [], listed, a, _, _, h, hr => by simpa [taken] using hr a h
  | [], _ :: _, _, _, he, _, _, _ => by simp at he
  | _ :: _, [], _, _, he, _, _, _ => by simp at he
  | i :: l, o :: os, listed, a, he, hB, h, hr => by
    simp only [List.map_cons, List.cons.injEq] at he
    simp only [segB, Bool.and_eq_true] at hB
    obtain ⟨⟨hrd, hf⟩, hB'⟩ := hB
    have hst : qOp P ops C i (wpQuiet P ops C R os) a := by unfold qOp; simp only [he.1]; exact h
    obtain ⟨v, hy, hK⟩ := yieldsIn_of_qOp he.1 hst
    have ih := wpAnyS_seg hs l os (listed.setIfInBounds i true) (a.put o.dst v) he.2 hB' hK hr
    have e : (i :: l).length + fuel = (l.length + fuel) + 1 := by simp; omega
    rw [e]
    exact wpAnyS_first he.1 (Region.noSelect_spec hs) _ listed a (Region.free_spec he.1 hf) (by simpa using hrd) hy ih

/-- what is asked at the operation that comes up alone -/
def soleStep (P : Program) (ops : Array Oper) (C : World → Prop) (o : Oper) (K : Act → Prop) (a : Act) : Prop :=
  if Region.wanted o (yielded ops a.tmps) then ∀ w, C w → soleAt P C o a w K else K (a.put o.dst undef)

/-- the operations l1 are quiet; then k comes up alone; then the operations l2 are quiet -/
def soleB (ops : Array Oper) (l1 : List Nat) (k : Nat) (l2 : List Nat) : Bool :=
  Region.noSelect ops && segB .any ops l1 (Array.replicate ops.size false) && (Region.ready .any ops (taken l1 (Array.replicate ops.size false)) == [k]) &&
  segB .any ops l2 ((taken l1 (Array.replicate ops.size false)).setIfInBounds k true) && (Region.ready .any ops (taken l2 ((taken l1 (Array.replicate ops.size false)).setIfInBounds k true)) == []) && (ops.size == l1.length + 1 + l2.length)
theorem wp_region_sole {id : Nat} {Q : Exit → Act → World → Prop} {a : Act} {w : World} (l1 : List Nat) (k : Nat) (l2 : List Nat) {o1 : List Oper} {o : Oper} {o2 : List Oper}
    (hm : P.follows .mixedOrders = true) (hB : soleB ops l1 k l2 = true) (h1 : l1.map (fun i => ops[i]?) = o1.map some) (hk : ops[k]? = some o) (h2 : l2.map (fun i => ops[i]?) = o2.map some) (hC : C { w with drawn := w.drawn + 1 })
    (h : wpQuiet P ops C (soleStep P ops C o (wpQuiet P ops C (fun a' => ∀ w', C w' → Q .normal a' w') o2)) o1 a) : (Code.region id ops true).wp P Q a w := by
  simp only [soleB, Bool.and_eq_true, beq_iff_eq] at hB
  obtain ⟨⟨⟨⟨⟨hs, hb1⟩, hr⟩, hb2⟩, hr2⟩, hz⟩ := hB
  refine wp_region_any hm (wpAny_of_S (Q := fun a' => ∀ w', C w' → Q .normal a' w') (fun _ w' hw' h => h w' hw') _ _ _ _ hC ?_)
  have key := wpAnyS_seg (md := .any) (C := C) (P := P) (Q := fun a' => ∀ w', C w' → Q .normal a' w') (fuel := l2.length + 0 + 1) hs l1 o1 (Array.replicate ops.size false) a h1 hb1 h (fun a' ha' => by
    refine wpAnyS_sole hr fun w' hw' => ?_
    unfold opS
    simp only [hk]
    unfold soleStep at ha'
    have after : ∀ a2, wpQuiet P ops C (fun a' => ∀ w', C w' → Q .normal a' w') o2 a2 → wpAnyS P .any ops C (fun a' => ∀ w', C w' → Q .normal a' w') (l2.length + 0) ((taken l1 (Array.replicate ops.size false)).setIfInBounds k true) a2 := fun a2 ha2 =>
      wpAnyS_seg hs l2 o2 _ a2 h2 hb2 ha2 (fun a3 ha3 => ⟨hr2, ha3⟩)
    split
    · rename_i hw
      simp only [hw, if_true] at ha'
      exact soleUpon_mono after (ha' w' hw')
    · rename_i hw
      simp only [hw] at ha'
      exact after _ ha')
  have e : ops.size = l1.length + (l2.length + 0 + 1) := by omega
  rw [← e] at key
  exact key
theorem map_range {l : List Oper} (s m : Nat) (h : s + m ≤ l.length) : (List.range' s m).map (fun i => l.toArray[i]?) = ((l.drop s).take m).map some := by
  apply List.ext_getElem?
  intro j
  by_cases hj : j < m
  · simp [hj]
    rw [List.getElem?_eq_getElem (by omega)]
    rfl
  · simp [hj]
    omega
/-- .. where the operation k comes up alone, k + 1 hangs on it, and m operations behind that do not -/
theorem wp_region_sole_at {l : List Oper} {id : Nat} {Q : Exit → Act → World → Prop} {a : Act} {w : World} (k m r : Nat) {o : Oper}
    (hm : P.follows .mixedOrders = true) (hB : soleB l.toArray (List.range' 0 k ++ List.range' (k + 2) m) k (List.range' (k + 1) 1 ++ List.range' (k + 2 + m) r) = true) (hl : l.length = k + 2 + m + r) (hk : l[k]? = some o) (hC : C { w with drawn := w.drawn + 1 })
    (h : wpQuiet P l.toArray C (soleStep P l.toArray C o (wpQuiet P l.toArray C (fun a' => ∀ w', C w' → Q .normal a' w') ((l.drop (k + 1)).take 1 ++ l.drop (k + 2 + m)))) (l.take k ++ (l.drop (k + 2)).take m) a) : (Code.region id l.toArray true).wp P Q a w := by
  refine wp_region_sole _ k _ hm hB (o1 := l.take k ++ (l.drop (k + 2)).take m) (o := o) (o2 := (l.drop (k + 1)).take 1 ++ l.drop (k + 2 + m)) ?_ (by simpa using hk) ?_ hC h
  · rw [List.map_append, List.map_append, map_range 0 k (by omega), map_range (k + 2) m (by omega), List.drop_zero]
  · rw [List.map_append, List.map_append, map_range (k + 1) 1 (by omega), map_range (k + 2 + m) r (by omega)]
    rw [List.take_of_length_le (l := l.drop (k + 2 + m)) (by rw [List.length_drop]; omega)]
theorem soleStep_call {o : Oper} {a : Act} {K : Act → Prop} (f : FuncId) (args : Array Value) (hwant : Region.wanted o (yielded ops a.tmps) = true) (hrun : ∀ w, (execOp a.eval o).run P w = .ok (.enter f args) w)
    (h : ∀ w, C w → Calls P f args w (fun e w'' => ∃ v, e = .returned v ∧ C w'' ∧ K (a.put o.dst v))) : soleStep P ops C o K a := by
  unfold soleStep
  rw [if_pos hwant]
  intro w hw
  unfold soleAt
  rw [hrun]
  exact h w hw
end
end Go.Proofs.YtomejjbkakpoiaaGreat
