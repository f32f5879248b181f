/-
  A region that draws its order, walked once: every operation is quiet in a class of worlds but for one, which comes up alone, and whose value may hang on the world.
  Contracts of ClassesOk, the program's and the reference's.
  Contract of ClassesOk, the program's.
-/
import Derived.Deep.Quiet
import Derived.Test.YtflkomgfgmephaaBuB
import Derived.Test.YtflkomgfgmephaaLess
import Derived.Test.YtflkomgfgmephaaTrim
import Derived.Test.YtflkomgfgmephaaBuA
import Derived.Lib.QuietBelow
import Derived.BigQuiet
namespace Go.Proofs.Ytflkomgfgmephaa

section
variable {P : Program} {ops : Array Oper} {md : Region.Mode} {C : World → Prop}

/-- an operation carried out in the world w: it leaves some value and a world of the class -/
def soleUpon (P : Program) (C : World → Prop) (o : Oper) (a : Act) (K : Act → Prop) : Result Next → Prop
  | .ok (.value u) w' => C w' ∧ K (a.put o.dst u)
  | .ok .skip w' => C w' ∧ K (a.put o.dst undef)
  | .ok (.enter f args) w' => Calls P f args w' (fun e w'' => ∃ v, e = .returned v ∧ C w'' ∧ K (a.put o.dst v))
  | _ => False
def soleAt (P : Program) (C : World → Prop) (o : Oper) (a : Act) (w : World) (K : Act → Prop) : Prop := soleUpon P C o a K ((execOp a.eval o).run P w)
theorem soleUpon_mono {o : Oper} {a : Act} {K K' : Act → Prop} (h : ∀ a, K a → K' a) {r : Result Next} (hh : soleUpon P C o a K r) : soleUpon P C o a K' r := by
  cases r with
  | ok n w' =>
    cases n <;> simp only [soleUpon] at hh ⊢
    case value u => exact ⟨hh.1, h _ hh.2⟩
    case skip => exact ⟨hh.1, h _ hh.2⟩
    case enter f args => exact hh.mono fun e w'' ⟨v, h1, h2, h3⟩ => ⟨v, h1, h2, h _ h3⟩
  | halt x w' => simp only [soleUpon] at hh
def opS (P : Program) (ops : Array Oper) (C : World → Prop) (i : Nat) (K : Act → Prop) (a : Act) (w : World) : Prop :=
  match ops[i]? with
  | none => K a
  | some o => if Region.wanted o (yielded ops a.tmps) then soleAt P C o a w K else K (a.put o.dst undef)
theorem opS_mono {i : Nat} {a : Act} {w : World} {K K' : Act → Prop} (h : ∀ a, K a → K' a) (hh : opS P ops C i K a w) : opS P ops C i K' a w := by
  unfold opS at *
  split
  · exact h _ (by simpa [*] using hh)
  · rename_i o ho
    simp only [ho] at hh
    split
    · rename_i hw; simp only [hw, if_true] at hh; exact soleUpon_mono h hh
    · rename_i hw; simp only [hw] at hh; exact h _ hh
/-- whatever order is picked from here on, in every world of the class -/
def wpAnyS (P : Program) (md : Region.Mode) (ops : Array Oper) (C : World → Prop) (Q : Act → Prop) : Nat → Array Bool → Act → Prop
  | 0, listed, a => Region.ready md ops listed = [] ∧ Q a
  | fuel + 1, listed, a =>
    (Region.ready md ops listed = [] → Q a) ∧
    ∀ i ∈ Region.ready md ops listed, ∀ w, C w → opS P ops C i (wpAnyS P md ops C Q fuel (listed.setIfInBounds i true)) a w

theorem wp_of_sole {o : Oper} {a : Act} {K : Act → Prop} {K' : Act → World → Prop} {Q' : Exit → Act → World → Prop} {w : World} (h : ∀ a w', C w' → K a → K' a w') (hh : soleAt P C o a w K) : o.wp P a w K' Q' := by
  unfold soleAt at hh
  unfold Oper.wp
  generalize (execOp a.eval o).run P w = r at *
  cases r with
  | ok n w' =>
    cases n <;> simp only [soleUpon] at hh <;> simp only [Oper.upon]
    case value u => exact h _ _ hh.1 hh.2
    case skip => exact h _ _ hh.1 hh.2
    case enter f args => exact hh.mono fun e w'' ⟨v, he, hw'', hk⟩ => by subst he; exact h _ _ hw'' hk
  | halt x w' => simp only [soleUpon] at hh
theorem wpOp_of_opS {i : Nat} {a : Act} {K : Act → Prop} {K' : Act → World → Prop} {Q' : Exit → Act → World → Prop} {w : World} (hC : C w) (h : ∀ a w', C w' → K a → K' a w') (hh : opS P ops C i K a w) : wpOp P ops Q' i K' a w := by
  unfold opS at hh
  unfold wpOp
  split
  · rename_i ho; simp only [ho] at hh; exact h _ _ hC hh
  · rename_i o ho
    simp only [ho] at hh
    split
    · rename_i hw; simp only [hw, if_true] at hh; exact .inl (wp_of_sole h hh)
    · rename_i hw; simp only [hw] at hh; exact h _ _ hC hh
theorem wpAny_of_S {Q : Act → Prop} {Q' : Exit → Act → World → Prop} (hQ : ∀ a w, C w → Q a → Q' .normal a w) : ∀ (fuel : Nat) (listed : Array Bool) (a : Act) (w : World), C w →
    wpAnyS P md ops C Q fuel listed a → wpAny P md ops Q' fuel listed a w
  | 0, _, _, _, hw, h => ⟨h.1, hQ _ _ hw h.2⟩
  | fuel + 1, _, _, _, hw, h => ⟨fun h0 => hQ _ _ hw (h.1 h0), fun i hi => wpOp_of_opS hw (fun a' w' hw' => wpAny_of_S hQ fuel _ a' w' hw') (h.2 i hi _ hw)⟩

/-- a quiet operation, as one of these -/
theorem opS_of_yields {i : Nat} {o : Oper} {v : Value} {a : Act} (hi : ops[i]? = some o) (hy : YieldsIn P ops C o v a) {K : Act → Prop} (h : K (a.put o.dst v)) {w : World} (hC : C w) : opS P ops C i K a w := by
  unfold opS
  simp only [hi]
  rcases hy with ⟨hw, hv⟩ | ⟨hw, rfl⟩
  · simp only [hw, if_true]
    have h1 := hv w hC
    unfold Oper.quietAt at h1
    unfold soleAt
    generalize (execOp a.eval o).run P w = r at *
    cases r with
    | ok n w' =>
      cases n <;> simp only [Oper.quietUpon] at h1 <;> simp only [soleUpon]
      case value u => obtain ⟨e1, e2⟩ := h1; rw [e1, e2]; exact ⟨hC, h⟩
      case skip => obtain ⟨e1, e2⟩ := h1; rw [e1, ← e2]; exact ⟨hC, h⟩
      case enter f args =>
        obtain ⟨e1, hc⟩ := h1
        rw [e1]
        exact hc.mono fun e w'' ⟨he, hw''⟩ => ⟨v, he, hw'', h⟩
    | halt x w' => simp only [Oper.quietUpon] at h1
  · simp only [hw, Bool.false_eq_true, if_false]; exact h

theorem opS_put {j : Nat} {oi oj : Oper} {v : Value} (hj : ops[j]? = some oj) (hap : oi.apart ops oj = true)
    (hsi : ∀ cs b, oi.op ≠ .select cs b) (hsj : ∀ cs b, oj.op ≠ .select cs b) {K : Act → Prop} {a : Act} {w : World}
    (hy : YieldsIn P ops C oi v a) (h : opS P ops C j K (a.put oi.dst v) w) :
    opS P ops C j (fun a' => YieldsIn P ops C oi v a' ∧ K (a'.put oi.dst v)) a w := by
  obtain ⟨h1, h2, h3⟩ := Oper.apart_spec hap
  have keep : ∀ (a : Act), YieldsIn P ops C oi v a → ∀ u, YieldsIn P ops C oi v (a.put oj.dst u) := fun a hy u =>
    hy.of_same (execOp_put oi hsi a oj.dst u h3) (wanted_put oi a oj.dst u h3)
  unfold opS at *
  simp only [hj] at *
  rw [wanted_put oj a oi.dst v h1] at h
  split
  · rename_i hw
    simp only [hw, if_true] at h
    unfold soleAt at *
    rw [execOp_put oj hsj a oi.dst v h1] at h
    generalize (execOp a.eval oj).run P w = r at *
    cases r with
    | ok n w' =>
      cases n <;> simp only [soleUpon] at h ⊢
      case value u => exact ⟨h.1, keep a hy u, by rw [← Act.put_comm a v u h2]; exact h.2⟩
      case skip => exact ⟨h.1, keep a hy _, by rw [← Act.put_comm a v undef h2]; exact h.2⟩
      case enter f args => exact h.mono fun e w'' ⟨u, e1, e2, e3⟩ => ⟨u, e1, e2, keep a hy u, by rw [← Act.put_comm a v u h2]; exact e3⟩
    | halt x w' => simp only [soleUpon] at h
  · rename_i hw
    simp only [hw] at h
    exact ⟨keep a hy _, by rw [← Act.put_comm a v undef h2]; exact h⟩

theorem wpAnyS_first {Q : Act → Prop} {i : Nat} {oi : Oper} {v : Value} (hi : ops[i]? = some oi) (hsel : ∀ (j : Nat) (o : Oper) cs b, ops[j]? = some o → o.op ≠ .select cs b) :
    ∀ (fuel : Nat) (listed : Array Bool) (a : Act),
      (∀ j oj, ops[j]? = some oj → j ≠ i → listed.getD j true = false → (∀ e ∈ oj.after, Region.binds md e = true → e.on ≠ i) → oi.apart ops oj = true) →
      i ∈ Region.ready md ops listed → YieldsIn P ops C oi v a →
      wpAnyS P md ops C Q fuel (listed.setIfInBounds i true) (a.put oi.dst v) → wpAnyS P md ops C Q (fuel + 1) listed a := by
  intro fuel
  induction fuel with
  | zero =>
    intro listed a _ hr hy H
    refine ⟨fun h => (by rw [h] at hr; cases hr), fun j hj w hw => ?_⟩
    by_cases hji : j = i
    · subst hji; exact opS_of_yields hi hy H hw
    · have := ready_mono hj hji
      rw [H.1] at this
      cases this
  | succ fuel ih =>
    intro listed a hfree hr hy H
    refine ⟨fun h => (by rw [h] at hr; cases hr), fun j hj w hw => ?_⟩
    by_cases hji : j = i
    · subst hji; exact opS_of_yields hi hy H hw
    · have h1 := H.2 j (ready_mono hj hji) w hw
      obtain ⟨hjun, oj, hoj, hall⟩ := mem_ready.1 hj
      have hnot : ∀ e ∈ oj.after, Region.binds md e = true → e.on ≠ i := fun e he hb heq => by
        have h1 := hall e he hb
        have h0 := (mem_ready.1 hr).1
        rw [heq] at h1
        rcases Nat.lt_or_ge i listed.size with h' | h'
        · simp [h'] at h0 h1; rw [h0] at h1; cases h1
        · simp [Array.getElem?_eq_none h'] at h1
      have h2 := opS_put hoj (hfree j oj hoj hji hjun hnot) (fun cs b => hsel i oi cs b hi) (fun cs b => hsel j oj cs b hoj) hy h1
      have hfree' : ∀ k ok, ops[k]? = some ok → k ≠ i → (listed.setIfInBounds j true).getD k true = false →
          (∀ e ∈ ok.after, Region.binds md e = true → e.on ≠ i) → oi.apart ops ok = true := fun k ok hk hki hun hno => by
        refine hfree k ok hk hki ?_ hno
        by_cases hjk : j = k
        · subst hjk; exact hjun
        · rw [getD_set_ne true hjk] at hun; exact hun
      refine opS_mono (fun a' h3 => ih (listed.setIfInBounds j true) a' hfree' (ready_mono hr (Ne.symm hji)) h3.1 ?_) h2
      rw [Array.setIfInBounds_comm _ _ hji]
      exact h3.2
theorem wpAnyS_sole {Q : Act → Prop} {k fuel : Nat} {listed : Array Bool} {a : Act} (hr : Region.ready md ops listed = [k])
    (h : ∀ w, C w → opS P ops C k (wpAnyS P md ops C Q fuel (listed.setIfInBounds k true)) a w) : wpAnyS P md ops C Q (fuel + 1) listed a :=
  ⟨fun h0 => (by rw [hr] at h0; cases h0), fun i hi w hw => by
    rw [hr] at hi
    obtain rfl : i = k := by simpa using hi
    exact h w hw⟩

/-- operations taken one behind the other: each may come up, and nobody that could come before it touches its temporaries -/
def segB (md : Region.Mode) (ops : Array Oper) : List Nat → Array Bool → Bool
  | [], _ => true
  | i :: l, listed => (Region.ready md ops listed).contains i && Region.free md ops listed i && segB md ops l (listed.setIfInBounds i true)
def taken : List Nat → Array Bool → Array Bool
  | [], listed => listed
  | i :: l, listed => taken l (listed.setIfInBounds i true)
theorem wpAnyS_seg {Q R : Act → Prop} {fuel : Nat} (hs : Region.noSelect ops = true) : ∀ (l : List Nat) (os : List Oper) (listed : Array Bool) (a : Act), l.map (fun i => ops[i]?) = os.map some →
    segB md ops l listed = true → wpQuiet P ops C R os a → (∀ a', R a' → wpAnyS P md ops C Q fuel (taken l listed) a') → wpAnyS P md ops C Q (l.length + fuel) listed a
  | [], [], listed, a, _, _, h, hr => by simpa [taken] using hr a h
  | [], _ :: _, _, _, he, _, _, _ => by simp at he
  | _ :: _, [], _, _, he, _, _, _ => by simp at he
  | i :: l, o :: os, listed, a, he, hB, h, hr => by
    simp only [List.map_cons, List.cons.injEq] at he
    simp only [segB, Bool.and_eq_true] at hB
    obtain ⟨⟨hrd, hf⟩, hB'⟩ := hB
    have hst : qOp P ops C i (wpQuiet P ops C R os) a := by unfold qOp; simp only [he.1]; exact h
    obtain ⟨v, hy, hK⟩ := yieldsIn_of_qOp he.1 hst
    have ih := wpAnyS_seg hs l os (listed.setIfInBounds i true) (a.put o.dst v) he.2 hB' hK hr
    have e : (i :: l).length + fuel = (l.length + fuel) + 1 := by simp; omega
    rw [e]
    exact wpAnyS_first he.1 (Region.noSelect_spec hs) _ listed a (Region.free_spec he.1 hf) (by simpa using hrd) hy ih

/-- what is asked at the operation that comes up alone -/
def soleStep (P : Program) (ops : Array Oper) (C : World → Prop) (o : Oper) (K : Act → Prop) (a : Act) : Prop :=
  if Region.wanted o (yielded ops a.tmps) then ∀ w, C w → soleAt P C o a w K else K (a.put o.dst undef)

/-- the operations l1 are quiet; then k comes up alone; then the operations l2 are quiet -/
def soleB (ops : Array Oper) (l1 : List Nat) (k : Nat) (l2 : List Nat) : Bool :=
  Region.noSelect ops && segB .any ops l1 (Array.replicate ops.size false) && (Region.ready .any ops (taken l1 (Array.replicate ops.size false)) == [k]) &&
  segB .any ops l2 ((taken l1 (Array.replicate ops.size false)).setIfInBounds k true) && (Region.ready .any ops (taken l2 ((taken l1 (Array.replicate ops.size false)).setIfInBounds k true)) == []) && (ops.size == l1.length + 1 + l2.length)
theorem wp_region_sole {id : Nat} {Q : Exit → Act → World → Prop} {a : Act} {w : World} (l1 : List Nat) (k : Nat) (l2 : List Nat) {o1 : List Oper} {o : Oper} {o2 : List Oper}
    (hm : P.follows .mixedOrders = true) (hB : soleB ops l1 k l2 = true) (h1 : l1.map (fun i => ops[i]?) = o1.map some) (hk : ops[k]? = some o) (h2 : l2.map (fun i => ops[i]?) = o2.map some) (hC : C { w with drawn := w.drawn + 1 })
    (h : wpQuiet P ops C (soleStep P ops C o (wpQuiet P ops C (fun a' => ∀ w', C w' → Q .normal a' w') o2)) o1 a) : (Code.region id ops true).wp P Q a w := by
  simp only [soleB, Bool.and_eq_true, beq_iff_eq] at hB
  obtain ⟨⟨⟨⟨⟨hs, hb1⟩, hr⟩, hb2⟩, hr2⟩, hz⟩ := hB
  refine wp_region_any hm (wpAny_of_S (Q := fun a' => ∀ w', C w' → Q .normal a' w') (fun _ w' hw' h => h w' hw') _ _ _ _ hC ?_)
  have key := wpAnyS_seg (md := .any) (C := C) (P := P) (Q := fun a' => ∀ w', C w' → Q .normal a' w') (fuel := l2.length + 0 + 1) hs l1 o1 (Array.replicate ops.size false) a h1 hb1 h (fun a' ha' => by
    refine wpAnyS_sole hr fun w' hw' => ?_
    unfold opS
    simp only [hk]
    unfold soleStep at ha'
    have after : ∀ a2, wpQuiet P ops C (fun a' => ∀ w', C w' → Q .normal a' w') o2 a2 → wpAnyS P .any ops C (fun a' => ∀ w', C w' → Q .normal a' w') (l2.length + 0) ((taken l1 (Array.replicate ops.size false)).setIfInBounds k true) a2 := fun a2 ha2 =>
      wpAnyS_seg hs l2 o2 _ a2 h2 hb2 ha2 (fun a3 ha3 => ⟨hr2, ha3⟩)
    split
    · rename_i hw
      simp only [hw, if_true] at ha'
      exact soleUpon_mono after (ha' w' hw')
    · rename_i hw
      simp only [hw] at ha'
      exact after _ ha')
  have e : ops.size = l1.length + (l2.length + 0 + 1) := by omega
  rw [← e] at key
  exact key
theorem map_range {l : List Oper} (s m : Nat) (h : s + m ≤ l.length) : (List.range' s m).map (fun i => l.toArray[i]?) = ((l.drop s).take m).map some := by
  apply List.ext_getElem?
  intro j
  by_cases hj : j < m
  · simp [hj]
    rw [List.getElem?_eq_getElem (by omega)]
    rfl
  · simp [hj]
    omega
/-- .. where the operation k comes up alone, k + 1 hangs on it, and m operations behind that do not -/
theorem wp_region_sole_at {l : List Oper} {id : Nat} {Q : Exit → Act → World → Prop} {a : Act} {w : World} (k m r : Nat) {o : Oper}
    (hm : P.follows .mixedOrders = true) (hB : soleB l.toArray (List.range' 0 k ++ List.range' (k + 2) m) k (List.range' (k + 1) 1 ++ List.range' (k + 2 + m) r) = true) (hl : l.length = k + 2 + m + r) (hk : l[k]? = some o) (hC : C { w with drawn := w.drawn + 1 })
    (h : wpQuiet P l.toArray C (soleStep P l.toArray C o (wpQuiet P l.toArray C (fun a' => ∀ w', C w' → Q .normal a' w') ((l.drop (k + 1)).take 1 ++ l.drop (k + 2 + m)))) (l.take k ++ (l.drop (k + 2)).take m) a) : (Code.region id l.toArray true).wp P Q a w := by
  refine wp_region_sole _ k _ hm hB (o1 := l.take k ++ (l.drop (k + 2)).take m) (o := o) (o2 := (l.drop (k + 1)).take 1 ++ l.drop (k + 2 + m)) ?_ (by simpa using hk) ?_ hC h
  · rw [List.map_append, List.map_append, map_range 0 k (by omega), map_range (k + 2) m (by omega), List.drop_zero]
  · rw [List.map_append, List.map_append, map_range (k + 1) 1 (by omega), map_range (k + 2 + m) r (by omega)]
    rw [List.take_of_length_le (l := l.drop (k + 2 + m)) (by rw [List.length_drop]; omega)]
theorem soleStep_call {o : Oper} {a : Act} {K : Act → Prop} (f : FuncId) (args : Array Value) (hwant : Region.wanted o (yielded ops a.tmps) = true) (hrun : ∀ w, (execOp a.eval o).run P w = .ok (.enter f args) w)
    (h : ∀ w, C w → Calls P f args w (fun e w'' => ∃ v, e = .returned v ∧ C w'' ∧ K (a.put o.dst v))) : soleStep P ops C o K a := by
  unfold soleStep
  rw [if_pos hwant]
  intro w hw
  unfold soleAt
  rw [hrun]
  exact h w hw
end
end Go.Proofs.Ytflkomgfgmephaa

namespace Go.Proofs.Ytflkomgfgmephaa
open Go.RowKit

def partOf (xs : List (List Int × Int)) (k : Nat) : List Int × Int := xs.getD k ([], 0)
def isClass (p : List Int × Int) : Bool := isPerm p.1 && decide (trimLen p.1 p.1.length = p.1.length) && decide (p.2 ≠ 0) && decide (-1000000 ≤ p.2 ∧ p.2 ≤ 1000000)
def classAt (xs : List (List Int × Int)) (k : Nat) : Bool := isClass (partOf xs k) && (k == 0 || less (partOf xs (k - 1)).1 (partOf xs k).1)
def classesOk (xs : List (List Int × Int)) : Bool := decide (xs.length ≤ 100) && (List.range xs.length).all (classAt xs)
theorem partOf_at {xs : List (List Int × Int)} {k : Nat} {p : List Int × Int} (h : xs[k]? = some p) : partOf xs k = p := by simp [partOf, h]
theorem class_perm {s : List Int} {c : Int} (h1 : isPerm s = false) : isClass (s, c) = false := by simp [isClass, h1]
theorem class_trim {s : List Int} {c : Int} {l m : Nat} (hl : s.length = l) (hm : trimLen s l = m) (h1 : m ≠ l) : isClass (s, c) = false := by subst hl hm; simp [isClass, h1]
theorem class_zero {s : List Int} {c : Int} (h1 : c = 0) : isClass (s, c) = false := by simp [isClass, h1]
theorem class_range {s : List Int} {c : Int} (h1 : ¬ (-1000000 ≤ c ∧ c ≤ 1000000)) : isClass (s, c) = false := by simp [isClass]; intros; omega
theorem class_yes {s : List Int} {c : Int} {l m : Nat} (hl : s.length = l) (hm : trimLen s l = m) (h1 : isPerm s = true) (h2 : m = l) (h3 : c ≠ 0) (h4 : -1000000 ≤ c ∧ c ≤ 1000000) : isClass (s, c) = true := by
  subst hl hm; simp [isClass, h1, h2, h3, h4]
theorem classAt_bad {xs : List (List Int × Int)} {k : Nat} {q : List Int × Int} (h : xs[k]? = some q) (h1 : isClass q = false) : classAt xs k = false := by
  simp [classAt, partOf_at h, h1]
theorem classAt_rise {xs : List (List Int × Int)} {k : Nat} {s t : List Int} {c d : Int} (h : xs[k]? = some (s, c)) (hy : xs[k - 1]? = some (t, d)) (h0 : k ≠ 0) (h1 : less t s = false) : classAt xs k = false := by
  simp [classAt, partOf_at h, partOf_at hy, h1, h0]
theorem classAt_first {xs : List (List Int × Int)} {q : List Int × Int} (h : xs[0]? = some q) (h1 : isClass q = true) : classAt xs 0 = true := by
  simp [classAt, partOf_at h, h1]
theorem classAt_next {xs : List (List Int × Int)} {k : Nat} {s t : List Int} {c d : Int} (h : xs[k]? = some (s, c)) (hy : xs[k - 1]? = some (t, d)) (h1 : isClass (s, c) = true) (h3 : less t s = true) : classAt xs k = true := by
  simp [classAt, partOf_at h, partOf_at hy, h1, h3]
theorem classesOk_false {xs : List (List Int × Int)} {k : Nat} (hk : k < xs.length) (h : classAt xs k = false) : classesOk xs = false := by
  unfold classesOk
  rw [Bool.and_eq_false_iff]
  right
  rw [List.all_eq_false]
  exact ⟨k, by simpa using hk, by simp [h]⟩
theorem classesOk_long {xs : List (List Int × Int)} (hk : 100 < xs.length) : classesOk xs = false := by
  unfold classesOk
  rw [Bool.and_eq_false_iff]
  left
  simp; omega
theorem classesOk_true {xs : List (List Int × Int)} (hl : xs.length ≤ 100) (h : ∀ j, j < xs.length → classAt xs j = true) : classesOk xs = true := by
  unfold classesOk
  rw [Bool.and_eq_true]
  refine ⟨by simpa using hl, ?_⟩
  rw [List.all_eq_true]; intro j hj; exact h j (by simpa using hj)
theorem classesOk_next {xs : List (List Int × Int)} {k : Nat} (h : ∀ j, j < k → classAt xs j = true) (h1 : classAt xs k = true) : ∀ j, j < k + 1 → classAt xs j = true := by
  intro j hj
  rcases Nat.lt_or_ge j k with h2 | h2
  · exact h j h2
  · obtain rfl : j = k := by omega
    exact h1
theorem implTrim_len {m : Nat} (a : Option Addr) (n c : Nat) (xs : List Int) (w : World) (hr : RI w a xs) (hn : xs.length = n) (hb : n ≤ 1048576) (hnc : n ≤ c) (hp : isPerm xs = true) (hm : trimLen xs n = m) :
    Calls Try.prog 52 #[.slice a n c] w fun e w' => ∃ a' c', e = .returned (.slice a' m c') ∧ Below w.heap.size w w' := by
  subst hm
  exact (implTrim_any a n c xs w hr hn hb hnc hp).mono fun _ _ ⟨a', c', h1, _, h2⟩ => ⟨a', c', h1, h2⟩

end Go.Proofs.Ytflkomgfgmephaa

namespace Go.Proofs.Ytflkomgfgmephaa
open Go.RowKit

set_option maxRecDepth 100000 in
set_option maxHeartbeats 3200000 in
theorem implClassesOk_any (a : Option Addr) (n c : Nat) (xs : List (List Int × Int)) (w : World) (hr : RP w a xs) (hn : xs.length = n) (hb : n ≤ 1048576) (hsh : Short_P xs) :
    Calls Try.prog 54 #[.slice a n c] w fun e w' => e = .returned (.bool (classesOk xs)) ∧ Below w.heap.size w w' := by
  have Hn := Lib.hid hn; clear hn
  have HSh := Lib.hid hsh; clear hsh
  by_cases hlong : 100 < n
  · have Hres := Lib.hid (classesOk_long (xs := xs) (by rw [Hn.out]; exact hlong))
    go_enter Try.func54, Try.ntmps54
    go_wp2
    go_ret
    exact ⟨ret_bool Hres.out.symm, Below.refl _ _⟩
  go_enter Try.func54, Try.ntmps54
  go_wp2
  go_loopw [10] (fun i wr => ∃ k : Nat, k ≤ n ∧ i = .int .i64 k ∧ Hid (∀ j, j < k → classAt xs j = true) ∧ Below w.heap.size w wr) (fun i _ => n - (intOf i).toNat)
  case atStart => exact ⟨0, Nat.zero_le _, rfl, by intro j hj; omega, Below.refl _ _⟩
  case round =>
    obtain ⟨k, hk, rfl, HA, hd⟩ := hrel
    by_cases hlt : k < n
    · obtain ⟨b, off, rfl, hcell⟩ := (hr.below hd).at (k := k) (by rw [Hn.out]; exact hlt)
      obtain ⟨s, x, hx⟩ := part_at Hn.out hlt
      obtain ⟨a1, c1, hc1, hc2, hri, hlc⟩ := hcell k _ hx
      have hsl : s.length ≤ 1048576 := HSh.out (s, x) (List.mem_of_getElem? hx)
      simp only at hc1 hc2 hri hlc
      have hlast : k ≠ 0 → ∃ t d a2 c2, xs[k-1]? = some (t, d) ∧ wr.cell? ⟨b, off + (k-1) * 2, none⟩ = some (.slice a2 t.length c2) ∧ RI wr a2 t ∧ t.length ≤ 1048576 := by
        intro h0
        obtain ⟨t, d, ht⟩ := part_at (k := k - 1) Hn.out (by omega)
        obtain ⟨a2, c2, e1, e2, e3, _⟩ := hcell (k - 1) _ ht
        exact ⟨t, d, a2, c2, ht, e1, e3, HSh.out (t, d) (List.mem_of_getElem? ht)⟩
      clear hcell
      have Hx := Lib.hid hx; clear hx
      obtain ⟨l, hl⟩ : ∃ l, s.length = l := ⟨_, rfl⟩
      rw [hl] at hc1 hsl hlc
      have Hl := Lib.hid hl; clear hl
      obtain ⟨m, hm⟩ : ∃ m, trimLen s l = m := ⟨_, rfl⟩
      have HM := Lib.hid hm; clear hm
      have q1 : (k : Int) < (n : Int) := by omega
      obtain ⟨W, hW⟩ : ∃ W, wr.alloc (.cells #[.slice a1 l c1, .int .i64 x] 81) = W := ⟨_, rfl⟩
      have hBW : Below wr.heap.size wr W := by rw [← hW]; exact (Below.refl _ _).alloc (Nat.le_refl _) _
      have hdW := hd.trans (hBW.mono hd.size)
      have g0 : W.heap[wr.heap.size]? = some (.cells #[.slice a1 l c1, .int .i64 x] 81) := by rw [← hW]; exact heap_alloc_new wr _
      have p0 : W.cell? ⟨wr.heap.size, 0, none⟩ = some (.slice a1 l c1) := by rw [cell_of_row W _ 0 _ _ (0, 0) g0]; rfl
      have p1 : W.cell? ⟨wr.heap.size, 1, none⟩ = some (.int .i64 x) := by rw [cell_of_row W _ 1 _ _ (0, 0) g0]; rfl
      have hriW := hri.below hBW
      clear g0
      have hbW := hdW.size
      have k0 := fun d os => cell_regrown p0 d os
      have k1 := fun d os => cell_regrown p1 d os
      have bW := fun d os => below_regrown W d os
      cases hp : isPerm s
      · have HP := Lib.hid hp; clear hp hlast
        have cp : ∀ (d : Nat) (os : Array Obj), Calls Try.prog 37 #[.slice a1 l c1] (Go.Sort.grow (redrawn W d) os) fun e w'' => e = .returned (.bool false) ∧ ∃ p : Regrown, w'' = Go.Sort.grow (redrawn W p.d) p.os := fun d os => Calls.regrown_of ((is (implIsPerm_any _ _ _ s _ (hriW.below (bW d os)) Hl.out (by omega)) HP.out))
        have CP := Lib.hid cp; clear cp
        go_wp2
        refine wp_region_quiet_below (by kernel_rfl) (by kernel_rfl) ?_
        repeat (go_big_quiet_step (first | (go_at_call 37; exact CP.out _ _)))
        refine wpQuiet_nil ?_
        intro _ hw'
        obtain ⟨⟨dq, osq⟩, hw''⟩ := hw'
        subst hw''
        have hB2 := hdW.trans ((below_regrown W dq osq).mono hbW)
        go_wp2
        go_ret
        exact ⟨ret_bool (classesOk_false (k := k) (by rw [Hn.out]; exact hlt) (classAt_bad Hx.out (class_perm HP.out))).symm, hB2⟩
      · have HP := Lib.hid hp; clear hp
        have cp : ∀ (d : Nat) (os : Array Obj), Calls Try.prog 37 #[.slice a1 l c1] (Go.Sort.grow (redrawn W d) os) fun e w'' => e = .returned (.bool true) ∧ ∃ p : Regrown, w'' = Go.Sort.grow (redrawn W p.d) p.os := fun d os => Calls.regrown_of ((is (implIsPerm_any _ _ _ s _ (hriW.below (bW d os)) Hl.out (by omega)) HP.out))
        have CP := Lib.hid cp; clear cp
        have ct : ∀ (d : Nat) (os : Array Obj), Calls Try.prog 52 #[.slice a1 l c1] (Go.Sort.grow (redrawn W d) os) fun e w'' => ∃ v, e = .returned v ∧ (∃ p : Regrown, w'' = Go.Sort.grow (redrawn W p.d) p.os) ∧ ∃ a3 c3, v = .slice a3 m c3 := fun d os => (implTrim_len _ _ _ s _ (hriW.below (bW d os)) Hl.out (by omega) hlc HP.out HM.out).mono fun _ _ ⟨a3, c3, h1, h2⟩ => ⟨_, h1, regrown_of_below ((bW d os).trans (h2.mono (bW d os).size)), a3, c3, rfl⟩
        have CT := Lib.hid ct; clear ct
        by_cases hml : m = l
        rotate_left
        · clear hlast
          have e1 : ((m : Int) != (l : Int)) = true := by simp; omega
          have Hml := Lib.hid hml; clear hml
          go_wp2
          refine wp_region_sole_at (C := fun w' => ∃ p : Regrown, w' = Go.Sort.grow (redrawn W p.d) p.os) 7 3 33 (by kernel_rfl) (by kernel_rfl) (by kernel_rfl) rfl ⟨⟨World.drawn W + 1, #[]⟩, by rw [Go.Sort.grow_empty]; rfl⟩ ?_
          simp only [List.take_succ_cons, List.take_zero, List.drop_succ_cons, List.drop_zero, List.cons_append, List.nil_append]
          repeat (go_big_quiet_step (first | (go_at_call 37; exact CP.out _ _)))
          refine wpQuiet_nil ?_
          refine soleStep_call 52 #[.slice a1 l c1] (by rfl) (fun w' => by kernel_rfl) ?_
          intro w' hw'
          obtain ⟨⟨dt, ot⟩, rfl⟩ := hw'
          refine (CT.out dt ot).mono ?_
          rintro e w2 ⟨v, he, hcw, a3, c3, rfl⟩
          refine ⟨_, he, hcw, ?_⟩
          clear hcw
          go_frame
          repeat (go_big_quiet_step (first | fail))
          refine wpQuiet_nil ?_
          intro _ hw'
          obtain ⟨⟨dq, osq⟩, hw''⟩ := hw'
          subst hw''
          have hB2 := hdW.trans ((below_regrown W dq osq).mono hbW)
          go_wp2
          go_ret
          exact ⟨ret_bool (classesOk_false (k := k) (by rw [Hn.out]; exact hlt) (classAt_bad Hx.out (class_trim Hl.out HM.out Hml.out))).symm, hB2⟩
        · have e1 : ((m : Int) != (l : Int)) = false := by simp; omega
          have Hml := Lib.hid hml; clear hml
          by_cases h0 : x = 0
          · clear hlast
            have e0 : (x == 0) = true := by simp [h0]
            have H0 := Lib.hid h0; clear h0
            go_wp2
            refine wp_region_sole_at (C := fun w' => ∃ p : Regrown, w' = Go.Sort.grow (redrawn W p.d) p.os) 7 3 33 (by kernel_rfl) (by kernel_rfl) (by kernel_rfl) rfl ⟨⟨World.drawn W + 1, #[]⟩, by rw [Go.Sort.grow_empty]; rfl⟩ ?_
            simp only [List.take_succ_cons, List.take_zero, List.drop_succ_cons, List.drop_zero, List.cons_append, List.nil_append]
            repeat (go_big_quiet_step (first | (go_at_call 37; exact CP.out _ _)))
            refine wpQuiet_nil ?_
            refine soleStep_call 52 #[.slice a1 l c1] (by rfl) (fun w' => by kernel_rfl) ?_
            intro w' hw'
            obtain ⟨⟨dt, ot⟩, rfl⟩ := hw'
            refine (CT.out dt ot).mono ?_
            rintro e w2 ⟨v, he, hcw, a3, c3, rfl⟩
            refine ⟨_, he, hcw, ?_⟩
            clear hcw
            go_frame
            repeat (go_big_quiet_step (first | fail))
            refine wpQuiet_nil ?_
            intro _ hw'
            obtain ⟨⟨dq, osq⟩, hw''⟩ := hw'
            subst hw''
            have hB2 := hdW.trans ((below_regrown W dq osq).mono hbW)
            go_wp2
            go_ret
            exact ⟨ret_bool (classesOk_false (k := k) (by rw [Hn.out]; exact hlt) (classAt_bad Hx.out (class_zero H0.out))).symm, hB2⟩
          · have e0 : (x == 0) = false := by simp [h0]
            have H0 := Lib.hid h0; clear h0
            by_cases hlow : x < -1000000
            · clear hlast
              go_wp2
              refine wp_region_sole_at (C := fun w' => ∃ p : Regrown, w' = Go.Sort.grow (redrawn W p.d) p.os) 7 3 33 (by kernel_rfl) (by kernel_rfl) (by kernel_rfl) rfl ⟨⟨World.drawn W + 1, #[]⟩, by rw [Go.Sort.grow_empty]; rfl⟩ ?_
              simp only [List.take_succ_cons, List.take_zero, List.drop_succ_cons, List.drop_zero, List.cons_append, List.nil_append]
              repeat (go_big_quiet_step (first | (go_at_call 37; exact CP.out _ _)))
              refine wpQuiet_nil ?_
              refine soleStep_call 52 #[.slice a1 l c1] (by rfl) (fun w' => by kernel_rfl) ?_
              intro w' hw'
              obtain ⟨⟨dt, ot⟩, rfl⟩ := hw'
              refine (CT.out dt ot).mono ?_
              rintro e w2 ⟨v, he, hcw, a3, c3, rfl⟩
              refine ⟨_, he, hcw, ?_⟩
              clear hcw
              go_frame
              repeat (go_big_quiet_step (first | fail))
              refine wpQuiet_nil ?_
              intro _ hw'
              obtain ⟨⟨dq, osq⟩, hw''⟩ := hw'
              subst hw''
              have hB2 := hdW.trans ((below_regrown W dq osq).mono hbW)
              go_wp2
              go_ret
              exact ⟨ret_bool (classesOk_false (k := k) (by rw [Hn.out]; exact hlt) (classAt_bad Hx.out (class_range (by omega)))).symm, hB2⟩
            have n1 : decide (x < -1000000) = false := by simp; omega
            by_cases hhigh : 1000000 < x
            · clear hlast
              go_wp2
              refine wp_region_sole_at (C := fun w' => ∃ p : Regrown, w' = Go.Sort.grow (redrawn W p.d) p.os) 7 3 33 (by kernel_rfl) (by kernel_rfl) (by kernel_rfl) rfl ⟨⟨World.drawn W + 1, #[]⟩, by rw [Go.Sort.grow_empty]; rfl⟩ ?_
              simp only [List.take_succ_cons, List.take_zero, List.drop_succ_cons, List.drop_zero, List.cons_append, List.nil_append]
              repeat (go_big_quiet_step (first | (go_at_call 37; exact CP.out _ _)))
              refine wpQuiet_nil ?_
              refine soleStep_call 52 #[.slice a1 l c1] (by rfl) (fun w' => by kernel_rfl) ?_
              intro w' hw'
              obtain ⟨⟨dt, ot⟩, rfl⟩ := hw'
              refine (CT.out dt ot).mono ?_
              rintro e w2 ⟨v, he, hcw, a3, c3, rfl⟩
              refine ⟨_, he, hcw, ?_⟩
              clear hcw
              go_frame
              repeat (go_big_quiet_step (first | fail))
              refine wpQuiet_nil ?_
              intro _ hw'
              obtain ⟨⟨dq, osq⟩, hw''⟩ := hw'
              subst hw''
              have hB2 := hdW.trans ((below_regrown W dq osq).mono hbW)
              go_wp2
              go_ret
              exact ⟨ret_bool (classesOk_false (k := k) (by rw [Hn.out]; exact hlt) (classAt_bad Hx.out (class_range (by omega)))).symm, hB2⟩
            · have Hin := Lib.hid (show -1000000 ≤ x ∧ x ≤ 1000000 by omega)
              have n2 : decide (1000000 < x) = false := by simp; omega
              have HC := Lib.hid (class_yes Hl.out HM.out HP.out Hml.out H0.out Hin.out)
              by_cases hk0 : k = 0
              · clear hlast
                subst hk0
                simp only [Nat.zero_mul, Nat.add_zero] at hc1 hc2
                have g0 : decide ((0 : Int) < 0) = false := by decide
                go_wp2
                refine wp_region_sole_at (C := fun w' => ∃ p : Regrown, w' = Go.Sort.grow (redrawn W p.d) p.os) 7 3 33 (by kernel_rfl) (by kernel_rfl) (by kernel_rfl) rfl ⟨⟨World.drawn W + 1, #[]⟩, by rw [Go.Sort.grow_empty]; rfl⟩ ?_
                simp only [List.take_succ_cons, List.take_zero, List.drop_succ_cons, List.drop_zero, List.cons_append, List.nil_append]
                repeat (go_big_quiet_step (first | (go_at_call 37; exact CP.out _ _)))
                refine wpQuiet_nil ?_
                refine soleStep_call 52 #[.slice a1 l c1] (by rfl) (fun w' => by kernel_rfl) ?_
                intro w' hw'
                obtain ⟨⟨dt, ot⟩, rfl⟩ := hw'
                refine (CT.out dt ot).mono ?_
                rintro e w2 ⟨v, he, hcw, a3, c3, rfl⟩
                refine ⟨_, he, hcw, ?_⟩
                clear hcw
                go_frame
                repeat (go_big_quiet_step (first | fail))
                refine wpQuiet_nil ?_
                intro _ hw'
                obtain ⟨⟨dq, osq⟩, hw''⟩ := hw'
                subst hw''
                have hB2 := hdW.trans ((below_regrown W dq osq).mono hbW)
                go_wp2
                go_roundw
                case rel => exact ⟨1, by omega, rfl, classesOk_next HA.out (classAt_first Hx.out HC.out), hB2⟩
                case measure => simp [intOf]; omega
              · obtain ⟨t, d, a2, c2, ht, hc3, hri2, htl⟩ := hlast hk0
                clear hlast
                have Ht := Lib.hid ht; clear ht
                obtain ⟨l2, hl2⟩ : ∃ l, t.length = l := ⟨_, rfl⟩
                rw [hl2] at hc3 htl
                have Hl2 := Lib.hid hl2; clear hl2
                have hri2 := hri2.below hBW
                have hc3 : W.cell? ⟨b, off + (k-1) * 2, none⟩ = some (.slice a2 l2 c2) := by rw [hBW.cell (World.block_lt_of_cell? wr _ hc3)]; exact hc3
                have k2 := fun d os => cell_regrown hc3 d os
                have g0 : 0 < k := by omega
                have g1 : (0 : Int) ≤ (k : Int) - 1 := by omega
                have g2 : (k : Int) - 1 < (n : Int) := by omega
                cases hL : less t s
                · have HL := Lib.hid hL; clear hL
                  obtain ⟨o, ho⟩ : ∃ o, order t s = o := ⟨_, rfl⟩
                  have HO := Lib.hid ho
                  have ho2 : decide (0 ≤ o) = !(less t s) := by rw [less_order, ho]; by_cases h : o < 0 <;> simp [h] <;> omega
                  rw [HL.out] at ho2
                  simp only [Bool.not_false] at ho2
                  clear ho
                  have cl : ∀ (d : Nat) (os : Array Obj), Calls Try.prog 49 #[.slice a2 l2 c2, .slice a1 l c1] (Go.Sort.grow (redrawn W d) os) fun e w'' => e = .returned (.int .i64 o) ∧ ∃ p : Regrown, w'' = Go.Sort.grow (redrawn W p.d) p.os := fun d os => Calls.regrown_of ((isInt (compare_any _ _ _ _ _ _ t s _ (hri2.below (bW d os)) (hriW.below (bW d os)) Hl2.out Hl.out (by omega) (by omega)) HO.out).mono fun _ _ ⟨h1, h2⟩ => ⟨h1, by rw [← h2]; exact Below.refl _ _⟩)
                  have CL := Lib.hid cl; clear cl
                  have g3 : IntKind.i64.wrap ((k : Int) - 1) = (k : Int) - 1 := IntWalk.i64_in _ (by omega)
                  have g4 : ((k : Int) - 1).toNat = k - 1 := by omega
                  go_wp2
                  refine wp_region_sole_at (C := fun w' => ∃ p : Regrown, w' = Go.Sort.grow (redrawn W p.d) p.os) 7 3 33 (by kernel_rfl) (by kernel_rfl) (by kernel_rfl) rfl ⟨⟨World.drawn W + 1, #[]⟩, by rw [Go.Sort.grow_empty]; rfl⟩ ?_
                  simp only [List.take_succ_cons, List.take_zero, List.drop_succ_cons, List.drop_zero, List.cons_append, List.nil_append]
                  repeat (go_big_quiet_step (first | (go_at_call 37; exact CP.out _ _)))
                  refine wpQuiet_nil ?_
                  refine soleStep_call 52 #[.slice a1 l c1] (by rfl) (fun w' => by kernel_rfl) ?_
                  intro w' hw'
                  obtain ⟨⟨dt, ot⟩, rfl⟩ := hw'
                  refine (CT.out dt ot).mono ?_
                  rintro e w2 ⟨v, he, hcw, a3, c3, rfl⟩
                  refine ⟨_, he, hcw, ?_⟩
                  clear hcw
                  go_frame
                  repeat (go_big_quiet_step (first | fail | (go_at_call 49; exact CL.out _ _)))
                  refine wpQuiet_nil ?_
                  intro _ hw'
                  obtain ⟨⟨dq, osq⟩, hw''⟩ := hw'
                  subst hw''
                  have hB2 := hdW.trans ((below_regrown W dq osq).mono hbW)
                  clear g3 g4
                  go_wp2
                  go_ret
                  exact ⟨ret_bool (classesOk_false (k := k) (by rw [Hn.out]; exact hlt) (classAt_rise Hx.out Ht.out hk0 HL.out)).symm, hB2⟩
                · have HL := Lib.hid hL; clear hL
                  obtain ⟨o, ho⟩ : ∃ o, order t s = o := ⟨_, rfl⟩
                  have HO := Lib.hid ho
                  have ho2 : decide (0 ≤ o) = !(less t s) := by rw [less_order, ho]; by_cases h : o < 0 <;> simp [h] <;> omega
                  rw [HL.out] at ho2
                  simp only [Bool.not_true] at ho2
                  clear ho
                  have cl : ∀ (d : Nat) (os : Array Obj), Calls Try.prog 49 #[.slice a2 l2 c2, .slice a1 l c1] (Go.Sort.grow (redrawn W d) os) fun e w'' => e = .returned (.int .i64 o) ∧ ∃ p : Regrown, w'' = Go.Sort.grow (redrawn W p.d) p.os := fun d os => Calls.regrown_of ((isInt (compare_any _ _ _ _ _ _ t s _ (hri2.below (bW d os)) (hriW.below (bW d os)) Hl2.out Hl.out (by omega) (by omega)) HO.out).mono fun _ _ ⟨h1, h2⟩ => ⟨h1, by rw [← h2]; exact Below.refl _ _⟩)
                  have CL := Lib.hid cl; clear cl
                  have g3 : IntKind.i64.wrap ((k : Int) - 1) = (k : Int) - 1 := IntWalk.i64_in _ (by omega)
                  have g4 : ((k : Int) - 1).toNat = k - 1 := by omega
                  go_wp2
                  refine wp_region_sole_at (C := fun w' => ∃ p : Regrown, w' = Go.Sort.grow (redrawn W p.d) p.os) 7 3 33 (by kernel_rfl) (by kernel_rfl) (by kernel_rfl) rfl ⟨⟨World.drawn W + 1, #[]⟩, by rw [Go.Sort.grow_empty]; rfl⟩ ?_
                  simp only [List.take_succ_cons, List.take_zero, List.drop_succ_cons, List.drop_zero, List.cons_append, List.nil_append]
                  repeat (go_big_quiet_step (first | (go_at_call 37; exact CP.out _ _)))
                  refine wpQuiet_nil ?_
                  refine soleStep_call 52 #[.slice a1 l c1] (by rfl) (fun w' => by kernel_rfl) ?_
                  intro w' hw'
                  obtain ⟨⟨dt, ot⟩, rfl⟩ := hw'
                  refine (CT.out dt ot).mono ?_
                  rintro e w2 ⟨v, he, hcw, a3, c3, rfl⟩
                  refine ⟨_, he, hcw, ?_⟩
                  clear hcw
                  go_frame
                  repeat (go_big_quiet_step (first | fail | (go_at_call 49; exact CL.out _ _)))
                  refine wpQuiet_nil ?_
                  intro _ hw'
                  obtain ⟨⟨dq, osq⟩, hw''⟩ := hw'
                  subst hw''
                  have hB2 := hdW.trans ((below_regrown W dq osq).mono hbW)
                  clear g3 g4
                  go_wp2
                  go_roundw
                  case rel => exact ⟨k + 1, by omega, by go_num, classesOk_next HA.out (classAt_next Hx.out Ht.out HC.out HL.out), hB2⟩
                  case measure => simp [intOf]; omega
    · obtain rfl : k = n := by omega
      go_wp2
      go_ret
      exact ⟨ret_bool (classesOk_true (by rw [Hn.out]; omega) (by rw [Hn.out]; exact HA.out)).symm, hd⟩
theorem classes_impl (a : Option Addr) (n c : Nat) (xs : List (List Int × Int)) (w : World) (hr : RP w a xs) (hn : xs.length = n) (hb : n ≤ 1048576) (hsh : Short_P xs) :
    Calls Try.prog 54 #[.slice a n c] w fun e w' => ∃ b, e = .returned (.bool b) ∧ Hid (b = classesOk xs) ∧ Below w.heap.size w w' :=
  (implClassesOk_any a n c xs w hr hn hb hsh).mono fun _ _ ⟨he, hd⟩ => ⟨_, he, rfl, hd⟩
end Go.Proofs.Ytflkomgfgmephaa
