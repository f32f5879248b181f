/-
  Closed facts on the translated program that every statement of this seat asks. Written by a program of ours.
-/
import Derived.Test.YtcminkcoifkbgaaGreatDoorRows
import Derived.JoinedOf
import Derived.KernelRfl
namespace Go.Proofs.YtcminkcoifkbgaaGreatDoor
open Go
theorem band {a b : Bool} (h : a = true) (k : b = true) : (a && b) = true := by rw [h, k]; rfl
theorem word_step (w r : List Char) (h : w.all (fun c => c != Char.ofNat 32) = true) : wordsSigns (w ++ Char.ofNat 32 :: r) = w :: wordsSigns r := by
  induction w with
  | nil => rfl
  | cons c w ih =>
    simp only [List.all_cons, Bool.and_eq_true, bne_iff_ne] at h
    obtain ⟨h1, h2⟩ := h
    have e := ih h2
    show wordsSigns (c :: (w ++ Char.ofNat 32 :: r)) = (c :: w) :: wordsSigns r
    rw [wordsSigns]
    · rw [e]
    · exact fun hc => h1 hc
theorem make_of {P : Program} {c : List Char} {rest : List (List Char)} (h : behindMainWord (wordsSigns P.initOrder.toList) = c :: rest)
    (h1 : (c == "gc".toList || c == "spec".toList) = false) (h2 : (c == "cut".toList) = true) : P.make = some .cut := by
  unfold Program.make
  rw [h]
  simp only [h1, h2, Bool.true_or, if_true, Bool.false_eq_true, if_false]
theorem mayEnter_of {P : Program} {c : List Char} {rest : List (List Char)} (h : behindMainWord (wordsSigns P.initOrder.toList) = c :: rest)
    (h2 : stripLifts liftWords (c :: rest) = ([], c :: rest)) (h3 : (c == "cut".toList) = true) (h4 : P.laysLater = false) (h5 : P.bearsReflect = false) (h6 : P.doorFits [] = true) : P.mayEnter = true := by
  unfold Program.mayEnter
  rw [h]
  have h3' : c = "cut".toList := by simpa using h3
  dsimp only
  rw [h2]
  subst h3'
  simp [h4, h5, h6]
theorem liftsFinal_of {P : Program} {c : List Char} {rest : List (List Char)} (h : behindMainWord (wordsSigns P.initOrder.toList) = c :: rest)
    (h2 : stripLifts liftWords (c :: rest) = ([], c :: rest)) (h3 : (c == "cut".toList) = true) : P.liftsFinal = false := by
  unfold Program.liftsFinal Program.headLifts
  rw [h, h2]
  have h3' : c = "cut".toList := by simpa using h3
  subst h3'
  simp
def headA : List Char := List.map Char.ofNat [104, 97, 114, 110, 101, 115, 115]
def headB : List Char := List.map Char.ofNat [56, 102, 49, 48, 98, 51, 101, 57, 99, 51, 100, 49, 53, 54, 52, 54, 55, 48, 50, 99, 50, 98, 50, 99, 55, 49, 53, 51, 100, 102, 51, 49, 97, 97, 100, 52, 98, 54, 51, 48, 57, 54, 53, 51, 57, 56, 56, 54, 50, 98, 101, 50, 50, 102, 97, 52, 53, 56, 57, 55, 54, 97, 100, 57]
def headC : List Char := List.map Char.ofNat [99, 117, 116]
def headD : List Char := List.map Char.ofNat [97, 116, 32, 108, 111, 111, 112, 46, 101, 120, 97, 109, 112, 108, 101, 47, 103, 48, 51, 49, 49, 51, 47, 108, 97, 119, 115, 46, 70, 110, 80, 111, 108, 121, 84, 101, 120, 116]
theorem pf_head : Tryz.prog.initOrder.toList = headA ++ Char.ofNat 32 :: (headB ++ Char.ofNat 32 :: (headC ++ Char.ofNat 32 :: headD)) := by
  have e : Tryz.prog.initOrder = String.ofList (headA ++ Char.ofNat 32 :: (headB ++ Char.ofNat 32 :: (headC ++ Char.ofNat 32 :: headD))) := by kernel_rfl
  rw [e, String.toList_ofList]
theorem pf_words : wordsSigns Tryz.prog.initOrder.toList = headA :: headB :: headC :: wordsSigns headD := by
  rw [pf_head, word_step _ _ (by kernel_rfl), word_step _ _ (by kernel_rfl), word_step _ _ (by kernel_rfl)]
theorem pf_laidOut : laidOutB Tryz.prog = true := by kernel_rfl
theorem pf_mapsRowed : mapsRowed Tryz.prog = true := by kernel_rfl
theorem pf_stops : (Tryz.prog.stops == []) = true := by kernel_rfl
theorem pf_stopKnobs : (Tryz.prog.stopKnobs == []) = true := by kernel_rfl
theorem pf_stopsHeard : Tryz.prog.stopsHeard = true := by kernel_rfl
theorem pf_behind : behindMainWord (wordsSigns Tryz.prog.initOrder.toList) = headC :: wordsSigns headD := by
  rw [pf_words]
  kernel_rfl
theorem pf_strip : (stripLifts liftWords (headC :: wordsSigns headD)) = ([], headC :: wordsSigns headD) := by kernel_rfl
theorem pf_cut : (headC == "cut".toList) = true := by kernel_rfl
theorem pf_make : Tryz.prog.make = some .cut := make_of pf_behind (by kernel_rfl) pf_cut
theorem pf_mayEnter : Tryz.prog.mayEnter = true := mayEnter_of pf_behind pf_strip pf_cut (by kernel_rfl) (by kernel_rfl) (by kernel_rfl)
theorem pf_liftsFinal : Tryz.prog.liftsFinal = false := liftsFinal_of pf_behind pf_strip pf_cut
theorem pf_plain : Tryz.prog.plainKeys = false := by kernel_rfl
theorem own : ownKnob Tryz.prog.godebug = none := by kernel_rfl
end Go.Proofs.YtcminkcoifkbgaaGreatDoor
