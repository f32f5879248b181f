/-
  No cell of these rows narrows 'for every input' (looked for: loops, veiled, ifaces, maps, wideKeys, modest, calm, conditions, laid).
  DERIVED. THE GIVEN ROWS OF THIS SEAT. 11 by the template 'for every input the law returns true; each argument reads behind the call as it read before'; 0 by the template 'total and deterministic' (their statements: YtnjfbgdighaiiaaTotals.lean).
  GIVEN WITH THE SEED: the statements are not yours to turn. If you find one false, say at which input.
  Laid BY PROGRAM, IN A SANDBOX (cutbox-rows.mjs): the forced cells as the released guide's own fill.sh prints them over the translation c7827bb9460c256b… (all of the seat's roots in one cut). By AI agents, Wed Nov 11 2026. No macro, syntax, notation, axiom, sorry.
-/
import Derived.Test.YtnjfbgdighaiiaaChecked
import GoSem.Claim
import GoSem.ClaimJoined
import GoSem.ClaimMapViews
import Derived.JoinedTies
import Derived.KernelRfl
namespace Go.Proofs.Ytnjfbgdighaiiaa
/- THE CELL 'sum', in the pinned program and in every row, IS THE sha256 OF THE DUMP (.gsa) THAT YtnjfbgdighaiiaaProg.lean LOADS. Nothing in Lean hashes anything: it is a label: what it is worth is what the hold of that sum in a sandbox is worth. -/
noncomputable def Try.pinned : Pinned := { name := "ytnjfbgdighaiiaa", sum := "c7827bb9460c256ba826808c95812e9952b9e6bdbb8626c32017e8336099d9f6", checked := Try.checked }
namespace Rows
def none {H : Type} : Left H := { results := [], args := [] }

/-- 'laws.FnExactBottomDream': WHATEVER THE INPUT: true; the input reads as it did. -/
def fnExactBottomDreamSpec : ChangeSpec := { name := "fnExactBottomDream", fn := fun _ => fun
  | [d] => { results := [.lit (.bool true)], args := [d] }
  | _ => none }
def fnExactBottomDreamRow : OpenClaim := { program := "ytnjfbgdighaiiaa", sum := "c7827bb9460c256ba826808c95812e9952b9e6bdbb8626c32017e8336099d9f6", func := "loop.example/g03113/laws.FnExactBottomDream", spec := "fnExactBottomDream", apart := false }
def FnExactBottomDreamSaid : Prop := fnExactBottomDreamRow.holds Try.pinned (OpenSpec.ofChange fnExactBottomDreamSpec)

/-- ITS FALSE NEIGHBOUR: 'it returns false'. Refute it at one input. -/
def fnExactBottomDreamWrong : ChangeSpec := { name := "fnExactBottomDream", fn := fun _ => fun
  | [d] => { results := [.lit (.bool false)], args := [d] }
  | _ => none }
def FnExactBottomDreamWrongFalsely : Prop := fnExactBottomDreamRow.holds Try.pinned (OpenSpec.ofChange fnExactBottomDreamWrong)

/-- 'laws.FnExactClassesOk': WHATEVER THE INPUT: true; the input reads as it did. -/
def fnExactClassesOkSpec : ChangeSpec := { name := "fnExactClassesOk", fn := fun _ => fun
  | [d] => { results := [.lit (.bool true)], args := [d] }
  | _ => none }
def fnExactClassesOkRow : OpenClaim := { program := "ytnjfbgdighaiiaa", sum := "c7827bb9460c256ba826808c95812e9952b9e6bdbb8626c32017e8336099d9f6", func := "loop.example/g03113/laws.FnExactClassesOk", spec := "fnExactClassesOk", apart := false }
def FnExactClassesOkSaid : Prop := fnExactClassesOkRow.holds Try.pinned (OpenSpec.ofChange fnExactClassesOkSpec)

/-- ITS FALSE NEIGHBOUR: 'it returns false'. Refute it at one input. -/
def fnExactClassesOkWrong : ChangeSpec := { name := "fnExactClassesOk", fn := fun _ => fun
  | [d] => { results := [.lit (.bool false)], args := [d] }
  | _ => none }
def FnExactClassesOkWrongFalsely : Prop := fnExactClassesOkRow.holds Try.pinned (OpenSpec.ofChange fnExactClassesOkWrong)

/-- 'laws.FnCodes': WHATEVER THE INPUT: true; the input reads as it did. -/
def fnCodesSpec : ChangeSpec := { name := "fnCodes", fn := fun _ => fun
  | [d] => { results := [.lit (.bool true)], args := [d] }
  | _ => none }
def fnCodesRow : OpenClaim := { program := "ytnjfbgdighaiiaa", sum := "c7827bb9460c256ba826808c95812e9952b9e6bdbb8626c32017e8336099d9f6", func := "loop.example/g03113/laws.FnCodes", spec := "fnCodes", apart := false }
def FnCodesSaid : Prop := fnCodesRow.holds Try.pinned (OpenSpec.ofChange fnCodesSpec)

/-- ITS FALSE NEIGHBOUR: 'it returns false'. Refute it at one input. -/
def fnCodesWrong : ChangeSpec := { name := "fnCodes", fn := fun _ => fun
  | [d] => { results := [.lit (.bool false)], args := [d] }
  | _ => none }
def FnCodesWrongFalsely : Prop := fnCodesRow.holds Try.pinned (OpenSpec.ofChange fnCodesWrong)

/-- 'laws.FnExactFormatClasses': WHATEVER THE INPUT: true; the input reads as it did. -/
def fnExactFormatClassesSpec : ChangeSpec := { name := "fnExactFormatClasses", fn := fun _ => fun
  | [d] => { results := [.lit (.bool true)], args := [d] }
  | _ => none }
def fnExactFormatClassesRow : OpenClaim := { program := "ytnjfbgdighaiiaa", sum := "c7827bb9460c256ba826808c95812e9952b9e6bdbb8626c32017e8336099d9f6", func := "loop.example/g03113/laws.FnExactFormatClasses", spec := "fnExactFormatClasses", inPlace := ["internal/abi.NoEscape", "internal/bytealg.MakeNoZero"], recurses := true, apart := false }
def FnExactFormatClassesSaid : Prop := fnExactFormatClassesRow.holds Try.pinned (OpenSpec.ofChange fnExactFormatClassesSpec)

/-- ITS FALSE NEIGHBOUR: 'it returns false'. Refute it at one input. -/
def fnExactFormatClassesWrong : ChangeSpec := { name := "fnExactFormatClasses", fn := fun _ => fun
  | [d] => { results := [.lit (.bool false)], args := [d] }
  | _ => none }
def FnExactFormatClassesWrongFalsely : Prop := fnExactFormatClassesRow.holds Try.pinned (OpenSpec.ofChange fnExactFormatClassesWrong)

/-- 'laws.FnExactDreamWord': WHATEVER THE INPUT: true; the input reads as it did. -/
def fnExactDreamWordSpec : ChangeSpec := { name := "fnExactDreamWord", fn := fun _ => fun
  | [d1, d2] => { results := [.lit (.bool true)], args := [d1, d2] }
  | _ => none }
def fnExactDreamWordRow : OpenClaim := { program := "ytnjfbgdighaiiaa", sum := "c7827bb9460c256ba826808c95812e9952b9e6bdbb8626c32017e8336099d9f6", func := "loop.example/g03113/laws.FnExactDreamWord", spec := "fnExactDreamWord", unfollowed := true, recurses := true, apart := false }
def FnExactDreamWordSaid : Prop := fnExactDreamWordRow.holds Try.pinned (OpenSpec.ofChange fnExactDreamWordSpec)

/-- ITS FALSE NEIGHBOUR: 'it returns false'. Refute it at one input. -/
def fnExactDreamWordWrong : ChangeSpec := { name := "fnExactDreamWord", fn := fun _ => fun
  | [d1, d2] => { results := [.lit (.bool false)], args := [d1, d2] }
  | _ => none }
def FnExactDreamWordWrongFalsely : Prop := fnExactDreamWordRow.holds Try.pinned (OpenSpec.ofChange fnExactDreamWordWrong)

/-- 'laws.FnExactLadderMoves': WHATEVER THE INPUT: true; the input reads as it did. -/
def fnExactLadderMovesSpec : ChangeSpec := { name := "fnExactLadderMoves", fn := fun _ => fun
  | [d1, d2] => { results := [.lit (.bool true)], args := [d1, d2] }
  | _ => none }
def fnExactLadderMovesRow : OpenClaim := { program := "ytnjfbgdighaiiaa", sum := "c7827bb9460c256ba826808c95812e9952b9e6bdbb8626c32017e8336099d9f6", func := "loop.example/g03113/laws.FnExactLadderMoves", spec := "fnExactLadderMoves", unfollowed := true, recurses := true, apart := false }
def FnExactLadderMovesSaid : Prop := fnExactLadderMovesRow.holds Try.pinned (OpenSpec.ofChange fnExactLadderMovesSpec)

/-- ITS FALSE NEIGHBOUR: 'it returns false'. Refute it at one input. -/
def fnExactLadderMovesWrong : ChangeSpec := { name := "fnExactLadderMoves", fn := fun _ => fun
  | [d1, d2] => { results := [.lit (.bool false)], args := [d1, d2] }
  | _ => none }
def FnExactLadderMovesWrongFalsely : Prop := fnExactLadderMovesRow.holds Try.pinned (OpenSpec.ofChange fnExactLadderMovesWrong)

/-- 'laws.FnExactDreamPerm': WHATEVER THE INPUT: true; the input reads as it did. -/
def fnExactDreamPermSpec : ChangeSpec := { name := "fnExactDreamPerm", fn := fun _ => fun
  | [d1, d2] => { results := [.lit (.bool true)], args := [d1, d2] }
  | _ => none }
def fnExactDreamPermRow : OpenClaim := { program := "ytnjfbgdighaiiaa", sum := "c7827bb9460c256ba826808c95812e9952b9e6bdbb8626c32017e8336099d9f6", func := "loop.example/g03113/laws.FnExactDreamPerm", spec := "fnExactDreamPerm", unfollowed := true, recurses := true, apart := false }
def FnExactDreamPermSaid : Prop := fnExactDreamPermRow.holds Try.pinned (OpenSpec.ofChange fnExactDreamPermSpec)

/-- ITS FALSE NEIGHBOUR: 'it returns false'. Refute it at one input. -/
def fnExactDreamPermWrong : ChangeSpec := { name := "fnExactDreamPerm", fn := fun _ => fun
  | [d1, d2] => { results := [.lit (.bool false)], args := [d1, d2] }
  | _ => none }
def FnExactDreamPermWrongFalsely : Prop := fnExactDreamPermRow.holds Try.pinned (OpenSpec.ofChange fnExactDreamPermWrong)

/-- 'laws.FnExactTransitionOf': WHATEVER THE INPUT: true; the input reads as it did. -/
def fnExactTransitionOfSpec : ChangeSpec := { name := "fnExactTransitionOf", fn := fun _ => fun
  | [d] => { results := [.lit (.bool true)], args := [d] }
  | _ => none }
def fnExactTransitionOfRow : OpenClaim := { program := "ytnjfbgdighaiiaa", sum := "c7827bb9460c256ba826808c95812e9952b9e6bdbb8626c32017e8336099d9f6", func := "loop.example/g03113/laws.FnExactTransitionOf", spec := "fnExactTransitionOf", unfollowed := true, recurses := true, apart := false }
def FnExactTransitionOfSaid : Prop := fnExactTransitionOfRow.holds Try.pinned (OpenSpec.ofChange fnExactTransitionOfSpec)

/-- ITS FALSE NEIGHBOUR: 'it returns false'. Refute it at one input. -/
def fnExactTransitionOfWrong : ChangeSpec := { name := "fnExactTransitionOf", fn := fun _ => fun
  | [d] => { results := [.lit (.bool false)], args := [d] }
  | _ => none }
def FnExactTransitionOfWrongFalsely : Prop := fnExactTransitionOfRow.holds Try.pinned (OpenSpec.ofChange fnExactTransitionOfWrong)

/-- 'laws.FnExactMonkProduct': WHATEVER THE INPUT: true; the input reads as it did. -/
def fnExactMonkProductSpec : ChangeSpec := { name := "fnExactMonkProduct", fn := fun _ => fun
  | [d1, d2] => { results := [.lit (.bool true)], args := [d1, d2] }
  | _ => none }
def fnExactMonkProductRow : OpenClaim := { program := "ytnjfbgdighaiiaa", sum := "c7827bb9460c256ba826808c95812e9952b9e6bdbb8626c32017e8336099d9f6", func := "loop.example/g03113/laws.FnExactMonkProduct", spec := "fnExactMonkProduct", unfollowed := true, recurses := true, apart := false }
def FnExactMonkProductSaid : Prop := fnExactMonkProductRow.holds Try.pinned (OpenSpec.ofChange fnExactMonkProductSpec)

/-- ITS FALSE NEIGHBOUR: 'it returns false'. Refute it at one input. -/
def fnExactMonkProductWrong : ChangeSpec := { name := "fnExactMonkProduct", fn := fun _ => fun
  | [d1, d2] => { results := [.lit (.bool false)], args := [d1, d2] }
  | _ => none }
def FnExactMonkProductWrongFalsely : Prop := fnExactMonkProductRow.holds Try.pinned (OpenSpec.ofChange fnExactMonkProductWrong)

/-- 'laws.FnExactPipeDreams': WHATEVER THE INPUT: true; the input reads as it did. -/
def fnExactPipeDreamsSpec : ChangeSpec := { name := "fnExactPipeDreams", fn := fun _ => fun
  | [d] => { results := [.lit (.bool true)], args := [d] }
  | _ => none }
def fnExactPipeDreamsRow : OpenClaim := { program := "ytnjfbgdighaiiaa", sum := "c7827bb9460c256ba826808c95812e9952b9e6bdbb8626c32017e8336099d9f6", func := "loop.example/g03113/laws.FnExactPipeDreams", spec := "fnExactPipeDreams", unfollowed := true, recurses := true, apart := false }
def FnExactPipeDreamsSaid : Prop := fnExactPipeDreamsRow.holds Try.pinned (OpenSpec.ofChange fnExactPipeDreamsSpec)

/-- ITS FALSE NEIGHBOUR: 'it returns false'. Refute it at one input. -/
def fnExactPipeDreamsWrong : ChangeSpec := { name := "fnExactPipeDreams", fn := fun _ => fun
  | [d] => { results := [.lit (.bool false)], args := [d] }
  | _ => none }
def FnExactPipeDreamsWrongFalsely : Prop := fnExactPipeDreamsRow.holds Try.pinned (OpenSpec.ofChange fnExactPipeDreamsWrong)

/-- 'laws.FnMacdonald': WHATEVER THE INPUT: true; the input reads as it did. -/
def fnMacdonaldSpec : ChangeSpec := { name := "fnMacdonald", fn := fun _ => fun
  | [d] => { results := [.lit (.bool true)], args := [d] }
  | _ => none }
def fnMacdonaldRow : OpenClaim := { program := "ytnjfbgdighaiiaa", sum := "c7827bb9460c256ba826808c95812e9952b9e6bdbb8626c32017e8336099d9f6", func := "loop.example/g03113/laws.FnMacdonald", spec := "fnMacdonald", unfollowed := true, recurses := true, apart := false }
def FnMacdonaldSaid : Prop := fnMacdonaldRow.holds Try.pinned (OpenSpec.ofChange fnMacdonaldSpec)

/-- ITS FALSE NEIGHBOUR: 'it returns false'. Refute it at one input. -/
def fnMacdonaldWrong : ChangeSpec := { name := "fnMacdonald", fn := fun _ => fun
  | [d] => { results := [.lit (.bool false)], args := [d] }
  | _ => none }
def FnMacdonaldWrongFalsely : Prop := fnMacdonaldRow.holds Try.pinned (OpenSpec.ofChange fnMacdonaldWrong)

/- THE SECOND FORM. 'bulk': how many values and letters a reading holds, each counted each time it is reached (what is shared counts as often as it is met; a slice's spare places count too). A statement '..UptoSaid' is the law's where the arguments, and the package variables that the reading takes, are together of bulk at most 1048576: NARROWER than '..Said'. Prove '..Said' where nothing that the law and all that it calls make is longer than what came in: it says more and counts as full. Else prove '..UptoSaid'. A law counts once. -/
mutual
def uptoBulk {H : Type} : DataW H → Nat
  | .lit (.string bytes) => bytes.length + 1
  | .lit _ => 1
  | .nil => 1
  | .ptr d => uptoBulk d + 1
  | .slice elems spare => uptoBulkAll elems + uptoBulkAll spare + 1
  | .agg parts => uptoBulkAll parts + 1
  | .iface _ d => uptoBulk d + 1
  | .map entries => uptoBulkEntries entries + 1
  | .held _ => 1
def uptoBulkAll {H : Type} : List (DataW H) → Nat
  | [] => 0
  | d :: r => uptoBulk d + uptoBulkAll r
def uptoBulkEntries {H : Type} : List (Lit × DataW H) → Nat
  | [] => 0
  | x :: r => uptoBulkEntry x + uptoBulkEntries r
def uptoBulkEntry {H : Type} : Lit × DataW H → Nat
  | (.string bytes, d) => bytes.length + uptoBulk d + 1
  | (_, d) => uptoBulk d + 1
 end
def uptoSmall : (H : Type) → List (DataW H) → Bool := fun _ ds => decide (uptoBulkAll ds ≤ 1048576)
def OpenSpec.upto (s : _root_.Go.ChangeSpec) : _root_.Go.OpenSpec := { _root_.Go.OpenSpec.ofChange s with cond := some uptoSmall }

/-- 'laws.FnExactBottomDream', WHERE WHAT IT READS IS OF BULK AT MOST 1048576: true; the input reads as it did. -/
def fnExactBottomDreamUptoRow : OpenClaim := { program := "ytnjfbgdighaiiaa", sum := "c7827bb9460c256ba826808c95812e9952b9e6bdbb8626c32017e8336099d9f6", func := "loop.example/g03113/laws.FnExactBottomDream", spec := "fnExactBottomDream", apart := false, narrowed := true }
def FnExactBottomDreamUptoSaid : Prop := fnExactBottomDreamUptoRow.holds Try.pinned (OpenSpec.upto fnExactBottomDreamSpec)

/-- 'laws.FnExactClassesOk', WHERE WHAT IT READS IS OF BULK AT MOST 1048576: true; the input reads as it did. -/
def fnExactClassesOkUptoRow : OpenClaim := { program := "ytnjfbgdighaiiaa", sum := "c7827bb9460c256ba826808c95812e9952b9e6bdbb8626c32017e8336099d9f6", func := "loop.example/g03113/laws.FnExactClassesOk", spec := "fnExactClassesOk", apart := false, narrowed := true }
def FnExactClassesOkUptoSaid : Prop := fnExactClassesOkUptoRow.holds Try.pinned (OpenSpec.upto fnExactClassesOkSpec)

/-- 'laws.FnCodes', WHERE WHAT IT READS IS OF BULK AT MOST 1048576: true; the input reads as it did. -/
def fnCodesUptoRow : OpenClaim := { program := "ytnjfbgdighaiiaa", sum := "c7827bb9460c256ba826808c95812e9952b9e6bdbb8626c32017e8336099d9f6", func := "loop.example/g03113/laws.FnCodes", spec := "fnCodes", apart := false, narrowed := true }
def FnCodesUptoSaid : Prop := fnCodesUptoRow.holds Try.pinned (OpenSpec.upto fnCodesSpec)

/-- 'laws.FnExactFormatClasses', WHERE WHAT IT READS IS OF BULK AT MOST 1048576: true; the input reads as it did. -/
def fnExactFormatClassesUptoRow : OpenClaim := { program := "ytnjfbgdighaiiaa", sum := "c7827bb9460c256ba826808c95812e9952b9e6bdbb8626c32017e8336099d9f6", func := "loop.example/g03113/laws.FnExactFormatClasses", spec := "fnExactFormatClasses", inPlace := ["internal/abi.NoEscape", "internal/bytealg.MakeNoZero"], recurses := true, apart := false, narrowed := true }
def FnExactFormatClassesUptoSaid : Prop := fnExactFormatClassesUptoRow.holds Try.pinned (OpenSpec.upto fnExactFormatClassesSpec)

/-- 'laws.FnExactDreamWord', WHERE WHAT IT READS IS OF BULK AT MOST 1048576: true; the input reads as it did. -/
def fnExactDreamWordUptoRow : OpenClaim := { program := "ytnjfbgdighaiiaa", sum := "c7827bb9460c256ba826808c95812e9952b9e6bdbb8626c32017e8336099d9f6", func := "loop.example/g03113/laws.FnExactDreamWord", spec := "fnExactDreamWord", unfollowed := true, recurses := true, apart := false, narrowed := true }
def FnExactDreamWordUptoSaid : Prop := fnExactDreamWordUptoRow.holds Try.pinned (OpenSpec.upto fnExactDreamWordSpec)

/-- 'laws.FnExactLadderMoves', WHERE WHAT IT READS IS OF BULK AT MOST 1048576: true; the input reads as it did. -/
def fnExactLadderMovesUptoRow : OpenClaim := { program := "ytnjfbgdighaiiaa", sum := "c7827bb9460c256ba826808c95812e9952b9e6bdbb8626c32017e8336099d9f6", func := "loop.example/g03113/laws.FnExactLadderMoves", spec := "fnExactLadderMoves", unfollowed := true, recurses := true, apart := false, narrowed := true }
def FnExactLadderMovesUptoSaid : Prop := fnExactLadderMovesUptoRow.holds Try.pinned (OpenSpec.upto fnExactLadderMovesSpec)

/-- 'laws.FnExactDreamPerm', WHERE WHAT IT READS IS OF BULK AT MOST 1048576: true; the input reads as it did. -/
def fnExactDreamPermUptoRow : OpenClaim := { program := "ytnjfbgdighaiiaa", sum := "c7827bb9460c256ba826808c95812e9952b9e6bdbb8626c32017e8336099d9f6", func := "loop.example/g03113/laws.FnExactDreamPerm", spec := "fnExactDreamPerm", unfollowed := true, recurses := true, apart := false, narrowed := true }
def FnExactDreamPermUptoSaid : Prop := fnExactDreamPermUptoRow.holds Try.pinned (OpenSpec.upto fnExactDreamPermSpec)

/-- 'laws.FnExactTransitionOf', WHERE WHAT IT READS IS OF BULK AT MOST 1048576: true; the input reads as it did. -/
def fnExactTransitionOfUptoRow : OpenClaim := { program := "ytnjfbgdighaiiaa", sum := "c7827bb9460c256ba826808c95812e9952b9e6bdbb8626c32017e8336099d9f6", func := "loop.example/g03113/laws.FnExactTransitionOf", spec := "fnExactTransitionOf", unfollowed := true, recurses := true, apart := false, narrowed := true }
def FnExactTransitionOfUptoSaid : Prop := fnExactTransitionOfUptoRow.holds Try.pinned (OpenSpec.upto fnExactTransitionOfSpec)

/-- 'laws.FnExactMonkProduct', WHERE WHAT IT READS IS OF BULK AT MOST 1048576: true; the input reads as it did. -/
def fnExactMonkProductUptoRow : OpenClaim := { program := "ytnjfbgdighaiiaa", sum := "c7827bb9460c256ba826808c95812e9952b9e6bdbb8626c32017e8336099d9f6", func := "loop.example/g03113/laws.FnExactMonkProduct", spec := "fnExactMonkProduct", unfollowed := true, recurses := true, apart := false, narrowed := true }
def FnExactMonkProductUptoSaid : Prop := fnExactMonkProductUptoRow.holds Try.pinned (OpenSpec.upto fnExactMonkProductSpec)

/-- 'laws.FnExactPipeDreams', WHERE WHAT IT READS IS OF BULK AT MOST 1048576: true; the input reads as it did. -/
def fnExactPipeDreamsUptoRow : OpenClaim := { program := "ytnjfbgdighaiiaa", sum := "c7827bb9460c256ba826808c95812e9952b9e6bdbb8626c32017e8336099d9f6", func := "loop.example/g03113/laws.FnExactPipeDreams", spec := "fnExactPipeDreams", unfollowed := true, recurses := true, apart := false, narrowed := true }
def FnExactPipeDreamsUptoSaid : Prop := fnExactPipeDreamsUptoRow.holds Try.pinned (OpenSpec.upto fnExactPipeDreamsSpec)

/-- 'laws.FnMacdonald', WHERE WHAT IT READS IS OF BULK AT MOST 1048576: true; the input reads as it did. -/
def fnMacdonaldUptoRow : OpenClaim := { program := "ytnjfbgdighaiiaa", sum := "c7827bb9460c256ba826808c95812e9952b9e6bdbb8626c32017e8336099d9f6", func := "loop.example/g03113/laws.FnMacdonald", spec := "fnMacdonald", unfollowed := true, recurses := true, apart := false, narrowed := true }
def FnMacdonaldUptoSaid : Prop := fnMacdonaldUptoRow.holds Try.pinned (OpenSpec.upto fnMacdonaldSpec)

end Rows
end Go.Proofs.Ytnjfbgdighaiiaa
