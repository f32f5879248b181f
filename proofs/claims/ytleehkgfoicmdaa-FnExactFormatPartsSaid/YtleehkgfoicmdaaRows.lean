/-
  No cell of these rows narrows 'for every input' (looked for: loops, veiled, ifaces, maps, wideKeys, modest, calm, conditions, laid).
  DERIVED. THE GIVEN ROWS OF THIS SEAT. 16 by the template 'for every input the law returns true; each argument reads behind the call as it read before'; 0 by the template 'total and deterministic' (their statements: YtleehkgfoicmdaaTotals.lean).
  GIVEN WITH THE SEED: the statements are not yours to turn. If you find one false, say at which input.
  Laid BY PROGRAM, IN A SANDBOX (cutbox-rows.mjs): the forced cells as the released guide's own fill.sh prints them over the translation 8bf05e3c77262aab… (all of the seat's roots in one cut). By AI agents, Wed Nov 11 2026. No macro, syntax, notation, axiom, sorry.
-/
import Derived.Test.YtleehkgfoicmdaaChecked
import GoSem.Claim
import GoSem.ClaimJoined
import GoSem.ClaimMapViews
import Derived.JoinedTies
import Derived.KernelRfl
namespace Go.Proofs.Ytleehkgfoicmdaa
/- THE CELL 'sum', in the pinned program and in every row, IS THE sha256 OF THE DUMP (.gsa) THAT YtleehkgfoicmdaaProg.lean LOADS. Nothing in Lean hashes anything: it is a label: what it is worth is what the hold of that sum in a sandbox is worth. -/
noncomputable def Try.pinned : Pinned := { name := "ytleehkgfoicmdaa", sum := "8bf05e3c77262aab358dc010f2259c581e252ec6bea80d119cfb7e2c63a3063d", checked := Try.checked }
namespace Rows
def none {H : Type} : Left H := { results := [], args := [] }

/-- 'laws.FnExactIsShape': WHATEVER THE INPUT: true; the input reads as it did. -/
def fnExactIsShapeSpec : ChangeSpec := { name := "fnExactIsShape", fn := fun _ => fun
  | [d] => { results := [.lit (.bool true)], args := [d] }
  | _ => none }
def fnExactIsShapeRow : OpenClaim := { program := "ytleehkgfoicmdaa", sum := "8bf05e3c77262aab358dc010f2259c581e252ec6bea80d119cfb7e2c63a3063d", func := "loop.example/g03113/laws.FnExactIsShape", spec := "fnExactIsShape", apart := false }
def FnExactIsShapeSaid : Prop := fnExactIsShapeRow.holds Try.pinned (OpenSpec.ofChange fnExactIsShapeSpec)

/-- ITS FALSE NEIGHBOUR: 'it returns false'. Refute it at one input. -/
def fnExactIsShapeWrong : ChangeSpec := { name := "fnExactIsShape", fn := fun _ => fun
  | [d] => { results := [.lit (.bool false)], args := [d] }
  | _ => none }
def FnExactIsShapeWrongFalsely : Prop := fnExactIsShapeRow.holds Try.pinned (OpenSpec.ofChange fnExactIsShapeWrong)

/-- 'laws.FnExactContainsShape': WHATEVER THE INPUT: true; the input reads as it did. -/
def fnExactContainsShapeSpec : ChangeSpec := { name := "fnExactContainsShape", fn := fun _ => fun
  | [d1, d2] => { results := [.lit (.bool true)], args := [d1, d2] }
  | _ => none }
def fnExactContainsShapeRow : OpenClaim := { program := "ytleehkgfoicmdaa", sum := "8bf05e3c77262aab358dc010f2259c581e252ec6bea80d119cfb7e2c63a3063d", func := "loop.example/g03113/laws.FnExactContainsShape", spec := "fnExactContainsShape", apart := false }
def FnExactContainsShapeSaid : Prop := fnExactContainsShapeRow.holds Try.pinned (OpenSpec.ofChange fnExactContainsShapeSpec)

/-- ITS FALSE NEIGHBOUR: 'it returns false'. Refute it at one input. -/
def fnExactContainsShapeWrong : ChangeSpec := { name := "fnExactContainsShape", fn := fun _ => fun
  | [d1, d2] => { results := [.lit (.bool false)], args := [d1, d2] }
  | _ => none }
def FnExactContainsShapeWrongFalsely : Prop := fnExactContainsShapeRow.holds Try.pinned (OpenSpec.ofChange fnExactContainsShapeWrong)

/-- 'laws.FnSquares': WHATEVER THE INPUT: true; the input reads as it did. -/
def fnSquaresSpec : ChangeSpec := { name := "fnSquares", fn := fun _ => fun
  | [d] => { results := [.lit (.bool true)], args := [d] }
  | _ => none }
def fnSquaresRow : OpenClaim := { program := "ytleehkgfoicmdaa", sum := "8bf05e3c77262aab358dc010f2259c581e252ec6bea80d119cfb7e2c63a3063d", func := "loop.example/g03113/laws.FnSquares", spec := "fnSquares", recurses := true, apart := false }
def FnSquaresSaid : Prop := fnSquaresRow.holds Try.pinned (OpenSpec.ofChange fnSquaresSpec)

/-- ITS FALSE NEIGHBOUR: 'it returns false'. Refute it at one input. -/
def fnSquaresWrong : ChangeSpec := { name := "fnSquares", fn := fun _ => fun
  | [d] => { results := [.lit (.bool false)], args := [d] }
  | _ => none }
def FnSquaresWrongFalsely : Prop := fnSquaresRow.holds Try.pinned (OpenSpec.ofChange fnSquaresWrong)

/-- 'laws.FnExactShapesIn': WHATEVER THE INPUT: true; the input reads as it did. -/
def fnExactShapesInSpec : ChangeSpec := { name := "fnExactShapesIn", fn := fun _ => fun
  | [d1, d2] => { results := [.lit (.bool true)], args := [d1, d2] }
  | _ => none }
def fnExactShapesInRow : OpenClaim := { program := "ytleehkgfoicmdaa", sum := "8bf05e3c77262aab358dc010f2259c581e252ec6bea80d119cfb7e2c63a3063d", func := "loop.example/g03113/laws.FnExactShapesIn", spec := "fnExactShapesIn", recurses := true, apart := false }
def FnExactShapesInSaid : Prop := fnExactShapesInRow.holds Try.pinned (OpenSpec.ofChange fnExactShapesInSpec)

/-- ITS FALSE NEIGHBOUR: 'it returns false'. Refute it at one input. -/
def fnExactShapesInWrong : ChangeSpec := { name := "fnExactShapesIn", fn := fun _ => fun
  | [d1, d2] => { results := [.lit (.bool false)], args := [d1, d2] }
  | _ => none }
def FnExactShapesInWrongFalsely : Prop := fnExactShapesInRow.holds Try.pinned (OpenSpec.ofChange fnExactShapesInWrong)

/-- 'laws.FnExactConjugateShape': WHATEVER THE INPUT: true; the input reads as it did. -/
def fnExactConjugateShapeSpec : ChangeSpec := { name := "fnExactConjugateShape", fn := fun _ => fun
  | [d] => { results := [.lit (.bool true)], args := [d] }
  | _ => none }
def fnExactConjugateShapeRow : OpenClaim := { program := "ytleehkgfoicmdaa", sum := "8bf05e3c77262aab358dc010f2259c581e252ec6bea80d119cfb7e2c63a3063d", func := "loop.example/g03113/laws.FnExactConjugateShape", spec := "fnExactConjugateShape", apart := false }
def FnExactConjugateShapeSaid : Prop := fnExactConjugateShapeRow.holds Try.pinned (OpenSpec.ofChange fnExactConjugateShapeSpec)

/-- ITS FALSE NEIGHBOUR: 'it returns false'. Refute it at one input. -/
def fnExactConjugateShapeWrong : ChangeSpec := { name := "fnExactConjugateShape", fn := fun _ => fun
  | [d] => { results := [.lit (.bool false)], args := [d] }
  | _ => none }
def FnExactConjugateShapeWrongFalsely : Prop := fnExactConjugateShapeRow.holds Try.pinned (OpenSpec.ofChange fnExactConjugateShapeWrong)

/-- 'laws.FnExactTableauOk': WHATEVER THE INPUT: true; the input reads as it did. -/
def fnExactTableauOkSpec : ChangeSpec := { name := "fnExactTableauOk", fn := fun _ => fun
  | [d] => { results := [.lit (.bool true)], args := [d] }
  | _ => none }
def fnExactTableauOkRow : OpenClaim := { program := "ytleehkgfoicmdaa", sum := "8bf05e3c77262aab358dc010f2259c581e252ec6bea80d119cfb7e2c63a3063d", func := "loop.example/g03113/laws.FnExactTableauOk", spec := "fnExactTableauOk", apart := false }
def FnExactTableauOkSaid : Prop := fnExactTableauOkRow.holds Try.pinned (OpenSpec.ofChange fnExactTableauOkSpec)

/-- ITS FALSE NEIGHBOUR: 'it returns false'. Refute it at one input. -/
def fnExactTableauOkWrong : ChangeSpec := { name := "fnExactTableauOk", fn := fun _ => fun
  | [d] => { results := [.lit (.bool false)], args := [d] }
  | _ => none }
def FnExactTableauOkWrongFalsely : Prop := fnExactTableauOkRow.holds Try.pinned (OpenSpec.ofChange fnExactTableauOkWrong)

/-- 'laws.FnExactStandardCount': WHATEVER THE INPUT: true; the input reads as it did. -/
def fnExactStandardCountSpec : ChangeSpec := { name := "fnExactStandardCount", fn := fun _ => fun
  | [d] => { results := [.lit (.bool true)], args := [d] }
  | _ => none }
def fnExactStandardCountRow : OpenClaim := { program := "ytleehkgfoicmdaa", sum := "8bf05e3c77262aab358dc010f2259c581e252ec6bea80d119cfb7e2c63a3063d", func := "loop.example/g03113/laws.FnExactStandardCount", spec := "fnExactStandardCount", apart := false }
def FnExactStandardCountSaid : Prop := fnExactStandardCountRow.holds Try.pinned (OpenSpec.ofChange fnExactStandardCountSpec)

/-- ITS FALSE NEIGHBOUR: 'it returns false'. Refute it at one input. -/
def fnExactStandardCountWrong : ChangeSpec := { name := "fnExactStandardCount", fn := fun _ => fun
  | [d] => { results := [.lit (.bool false)], args := [d] }
  | _ => none }
def FnExactStandardCountWrongFalsely : Prop := fnExactStandardCountRow.holds Try.pinned (OpenSpec.ofChange fnExactStandardCountWrong)

/-- 'laws.FnExactShapeOfPerm': WHATEVER THE INPUT: true; the input reads as it did. -/
def fnExactShapeOfPermSpec : ChangeSpec := { name := "fnExactShapeOfPerm", fn := fun _ => fun
  | [d] => { results := [.lit (.bool true)], args := [d] }
  | _ => none }
def fnExactShapeOfPermRow : OpenClaim := { program := "ytleehkgfoicmdaa", sum := "8bf05e3c77262aab358dc010f2259c581e252ec6bea80d119cfb7e2c63a3063d", func := "loop.example/g03113/laws.FnExactShapeOfPerm", spec := "fnExactShapeOfPerm", apart := false }
def FnExactShapeOfPermSaid : Prop := fnExactShapeOfPermRow.holds Try.pinned (OpenSpec.ofChange fnExactShapeOfPermSpec)

/-- ITS FALSE NEIGHBOUR: 'it returns false'. Refute it at one input. -/
def fnExactShapeOfPermWrong : ChangeSpec := { name := "fnExactShapeOfPerm", fn := fun _ => fun
  | [d] => { results := [.lit (.bool false)], args := [d] }
  | _ => none }
def FnExactShapeOfPermWrongFalsely : Prop := fnExactShapeOfPermRow.holds Try.pinned (OpenSpec.ofChange fnExactShapeOfPermWrong)

/-- 'laws.FnExactPartsOk': WHATEVER THE INPUT: true; the input reads as it did. -/
def fnExactPartsOkSpec : ChangeSpec := { name := "fnExactPartsOk", fn := fun _ => fun
  | [d] => { results := [.lit (.bool true)], args := [d] }
  | _ => none }
def fnExactPartsOkRow : OpenClaim := { program := "ytleehkgfoicmdaa", sum := "8bf05e3c77262aab358dc010f2259c581e252ec6bea80d119cfb7e2c63a3063d", func := "loop.example/g03113/laws.FnExactPartsOk", spec := "fnExactPartsOk", apart := false }
def FnExactPartsOkSaid : Prop := fnExactPartsOkRow.holds Try.pinned (OpenSpec.ofChange fnExactPartsOkSpec)

/-- ITS FALSE NEIGHBOUR: 'it returns false'. Refute it at one input. -/
def fnExactPartsOkWrong : ChangeSpec := { name := "fnExactPartsOk", fn := fun _ => fun
  | [d] => { results := [.lit (.bool false)], args := [d] }
  | _ => none }
def FnExactPartsOkWrongFalsely : Prop := fnExactPartsOkRow.holds Try.pinned (OpenSpec.ofChange fnExactPartsOkWrong)

/-- 'laws.FnExactRskOf': WHATEVER THE INPUT: true; the input reads as it did. -/
def fnExactRskOfSpec : ChangeSpec := { name := "fnExactRskOf", fn := fun _ => fun
  | [d] => { results := [.lit (.bool true)], args := [d] }
  | _ => none }
def fnExactRskOfRow : OpenClaim := { program := "ytleehkgfoicmdaa", sum := "8bf05e3c77262aab358dc010f2259c581e252ec6bea80d119cfb7e2c63a3063d", func := "loop.example/g03113/laws.FnExactRskOf", spec := "fnExactRskOf", unfollowed := true, recurses := true, apart := false }
def FnExactRskOfSaid : Prop := fnExactRskOfRow.holds Try.pinned (OpenSpec.ofChange fnExactRskOfSpec)

/-- ITS FALSE NEIGHBOUR: 'it returns false'. Refute it at one input. -/
def fnExactRskOfWrong : ChangeSpec := { name := "fnExactRskOf", fn := fun _ => fun
  | [d] => { results := [.lit (.bool false)], args := [d] }
  | _ => none }
def FnExactRskOfWrongFalsely : Prop := fnExactRskOfRow.holds Try.pinned (OpenSpec.ofChange fnExactRskOfWrong)

/-- 'laws.FnExactTableauxOf': WHATEVER THE INPUT: true; the input reads as it did. -/
def fnExactTableauxOfSpec : ChangeSpec := { name := "fnExactTableauxOf", fn := fun _ => fun
  | [d1, d2] => { results := [.lit (.bool true)], args := [d1, d2] }
  | _ => none }
def fnExactTableauxOfRow : OpenClaim := { program := "ytleehkgfoicmdaa", sum := "8bf05e3c77262aab358dc010f2259c581e252ec6bea80d119cfb7e2c63a3063d", func := "loop.example/g03113/laws.FnExactTableauxOf", spec := "fnExactTableauxOf", unfollowed := true, recurses := true, apart := false }
def FnExactTableauxOfSaid : Prop := fnExactTableauxOfRow.holds Try.pinned (OpenSpec.ofChange fnExactTableauxOfSpec)

/-- ITS FALSE NEIGHBOUR: 'it returns false'. Refute it at one input. -/
def fnExactTableauxOfWrong : ChangeSpec := { name := "fnExactTableauxOf", fn := fun _ => fun
  | [d1, d2] => { results := [.lit (.bool false)], args := [d1, d2] }
  | _ => none }
def FnExactTableauxOfWrongFalsely : Prop := fnExactTableauxOfRow.holds Try.pinned (OpenSpec.ofChange fnExactTableauxOfWrong)

/-- 'laws.FnExactInsertNumber': WHATEVER THE INPUT: true; the input reads as it did. -/
def fnExactInsertNumberSpec : ChangeSpec := { name := "fnExactInsertNumber", fn := fun _ => fun
  | [d1, d2] => { results := [.lit (.bool true)], args := [d1, d2] }
  | _ => none }
def fnExactInsertNumberRow : OpenClaim := { program := "ytleehkgfoicmdaa", sum := "8bf05e3c77262aab358dc010f2259c581e252ec6bea80d119cfb7e2c63a3063d", func := "loop.example/g03113/laws.FnExactInsertNumber", spec := "fnExactInsertNumber", unfollowed := true, recurses := true, apart := false }
def FnExactInsertNumberSaid : Prop := fnExactInsertNumberRow.holds Try.pinned (OpenSpec.ofChange fnExactInsertNumberSpec)

/-- ITS FALSE NEIGHBOUR: 'it returns false'. Refute it at one input. -/
def fnExactInsertNumberWrong : ChangeSpec := { name := "fnExactInsertNumber", fn := fun _ => fun
  | [d1, d2] => { results := [.lit (.bool false)], args := [d1, d2] }
  | _ => none }
def FnExactInsertNumberWrongFalsely : Prop := fnExactInsertNumberRow.holds Try.pinned (OpenSpec.ofChange fnExactInsertNumberWrong)

/-- 'laws.FnExactFormatParts': WHATEVER THE INPUT: true; the input reads as it did. -/
def fnExactFormatPartsSpec : ChangeSpec := { name := "fnExactFormatParts", fn := fun _ => fun
  | [d] => { results := [.lit (.bool true)], args := [d] }
  | _ => none }
def fnExactFormatPartsRow : OpenClaim := { program := "ytleehkgfoicmdaa", sum := "8bf05e3c77262aab358dc010f2259c581e252ec6bea80d119cfb7e2c63a3063d", func := "loop.example/g03113/laws.FnExactFormatParts", spec := "fnExactFormatParts", inPlace := ["internal/abi.NoEscape", "internal/bytealg.MakeNoZero"], recurses := true, apart := false }
def FnExactFormatPartsSaid : Prop := fnExactFormatPartsRow.holds Try.pinned (OpenSpec.ofChange fnExactFormatPartsSpec)

/-- ITS FALSE NEIGHBOUR: 'it returns false'. Refute it at one input. -/
def fnExactFormatPartsWrong : ChangeSpec := { name := "fnExactFormatParts", fn := fun _ => fun
  | [d] => { results := [.lit (.bool false)], args := [d] }
  | _ => none }
def FnExactFormatPartsWrongFalsely : Prop := fnExactFormatPartsRow.holds Try.pinned (OpenSpec.ofChange fnExactFormatPartsWrong)

/-- 'laws.FnRsk': WHATEVER THE INPUT: true; the input reads as it did. -/
def fnRskSpec : ChangeSpec := { name := "fnRsk", fn := fun _ => fun
  | [d] => { results := [.lit (.bool true)], args := [d] }
  | _ => none }
def fnRskRow : OpenClaim := { program := "ytleehkgfoicmdaa", sum := "8bf05e3c77262aab358dc010f2259c581e252ec6bea80d119cfb7e2c63a3063d", func := "loop.example/g03113/laws.FnRsk", spec := "fnRsk", unfollowed := true, recurses := true, apart := false }
def FnRskSaid : Prop := fnRskRow.holds Try.pinned (OpenSpec.ofChange fnRskSpec)

/-- ITS FALSE NEIGHBOUR: 'it returns false'. Refute it at one input. -/
def fnRskWrong : ChangeSpec := { name := "fnRsk", fn := fun _ => fun
  | [d] => { results := [.lit (.bool false)], args := [d] }
  | _ => none }
def FnRskWrongFalsely : Prop := fnRskRow.holds Try.pinned (OpenSpec.ofChange fnRskWrong)

/-- 'laws.FnExactEdelmanGreene': WHATEVER THE INPUT: true; the input reads as it did. -/
def fnExactEdelmanGreeneSpec : ChangeSpec := { name := "fnExactEdelmanGreene", fn := fun _ => fun
  | [d1, d2] => { results := [.lit (.bool true)], args := [d1, d2] }
  | _ => none }
def fnExactEdelmanGreeneRow : OpenClaim := { program := "ytleehkgfoicmdaa", sum := "8bf05e3c77262aab358dc010f2259c581e252ec6bea80d119cfb7e2c63a3063d", func := "loop.example/g03113/laws.FnExactEdelmanGreene", spec := "fnExactEdelmanGreene", unfollowed := true, recurses := true, apart := false }
def FnExactEdelmanGreeneSaid : Prop := fnExactEdelmanGreeneRow.holds Try.pinned (OpenSpec.ofChange fnExactEdelmanGreeneSpec)

/-- ITS FALSE NEIGHBOUR: 'it returns false'. Refute it at one input. -/
def fnExactEdelmanGreeneWrong : ChangeSpec := { name := "fnExactEdelmanGreene", fn := fun _ => fun
  | [d1, d2] => { results := [.lit (.bool false)], args := [d1, d2] }
  | _ => none }
def FnExactEdelmanGreeneWrongFalsely : Prop := fnExactEdelmanGreeneRow.holds Try.pinned (OpenSpec.ofChange fnExactEdelmanGreeneWrong)

/-- 'laws.FnExactLrCount': WHATEVER THE INPUT: true; the input reads as it did. -/
def fnExactLrCountSpec : ChangeSpec := { name := "fnExactLrCount", fn := fun _ => fun
  | [d1, d2, d3] => { results := [.lit (.bool true)], args := [d1, d2, d3] }
  | _ => none }
def fnExactLrCountRow : OpenClaim := { program := "ytleehkgfoicmdaa", sum := "8bf05e3c77262aab358dc010f2259c581e252ec6bea80d119cfb7e2c63a3063d", func := "loop.example/g03113/laws.FnExactLrCount", spec := "fnExactLrCount", inPlace := ["slices.overlaps[loop.example/g03113/impl.Part]"], unfollowed := true, recurses := true, apart := false }
def FnExactLrCountSaid : Prop := fnExactLrCountRow.holds Try.pinned (OpenSpec.ofChange fnExactLrCountSpec)

/-- ITS FALSE NEIGHBOUR: 'it returns false'. Refute it at one input. -/
def fnExactLrCountWrong : ChangeSpec := { name := "fnExactLrCount", fn := fun _ => fun
  | [d1, d2, d3] => { results := [.lit (.bool false)], args := [d1, d2, d3] }
  | _ => none }
def FnExactLrCountWrongFalsely : Prop := fnExactLrCountRow.holds Try.pinned (OpenSpec.ofChange fnExactLrCountWrong)

/- THE SECOND FORM. 'bulk': how many values and letters a reading holds, each counted each time it is reached (what is shared counts as often as it is met; a slice's spare places count too). A statement '..UptoSaid' is the law's where the arguments, and the package variables that the reading takes, are together of bulk at most 1048576: NARROWER than '..Said'. Prove '..Said' where nothing that the law and all that it calls make is longer than what came in: it says more and counts as full. Else prove '..UptoSaid'. A law counts once. -/
mutual
def uptoBulk {H : Type} : DataW H → Nat
  | .lit (.string bytes) => bytes.length + 1
  | .lit _ => 1
  | .nil => 1
  | .ptr d => uptoBulk d + 1
  | .slice elems spare => uptoBulkAll elems + uptoBulkAll spare + 1
  | .agg parts => uptoBulkAll parts + 1
  | .iface _ d => uptoBulk d + 1
  | .map entries => uptoBulkEntries entries + 1
  | .held _ => 1
def uptoBulkAll {H : Type} : List (DataW H) → Nat
  | [] => 0
  | d :: r => uptoBulk d + uptoBulkAll r
def uptoBulkEntries {H : Type} : List (Lit × DataW H) → Nat
  | [] => 0
  | x :: r => uptoBulkEntry x + uptoBulkEntries r
def uptoBulkEntry {H : Type} : Lit × DataW H → Nat
  | (.string bytes, d) => bytes.length + uptoBulk d + 1
  | (_, d) => uptoBulk d + 1
 end
def uptoSmall : (H : Type) → List (DataW H) → Bool := fun _ ds => decide (uptoBulkAll ds ≤ 1048576)
def OpenSpec.upto (s : _root_.Go.ChangeSpec) : _root_.Go.OpenSpec := { _root_.Go.OpenSpec.ofChange s with cond := some uptoSmall }

/-- 'laws.FnExactIsShape', WHERE WHAT IT READS IS OF BULK AT MOST 1048576: true; the input reads as it did. -/
def fnExactIsShapeUptoRow : OpenClaim := { program := "ytleehkgfoicmdaa", sum := "8bf05e3c77262aab358dc010f2259c581e252ec6bea80d119cfb7e2c63a3063d", func := "loop.example/g03113/laws.FnExactIsShape", spec := "fnExactIsShape", apart := false, narrowed := true }
def FnExactIsShapeUptoSaid : Prop := fnExactIsShapeUptoRow.holds Try.pinned (OpenSpec.upto fnExactIsShapeSpec)

/-- 'laws.FnExactContainsShape', WHERE WHAT IT READS IS OF BULK AT MOST 1048576: true; the input reads as it did. -/
def fnExactContainsShapeUptoRow : OpenClaim := { program := "ytleehkgfoicmdaa", sum := "8bf05e3c77262aab358dc010f2259c581e252ec6bea80d119cfb7e2c63a3063d", func := "loop.example/g03113/laws.FnExactContainsShape", spec := "fnExactContainsShape", apart := false, narrowed := true }
def FnExactContainsShapeUptoSaid : Prop := fnExactContainsShapeUptoRow.holds Try.pinned (OpenSpec.upto fnExactContainsShapeSpec)

/-- 'laws.FnSquares', WHERE WHAT IT READS IS OF BULK AT MOST 1048576: true; the input reads as it did. -/
def fnSquaresUptoRow : OpenClaim := { program := "ytleehkgfoicmdaa", sum := "8bf05e3c77262aab358dc010f2259c581e252ec6bea80d119cfb7e2c63a3063d", func := "loop.example/g03113/laws.FnSquares", spec := "fnSquares", recurses := true, apart := false, narrowed := true }
def FnSquaresUptoSaid : Prop := fnSquaresUptoRow.holds Try.pinned (OpenSpec.upto fnSquaresSpec)

/-- 'laws.FnExactShapesIn', WHERE WHAT IT READS IS OF BULK AT MOST 1048576: true; the input reads as it did. -/
def fnExactShapesInUptoRow : OpenClaim := { program := "ytleehkgfoicmdaa", sum := "8bf05e3c77262aab358dc010f2259c581e252ec6bea80d119cfb7e2c63a3063d", func := "loop.example/g03113/laws.FnExactShapesIn", spec := "fnExactShapesIn", recurses := true, apart := false, narrowed := true }
def FnExactShapesInUptoSaid : Prop := fnExactShapesInUptoRow.holds Try.pinned (OpenSpec.upto fnExactShapesInSpec)

/-- 'laws.FnExactConjugateShape', WHERE WHAT IT READS IS OF BULK AT MOST 1048576: true; the input reads as it did. -/
def fnExactConjugateShapeUptoRow : OpenClaim := { program := "ytleehkgfoicmdaa", sum := "8bf05e3c77262aab358dc010f2259c581e252ec6bea80d119cfb7e2c63a3063d", func := "loop.example/g03113/laws.FnExactConjugateShape", spec := "fnExactConjugateShape", apart := false, narrowed := true }
def FnExactConjugateShapeUptoSaid : Prop := fnExactConjugateShapeUptoRow.holds Try.pinned (OpenSpec.upto fnExactConjugateShapeSpec)

/-- 'laws.FnExactTableauOk', WHERE WHAT IT READS IS OF BULK AT MOST 1048576: true; the input reads as it did. -/
def fnExactTableauOkUptoRow : OpenClaim := { program := "ytleehkgfoicmdaa", sum := "8bf05e3c77262aab358dc010f2259c581e252ec6bea80d119cfb7e2c63a3063d", func := "loop.example/g03113/laws.FnExactTableauOk", spec := "fnExactTableauOk", apart := false, narrowed := true }
def FnExactTableauOkUptoSaid : Prop := fnExactTableauOkUptoRow.holds Try.pinned (OpenSpec.upto fnExactTableauOkSpec)

/-- 'laws.FnExactStandardCount', WHERE WHAT IT READS IS OF BULK AT MOST 1048576: true; the input reads as it did. -/
def fnExactStandardCountUptoRow : OpenClaim := { program := "ytleehkgfoicmdaa", sum := "8bf05e3c77262aab358dc010f2259c581e252ec6bea80d119cfb7e2c63a3063d", func := "loop.example/g03113/laws.FnExactStandardCount", spec := "fnExactStandardCount", apart := false, narrowed := true }
def FnExactStandardCountUptoSaid : Prop := fnExactStandardCountUptoRow.holds Try.pinned (OpenSpec.upto fnExactStandardCountSpec)

/-- 'laws.FnExactShapeOfPerm', WHERE WHAT IT READS IS OF BULK AT MOST 1048576: true; the input reads as it did. -/
def fnExactShapeOfPermUptoRow : OpenClaim := { program := "ytleehkgfoicmdaa", sum := "8bf05e3c77262aab358dc010f2259c581e252ec6bea80d119cfb7e2c63a3063d", func := "loop.example/g03113/laws.FnExactShapeOfPerm", spec := "fnExactShapeOfPerm", apart := false, narrowed := true }
def FnExactShapeOfPermUptoSaid : Prop := fnExactShapeOfPermUptoRow.holds Try.pinned (OpenSpec.upto fnExactShapeOfPermSpec)

/-- 'laws.FnExactPartsOk', WHERE WHAT IT READS IS OF BULK AT MOST 1048576: true; the input reads as it did. -/
def fnExactPartsOkUptoRow : OpenClaim := { program := "ytleehkgfoicmdaa", sum := "8bf05e3c77262aab358dc010f2259c581e252ec6bea80d119cfb7e2c63a3063d", func := "loop.example/g03113/laws.FnExactPartsOk", spec := "fnExactPartsOk", apart := false, narrowed := true }
def FnExactPartsOkUptoSaid : Prop := fnExactPartsOkUptoRow.holds Try.pinned (OpenSpec.upto fnExactPartsOkSpec)

/-- 'laws.FnExactRskOf', WHERE WHAT IT READS IS OF BULK AT MOST 1048576: true; the input reads as it did. -/
def fnExactRskOfUptoRow : OpenClaim := { program := "ytleehkgfoicmdaa", sum := "8bf05e3c77262aab358dc010f2259c581e252ec6bea80d119cfb7e2c63a3063d", func := "loop.example/g03113/laws.FnExactRskOf", spec := "fnExactRskOf", unfollowed := true, recurses := true, apart := false, narrowed := true }
def FnExactRskOfUptoSaid : Prop := fnExactRskOfUptoRow.holds Try.pinned (OpenSpec.upto fnExactRskOfSpec)

/-- 'laws.FnExactTableauxOf', WHERE WHAT IT READS IS OF BULK AT MOST 1048576: true; the input reads as it did. -/
def fnExactTableauxOfUptoRow : OpenClaim := { program := "ytleehkgfoicmdaa", sum := "8bf05e3c77262aab358dc010f2259c581e252ec6bea80d119cfb7e2c63a3063d", func := "loop.example/g03113/laws.FnExactTableauxOf", spec := "fnExactTableauxOf", unfollowed := true, recurses := true, apart := false, narrowed := true }
def FnExactTableauxOfUptoSaid : Prop := fnExactTableauxOfUptoRow.holds Try.pinned (OpenSpec.upto fnExactTableauxOfSpec)

/-- 'laws.FnExactInsertNumber', WHERE WHAT IT READS IS OF BULK AT MOST 1048576: true; the input reads as it did. -/
def fnExactInsertNumberUptoRow : OpenClaim := { program := "ytleehkgfoicmdaa", sum := "8bf05e3c77262aab358dc010f2259c581e252ec6bea80d119cfb7e2c63a3063d", func := "loop.example/g03113/laws.FnExactInsertNumber", spec := "fnExactInsertNumber", unfollowed := true, recurses := true, apart := false, narrowed := true }
def FnExactInsertNumberUptoSaid : Prop := fnExactInsertNumberUptoRow.holds Try.pinned (OpenSpec.upto fnExactInsertNumberSpec)

/-- 'laws.FnExactFormatParts', WHERE WHAT IT READS IS OF BULK AT MOST 1048576: true; the input reads as it did. -/
def fnExactFormatPartsUptoRow : OpenClaim := { program := "ytleehkgfoicmdaa", sum := "8bf05e3c77262aab358dc010f2259c581e252ec6bea80d119cfb7e2c63a3063d", func := "loop.example/g03113/laws.FnExactFormatParts", spec := "fnExactFormatParts", inPlace := ["internal/abi.NoEscape", "internal/bytealg.MakeNoZero"], recurses := true, apart := false, narrowed := true }
def FnExactFormatPartsUptoSaid : Prop := fnExactFormatPartsUptoRow.holds Try.pinned (OpenSpec.upto fnExactFormatPartsSpec)

/-- 'laws.FnRsk', WHERE WHAT IT READS IS OF BULK AT MOST 1048576: true; the input reads as it did. -/
def fnRskUptoRow : OpenClaim := { program := "ytleehkgfoicmdaa", sum := "8bf05e3c77262aab358dc010f2259c581e252ec6bea80d119cfb7e2c63a3063d", func := "loop.example/g03113/laws.FnRsk", spec := "fnRsk", unfollowed := true, recurses := true, apart := false, narrowed := true }
def FnRskUptoSaid : Prop := fnRskUptoRow.holds Try.pinned (OpenSpec.upto fnRskSpec)

/-- 'laws.FnExactEdelmanGreene', WHERE WHAT IT READS IS OF BULK AT MOST 1048576: true; the input reads as it did. -/
def fnExactEdelmanGreeneUptoRow : OpenClaim := { program := "ytleehkgfoicmdaa", sum := "8bf05e3c77262aab358dc010f2259c581e252ec6bea80d119cfb7e2c63a3063d", func := "loop.example/g03113/laws.FnExactEdelmanGreene", spec := "fnExactEdelmanGreene", unfollowed := true, recurses := true, apart := false, narrowed := true }
def FnExactEdelmanGreeneUptoSaid : Prop := fnExactEdelmanGreeneUptoRow.holds Try.pinned (OpenSpec.upto fnExactEdelmanGreeneSpec)

/-- 'laws.FnExactLrCount', WHERE WHAT IT READS IS OF BULK AT MOST 1048576: true; the input reads as it did. -/
def fnExactLrCountUptoRow : OpenClaim := { program := "ytleehkgfoicmdaa", sum := "8bf05e3c77262aab358dc010f2259c581e252ec6bea80d119cfb7e2c63a3063d", func := "loop.example/g03113/laws.FnExactLrCount", spec := "fnExactLrCount", inPlace := ["slices.overlaps[loop.example/g03113/impl.Part]"], unfollowed := true, recurses := true, apart := false, narrowed := true }
def FnExactLrCountUptoSaid : Prop := fnExactLrCountUptoRow.holds Try.pinned (OpenSpec.upto fnExactLrCountSpec)

end Rows
end Go.Proofs.Ytleehkgfoicmdaa
