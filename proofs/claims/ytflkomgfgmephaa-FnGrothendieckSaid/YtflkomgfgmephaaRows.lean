/-
  No cell of these rows narrows 'for every input' (looked for: loops, veiled, ifaces, maps, wideKeys, modest, calm, conditions, laid).
  DERIVED. THE GIVEN ROWS OF THIS SEAT. 4 by the template 'for every input the law returns true; each argument reads behind the call as it read before'; 0 by the template 'total and deterministic' (their statements: YtflkomgfgmephaaTotals.lean).
  GIVEN WITH THE SEED: the statements are not yours to turn. If you find one false, say at which input.
  Laid BY PROGRAM, IN A SANDBOX (cutbox-rows.mjs): the forced cells as the released guide's own fill.sh prints them over the translation df6cff0c75adaec4… (all of the seat's roots in one cut). By AI agents, Wed Nov 11 2026. No macro, syntax, notation, axiom, sorry.
-/
import Derived.Test.YtflkomgfgmephaaChecked
import GoSem.Claim
import GoSem.ClaimJoined
import GoSem.ClaimMapViews
import Derived.JoinedTies
import Derived.KernelRfl
namespace Go.Proofs.Ytflkomgfgmephaa
/- THE CELL 'sum', in the pinned program and in every row, IS THE sha256 OF THE DUMP (.gsa) THAT YtflkomgfgmephaaProg.lean LOADS. Nothing in Lean hashes anything: it is a label: what it is worth is what the hold of that sum in a sandbox is worth. -/
noncomputable def Try.pinned : Pinned := { name := "ytflkomgfgmephaa", sum := "df6cff0c75adaec4b5c860b0c3e550a72a92d10fc3b63f11610eed7c7509c524", checked := Try.checked }
namespace Rows
def none {H : Type} : Left H := { results := [], args := [] }

/-- 'laws.FnDescends': WHATEVER THE INPUT: true; the input reads as it did. -/
def fnDescendsSpec : ChangeSpec := { name := "fnDescends", fn := fun _ => fun
  | [d] => { results := [.lit (.bool true)], args := [d] }
  | _ => none }
def fnDescendsRow : OpenClaim := { program := "ytflkomgfgmephaa", sum := "df6cff0c75adaec4b5c860b0c3e550a72a92d10fc3b63f11610eed7c7509c524", func := "loop.example/g03113/laws.FnDescends", spec := "fnDescends", unfollowed := true, recurses := true, plainKeys := false, apart := false }
def FnDescendsSaid : Prop := fnDescendsRow.holds Try.pinned (OpenSpec.ofChange fnDescendsSpec)

/-- ITS FALSE NEIGHBOUR: 'it returns false'. Refute it at one input. -/
def fnDescendsWrong : ChangeSpec := { name := "fnDescends", fn := fun _ => fun
  | [d] => { results := [.lit (.bool false)], args := [d] }
  | _ => none }
def FnDescendsWrongFalsely : Prop := fnDescendsRow.holds Try.pinned (OpenSpec.ofChange fnDescendsWrong)

/-- 'laws.FnTransition': WHATEVER THE INPUT: true; the input reads as it did. -/
def fnTransitionSpec : ChangeSpec := { name := "fnTransition", fn := fun _ => fun
  | [d] => { results := [.lit (.bool true)], args := [d] }
  | _ => none }
def fnTransitionRow : OpenClaim := { program := "ytflkomgfgmephaa", sum := "df6cff0c75adaec4b5c860b0c3e550a72a92d10fc3b63f11610eed7c7509c524", func := "loop.example/g03113/laws.FnTransition", spec := "fnTransition", unfollowed := true, recurses := true, plainKeys := false, apart := false }
def FnTransitionSaid : Prop := fnTransitionRow.holds Try.pinned (OpenSpec.ofChange fnTransitionSpec)

/-- ITS FALSE NEIGHBOUR: 'it returns false'. Refute it at one input. -/
def fnTransitionWrong : ChangeSpec := { name := "fnTransition", fn := fun _ => fun
  | [d] => { results := [.lit (.bool false)], args := [d] }
  | _ => none }
def FnTransitionWrongFalsely : Prop := fnTransitionRow.holds Try.pinned (OpenSpec.ofChange fnTransitionWrong)

/-- 'laws.FnMonk': WHATEVER THE INPUT: true; the input reads as it did. -/
def fnMonkSpec : ChangeSpec := { name := "fnMonk", fn := fun _ => fun
  | [d] => { results := [.lit (.bool true)], args := [d] }
  | _ => none }
def fnMonkRow : OpenClaim := { program := "ytflkomgfgmephaa", sum := "df6cff0c75adaec4b5c860b0c3e550a72a92d10fc3b63f11610eed7c7509c524", func := "loop.example/g03113/laws.FnMonk", spec := "fnMonk", unfollowed := true, recurses := true, plainKeys := false, apart := false }
def FnMonkSaid : Prop := fnMonkRow.holds Try.pinned (OpenSpec.ofChange fnMonkSpec)

/-- ITS FALSE NEIGHBOUR: 'it returns false'. Refute it at one input. -/
def fnMonkWrong : ChangeSpec := { name := "fnMonk", fn := fun _ => fun
  | [d] => { results := [.lit (.bool false)], args := [d] }
  | _ => none }
def FnMonkWrongFalsely : Prop := fnMonkRow.holds Try.pinned (OpenSpec.ofChange fnMonkWrong)

/-- 'laws.FnGrothendieck': WHATEVER THE INPUT: true; the input reads as it did. -/
def fnGrothendieckSpec : ChangeSpec := { name := "fnGrothendieck", fn := fun _ => fun
  | [d] => { results := [.lit (.bool true)], args := [d] }
  | _ => none }
def fnGrothendieckRow : OpenClaim := { program := "ytflkomgfgmephaa", sum := "df6cff0c75adaec4b5c860b0c3e550a72a92d10fc3b63f11610eed7c7509c524", func := "loop.example/g03113/laws.FnGrothendieck", spec := "fnGrothendieck", unfollowed := true, recurses := true, plainKeys := false, apart := false }
def FnGrothendieckSaid : Prop := fnGrothendieckRow.holds Try.pinned (OpenSpec.ofChange fnGrothendieckSpec)

/-- ITS FALSE NEIGHBOUR: 'it returns false'. Refute it at one input. -/
def fnGrothendieckWrong : ChangeSpec := { name := "fnGrothendieck", fn := fun _ => fun
  | [d] => { results := [.lit (.bool false)], args := [d] }
  | _ => none }
def FnGrothendieckWrongFalsely : Prop := fnGrothendieckRow.holds Try.pinned (OpenSpec.ofChange fnGrothendieckWrong)

/- THE SECOND FORM. 'bulk': how many values and letters a reading holds, each counted each time it is reached (what is shared counts as often as it is met; a slice's spare places count too). A statement '..UptoSaid' is the law's where the arguments, and the package variables that the reading takes, are together of bulk at most 1048576: NARROWER than '..Said'. Prove '..Said' where nothing that the law and all that it calls make is longer than what came in: it says more and counts as full. Else prove '..UptoSaid'. A law counts once. -/
mutual
def uptoBulk {H : Type} : DataW H → Nat
  | .lit (.string bytes) => bytes.length + 1
  | .lit _ => 1
  | .nil => 1
  | .ptr d => uptoBulk d + 1
  | .slice elems spare => uptoBulkAll elems + uptoBulkAll spare + 1
  | .agg parts => uptoBulkAll parts + 1
  | .iface _ d => uptoBulk d + 1
  | .map entries => uptoBulkEntries entries + 1
  | .held _ => 1
def uptoBulkAll {H : Type} : List (DataW H) → Nat
  | [] => 0
  | d :: r => uptoBulk d + uptoBulkAll r
def uptoBulkEntries {H : Type} : List (Lit × DataW H) → Nat
  | [] => 0
  | x :: r => uptoBulkEntry x + uptoBulkEntries r
def uptoBulkEntry {H : Type} : Lit × DataW H → Nat
  | (.string bytes, d) => bytes.length + uptoBulk d + 1
  | (_, d) => uptoBulk d + 1
 end
def uptoSmall : (H : Type) → List (DataW H) → Bool := fun _ ds => decide (uptoBulkAll ds ≤ 1048576)
def OpenSpec.upto (s : _root_.Go.ChangeSpec) : _root_.Go.OpenSpec := { _root_.Go.OpenSpec.ofChange s with cond := some uptoSmall }

/-- 'laws.FnDescends', WHERE WHAT IT READS IS OF BULK AT MOST 1048576: true; the input reads as it did. -/
def fnDescendsUptoRow : OpenClaim := { program := "ytflkomgfgmephaa", sum := "df6cff0c75adaec4b5c860b0c3e550a72a92d10fc3b63f11610eed7c7509c524", func := "loop.example/g03113/laws.FnDescends", spec := "fnDescends", unfollowed := true, recurses := true, plainKeys := false, apart := false, narrowed := true }
def FnDescendsUptoSaid : Prop := fnDescendsUptoRow.holds Try.pinned (OpenSpec.upto fnDescendsSpec)

/-- 'laws.FnTransition', WHERE WHAT IT READS IS OF BULK AT MOST 1048576: true; the input reads as it did. -/
def fnTransitionUptoRow : OpenClaim := { program := "ytflkomgfgmephaa", sum := "df6cff0c75adaec4b5c860b0c3e550a72a92d10fc3b63f11610eed7c7509c524", func := "loop.example/g03113/laws.FnTransition", spec := "fnTransition", unfollowed := true, recurses := true, plainKeys := false, apart := false, narrowed := true }
def FnTransitionUptoSaid : Prop := fnTransitionUptoRow.holds Try.pinned (OpenSpec.upto fnTransitionSpec)

/-- 'laws.FnMonk', WHERE WHAT IT READS IS OF BULK AT MOST 1048576: true; the input reads as it did. -/
def fnMonkUptoRow : OpenClaim := { program := "ytflkomgfgmephaa", sum := "df6cff0c75adaec4b5c860b0c3e550a72a92d10fc3b63f11610eed7c7509c524", func := "loop.example/g03113/laws.FnMonk", spec := "fnMonk", unfollowed := true, recurses := true, plainKeys := false, apart := false, narrowed := true }
def FnMonkUptoSaid : Prop := fnMonkUptoRow.holds Try.pinned (OpenSpec.upto fnMonkSpec)

/-- 'laws.FnGrothendieck', WHERE WHAT IT READS IS OF BULK AT MOST 1048576: true; the input reads as it did. -/
def fnGrothendieckUptoRow : OpenClaim := { program := "ytflkomgfgmephaa", sum := "df6cff0c75adaec4b5c860b0c3e550a72a92d10fc3b63f11610eed7c7509c524", func := "loop.example/g03113/laws.FnGrothendieck", spec := "fnGrothendieck", unfollowed := true, recurses := true, plainKeys := false, apart := false, narrowed := true }
def FnGrothendieckUptoSaid : Prop := fnGrothendieckUptoRow.holds Try.pinned (OpenSpec.upto fnGrothendieckSpec)

end Rows
end Go.Proofs.Ytflkomgfgmephaa
