/-
  No cell of these rows narrows 'for every input' (looked for: loops, veiled, ifaces, maps, wideKeys, modest, calm, conditions, laid).
  DERIVED. THE GIVEN ROWS OF THIS SEAT. 4 by the template 'for every input the law returns true; each argument reads behind the call as it read before'; 0 by the template 'total and deterministic' (their statements: YtblhndkaikelaaaTotals.lean).
  GIVEN WITH THE SEED: the statements are not yours to turn. If you find one false, say at which input.
  Laid BY PROGRAM, IN A SANDBOX (cutbox-rows.mjs): the forced cells as the released guide's own fill.sh prints them over the translation c82240fb2076e582… (all of the seat's roots in one cut). By AI agents, Wed Nov 11 2026. No macro, syntax, notation, axiom, sorry.
-/
import Derived.Test.YtblhndkaikelaaaChecked
import GoSem.Claim
import GoSem.ClaimJoined
import GoSem.ClaimMapViews
import Derived.JoinedTies
import Derived.KernelRfl
namespace Go.Proofs.Ytblhndkaikelaaa
/- THE CELL 'sum', in the pinned program and in every row, IS THE sha256 OF THE DUMP (.gsa) THAT YtblhndkaikelaaaProg.lean LOADS. Nothing in Lean hashes anything: it is a label: what it is worth is what the hold of that sum in a sandbox is worth. -/
noncomputable def Try.pinned : Pinned := { name := "ytblhndkaikelaaa", sum := "c82240fb2076e58285c9825cdfce6da75f8cefb834f63d2adbb618ed8aef5fbc", checked := Try.checked }
namespace Rows
def none {H : Type} : Left H := { results := [], args := [] }

/-- 'laws.FnPolyRing': WHATEVER THE INPUT: true; the input reads as it did. -/
def fnPolyRingSpec : ChangeSpec := { name := "fnPolyRing", fn := fun _ => fun
  | [d] => { results := [.lit (.bool true)], args := [d] }
  | _ => none }
def fnPolyRingRow : OpenClaim := { program := "ytblhndkaikelaaa", sum := "c82240fb2076e58285c9825cdfce6da75f8cefb834f63d2adbb618ed8aef5fbc", func := "loop.example/g03113/laws.FnPolyRing", spec := "fnPolyRing", unfollowed := true, recurses := true, plainKeys := false, apart := false }
def FnPolyRingSaid : Prop := fnPolyRingRow.holds Try.pinned (OpenSpec.ofChange fnPolyRingSpec)

/-- ITS FALSE NEIGHBOUR: 'it returns false'. Refute it at one input. -/
def fnPolyRingWrong : ChangeSpec := { name := "fnPolyRing", fn := fun _ => fun
  | [d] => { results := [.lit (.bool false)], args := [d] }
  | _ => none }
def FnPolyRingWrongFalsely : Prop := fnPolyRingRow.holds Try.pinned (OpenSpec.ofChange fnPolyRingWrong)

/-- 'laws.FnLeibniz': WHATEVER THE INPUT: true; the input reads as it did. -/
def fnLeibnizSpec : ChangeSpec := { name := "fnLeibniz", fn := fun _ => fun
  | [d] => { results := [.lit (.bool true)], args := [d] }
  | _ => none }
def fnLeibnizRow : OpenClaim := { program := "ytblhndkaikelaaa", sum := "c82240fb2076e58285c9825cdfce6da75f8cefb834f63d2adbb618ed8aef5fbc", func := "loop.example/g03113/laws.FnLeibniz", spec := "fnLeibniz", unfollowed := true, recurses := true, plainKeys := false, apart := false }
def FnLeibnizSaid : Prop := fnLeibnizRow.holds Try.pinned (OpenSpec.ofChange fnLeibnizSpec)

/-- ITS FALSE NEIGHBOUR: 'it returns false'. Refute it at one input. -/
def fnLeibnizWrong : ChangeSpec := { name := "fnLeibniz", fn := fun _ => fun
  | [d] => { results := [.lit (.bool false)], args := [d] }
  | _ => none }
def FnLeibnizWrongFalsely : Prop := fnLeibnizRow.holds Try.pinned (OpenSpec.ofChange fnLeibnizWrong)

/-- 'laws.FnBraids': WHATEVER THE INPUT: true; the input reads as it did. -/
def fnBraidsSpec : ChangeSpec := { name := "fnBraids", fn := fun _ => fun
  | [d] => { results := [.lit (.bool true)], args := [d] }
  | _ => none }
def fnBraidsRow : OpenClaim := { program := "ytblhndkaikelaaa", sum := "c82240fb2076e58285c9825cdfce6da75f8cefb834f63d2adbb618ed8aef5fbc", func := "loop.example/g03113/laws.FnBraids", spec := "fnBraids", unfollowed := true, recurses := true, plainKeys := false, apart := false }
def FnBraidsSaid : Prop := fnBraidsRow.holds Try.pinned (OpenSpec.ofChange fnBraidsSpec)

/-- ITS FALSE NEIGHBOUR: 'it returns false'. Refute it at one input. -/
def fnBraidsWrong : ChangeSpec := { name := "fnBraids", fn := fun _ => fun
  | [d] => { results := [.lit (.bool false)], args := [d] }
  | _ => none }
def FnBraidsWrongFalsely : Prop := fnBraidsRow.holds Try.pinned (OpenSpec.ofChange fnBraidsWrong)

/-- 'laws.FnSymmetric': WHATEVER THE INPUT: true; the input reads as it did. -/
def fnSymmetricSpec : ChangeSpec := { name := "fnSymmetric", fn := fun _ => fun
  | [d] => { results := [.lit (.bool true)], args := [d] }
  | _ => none }
def fnSymmetricRow : OpenClaim := { program := "ytblhndkaikelaaa", sum := "c82240fb2076e58285c9825cdfce6da75f8cefb834f63d2adbb618ed8aef5fbc", func := "loop.example/g03113/laws.FnSymmetric", spec := "fnSymmetric", unfollowed := true, recurses := true, plainKeys := false, apart := false }
def FnSymmetricSaid : Prop := fnSymmetricRow.holds Try.pinned (OpenSpec.ofChange fnSymmetricSpec)

/-- ITS FALSE NEIGHBOUR: 'it returns false'. Refute it at one input. -/
def fnSymmetricWrong : ChangeSpec := { name := "fnSymmetric", fn := fun _ => fun
  | [d] => { results := [.lit (.bool false)], args := [d] }
  | _ => none }
def FnSymmetricWrongFalsely : Prop := fnSymmetricRow.holds Try.pinned (OpenSpec.ofChange fnSymmetricWrong)

/- THE SECOND FORM. 'bulk': how many values and letters a reading holds, each counted each time it is reached (what is shared counts as often as it is met; a slice's spare places count too). A statement '..UptoSaid' is the law's where the arguments, and the package variables that the reading takes, are together of bulk at most 1048576: NARROWER than '..Said'. Prove '..Said' where nothing that the law and all that it calls make is longer than what came in: it says more and counts as full. Else prove '..UptoSaid'. A law counts once. -/
mutual
def uptoBulk {H : Type} : DataW H → Nat
  | .lit (.string bytes) => bytes.length + 1
  | .lit _ => 1
  | .nil => 1
  | .ptr d => uptoBulk d + 1
  | .slice elems spare => uptoBulkAll elems + uptoBulkAll spare + 1
  | .agg parts => uptoBulkAll parts + 1
  | .iface _ d => uptoBulk d + 1
  | .map entries => uptoBulkEntries entries + 1
  | .held _ => 1
def uptoBulkAll {H : Type} : List (DataW H) → Nat
  | [] => 0
  | d :: r => uptoBulk d + uptoBulkAll r
def uptoBulkEntries {H : Type} : List (Lit × DataW H) → Nat
  | [] => 0
  | x :: r => uptoBulkEntry x + uptoBulkEntries r
def uptoBulkEntry {H : Type} : Lit × DataW H → Nat
  | (.string bytes, d) => bytes.length + uptoBulk d + 1
  | (_, d) => uptoBulk d + 1
 end
def uptoSmall : (H : Type) → List (DataW H) → Bool := fun _ ds => decide (uptoBulkAll ds ≤ 1048576)
def OpenSpec.upto (s : _root_.Go.ChangeSpec) : _root_.Go.OpenSpec := { _root_.Go.OpenSpec.ofChange s with cond := some uptoSmall }

/-- 'laws.FnPolyRing', WHERE WHAT IT READS IS OF BULK AT MOST 1048576: true; the input reads as it did. -/
def fnPolyRingUptoRow : OpenClaim := { program := "ytblhndkaikelaaa", sum := "c82240fb2076e58285c9825cdfce6da75f8cefb834f63d2adbb618ed8aef5fbc", func := "loop.example/g03113/laws.FnPolyRing", spec := "fnPolyRing", unfollowed := true, recurses := true, plainKeys := false, apart := false, narrowed := true }
def FnPolyRingUptoSaid : Prop := fnPolyRingUptoRow.holds Try.pinned (OpenSpec.upto fnPolyRingSpec)

/-- 'laws.FnLeibniz', WHERE WHAT IT READS IS OF BULK AT MOST 1048576: true; the input reads as it did. -/
def fnLeibnizUptoRow : OpenClaim := { program := "ytblhndkaikelaaa", sum := "c82240fb2076e58285c9825cdfce6da75f8cefb834f63d2adbb618ed8aef5fbc", func := "loop.example/g03113/laws.FnLeibniz", spec := "fnLeibniz", unfollowed := true, recurses := true, plainKeys := false, apart := false, narrowed := true }
def FnLeibnizUptoSaid : Prop := fnLeibnizUptoRow.holds Try.pinned (OpenSpec.upto fnLeibnizSpec)

/-- 'laws.FnBraids', WHERE WHAT IT READS IS OF BULK AT MOST 1048576: true; the input reads as it did. -/
def fnBraidsUptoRow : OpenClaim := { program := "ytblhndkaikelaaa", sum := "c82240fb2076e58285c9825cdfce6da75f8cefb834f63d2adbb618ed8aef5fbc", func := "loop.example/g03113/laws.FnBraids", spec := "fnBraids", unfollowed := true, recurses := true, plainKeys := false, apart := false, narrowed := true }
def FnBraidsUptoSaid : Prop := fnBraidsUptoRow.holds Try.pinned (OpenSpec.upto fnBraidsSpec)

/-- 'laws.FnSymmetric', WHERE WHAT IT READS IS OF BULK AT MOST 1048576: true; the input reads as it did. -/
def fnSymmetricUptoRow : OpenClaim := { program := "ytblhndkaikelaaa", sum := "c82240fb2076e58285c9825cdfce6da75f8cefb834f63d2adbb618ed8aef5fbc", func := "loop.example/g03113/laws.FnSymmetric", spec := "fnSymmetric", unfollowed := true, recurses := true, plainKeys := false, apart := false, narrowed := true }
def FnSymmetricUptoSaid : Prop := fnSymmetricUptoRow.holds Try.pinned (OpenSpec.upto fnSymmetricSpec)

end Rows
end Go.Proofs.Ytblhndkaikelaaa
