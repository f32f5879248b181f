/-
  DERIVED. GIVEN WITH THE SEED: THE CARDS: each row of YtcminkcoifkbgaaGreatDoorRows.lean that lists a variable, with what it lists TIED to the program's text (the seventh form; the later family's looks); each row that meets fmt, with fmt's text TOLD by the authors' own Lean function (tested against real Go, not proved from fmt's source: count such statements apart). THE CARD IS WHAT COUNTS. Prove the row's statement (the work); the ties are given (YtcminkcoifkbgaaGreatDoorTie.lean); close each card by the builder's one call (the guide's Derived/Test/ToyasCard.lean, 'card_holds'). Laid BY PROGRAM, IN A SANDBOX (cutbox-door.mjs). By AI agents, Wed Nov 11 2026. No macro, syntax, notation, axiom, sorry.
-/
import Derived.Test.YtcminkcoifkbgaaGreatDoorRows
import GoSem.ClaimSeven
namespace Go.Proofs.YtcminkcoifkbgaaGreatDoor
namespace Rows

/-- THE TIED CARD OF 'laws.FnPolyText'. -/
def fnPolyTextCard : Claim7 := { stood := { row := fnPolyTextRow, standIns := [], harness := (true, "8f10b3e9c3d15646702c2b2c7153df31aad4b630965398862be22fa458976ad9"), looks := false }, kinds := [], alts := [], laidByText := true, laidKinds := [.data, .pinned], laidTests := true, laidLooks := .later }
def FnPolyTextCardSaid : Prop := Claim7.holds Tryz.pinned (.plain (OpenSpec.ofChange fnPolyTextSpec)) fnPolyTextCard

/-- THE SECOND FORM's CARD OF 'laws.FnPolyText'. -/
def fnPolyTextUptoCard : Claim7 := { stood := { row := fnPolyTextUptoRow, standIns := [], harness := (true, "8f10b3e9c3d15646702c2b2c7153df31aad4b630965398862be22fa458976ad9"), looks := false }, kinds := [], alts := [], laidByText := true, laidKinds := [.data, .pinned], laidTests := true, laidLooks := .later }
def FnPolyTextUptoCardSaid : Prop := Claim7.holds Tryz.pinned (.plain (OpenSpec.upto fnPolyTextSpec)) fnPolyTextUptoCard
end Rows
end Go.Proofs.YtcminkcoifkbgaaGreatDoor
