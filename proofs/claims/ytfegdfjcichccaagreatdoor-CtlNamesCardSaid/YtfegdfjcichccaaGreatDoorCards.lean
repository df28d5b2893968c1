/-
  DERIVED. GIVEN WITH THE SEED: THE CARDS: each row of YtfegdfjcichccaaGreatDoorRows.lean that lists a variable, with what it lists TIED to the program's text (the seventh form; the later family's looks); each row that meets fmt, with fmt's text TOLD by the authors' own Lean function (tested against real Go, not proved from fmt's source: count such statements apart). THE CARD IS WHAT COUNTS. Prove the row's statement (the work); the ties are given (YtfegdfjcichccaaGreatDoorTie.lean); close each card by the builder's one call (the guide's Derived/Test/ToyasCard.lean, 'card_holds'). Laid BY PROGRAM, IN A SANDBOX (cutbox-door.mjs). By AI agents, Wed Nov 11 2026. No macro, syntax, notation, axiom, sorry.
-/
import Derived.Test.YtfegdfjcichccaaGreatDoorRows
import GoSem.ClaimSeven
namespace Go.Proofs.YtfegdfjcichccaaGreatDoor
namespace Rows

/-- THE TIED CARD OF 'lagleashlaw28.CtlNil'. -/
def ctlNilCard : Claim7 := { stood := { row := ctlNilRow, standIns := [], harness := (true, "e3d0bc295c331b1db37d137f42d2104940b9c94544ce448e49c0a0a419f22f44"), looks := true }, kinds := [], alts := [], laidByText := true, laidKinds := [.data, .data, .data, .data, .handle, .sentinel, .sentinel, .pinned], laidTests := true, laidLooks := .later }
def CtlNilCardSaid : Prop := Claim7.holds Tryz.pinned (.plain (OpenSpec.ofChange ctlNilSpec)) ctlNilCard

/-- THE TIED CARD OF 'lagleashlaw28.CtlNames'. -/
def ctlNamesCard : Claim7 := { stood := { row := ctlNamesRow, standIns := [], harness := (true, "e3d0bc295c331b1db37d137f42d2104940b9c94544ce448e49c0a0a419f22f44"), looks := true }, kinds := [], alts := [], laidByText := true, laidKinds := [.data, .data, .data, .data, .handle, .sentinel, .sentinel, .pinned], laidTests := true, laidLooks := .later }
def CtlNamesCardSaid : Prop := Claim7.holds Tryz.pinned (.plain (OpenSpec.ofChange ctlNamesSpec)) ctlNamesCard

/-- THE SECOND FORM's CARD OF 'lagleashlaw28.CtlNil'. -/
def ctlNilUptoCard : Claim7 := { stood := { row := ctlNilUptoRow, standIns := [], harness := (true, "e3d0bc295c331b1db37d137f42d2104940b9c94544ce448e49c0a0a419f22f44"), looks := true }, kinds := [], alts := [], laidByText := true, laidKinds := [.data, .data, .data, .data, .handle, .sentinel, .sentinel, .pinned], laidTests := true, laidLooks := .later }
def CtlNilUptoCardSaid : Prop := Claim7.holds Tryz.pinned (.plain (OpenSpec.upto ctlNilSpec)) ctlNilUptoCard

/-- THE SECOND FORM's CARD OF 'lagleashlaw28.CtlNames'. -/
def ctlNamesUptoCard : Claim7 := { stood := { row := ctlNamesUptoRow, standIns := [], harness := (true, "e3d0bc295c331b1db37d137f42d2104940b9c94544ce448e49c0a0a419f22f44"), looks := true }, kinds := [], alts := [], laidByText := true, laidKinds := [.data, .data, .data, .data, .handle, .sentinel, .sentinel, .pinned], laidTests := true, laidLooks := .later }
def CtlNamesUptoCardSaid : Prop := Claim7.holds Tryz.pinned (.plain (OpenSpec.upto ctlNamesSpec)) ctlNamesUptoCard
end Rows
end Go.Proofs.YtfegdfjcichccaaGreatDoor
