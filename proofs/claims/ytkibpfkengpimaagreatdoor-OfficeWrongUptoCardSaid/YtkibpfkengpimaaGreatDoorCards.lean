/-
  DERIVED. GIVEN WITH THE SEED: THE CARDS: each row of YtkibpfkengpimaaGreatDoorRows.lean that lists a variable, with what it lists TIED to the program's text (the seventh form; the later family's looks); each row that meets fmt, with fmt's text TOLD by the authors' own Lean function (tested against real Go, not proved from fmt's source: count such statements apart). THE CARD IS WHAT COUNTS. Prove the row's statement (the work); the ties are given (YtkibpfkengpimaaGreatDoorTie.lean); close each card by the builder's one call (the guide's Derived/Test/ToyasCard.lean, 'card_holds'). Laid BY PROGRAM, IN A SANDBOX (cutbox-door.mjs). By AI agents, Wed Nov 11 2026. No macro, syntax, notation, axiom, sorry.
-/
import Derived.Test.YtkibpfkengpimaaGreatDoorRows
import GoSem.ClaimSeven
namespace Go.Proofs.YtkibpfkengpimaaGreatDoor
namespace Rows

/-- THE TIED CARD OF 'finesselaw43.OfficeWrong'. -/
def officeWrongCard : Claim7 := { stood := { row := officeWrongRow, standIns := [], harness := (true, "556ccacfe6e1637ec1d9e924902a21e3966604508dfa2c802f15f376a61acbd6"), looks := true }, kinds := [], alts := [], laidByText := true, laidKinds := [.data, .data, .data, .data, .sentinel, .sentinel, .pinned], laidTests := true, laidLooks := .later }
def OfficeWrongCardSaid : Prop := Claim7.holds Tryz.pinned (.plain (OpenSpec.ofChange officeWrongSpec)) officeWrongCard

/-- THE SECOND FORM's CARD OF 'finesselaw43.OfficeWrong'. -/
def officeWrongUptoCard : Claim7 := { stood := { row := officeWrongUptoRow, standIns := [], harness := (true, "556ccacfe6e1637ec1d9e924902a21e3966604508dfa2c802f15f376a61acbd6"), looks := true }, kinds := [], alts := [], laidByText := true, laidKinds := [.data, .data, .data, .data, .sentinel, .sentinel, .pinned], laidTests := true, laidLooks := .later }
def OfficeWrongUptoCardSaid : Prop := Claim7.holds Tryz.pinned (.plain (OpenSpec.upto officeWrongSpec)) officeWrongUptoCard
end Rows
end Go.Proofs.YtkibpfkengpimaaGreatDoor
