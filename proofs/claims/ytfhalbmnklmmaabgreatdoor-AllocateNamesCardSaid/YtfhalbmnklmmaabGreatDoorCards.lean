/-
  DERIVED. GIVEN WITH THE SEED: THE CARDS: each row of YtfhalbmnklmmaabGreatDoorRows.lean that lists a variable, with what it lists TIED to the program's text (the seventh form; the later family's looks); each row that meets fmt, with fmt's text TOLD by the authors' own Lean function (tested against real Go, not proved from fmt's source: count such statements apart). THE CARD IS WHAT COUNTS. Prove the row's statement (the work); the ties are given (YtfhalbmnklmmaabGreatDoorTie.lean); close each card by the builder's one call (the guide's Derived/Test/ToyasCard.lean, 'card_holds'). Laid BY PROGRAM, IN A SANDBOX (cutbox-door.mjs). By AI agents, Wed Nov 11 2026. No macro, syntax, notation, axiom, sorry.
-/
import Derived.Test.YtfhalbmnklmmaabGreatDoorRows
import GoSem.ClaimSeven
namespace Go.Proofs.YtfhalbmnklmmaabGreatDoor
namespace Rows

/-- THE TIED CARD OF 'retargetlaw35.AllocateNames'. -/
def allocateNamesCard : Claim7 := { stood := { row := allocateNamesRow, standIns := [], harness := (true, "951149bbf456fba0fa19545866701ede1303489e0a867dbba97d69d63fbd5be6"), looks := false }, kinds := [], alts := [], laidByText := true, laidKinds := [.data, .data], laidTests := true, laidLooks := .later }
def AllocateNamesCardSaid : Prop := Claim7.holds Tryz.pinned (.plain (OpenSpec.ofChange allocateNamesSpec)) allocateNamesCard

/-- THE SECOND FORM's CARD OF 'retargetlaw35.AllocateNames'. -/
def allocateNamesUptoCard : Claim7 := { stood := { row := allocateNamesUptoRow, standIns := [], harness := (true, "951149bbf456fba0fa19545866701ede1303489e0a867dbba97d69d63fbd5be6"), looks := false }, kinds := [], alts := [], laidByText := true, laidKinds := [.data, .data], laidTests := true, laidLooks := .later }
def AllocateNamesUptoCardSaid : Prop := Claim7.holds Tryz.pinned (.plain (OpenSpec.upto allocateNamesSpec)) allocateNamesUptoCard
end Rows
end Go.Proofs.YtfhalbmnklmmaabGreatDoor
