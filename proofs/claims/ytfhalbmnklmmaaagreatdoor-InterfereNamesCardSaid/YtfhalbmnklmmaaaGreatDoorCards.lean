/-
  DERIVED. GIVEN WITH THE SEED: THE CARDS: each row of YtfhalbmnklmmaaaGreatDoorRows.lean that lists a variable, with what it lists TIED to the program's text (the seventh form; the later family's looks); each row that meets fmt, with fmt's text TOLD by the authors' own Lean function (tested against real Go, not proved from fmt's source: count such statements apart). THE CARD IS WHAT COUNTS. Prove the row's statement (the work); the ties are given (YtfhalbmnklmmaaaGreatDoorTie.lean); close each card by the builder's one call (the guide's Derived/Test/ToyasCard.lean, 'card_holds'). Laid BY PROGRAM, IN A SANDBOX (cutbox-door.mjs). By AI agents, Wed Nov 11 2026. No macro, syntax, notation, axiom, sorry.
-/
import Derived.Test.YtfhalbmnklmmaaaGreatDoorRows
import GoSem.ClaimSeven
namespace Go.Proofs.YtfhalbmnklmmaaaGreatDoor
namespace Rows

/-- THE TIED CARD OF 'retargetlaw34.InterfereNames'. -/
def interfereNamesCard : Claim7 := { stood := { row := interfereNamesRow, standIns := [], harness := (true, "2923ffd68dc5258b60ba184225fdb6c3416d0dc2b5ef0db440b8e37cbb6c8ac3"), looks := false }, kinds := [], alts := [], laidByText := true, laidKinds := [.data, .data], laidTests := true, laidLooks := .later }
def InterfereNamesCardSaid : Prop := Claim7.holds Tryz.pinned (.plain (OpenSpec.ofChange interfereNamesSpec)) interfereNamesCard

/-- THE SECOND FORM's CARD OF 'retargetlaw34.InterfereNames'. -/
def interfereNamesUptoCard : Claim7 := { stood := { row := interfereNamesUptoRow, standIns := [], harness := (true, "2923ffd68dc5258b60ba184225fdb6c3416d0dc2b5ef0db440b8e37cbb6c8ac3"), looks := false }, kinds := [], alts := [], laidByText := true, laidKinds := [.data, .data], laidTests := true, laidLooks := .later }
def InterfereNamesUptoCardSaid : Prop := Claim7.holds Tryz.pinned (.plain (OpenSpec.upto interfereNamesSpec)) interfereNamesUptoCard
end Rows
end Go.Proofs.YtfhalbmnklmmaaaGreatDoor
