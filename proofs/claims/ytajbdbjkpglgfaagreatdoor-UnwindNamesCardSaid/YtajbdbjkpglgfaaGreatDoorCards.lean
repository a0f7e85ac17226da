/-
  DERIVED. GIVEN WITH THE SEED: THE CARDS: each row of YtajbdbjkpglgfaaGreatDoorRows.lean that lists a variable, with what it lists TIED to the program's text (the seventh form; the later family's looks); each row that meets fmt, with fmt's text TOLD by the authors' own Lean function (tested against real Go, not proved from fmt's source: count such statements apart). THE CARD IS WHAT COUNTS. Prove the row's statement (the work); the ties are given (YtajbdbjkpglgfaaGreatDoorTie.lean); close each card by the builder's one call (the guide's Derived/Test/ToyasCard.lean, 'card_holds'). Laid BY PROGRAM, IN A SANDBOX (cutbox-door.mjs). By AI agents, Wed Nov 11 2026. No macro, syntax, notation, axiom, sorry.
-/
import Derived.Test.YtajbdbjkpglgfaaGreatDoorRows
import GoSem.ClaimSeven
namespace Go.Proofs.YtajbdbjkpglgfaaGreatDoor
namespace Rows

/-- THE TIED CARD OF 'retargetlaw43.UnwindNames'. -/
def unwindNamesCard : Claim7 := { stood := { row := unwindNamesRow, standIns := [], harness := (true, "5321549980627a5162a478a81fd61a5d28eee03fe2077691e6e177ffa5bd693e"), looks := false }, kinds := [], alts := [], laidByText := true, laidKinds := [.data], laidTests := true, laidLooks := .later }
def UnwindNamesCardSaid : Prop := Claim7.holds Tryz.pinned (.plain (OpenSpec.ofChange unwindNamesSpec)) unwindNamesCard

/-- THE SECOND FORM's CARD OF 'retargetlaw43.UnwindNames'. -/
def unwindNamesUptoCard : Claim7 := { stood := { row := unwindNamesUptoRow, standIns := [], harness := (true, "5321549980627a5162a478a81fd61a5d28eee03fe2077691e6e177ffa5bd693e"), looks := false }, kinds := [], alts := [], laidByText := true, laidKinds := [.data], laidTests := true, laidLooks := .later }
def UnwindNamesUptoCardSaid : Prop := Claim7.holds Tryz.pinned (.plain (OpenSpec.upto unwindNamesSpec)) unwindNamesUptoCard
end Rows
end Go.Proofs.YtajbdbjkpglgfaaGreatDoor
