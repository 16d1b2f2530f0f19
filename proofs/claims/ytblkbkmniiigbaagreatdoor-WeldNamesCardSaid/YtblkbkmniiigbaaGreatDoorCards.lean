/-
  DERIVED. GIVEN WITH THE SEED: THE CARDS: each row of YtblkbkmniiigbaaGreatDoorRows.lean that lists a variable, with what it lists TIED to the program's text (the seventh form; the later family's looks); each row that meets fmt, with fmt's text TOLD by the authors' own Lean function (tested against real Go, not proved from fmt's source: count such statements apart). THE CARD IS WHAT COUNTS. Prove the row's statement (the work); the ties are given (YtblkbkmniiigbaaGreatDoorTie.lean); close each card by the builder's one call (the guide's Derived/Test/ToyasCard.lean, 'card_holds'). Laid BY PROGRAM, IN A SANDBOX (cutbox-door.mjs). By AI agents, Wed Nov 11 2026. No macro, syntax, notation, axiom, sorry.
-/
import Derived.Test.YtblkbkmniiigbaaGreatDoorRows
import GoSem.ClaimSeven
namespace Go.Proofs.YtblkbkmniiigbaaGreatDoor
namespace Rows

/-- THE TIED CARD OF 'colonnadelaw15.WeldNames'. -/
def weldNamesCard : Claim7 := { stood := { row := weldNamesRow, standIns := [], harness := (true, "82773e9e5d6ad413adc773bb8fb92490d8120bbafec34f392d1ccf55db74b7f3"), looks := true }, kinds := [], alts := [], laidByText := true, laidKinds := [.data, .data, .pinned], laidTests := true, laidLooks := .later }
def WeldNamesCardSaid : Prop := Claim7.holds Tryz.pinned (.plain (OpenSpec.ofChange weldNamesSpec)) weldNamesCard

/-- THE SECOND FORM's CARD OF 'colonnadelaw15.WeldNames'. -/
def weldNamesUptoCard : Claim7 := { stood := { row := weldNamesUptoRow, standIns := [], harness := (true, "82773e9e5d6ad413adc773bb8fb92490d8120bbafec34f392d1ccf55db74b7f3"), looks := true }, kinds := [], alts := [], laidByText := true, laidKinds := [.data, .data, .pinned], laidTests := true, laidLooks := .later }
def WeldNamesUptoCardSaid : Prop := Claim7.holds Tryz.pinned (.plain (OpenSpec.upto weldNamesSpec)) weldNamesUptoCard
end Rows
end Go.Proofs.YtblkbkmniiigbaaGreatDoor
