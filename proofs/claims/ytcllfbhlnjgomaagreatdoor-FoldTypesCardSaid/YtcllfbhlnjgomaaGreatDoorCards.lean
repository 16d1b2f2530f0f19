/-
  DERIVED. GIVEN WITH THE SEED: THE CARDS: each row of YtcllfbhlnjgomaaGreatDoorRows.lean that lists a variable, with what it lists TIED to the program's text (the seventh form; the later family's looks); each row that meets fmt, with fmt's text TOLD by the authors' own Lean function (tested against real Go, not proved from fmt's source: count such statements apart). THE CARD IS WHAT COUNTS. Prove the row's statement (the work); the ties are given (YtcllfbhlnjgomaaGreatDoorTie.lean); close each card by the builder's one call (the guide's Derived/Test/ToyasCard.lean, 'card_holds'). Laid BY PROGRAM, IN A SANDBOX (cutbox-door.mjs). By AI agents, Wed Nov 11 2026. No macro, syntax, notation, axiom, sorry.
-/
import Derived.Test.YtcllfbhlnjgomaaGreatDoorRows
import GoSem.ClaimSeven
namespace Go.Proofs.YtcllfbhlnjgomaaGreatDoor
namespace Rows

/-- THE TIED CARD OF 'colonnadelaw18.FoldNames'. -/
def foldNamesCard : Claim7 := { stood := { row := foldNamesRow, standIns := [], harness := (true, "4d476a8165a125e51e9814e3bf91e11b03cae5e67572aa73725798acf463a28e"), looks := true }, kinds := [], alts := [], laidByText := true, laidKinds := [.data, .data, .pinned], laidTests := true, laidLooks := .later }
def FoldNamesCardSaid : Prop := Claim7.holds Tryz.pinned (.plain (OpenSpec.ofChange foldNamesSpec)) foldNamesCard

/-- THE TIED CARD OF 'colonnadelaw18.FoldTypes'. -/
def foldTypesCard : Claim7 := { stood := { row := foldTypesRow, standIns := [], harness := (true, "4d476a8165a125e51e9814e3bf91e11b03cae5e67572aa73725798acf463a28e"), looks := true }, kinds := [], alts := [], laidByText := true, laidKinds := [.data, .data, .pinned], laidTests := true, laidLooks := .later }
def FoldTypesCardSaid : Prop := Claim7.holds Tryz.pinned (.plain (OpenSpec.ofChange foldTypesSpec)) foldTypesCard

/-- THE SECOND FORM's CARD OF 'colonnadelaw18.FoldNames'. -/
def foldNamesUptoCard : Claim7 := { stood := { row := foldNamesUptoRow, standIns := [], harness := (true, "4d476a8165a125e51e9814e3bf91e11b03cae5e67572aa73725798acf463a28e"), looks := true }, kinds := [], alts := [], laidByText := true, laidKinds := [.data, .data, .pinned], laidTests := true, laidLooks := .later }
def FoldNamesUptoCardSaid : Prop := Claim7.holds Tryz.pinned (.plain (OpenSpec.upto foldNamesSpec)) foldNamesUptoCard

/-- THE SECOND FORM's CARD OF 'colonnadelaw18.FoldTypes'. -/
def foldTypesUptoCard : Claim7 := { stood := { row := foldTypesUptoRow, standIns := [], harness := (true, "4d476a8165a125e51e9814e3bf91e11b03cae5e67572aa73725798acf463a28e"), looks := true }, kinds := [], alts := [], laidByText := true, laidKinds := [.data, .data, .pinned], laidTests := true, laidLooks := .later }
def FoldTypesUptoCardSaid : Prop := Claim7.holds Tryz.pinned (.plain (OpenSpec.upto foldTypesSpec)) foldTypesUptoCard
end Rows
end Go.Proofs.YtcllfbhlnjgomaaGreatDoor
