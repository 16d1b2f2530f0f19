/-
  DERIVED. GIVEN WITH THE SEED: THE CARDS: each row of YthocbeghnkacnaaGreatDoorRows.lean that lists a variable, with what it lists TIED to the program's text (the seventh form; the later family's looks); each row that meets fmt, with fmt's text TOLD by the authors' own Lean function (tested against real Go, not proved from fmt's source: count such statements apart). THE CARD IS WHAT COUNTS. Prove the row's statement (the work); the ties are given (YthocbeghnkacnaaGreatDoorTie.lean); close each card by the builder's one call (the guide's Derived/Test/ToyasCard.lean, 'card_holds'). Laid BY PROGRAM, IN A SANDBOX (cutbox-door.mjs). By AI agents, Wed Nov 11 2026. No macro, syntax, notation, axiom, sorry.
-/
import Derived.Test.YthocbeghnkacnaaGreatDoorRows
import GoSem.ClaimSeven
namespace Go.Proofs.YthocbeghnkacnaaGreatDoor
namespace Rows

/-- THE TIED CARD OF 'colonnadelaw18.FoldFits'. -/
def foldFitsCard : Claim7 := { stood := { row := foldFitsRow, standIns := [], harness := (true, "4f525ebba105611532a53ce3ba886340476828a5774afd8fb75cfb98c104eb76"), looks := true }, kinds := [], alts := [], laidByText := true, laidKinds := [.data, .data, .pinned], laidTests := true, laidLooks := .later }
def FoldFitsCardSaid : Prop := Claim7.holds Tryz.pinned (.plain (OpenSpec.ofChange foldFitsSpec)) foldFitsCard

/-- THE TIED CARD OF 'colonnadelaw18.FoldRows'. -/
def foldRowsCard : Claim7 := { stood := { row := foldRowsRow, standIns := [], harness := (true, "4f525ebba105611532a53ce3ba886340476828a5774afd8fb75cfb98c104eb76"), looks := true }, kinds := [], alts := [], laidByText := true, laidKinds := [.data, .data, .pinned], laidTests := true, laidLooks := .later }
def FoldRowsCardSaid : Prop := Claim7.holds Tryz.pinned (.plain (OpenSpec.ofChange foldRowsSpec)) foldRowsCard

/-- THE TIED CARD OF 'colonnadelaw18.FoldMerges'. -/
def foldMergesCard : Claim7 := { stood := { row := foldMergesRow, standIns := [], harness := (true, "4f525ebba105611532a53ce3ba886340476828a5774afd8fb75cfb98c104eb76"), looks := true }, kinds := [], alts := [], laidByText := true, laidKinds := [.data, .data, .pinned], laidTests := true, laidLooks := .later }
def FoldMergesCardSaid : Prop := Claim7.holds Tryz.pinned (.plain (OpenSpec.ofChange foldMergesSpec)) foldMergesCard

/-- THE SECOND FORM's CARD OF 'colonnadelaw18.FoldFits'. -/
def foldFitsUptoCard : Claim7 := { stood := { row := foldFitsUptoRow, standIns := [], harness := (true, "4f525ebba105611532a53ce3ba886340476828a5774afd8fb75cfb98c104eb76"), looks := true }, kinds := [], alts := [], laidByText := true, laidKinds := [.data, .data, .pinned], laidTests := true, laidLooks := .later }
def FoldFitsUptoCardSaid : Prop := Claim7.holds Tryz.pinned (.plain (OpenSpec.upto foldFitsSpec)) foldFitsUptoCard

/-- THE SECOND FORM's CARD OF 'colonnadelaw18.FoldRows'. -/
def foldRowsUptoCard : Claim7 := { stood := { row := foldRowsUptoRow, standIns := [], harness := (true, "4f525ebba105611532a53ce3ba886340476828a5774afd8fb75cfb98c104eb76"), looks := true }, kinds := [], alts := [], laidByText := true, laidKinds := [.data, .data, .pinned], laidTests := true, laidLooks := .later }
def FoldRowsUptoCardSaid : Prop := Claim7.holds Tryz.pinned (.plain (OpenSpec.upto foldRowsSpec)) foldRowsUptoCard

/-- THE SECOND FORM's CARD OF 'colonnadelaw18.FoldMerges'. -/
def foldMergesUptoCard : Claim7 := { stood := { row := foldMergesUptoRow, standIns := [], harness := (true, "4f525ebba105611532a53ce3ba886340476828a5774afd8fb75cfb98c104eb76"), looks := true }, kinds := [], alts := [], laidByText := true, laidKinds := [.data, .data, .pinned], laidTests := true, laidLooks := .later }
def FoldMergesUptoCardSaid : Prop := Claim7.holds Tryz.pinned (.plain (OpenSpec.upto foldMergesSpec)) foldMergesUptoCard
end Rows
end Go.Proofs.YthocbeghnkacnaaGreatDoor
