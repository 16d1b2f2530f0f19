/-
  DERIVED. GIVEN WITH THE SEED: THE CARDS: each row of YtkhpgcbjmopkfaaGreatDoorRows.lean that lists a variable, with what it lists TIED to the program's text (the seventh form; the later family's looks); each row that meets fmt, with fmt's text TOLD by the authors' own Lean function (tested against real Go, not proved from fmt's source: count such statements apart). THE CARD IS WHAT COUNTS. Prove the row's statement (the work); the ties are given (YtkhpgcbjmopkfaaGreatDoorTie.lean); close each card by the builder's one call (the guide's Derived/Test/ToyasCard.lean, 'card_holds'). Laid BY PROGRAM, IN A SANDBOX (cutbox-door.mjs). By AI agents, Wed Nov 11 2026. No macro, syntax, notation, axiom, sorry.
-/
import Derived.Test.YtkhpgcbjmopkfaaGreatDoorRows
import GoSem.ClaimSeven
namespace Go.Proofs.YtkhpgcbjmopkfaaGreatDoor
namespace Rows

/-- THE TIED CARD OF 'colonnadelaw21.MatchNames'. -/
def matchNamesCard : Claim7 := { stood := { row := matchNamesRow, standIns := [], harness := (true, "892868470b3f2a488fe664a36973bb9110293faf66af52814eebc00316d783aa"), looks := true }, kinds := [], alts := [], laidByText := true, laidKinds := [.data, .data, .pinned], laidTests := true, laidLooks := .later }
def MatchNamesCardSaid : Prop := Claim7.holds Tryz.pinned (.plain (OpenSpec.ofChange matchNamesSpec)) matchNamesCard

/-- THE TIED CARD OF 'colonnadelaw21.MatchTypes'. -/
def matchTypesCard : Claim7 := { stood := { row := matchTypesRow, standIns := [], harness := (true, "892868470b3f2a488fe664a36973bb9110293faf66af52814eebc00316d783aa"), looks := true }, kinds := [], alts := [], laidByText := true, laidKinds := [.data, .data, .pinned], laidTests := true, laidLooks := .later }
def MatchTypesCardSaid : Prop := Claim7.holds Tryz.pinned (.plain (OpenSpec.ofChange matchTypesSpec)) matchTypesCard

/-- THE TIED CARD OF 'colonnadelaw21.MatchKinds'. -/
def matchKindsCard : Claim7 := { stood := { row := matchKindsRow, standIns := [], harness := (true, "892868470b3f2a488fe664a36973bb9110293faf66af52814eebc00316d783aa"), looks := true }, kinds := [], alts := [], laidByText := true, laidKinds := [.data, .data, .pinned], laidTests := true, laidLooks := .later }
def MatchKindsCardSaid : Prop := Claim7.holds Tryz.pinned (.plain (OpenSpec.ofChange matchKindsSpec)) matchKindsCard

/-- THE TIED CARD OF 'colonnadelaw21.MatchTurns'. -/
def matchTurnsCard : Claim7 := { stood := { row := matchTurnsRow, standIns := [], harness := (true, "892868470b3f2a488fe664a36973bb9110293faf66af52814eebc00316d783aa"), looks := true }, kinds := [], alts := [], laidByText := true, laidKinds := [.data, .data, .pinned], laidTests := true, laidLooks := .later }
def MatchTurnsCardSaid : Prop := Claim7.holds Tryz.pinned (.plain (OpenSpec.ofChange matchTurnsSpec)) matchTurnsCard

/-- THE SECOND FORM's CARD OF 'colonnadelaw21.MatchNames'. -/
def matchNamesUptoCard : Claim7 := { stood := { row := matchNamesUptoRow, standIns := [], harness := (true, "892868470b3f2a488fe664a36973bb9110293faf66af52814eebc00316d783aa"), looks := true }, kinds := [], alts := [], laidByText := true, laidKinds := [.data, .data, .pinned], laidTests := true, laidLooks := .later }
def MatchNamesUptoCardSaid : Prop := Claim7.holds Tryz.pinned (.plain (OpenSpec.upto matchNamesSpec)) matchNamesUptoCard

/-- THE SECOND FORM's CARD OF 'colonnadelaw21.MatchTypes'. -/
def matchTypesUptoCard : Claim7 := { stood := { row := matchTypesUptoRow, standIns := [], harness := (true, "892868470b3f2a488fe664a36973bb9110293faf66af52814eebc00316d783aa"), looks := true }, kinds := [], alts := [], laidByText := true, laidKinds := [.data, .data, .pinned], laidTests := true, laidLooks := .later }
def MatchTypesUptoCardSaid : Prop := Claim7.holds Tryz.pinned (.plain (OpenSpec.upto matchTypesSpec)) matchTypesUptoCard

/-- THE SECOND FORM's CARD OF 'colonnadelaw21.MatchKinds'. -/
def matchKindsUptoCard : Claim7 := { stood := { row := matchKindsUptoRow, standIns := [], harness := (true, "892868470b3f2a488fe664a36973bb9110293faf66af52814eebc00316d783aa"), looks := true }, kinds := [], alts := [], laidByText := true, laidKinds := [.data, .data, .pinned], laidTests := true, laidLooks := .later }
def MatchKindsUptoCardSaid : Prop := Claim7.holds Tryz.pinned (.plain (OpenSpec.upto matchKindsSpec)) matchKindsUptoCard

/-- THE SECOND FORM's CARD OF 'colonnadelaw21.MatchTurns'. -/
def matchTurnsUptoCard : Claim7 := { stood := { row := matchTurnsUptoRow, standIns := [], harness := (true, "892868470b3f2a488fe664a36973bb9110293faf66af52814eebc00316d783aa"), looks := true }, kinds := [], alts := [], laidByText := true, laidKinds := [.data, .data, .pinned], laidTests := true, laidLooks := .later }
def MatchTurnsUptoCardSaid : Prop := Claim7.holds Tryz.pinned (.plain (OpenSpec.upto matchTurnsSpec)) matchTurnsUptoCard
end Rows
end Go.Proofs.YtkhpgcbjmopkfaaGreatDoor
