/-
  DERIVED. GIVEN WITH THE SEED: THE CARDS: each row of YtjeakifmlmmpaaaGreatDoorRows.lean that lists a variable, with what it lists TIED to the program's text (the seventh form; the later family's looks); each row that meets fmt, with fmt's text TOLD by the authors' own Lean function (tested against real Go, not proved from fmt's source: count such statements apart). THE CARD IS WHAT COUNTS. Prove the row's statement (the work); the ties are given (YtjeakifmlmmpaaaGreatDoorTie.lean); close each card by the builder's one call (the guide's Derived/Test/ToyasCard.lean, 'card_holds'). Laid BY PROGRAM, IN A SANDBOX (cutbox-door.mjs). By AI agents, Wed Nov 11 2026. No macro, syntax, notation, axiom, sorry.
-/
import Derived.Test.YtjeakifmlmmpaaaGreatDoorRows
import GoSem.ClaimSeven
namespace Go.Proofs.YtjeakifmlmmpaaaGreatDoor
namespace Rows

/-- THE TIED CARD OF 'foyerlaw28.ModelSeats'. -/
def modelSeatsCard : Claim7 := { stood := { row := modelSeatsRow, standIns := [], harness := (true, "9440e4c72e449fbfbf955f5bc05568acbc340c05ab84e8eab01e2f7a02a5dda1"), looks := true }, kinds := [], alts := [], laidByText := true, laidKinds := [.data, .widerDeep, .widerDeep, .pinned], laidTests := true, laidLooks := .later }
def ModelSeatsCardSaid : Prop := Claim7.holds Tryz.pinned (.plain (OpenSpec.ofChange modelSeatsSpec)) modelSeatsCard

/-- THE TIED CARD OF 'foyerlaw28.ModelAgain'. -/
def modelAgainCard : Claim7 := { stood := { row := modelAgainRow, standIns := [], harness := (true, "9440e4c72e449fbfbf955f5bc05568acbc340c05ab84e8eab01e2f7a02a5dda1"), looks := true }, kinds := [], alts := [], laidByText := true, laidKinds := [.data, .widerDeep, .widerDeep, .pinned], laidTests := true, laidLooks := .later }
def ModelAgainCardSaid : Prop := Claim7.holds Tryz.pinned (.plain (OpenSpec.ofChange modelAgainSpec)) modelAgainCard

/-- THE TIED CARD OF 'foyerlaw28.ModelTells'. -/
def modelTellsCard : Claim7 := { stood := { row := modelTellsRow, standIns := [], harness := (true, "9440e4c72e449fbfbf955f5bc05568acbc340c05ab84e8eab01e2f7a02a5dda1"), looks := true }, kinds := [], alts := [], laidByText := true, laidKinds := [.data, .widerDeep, .widerDeep, .pinned], laidTests := true, laidLooks := .later }
def ModelTellsCardSaid : Prop := Claim7.holds Tryz.pinned (.plain (OpenSpec.ofChange modelTellsSpec)) modelTellsCard

/-- THE TIED CARD OF 'foyerlaw28.ModelKnown'. -/
def modelKnownCard : Claim7 := { stood := { row := modelKnownRow, standIns := [], harness := (true, "9440e4c72e449fbfbf955f5bc05568acbc340c05ab84e8eab01e2f7a02a5dda1"), looks := true }, kinds := [], alts := [], laidByText := true, laidKinds := [.data, .widerDeep, .widerDeep, .pinned], laidTests := true, laidLooks := .later }
def ModelKnownCardSaid : Prop := Claim7.holds Tryz.pinned (.plain (OpenSpec.ofChange modelKnownSpec)) modelKnownCard

/-- THE TIED CARD OF 'foyerlaw28.ModelMoves'. -/
def modelMovesCard : Claim7 := { stood := { row := modelMovesRow, standIns := [], harness := (true, "9440e4c72e449fbfbf955f5bc05568acbc340c05ab84e8eab01e2f7a02a5dda1"), looks := true }, kinds := [], alts := [], laidByText := true, laidKinds := [.data, .widerDeep, .widerDeep, .pinned], laidTests := true, laidLooks := .later }
def ModelMovesCardSaid : Prop := Claim7.holds Tryz.pinned (.plain (OpenSpec.ofChange modelMovesSpec)) modelMovesCard

/-- THE SECOND FORM's CARD OF 'foyerlaw28.ModelSeats'. -/
def modelSeatsUptoCard : Claim7 := { stood := { row := modelSeatsUptoRow, standIns := [], harness := (true, "9440e4c72e449fbfbf955f5bc05568acbc340c05ab84e8eab01e2f7a02a5dda1"), looks := true }, kinds := [], alts := [], laidByText := true, laidKinds := [.data, .widerDeep, .widerDeep, .pinned], laidTests := true, laidLooks := .later }
def ModelSeatsUptoCardSaid : Prop := Claim7.holds Tryz.pinned (.plain (OpenSpec.upto modelSeatsSpec)) modelSeatsUptoCard

/-- THE SECOND FORM's CARD OF 'foyerlaw28.ModelAgain'. -/
def modelAgainUptoCard : Claim7 := { stood := { row := modelAgainUptoRow, standIns := [], harness := (true, "9440e4c72e449fbfbf955f5bc05568acbc340c05ab84e8eab01e2f7a02a5dda1"), looks := true }, kinds := [], alts := [], laidByText := true, laidKinds := [.data, .widerDeep, .widerDeep, .pinned], laidTests := true, laidLooks := .later }
def ModelAgainUptoCardSaid : Prop := Claim7.holds Tryz.pinned (.plain (OpenSpec.upto modelAgainSpec)) modelAgainUptoCard

/-- THE SECOND FORM's CARD OF 'foyerlaw28.ModelTells'. -/
def modelTellsUptoCard : Claim7 := { stood := { row := modelTellsUptoRow, standIns := [], harness := (true, "9440e4c72e449fbfbf955f5bc05568acbc340c05ab84e8eab01e2f7a02a5dda1"), looks := true }, kinds := [], alts := [], laidByText := true, laidKinds := [.data, .widerDeep, .widerDeep, .pinned], laidTests := true, laidLooks := .later }
def ModelTellsUptoCardSaid : Prop := Claim7.holds Tryz.pinned (.plain (OpenSpec.upto modelTellsSpec)) modelTellsUptoCard

/-- THE SECOND FORM's CARD OF 'foyerlaw28.ModelKnown'. -/
def modelKnownUptoCard : Claim7 := { stood := { row := modelKnownUptoRow, standIns := [], harness := (true, "9440e4c72e449fbfbf955f5bc05568acbc340c05ab84e8eab01e2f7a02a5dda1"), looks := true }, kinds := [], alts := [], laidByText := true, laidKinds := [.data, .widerDeep, .widerDeep, .pinned], laidTests := true, laidLooks := .later }
def ModelKnownUptoCardSaid : Prop := Claim7.holds Tryz.pinned (.plain (OpenSpec.upto modelKnownSpec)) modelKnownUptoCard

/-- THE SECOND FORM's CARD OF 'foyerlaw28.ModelMoves'. -/
def modelMovesUptoCard : Claim7 := { stood := { row := modelMovesUptoRow, standIns := [], harness := (true, "9440e4c72e449fbfbf955f5bc05568acbc340c05ab84e8eab01e2f7a02a5dda1"), looks := true }, kinds := [], alts := [], laidByText := true, laidKinds := [.data, .widerDeep, .widerDeep, .pinned], laidTests := true, laidLooks := .later }
def ModelMovesUptoCardSaid : Prop := Claim7.holds Tryz.pinned (.plain (OpenSpec.upto modelMovesSpec)) modelMovesUptoCard
end Rows
end Go.Proofs.YtjeakifmlmmpaaaGreatDoor
