/-
  DERIVED. GIVEN WITH THE SEED: THE CARDS: each row of YtafolioeipfdpaaDoorRows.lean that lists a variable, with what it lists TIED to the program's text (the seventh form; the later family's looks); each row that meets fmt, with fmt's text TOLD by the authors' own Lean function (tested against real Go, not proved from fmt's source: count such statements apart). THE CARD IS WHAT COUNTS. Prove the row's statement (the work); the ties are given (YtafolioeipfdpaaDoorTie.lean); close each card by the builder's one call (the guide's Derived/Test/ToyasCard.lean, 'card_holds'). Laid BY PROGRAM, IN A SANDBOX (cutbox-door.mjs). By AI agents, Wed Nov 11 2026. No macro, syntax, notation, axiom, sorry.
-/
import Derived.Test.YtafolioeipfdpaaDoorRows
import GoSem.ClaimSeven
namespace Go.Proofs.YtafolioeipfdpaaDoor
namespace Rows

/-- THE TIED CARD OF 'foyerlaw09.TableKnown'. -/
def tableKnownCard : Claim7 := { stood := { row := tableKnownRow, standIns := [], harness := (true, "ea0ab468c7179f1b83a8ac23394543faf3dfd4dd887b5c6715ecb66b720bd992"), looks := true }, kinds := [], alts := [], laidByText := true, laidKinds := [.handle], laidTests := true, laidLooks := .later }
def TableKnownCardSaid : Prop := Claim7.holds Tryd.pinned (.plain (OpenSpec.ofChange tableKnownSpec)) tableKnownCard

/-- THE SECOND FORM's CARD OF 'foyerlaw09.TableKnown'. -/
def tableKnownUptoCard : Claim7 := { stood := { row := tableKnownUptoRow, standIns := [], harness := (true, "ea0ab468c7179f1b83a8ac23394543faf3dfd4dd887b5c6715ecb66b720bd992"), looks := true }, kinds := [], alts := [], laidByText := true, laidKinds := [.handle], laidTests := true, laidLooks := .later }
def TableKnownUptoCardSaid : Prop := Claim7.holds Tryd.pinned (.plain (OpenSpec.upto tableKnownSpec)) tableKnownUptoCard
end Rows
end Go.Proofs.YtafolioeipfdpaaDoor
