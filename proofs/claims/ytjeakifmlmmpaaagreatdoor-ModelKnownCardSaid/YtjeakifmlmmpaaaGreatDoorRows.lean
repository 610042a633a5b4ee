/-
  NARROWER THAN 'FOR EVERY INPUT', by the rows' own cells (each row's printed sentence says how): ModelSeats: laid · ModelAgain: laid · ModelTells: laid · ModelKnown: laid · ModelMoves: laid.
  DERIVED. THE GIVEN ROWS OF THIS SEAT. 5 by the template 'for every input the law returns true; each argument reads behind the call as it read before'; 0 by the template 'total and deterministic' (their statements: YtjeakifmlmmpaaaGreatDoorTotals.lean).
  GIVEN WITH THE SEED: the statements are not yours to turn. If you find one false, say at which input.
  Laid BY PROGRAM, IN A SANDBOX (cutbox-rows.mjs): the forced cells as the released guide's own fill.sh prints them over the translation f4ac6e92ef0cce97… (all of the seat's roots in one cut). By AI agents, Wed Nov 11 2026. No macro, syntax, notation, axiom, sorry.
-/
import Derived.Test.YtjeakifmlmmpaaaGreatDoorChecked
import GoSem.PinnedTables
import GoSem.Claim
import GoSem.ClaimJoined
import GoSem.ClaimMapViews
import Derived.JoinedTies
import Derived.KernelRfl
namespace Go.Proofs.YtjeakifmlmmpaaaGreatDoor
/- THE CELL 'sum', in the pinned program and in every row, IS THE sha256 OF THE DUMP (.gsa) THAT YtjeakifmlmmpaaaGreatDoorProg.lean LOADS. Nothing in Lean hashes anything: it is a label: what it is worth is what the hold of that sum in a sandbox is worth. -/
noncomputable def Tryz.pinned : Pinned := { name := "ytjeakifmlmmpaaagreatdoor", sum := "f4ac6e92ef0cce97c3091d7dbf4e2b40b34618bd8c866876e18715f9ebf33b51", checked := Tryz.checked }
namespace Rows
def none {H : Type} : Left H := { results := [], args := [] }

/- WHAT THE LISTED PACKAGE-LEVEL VARIABLES READ AS WHEN THE CALL BEGINS. Each datum BY PROGRAM (the guide's laid-datum.mjs) off the statement by which the dump's own 'gosem.cut.vars' lays the variable. In a bare row this is a premise. The card (YtjeakifmlmmpaaaGreatDoorCards.lean) ties it to the program's text. -/
def laid_unicode_utf8_acceptRanges {H : Type} : DataW H := .agg [.agg [.lit (.int .u8 128), .lit (.int .u8 191)], .agg [.lit (.int .u8 160), .lit (.int .u8 191)], .agg [.lit (.int .u8 128), .lit (.int .u8 159)], .agg [.lit (.int .u8 144), .lit (.int .u8 191)], .agg [.lit (.int .u8 128), .lit (.int .u8 143)], .agg [.lit (.int .u8 0), .lit (.int .u8 0)], .agg [.lit (.int .u8 0), .lit (.int .u8 0)], .agg [.lit (.int .u8 0), .lit (.int .u8 0)], .agg [.lit (.int .u8 0), .lit (.int .u8 0)], .agg [.lit (.int .u8 0), .lit (.int .u8 0)], .agg [.lit (.int .u8 0), .lit (.int .u8 0)], .agg [.lit (.int .u8 0), .lit (.int .u8 0)], .agg [.lit (.int .u8 0), .lit (.int .u8 0)], .agg [.lit (.int .u8 0), .lit (.int .u8 0)], .agg [.lit (.int .u8 0), .lit (.int .u8 0)], .agg [.lit (.int .u8 0), .lit (.int .u8 0)]]
def laid_foyer_ident_inEvents {H : Type} : DataW H := .agg [.agg [.lit (.int .u8 97), .lit (.int .u8 122)], .agg [.lit (.int .u8 48), .lit (.int .u8 57)], .agg [.lit (.int .u8 45), .lit (.int .u8 45)]]
def laid_foyer_ident_inPersons {H : Type} : DataW H := .agg [.agg [.lit (.int .u8 33), .lit (.int .u8 126)]]
/-- One of Go's own tables, pinned by name: the form's constant. -/
def laid_unicode_utf8_first : DataW Unit := Go.Pinned.utf8First

/-- 'foyerlaw28.ModelSeats': WHATEVER THE INPUT: true; the input reads as it did. -/
def modelSeatsSpec : ChangeSpec := { name := "modelSeats", fn := fun _ => fun
  | [d] => { results := [.lit (.bool true)], args := [d] }
  | _ => none }
def modelSeatsRow : OpenClaim := { program := "ytjeakifmlmmpaaagreatdoor", sum := "f4ac6e92ef0cce97c3091d7dbf4e2b40b34618bd8c866876e18715f9ebf33b51", func := "foyer/foyerlaw28.ModelSeats", spec := "modelSeats", inPlace := ["internal/bytealg.CountString", "internal/bytealg.IndexByteString", "internal/bytealg.IndexString", "maps.clone"], unfollowed := true, recurses := true, named := ["foyer/ident.inEvents", "unicode/utf8.first", "unicode/utf8.acceptRanges", "internal/bytealg.MaxLen", "foyer/ident.inPersons"], apart := false, laid := [("unicode/utf8.acceptRanges", laid_unicode_utf8_acceptRanges), ("foyer/ident.inEvents", laid_foyer_ident_inEvents), ("foyer/ident.inPersons", laid_foyer_ident_inPersons), ("unicode/utf8.first", laid_unicode_utf8_first)] }
def ModelSeatsSaid : Prop := modelSeatsRow.holds Tryz.pinned (OpenSpec.ofChange modelSeatsSpec)

/-- ITS FALSE NEIGHBOUR: 'it returns false'. Refute it at one input. -/
def modelSeatsWrong : ChangeSpec := { name := "modelSeats", fn := fun _ => fun
  | [d] => { results := [.lit (.bool false)], args := [d] }
  | _ => none }
def ModelSeatsWrongFalsely : Prop := modelSeatsRow.holds Tryz.pinned (OpenSpec.ofChange modelSeatsWrong)

/-- 'foyerlaw28.ModelAgain': WHATEVER THE INPUT: true; the input reads as it did. -/
def modelAgainSpec : ChangeSpec := { name := "modelAgain", fn := fun _ => fun
  | [d1, d2, d3] => { results := [.lit (.bool true)], args := [d1, d2, d3] }
  | _ => none }
def modelAgainRow : OpenClaim := { program := "ytjeakifmlmmpaaagreatdoor", sum := "f4ac6e92ef0cce97c3091d7dbf4e2b40b34618bd8c866876e18715f9ebf33b51", func := "foyer/foyerlaw28.ModelAgain", spec := "modelAgain", inPlace := ["internal/bytealg.CountString", "internal/bytealg.IndexByteString", "internal/bytealg.IndexString", "maps.clone"], unfollowed := true, recurses := true, named := ["foyer/ident.inEvents", "unicode/utf8.first", "unicode/utf8.acceptRanges", "internal/bytealg.MaxLen", "foyer/ident.inPersons"], apart := false, laid := [("unicode/utf8.acceptRanges", laid_unicode_utf8_acceptRanges), ("foyer/ident.inEvents", laid_foyer_ident_inEvents), ("foyer/ident.inPersons", laid_foyer_ident_inPersons), ("unicode/utf8.first", laid_unicode_utf8_first)] }
def ModelAgainSaid : Prop := modelAgainRow.holds Tryz.pinned (OpenSpec.ofChange modelAgainSpec)

/-- ITS FALSE NEIGHBOUR: 'it returns false'. Refute it at one input. -/
def modelAgainWrong : ChangeSpec := { name := "modelAgain", fn := fun _ => fun
  | [d1, d2, d3] => { results := [.lit (.bool false)], args := [d1, d2, d3] }
  | _ => none }
def ModelAgainWrongFalsely : Prop := modelAgainRow.holds Tryz.pinned (OpenSpec.ofChange modelAgainWrong)

/-- 'foyerlaw28.ModelTells': WHATEVER THE INPUT: true; the input reads as it did. -/
def modelTellsSpec : ChangeSpec := { name := "modelTells", fn := fun _ => fun
  | [d1, d2] => { results := [.lit (.bool true)], args := [d1, d2] }
  | _ => none }
def modelTellsRow : OpenClaim := { program := "ytjeakifmlmmpaaagreatdoor", sum := "f4ac6e92ef0cce97c3091d7dbf4e2b40b34618bd8c866876e18715f9ebf33b51", func := "foyer/foyerlaw28.ModelTells", spec := "modelTells", inPlace := ["maps.clone", "internal/bytealg.CountString", "internal/bytealg.IndexByteString", "internal/bytealg.IndexString"], unfollowed := true, recurses := true, named := ["foyer/ident.inPersons", "foyer/ident.inEvents", "unicode/utf8.first", "unicode/utf8.acceptRanges", "internal/bytealg.MaxLen"], apart := false, laid := [("unicode/utf8.acceptRanges", laid_unicode_utf8_acceptRanges), ("foyer/ident.inEvents", laid_foyer_ident_inEvents), ("foyer/ident.inPersons", laid_foyer_ident_inPersons), ("unicode/utf8.first", laid_unicode_utf8_first)] }
def ModelTellsSaid : Prop := modelTellsRow.holds Tryz.pinned (OpenSpec.ofChange modelTellsSpec)

/-- ITS FALSE NEIGHBOUR: 'it returns false'. Refute it at one input. -/
def modelTellsWrong : ChangeSpec := { name := "modelTells", fn := fun _ => fun
  | [d1, d2] => { results := [.lit (.bool false)], args := [d1, d2] }
  | _ => none }
def ModelTellsWrongFalsely : Prop := modelTellsRow.holds Tryz.pinned (OpenSpec.ofChange modelTellsWrong)

/-- 'foyerlaw28.ModelKnown': WHATEVER THE INPUT: true; the input reads as it did. -/
def modelKnownSpec : ChangeSpec := { name := "modelKnown", fn := fun _ => fun
  | [] => { results := [.lit (.bool true)], args := [] }
  | _ => none }
def modelKnownRow : OpenClaim := { program := "ytjeakifmlmmpaaagreatdoor", sum := "f4ac6e92ef0cce97c3091d7dbf4e2b40b34618bd8c866876e18715f9ebf33b51", func := "foyer/foyerlaw28.ModelKnown", spec := "modelKnown", inPlace := ["internal/bytealg.CountString", "internal/bytealg.IndexByteString", "internal/bytealg.IndexString", "maps.clone"], unfollowed := true, recurses := true, named := ["foyer/ident.inEvents", "unicode/utf8.first", "unicode/utf8.acceptRanges", "internal/bytealg.MaxLen", "foyer/ident.inPersons"], apart := false, laid := [("unicode/utf8.acceptRanges", laid_unicode_utf8_acceptRanges), ("foyer/ident.inEvents", laid_foyer_ident_inEvents), ("foyer/ident.inPersons", laid_foyer_ident_inPersons), ("unicode/utf8.first", laid_unicode_utf8_first)] }
def ModelKnownSaid : Prop := modelKnownRow.holds Tryz.pinned (OpenSpec.ofChange modelKnownSpec)

/-- ITS FALSE NEIGHBOUR: 'it returns false'. Refute it at one input. -/
def modelKnownWrong : ChangeSpec := { name := "modelKnown", fn := fun _ => fun
  | [] => { results := [.lit (.bool false)], args := [] }
  | _ => none }
def ModelKnownWrongFalsely : Prop := modelKnownRow.holds Tryz.pinned (OpenSpec.ofChange modelKnownWrong)

/-- 'foyerlaw28.ModelMoves': WHATEVER THE INPUT: true; the input reads as it did. -/
def modelMovesSpec : ChangeSpec := { name := "modelMoves", fn := fun _ => fun
  | [d1, d2] => { results := [.lit (.bool true)], args := [d1, d2] }
  | _ => none }
def modelMovesRow : OpenClaim := { program := "ytjeakifmlmmpaaagreatdoor", sum := "f4ac6e92ef0cce97c3091d7dbf4e2b40b34618bd8c866876e18715f9ebf33b51", func := "foyer/foyerlaw28.ModelMoves", spec := "modelMoves", inPlace := ["internal/bytealg.CountString", "internal/bytealg.IndexByteString", "internal/bytealg.IndexString", "maps.clone"], unfollowed := true, recurses := true, named := ["foyer/ident.inEvents", "unicode/utf8.first", "unicode/utf8.acceptRanges", "internal/bytealg.MaxLen", "foyer/ident.inPersons"], apart := false, laid := [("unicode/utf8.acceptRanges", laid_unicode_utf8_acceptRanges), ("foyer/ident.inEvents", laid_foyer_ident_inEvents), ("foyer/ident.inPersons", laid_foyer_ident_inPersons), ("unicode/utf8.first", laid_unicode_utf8_first)] }
def ModelMovesSaid : Prop := modelMovesRow.holds Tryz.pinned (OpenSpec.ofChange modelMovesSpec)

/-- ITS FALSE NEIGHBOUR: 'it returns false'. Refute it at one input. -/
def modelMovesWrong : ChangeSpec := { name := "modelMoves", fn := fun _ => fun
  | [d1, d2] => { results := [.lit (.bool false)], args := [d1, d2] }
  | _ => none }
def ModelMovesWrongFalsely : Prop := modelMovesRow.holds Tryz.pinned (OpenSpec.ofChange modelMovesWrong)

/- THE SECOND FORM. 'bulk': how many values and letters a reading holds, each counted each time it is reached (what is shared counts as often as it is met; a slice's spare places count too). A statement '..UptoSaid' is the law's where the arguments, and the package variables that the reading takes, are together of bulk at most 1048576: NARROWER than '..Said'. Prove '..Said' where nothing that the law and all that it calls make is longer than what came in: it says more and counts as full. Else prove '..UptoSaid'. A law counts once. -/
mutual
def uptoBulk {H : Type} : DataW H → Nat
  | .lit (.string bytes) => bytes.length + 1
  | .lit _ => 1
  | .nil => 1
  | .ptr d => uptoBulk d + 1
  | .slice elems spare => uptoBulkAll elems + uptoBulkAll spare + 1
  | .agg parts => uptoBulkAll parts + 1
  | .iface _ d => uptoBulk d + 1
  | .map entries => uptoBulkEntries entries + 1
  | .held _ => 1
def uptoBulkAll {H : Type} : List (DataW H) → Nat
  | [] => 0
  | d :: r => uptoBulk d + uptoBulkAll r
def uptoBulkEntries {H : Type} : List (Lit × DataW H) → Nat
  | [] => 0
  | x :: r => uptoBulkEntry x + uptoBulkEntries r
def uptoBulkEntry {H : Type} : Lit × DataW H → Nat
  | (.string bytes, d) => bytes.length + uptoBulk d + 1
  | (_, d) => uptoBulk d + 1
 end
def uptoSmall : (H : Type) → List (DataW H) → Bool := fun _ ds => decide (uptoBulkAll ds ≤ 1048576)
def OpenSpec.upto (s : _root_.Go.ChangeSpec) : _root_.Go.OpenSpec := { _root_.Go.OpenSpec.ofChange s with cond := some uptoSmall }

/-- 'foyerlaw28.ModelSeats', WHERE WHAT IT READS IS OF BULK AT MOST 1048576: true; the input reads as it did. -/
def modelSeatsUptoRow : OpenClaim := { program := "ytjeakifmlmmpaaagreatdoor", sum := "f4ac6e92ef0cce97c3091d7dbf4e2b40b34618bd8c866876e18715f9ebf33b51", func := "foyer/foyerlaw28.ModelSeats", spec := "modelSeats", inPlace := ["internal/bytealg.CountString", "internal/bytealg.IndexByteString", "internal/bytealg.IndexString", "maps.clone"], unfollowed := true, recurses := true, named := ["foyer/ident.inEvents", "unicode/utf8.first", "unicode/utf8.acceptRanges", "internal/bytealg.MaxLen", "foyer/ident.inPersons"], apart := false, laid := [("unicode/utf8.acceptRanges", laid_unicode_utf8_acceptRanges), ("foyer/ident.inEvents", laid_foyer_ident_inEvents), ("foyer/ident.inPersons", laid_foyer_ident_inPersons), ("unicode/utf8.first", laid_unicode_utf8_first)], narrowed := true }
def ModelSeatsUptoSaid : Prop := modelSeatsUptoRow.holds Tryz.pinned (OpenSpec.upto modelSeatsSpec)

/-- 'foyerlaw28.ModelAgain', WHERE WHAT IT READS IS OF BULK AT MOST 1048576: true; the input reads as it did. -/
def modelAgainUptoRow : OpenClaim := { program := "ytjeakifmlmmpaaagreatdoor", sum := "f4ac6e92ef0cce97c3091d7dbf4e2b40b34618bd8c866876e18715f9ebf33b51", func := "foyer/foyerlaw28.ModelAgain", spec := "modelAgain", inPlace := ["internal/bytealg.CountString", "internal/bytealg.IndexByteString", "internal/bytealg.IndexString", "maps.clone"], unfollowed := true, recurses := true, named := ["foyer/ident.inEvents", "unicode/utf8.first", "unicode/utf8.acceptRanges", "internal/bytealg.MaxLen", "foyer/ident.inPersons"], apart := false, laid := [("unicode/utf8.acceptRanges", laid_unicode_utf8_acceptRanges), ("foyer/ident.inEvents", laid_foyer_ident_inEvents), ("foyer/ident.inPersons", laid_foyer_ident_inPersons), ("unicode/utf8.first", laid_unicode_utf8_first)], narrowed := true }
def ModelAgainUptoSaid : Prop := modelAgainUptoRow.holds Tryz.pinned (OpenSpec.upto modelAgainSpec)

/-- 'foyerlaw28.ModelTells', WHERE WHAT IT READS IS OF BULK AT MOST 1048576: true; the input reads as it did. -/
def modelTellsUptoRow : OpenClaim := { program := "ytjeakifmlmmpaaagreatdoor", sum := "f4ac6e92ef0cce97c3091d7dbf4e2b40b34618bd8c866876e18715f9ebf33b51", func := "foyer/foyerlaw28.ModelTells", spec := "modelTells", inPlace := ["maps.clone", "internal/bytealg.CountString", "internal/bytealg.IndexByteString", "internal/bytealg.IndexString"], unfollowed := true, recurses := true, named := ["foyer/ident.inPersons", "foyer/ident.inEvents", "unicode/utf8.first", "unicode/utf8.acceptRanges", "internal/bytealg.MaxLen"], apart := false, laid := [("unicode/utf8.acceptRanges", laid_unicode_utf8_acceptRanges), ("foyer/ident.inEvents", laid_foyer_ident_inEvents), ("foyer/ident.inPersons", laid_foyer_ident_inPersons), ("unicode/utf8.first", laid_unicode_utf8_first)], narrowed := true }
def ModelTellsUptoSaid : Prop := modelTellsUptoRow.holds Tryz.pinned (OpenSpec.upto modelTellsSpec)

/-- 'foyerlaw28.ModelKnown', WHERE WHAT IT READS IS OF BULK AT MOST 1048576: true; the input reads as it did. -/
def modelKnownUptoRow : OpenClaim := { program := "ytjeakifmlmmpaaagreatdoor", sum := "f4ac6e92ef0cce97c3091d7dbf4e2b40b34618bd8c866876e18715f9ebf33b51", func := "foyer/foyerlaw28.ModelKnown", spec := "modelKnown", inPlace := ["internal/bytealg.CountString", "internal/bytealg.IndexByteString", "internal/bytealg.IndexString", "maps.clone"], unfollowed := true, recurses := true, named := ["foyer/ident.inEvents", "unicode/utf8.first", "unicode/utf8.acceptRanges", "internal/bytealg.MaxLen", "foyer/ident.inPersons"], apart := false, laid := [("unicode/utf8.acceptRanges", laid_unicode_utf8_acceptRanges), ("foyer/ident.inEvents", laid_foyer_ident_inEvents), ("foyer/ident.inPersons", laid_foyer_ident_inPersons), ("unicode/utf8.first", laid_unicode_utf8_first)], narrowed := true }
def ModelKnownUptoSaid : Prop := modelKnownUptoRow.holds Tryz.pinned (OpenSpec.upto modelKnownSpec)

/-- 'foyerlaw28.ModelMoves', WHERE WHAT IT READS IS OF BULK AT MOST 1048576: true; the input reads as it did. -/
def modelMovesUptoRow : OpenClaim := { program := "ytjeakifmlmmpaaagreatdoor", sum := "f4ac6e92ef0cce97c3091d7dbf4e2b40b34618bd8c866876e18715f9ebf33b51", func := "foyer/foyerlaw28.ModelMoves", spec := "modelMoves", inPlace := ["internal/bytealg.CountString", "internal/bytealg.IndexByteString", "internal/bytealg.IndexString", "maps.clone"], unfollowed := true, recurses := true, named := ["foyer/ident.inEvents", "unicode/utf8.first", "unicode/utf8.acceptRanges", "internal/bytealg.MaxLen", "foyer/ident.inPersons"], apart := false, laid := [("unicode/utf8.acceptRanges", laid_unicode_utf8_acceptRanges), ("foyer/ident.inEvents", laid_foyer_ident_inEvents), ("foyer/ident.inPersons", laid_foyer_ident_inPersons), ("unicode/utf8.first", laid_unicode_utf8_first)], narrowed := true }
def ModelMovesUptoSaid : Prop := modelMovesUptoRow.holds Tryz.pinned (OpenSpec.upto modelMovesSpec)

end Rows
end Go.Proofs.YtjeakifmlmmpaaaGreatDoor
