/-
  No cell of these rows narrows 'for every input' (looked for: loops, veiled, ifaces, maps, wideKeys, modest, calm, conditions, laid).
  DERIVED. THE GIVEN ROWS OF THIS SEAT. 4 by the template 'for every input the law returns true; each argument reads behind the call as it read before'; 0 by the template 'total and deterministic' (their statements: YtjhgomacanffkaaTotals.lean).
  GIVEN WITH THE SEED: the statements are not yours to turn. If you find one false, say at which input.
  Laid BY PROGRAM, IN A SANDBOX (cutbox-rows.mjs): the forced cells as the released guide's own fill.sh prints them over the translation 097500196d844099… (all of the seat's roots in one cut). By AI agents, Wed Nov 11 2026. No macro, syntax, notation, axiom, sorry.
-/
import Derived.Test.YtjhgomacanffkaaChecked
import GoSem.Claim
import GoSem.ClaimJoined
import GoSem.ClaimMapViews
import Derived.JoinedTies
import Derived.KernelRfl
namespace Go.Proofs.Ytjhgomacanffkaa
/- THE CELL 'sum', in the pinned program and in every row, IS THE sha256 OF THE DUMP (.gsa) THAT YtjhgomacanffkaaProg.lean LOADS. Nothing in Lean hashes anything: it is a label: what it is worth is what the hold of that sum in a sandbox is worth. -/
noncomputable def Try.pinned : Pinned := { name := "ytjhgomacanffkaa", sum := "097500196d844099b3f6c4c65f905264af4034d52ab2a34e48b4b06ae9274d00", checked := Try.checked }
namespace Rows
def none {H : Type} : Left H := { results := [], args := [] }

/-- 'foyerlaw27.GroupChosen': WHATEVER THE INPUT: true; the input reads as it did. -/
def groupChosenSpec : ChangeSpec := { name := "groupChosen", fn := fun _ => fun
  | [d1, d2, d3] => { results := [.lit (.bool true)], args := [d1, d2, d3] }
  | _ => none }
def groupChosenRow : OpenClaim := { program := "ytjhgomacanffkaa", sum := "097500196d844099b3f6c4c65f905264af4034d52ab2a34e48b4b06ae9274d00", func := "foyer/foyerlaw27.GroupChosen", spec := "groupChosen", unfollowed := true, recurses := true, apart := false }
def GroupChosenSaid : Prop := groupChosenRow.holds Try.pinned (OpenSpec.ofChange groupChosenSpec)

/-- ITS FALSE NEIGHBOUR: 'it returns false'. Refute it at one input. -/
def groupChosenWrong : ChangeSpec := { name := "groupChosen", fn := fun _ => fun
  | [d1, d2, d3] => { results := [.lit (.bool false)], args := [d1, d2, d3] }
  | _ => none }
def GroupChosenWrongFalsely : Prop := groupChosenRow.holds Try.pinned (OpenSpec.ofChange groupChosenWrong)

/-- 'foyerlaw27.GroupFits': WHATEVER THE INPUT: true; the input reads as it did. -/
def groupFitsSpec : ChangeSpec := { name := "groupFits", fn := fun _ => fun
  | [d1, d2, d3] => { results := [.lit (.bool true)], args := [d1, d2, d3] }
  | _ => none }
def groupFitsRow : OpenClaim := { program := "ytjhgomacanffkaa", sum := "097500196d844099b3f6c4c65f905264af4034d52ab2a34e48b4b06ae9274d00", func := "foyer/foyerlaw27.GroupFits", spec := "groupFits", unfollowed := true, recurses := true, apart := false }
def GroupFitsSaid : Prop := groupFitsRow.holds Try.pinned (OpenSpec.ofChange groupFitsSpec)

/-- ITS FALSE NEIGHBOUR: 'it returns false'. Refute it at one input. -/
def groupFitsWrong : ChangeSpec := { name := "groupFits", fn := fun _ => fun
  | [d1, d2, d3] => { results := [.lit (.bool false)], args := [d1, d2, d3] }
  | _ => none }
def GroupFitsWrongFalsely : Prop := groupFitsRow.holds Try.pinned (OpenSpec.ofChange groupFitsWrong)

/-- 'foyerlaw27.GroupGrows': WHATEVER THE INPUT: true; the input reads as it did. -/
def groupGrowsSpec : ChangeSpec := { name := "groupGrows", fn := fun _ => fun
  | [d1, d2] => { results := [.lit (.bool true)], args := [d1, d2] }
  | _ => none }
def groupGrowsRow : OpenClaim := { program := "ytjhgomacanffkaa", sum := "097500196d844099b3f6c4c65f905264af4034d52ab2a34e48b4b06ae9274d00", func := "foyer/foyerlaw27.GroupGrows", spec := "groupGrows", unfollowed := true, recurses := true, apart := false }
def GroupGrowsSaid : Prop := groupGrowsRow.holds Try.pinned (OpenSpec.ofChange groupGrowsSpec)

/-- ITS FALSE NEIGHBOUR: 'it returns false'. Refute it at one input. -/
def groupGrowsWrong : ChangeSpec := { name := "groupGrows", fn := fun _ => fun
  | [d1, d2] => { results := [.lit (.bool false)], args := [d1, d2] }
  | _ => none }
def GroupGrowsWrongFalsely : Prop := groupGrowsRow.holds Try.pinned (OpenSpec.ofChange groupGrowsWrong)

/-- 'foyerlaw27.GroupKnown': WHATEVER THE INPUT: true; the input reads as it did. -/
def groupKnownSpec : ChangeSpec := { name := "groupKnown", fn := fun _ => fun
  | [] => { results := [.lit (.bool true)], args := [] }
  | _ => none }
def groupKnownRow : OpenClaim := { program := "ytjhgomacanffkaa", sum := "097500196d844099b3f6c4c65f905264af4034d52ab2a34e48b4b06ae9274d00", func := "foyer/foyerlaw27.GroupKnown", spec := "groupKnown", unfollowed := true, recurses := true, apart := false }
def GroupKnownSaid : Prop := groupKnownRow.holds Try.pinned (OpenSpec.ofChange groupKnownSpec)

/-- ITS FALSE NEIGHBOUR: 'it returns false'. Refute it at one input. -/
def groupKnownWrong : ChangeSpec := { name := "groupKnown", fn := fun _ => fun
  | [] => { results := [.lit (.bool false)], args := [] }
  | _ => none }
def GroupKnownWrongFalsely : Prop := groupKnownRow.holds Try.pinned (OpenSpec.ofChange groupKnownWrong)

/- THE SECOND FORM. 'bulk': how many values and letters a reading holds, each counted each time it is reached (what is shared counts as often as it is met; a slice's spare places count too). A statement '..UptoSaid' is the law's where the arguments, and the package variables that the reading takes, are together of bulk at most 1048576: NARROWER than '..Said'. Prove '..Said' where nothing that the law and all that it calls make is longer than what came in: it says more and counts as full. Else prove '..UptoSaid'. A law counts once. -/
mutual
def uptoBulk {H : Type} : DataW H → Nat
  | .lit (.string bytes) => bytes.length + 1
  | .lit _ => 1
  | .nil => 1
  | .ptr d => uptoBulk d + 1
  | .slice elems spare => uptoBulkAll elems + uptoBulkAll spare + 1
  | .agg parts => uptoBulkAll parts + 1
  | .iface _ d => uptoBulk d + 1
  | .map entries => uptoBulkEntries entries + 1
  | .held _ => 1
def uptoBulkAll {H : Type} : List (DataW H) → Nat
  | [] => 0
  | d :: r => uptoBulk d + uptoBulkAll r
def uptoBulkEntries {H : Type} : List (Lit × DataW H) → Nat
  | [] => 0
  | x :: r => uptoBulkEntry x + uptoBulkEntries r
def uptoBulkEntry {H : Type} : Lit × DataW H → Nat
  | (.string bytes, d) => bytes.length + uptoBulk d + 1
  | (_, d) => uptoBulk d + 1
 end
def uptoSmall : (H : Type) → List (DataW H) → Bool := fun _ ds => decide (uptoBulkAll ds ≤ 1048576)
def OpenSpec.upto (s : _root_.Go.ChangeSpec) : _root_.Go.OpenSpec := { _root_.Go.OpenSpec.ofChange s with cond := some uptoSmall }

/-- 'foyerlaw27.GroupChosen', WHERE WHAT IT READS IS OF BULK AT MOST 1048576: true; the input reads as it did. -/
def groupChosenUptoRow : OpenClaim := { program := "ytjhgomacanffkaa", sum := "097500196d844099b3f6c4c65f905264af4034d52ab2a34e48b4b06ae9274d00", func := "foyer/foyerlaw27.GroupChosen", spec := "groupChosen", unfollowed := true, recurses := true, apart := false, narrowed := true }
def GroupChosenUptoSaid : Prop := groupChosenUptoRow.holds Try.pinned (OpenSpec.upto groupChosenSpec)

/-- 'foyerlaw27.GroupFits', WHERE WHAT IT READS IS OF BULK AT MOST 1048576: true; the input reads as it did. -/
def groupFitsUptoRow : OpenClaim := { program := "ytjhgomacanffkaa", sum := "097500196d844099b3f6c4c65f905264af4034d52ab2a34e48b4b06ae9274d00", func := "foyer/foyerlaw27.GroupFits", spec := "groupFits", unfollowed := true, recurses := true, apart := false, narrowed := true }
def GroupFitsUptoSaid : Prop := groupFitsUptoRow.holds Try.pinned (OpenSpec.upto groupFitsSpec)

/-- 'foyerlaw27.GroupGrows', WHERE WHAT IT READS IS OF BULK AT MOST 1048576: true; the input reads as it did. -/
def groupGrowsUptoRow : OpenClaim := { program := "ytjhgomacanffkaa", sum := "097500196d844099b3f6c4c65f905264af4034d52ab2a34e48b4b06ae9274d00", func := "foyer/foyerlaw27.GroupGrows", spec := "groupGrows", unfollowed := true, recurses := true, apart := false, narrowed := true }
def GroupGrowsUptoSaid : Prop := groupGrowsUptoRow.holds Try.pinned (OpenSpec.upto groupGrowsSpec)

/-- 'foyerlaw27.GroupKnown', WHERE WHAT IT READS IS OF BULK AT MOST 1048576: true; the input reads as it did. -/
def groupKnownUptoRow : OpenClaim := { program := "ytjhgomacanffkaa", sum := "097500196d844099b3f6c4c65f905264af4034d52ab2a34e48b4b06ae9274d00", func := "foyer/foyerlaw27.GroupKnown", spec := "groupKnown", unfollowed := true, recurses := true, apart := false, narrowed := true }
def GroupKnownUptoSaid : Prop := groupKnownUptoRow.holds Try.pinned (OpenSpec.upto groupKnownSpec)

end Rows
end Go.Proofs.Ytjhgomacanffkaa
