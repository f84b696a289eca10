/-
  No cell of these rows narrows 'for every input' (looked for: loops, veiled, ifaces, maps, wideKeys, modest, calm, conditions, laid).
  DERIVED. THE GIVEN ROWS OF THIS SEAT. 12 by the template 'for every input the law returns true; each argument reads behind the call as it read before'; 0 by the template 'total and deterministic' (their statements: YtpocjpodeahanaaTotals.lean).
  GIVEN WITH THE SEED: the statements are not yours to turn. If you find one false, say at which input.
  Laid BY PROGRAM, IN A SANDBOX (cutbox-rows.mjs): the forced cells as the released guide's own fill.sh prints them over the translation 2fef90b2b74da207… (all of the seat's roots in one cut). By AI agents, Wed Nov 11 2026. No macro, syntax, notation, axiom, sorry.
-/
import Derived.Test.YtpocjpodeahanaaChecked
import GoSem.Claim
import GoSem.ClaimJoined
import GoSem.ClaimMapViews
import Derived.JoinedTies
import Derived.KernelRfl
namespace Go.Proofs.Ytpocjpodeahanaa
/- THE CELL 'sum', in the pinned program and in every row, IS THE sha256 OF THE DUMP (.gsa) THAT YtpocjpodeahanaaProg.lean LOADS. Nothing in Lean hashes anything: it is a label: what it is worth is what the hold of that sum in a sandbox is worth. -/
noncomputable def Try.pinned : Pinned := { name := "ytpocjpodeahanaa", sum := "2fef90b2b74da20721e53318b616d66cf2e392c83a2ed90a03eac2e375e85a32", checked := Try.checked }
namespace Rows
def none {H : Type} : Left H := { results := [], args := [] }

/-- 'cairnlaw03.MatrixIdentities': WHATEVER THE INPUT: true; the input reads as it did. -/
def matrixIdentitiesSpec : ChangeSpec := { name := "matrixIdentities", fn := fun _ => fun
  | [d] => { results := [.lit (.bool true)], args := [d] }
  | _ => none }
def matrixIdentitiesRow : OpenClaim := { program := "ytpocjpodeahanaa", sum := "2fef90b2b74da20721e53318b616d66cf2e392c83a2ed90a03eac2e375e85a32", func := "cairn/cairnlaw03.MatrixIdentities", spec := "matrixIdentities", apart := false }
def MatrixIdentitiesSaid : Prop := matrixIdentitiesRow.holds Try.pinned (OpenSpec.ofChange matrixIdentitiesSpec)

/-- ITS FALSE NEIGHBOUR: 'it returns false'. Refute it at one input. -/
def matrixIdentitiesWrong : ChangeSpec := { name := "matrixIdentities", fn := fun _ => fun
  | [d] => { results := [.lit (.bool false)], args := [d] }
  | _ => none }
def MatrixIdentitiesWrongFalsely : Prop := matrixIdentitiesRow.holds Try.pinned (OpenSpec.ofChange matrixIdentitiesWrong)

/-- 'cairnlaw03.MatrixRows': WHATEVER THE INPUT: true; the input reads as it did. -/
def matrixRowsSpec : ChangeSpec := { name := "matrixRows", fn := fun _ => fun
  | [d] => { results := [.lit (.bool true)], args := [d] }
  | _ => none }
def matrixRowsRow : OpenClaim := { program := "ytpocjpodeahanaa", sum := "2fef90b2b74da20721e53318b616d66cf2e392c83a2ed90a03eac2e375e85a32", func := "cairn/cairnlaw03.MatrixRows", spec := "matrixRows", apart := false }
def MatrixRowsSaid : Prop := matrixRowsRow.holds Try.pinned (OpenSpec.ofChange matrixRowsSpec)

/-- ITS FALSE NEIGHBOUR: 'it returns false'. Refute it at one input. -/
def matrixRowsWrong : ChangeSpec := { name := "matrixRows", fn := fun _ => fun
  | [d] => { results := [.lit (.bool false)], args := [d] }
  | _ => none }
def MatrixRowsWrongFalsely : Prop := matrixRowsRow.holds Try.pinned (OpenSpec.ofChange matrixRowsWrong)

/-- 'cairnlaw03.MatrixPowers': WHATEVER THE INPUT: true; the input reads as it did. -/
def matrixPowersSpec : ChangeSpec := { name := "matrixPowers", fn := fun _ => fun
  | [d] => { results := [.lit (.bool true)], args := [d] }
  | _ => none }
def matrixPowersRow : OpenClaim := { program := "ytpocjpodeahanaa", sum := "2fef90b2b74da20721e53318b616d66cf2e392c83a2ed90a03eac2e375e85a32", func := "cairn/cairnlaw03.MatrixPowers", spec := "matrixPowers", unfollowed := true, recurses := true, apart := false }
def MatrixPowersSaid : Prop := matrixPowersRow.holds Try.pinned (OpenSpec.ofChange matrixPowersSpec)

/-- ITS FALSE NEIGHBOUR: 'it returns false'. Refute it at one input. -/
def matrixPowersWrong : ChangeSpec := { name := "matrixPowers", fn := fun _ => fun
  | [d] => { results := [.lit (.bool false)], args := [d] }
  | _ => none }
def MatrixPowersWrongFalsely : Prop := matrixPowersRow.holds Try.pinned (OpenSpec.ofChange matrixPowersWrong)

/-- 'cairnlaw03.MatrixTimes': WHATEVER THE INPUT: true; the input reads as it did. -/
def matrixTimesSpec : ChangeSpec := { name := "matrixTimes", fn := fun _ => fun
  | [d] => { results := [.lit (.bool true)], args := [d] }
  | _ => none }
def matrixTimesRow : OpenClaim := { program := "ytpocjpodeahanaa", sum := "2fef90b2b74da20721e53318b616d66cf2e392c83a2ed90a03eac2e375e85a32", func := "cairn/cairnlaw03.MatrixTimes", spec := "matrixTimes", unfollowed := true, recurses := true, apart := false }
def MatrixTimesSaid : Prop := matrixTimesRow.holds Try.pinned (OpenSpec.ofChange matrixTimesSpec)

/-- ITS FALSE NEIGHBOUR: 'it returns false'. Refute it at one input. -/
def matrixTimesWrong : ChangeSpec := { name := "matrixTimes", fn := fun _ => fun
  | [d] => { results := [.lit (.bool false)], args := [d] }
  | _ => none }
def MatrixTimesWrongFalsely : Prop := matrixTimesRow.holds Try.pinned (OpenSpec.ofChange matrixTimesWrong)

/-- 'cairnlaw03.MatrixRanks': WHATEVER THE INPUT: true; the input reads as it did. -/
def matrixRanksSpec : ChangeSpec := { name := "matrixRanks", fn := fun _ => fun
  | [d] => { results := [.lit (.bool true)], args := [d] }
  | _ => none }
def matrixRanksRow : OpenClaim := { program := "ytpocjpodeahanaa", sum := "2fef90b2b74da20721e53318b616d66cf2e392c83a2ed90a03eac2e375e85a32", func := "cairn/cairnlaw03.MatrixRanks", spec := "matrixRanks", unfollowed := true, recurses := true, apart := false }
def MatrixRanksSaid : Prop := matrixRanksRow.holds Try.pinned (OpenSpec.ofChange matrixRanksSpec)

/-- ITS FALSE NEIGHBOUR: 'it returns false'. Refute it at one input. -/
def matrixRanksWrong : ChangeSpec := { name := "matrixRanks", fn := fun _ => fun
  | [d] => { results := [.lit (.bool false)], args := [d] }
  | _ => none }
def MatrixRanksWrongFalsely : Prop := matrixRanksRow.holds Try.pinned (OpenSpec.ofChange matrixRanksWrong)

/-- 'cairnlaw03.MatrixSolves': WHATEVER THE INPUT: true; the input reads as it did. -/
def matrixSolvesSpec : ChangeSpec := { name := "matrixSolves", fn := fun _ => fun
  | [d] => { results := [.lit (.bool true)], args := [d] }
  | _ => none }
def matrixSolvesRow : OpenClaim := { program := "ytpocjpodeahanaa", sum := "2fef90b2b74da20721e53318b616d66cf2e392c83a2ed90a03eac2e375e85a32", func := "cairn/cairnlaw03.MatrixSolves", spec := "matrixSolves", unfollowed := true, recurses := true, apart := false }
def MatrixSolvesSaid : Prop := matrixSolvesRow.holds Try.pinned (OpenSpec.ofChange matrixSolvesSpec)

/-- ITS FALSE NEIGHBOUR: 'it returns false'. Refute it at one input. -/
def matrixSolvesWrong : ChangeSpec := { name := "matrixSolves", fn := fun _ => fun
  | [d] => { results := [.lit (.bool false)], args := [d] }
  | _ => none }
def MatrixSolvesWrongFalsely : Prop := matrixSolvesRow.holds Try.pinned (OpenSpec.ofChange matrixSolvesWrong)

/-- 'cairnlaw03.MatrixInverts': WHATEVER THE INPUT: true; the input reads as it did. -/
def matrixInvertsSpec : ChangeSpec := { name := "matrixInverts", fn := fun _ => fun
  | [d] => { results := [.lit (.bool true)], args := [d] }
  | _ => none }
def matrixInvertsRow : OpenClaim := { program := "ytpocjpodeahanaa", sum := "2fef90b2b74da20721e53318b616d66cf2e392c83a2ed90a03eac2e375e85a32", func := "cairn/cairnlaw03.MatrixInverts", spec := "matrixInverts", unfollowed := true, recurses := true, apart := false }
def MatrixInvertsSaid : Prop := matrixInvertsRow.holds Try.pinned (OpenSpec.ofChange matrixInvertsSpec)

/-- ITS FALSE NEIGHBOUR: 'it returns false'. Refute it at one input. -/
def matrixInvertsWrong : ChangeSpec := { name := "matrixInverts", fn := fun _ => fun
  | [d] => { results := [.lit (.bool false)], args := [d] }
  | _ => none }
def MatrixInvertsWrongFalsely : Prop := matrixInvertsRow.holds Try.pinned (OpenSpec.ofChange matrixInvertsWrong)

/-- 'cairnlaw03.MatrixLeaves': WHATEVER THE INPUT: true; the input reads as it did. -/
def matrixLeavesSpec : ChangeSpec := { name := "matrixLeaves", fn := fun _ => fun
  | [d] => { results := [.lit (.bool true)], args := [d] }
  | _ => none }
def matrixLeavesRow : OpenClaim := { program := "ytpocjpodeahanaa", sum := "2fef90b2b74da20721e53318b616d66cf2e392c83a2ed90a03eac2e375e85a32", func := "cairn/cairnlaw03.MatrixLeaves", spec := "matrixLeaves", unfollowed := true, recurses := true, apart := false }
def MatrixLeavesSaid : Prop := matrixLeavesRow.holds Try.pinned (OpenSpec.ofChange matrixLeavesSpec)

/-- ITS FALSE NEIGHBOUR: 'it returns false'. Refute it at one input. -/
def matrixLeavesWrong : ChangeSpec := { name := "matrixLeaves", fn := fun _ => fun
  | [d] => { results := [.lit (.bool false)], args := [d] }
  | _ => none }
def MatrixLeavesWrongFalsely : Prop := matrixLeavesRow.holds Try.pinned (OpenSpec.ofChange matrixLeavesWrong)

/-- 'cairnlaw03.MatrixGroups': WHATEVER THE INPUT: true; the input reads as it did. -/
def matrixGroupsSpec : ChangeSpec := { name := "matrixGroups", fn := fun _ => fun
  | [d] => { results := [.lit (.bool true)], args := [d] }
  | _ => none }
def matrixGroupsRow : OpenClaim := { program := "ytpocjpodeahanaa", sum := "2fef90b2b74da20721e53318b616d66cf2e392c83a2ed90a03eac2e375e85a32", func := "cairn/cairnlaw03.MatrixGroups", spec := "matrixGroups", unfollowed := true, recurses := true, apart := false }
def MatrixGroupsSaid : Prop := matrixGroupsRow.holds Try.pinned (OpenSpec.ofChange matrixGroupsSpec)

/-- ITS FALSE NEIGHBOUR: 'it returns false'. Refute it at one input. -/
def matrixGroupsWrong : ChangeSpec := { name := "matrixGroups", fn := fun _ => fun
  | [d] => { results := [.lit (.bool false)], args := [d] }
  | _ => none }
def MatrixGroupsWrongFalsely : Prop := matrixGroupsRow.holds Try.pinned (OpenSpec.ofChange matrixGroupsWrong)

/-- 'cairnlaw03.MatrixUndoes': WHATEVER THE INPUT: true; the input reads as it did. -/
def matrixUndoesSpec : ChangeSpec := { name := "matrixUndoes", fn := fun _ => fun
  | [d] => { results := [.lit (.bool true)], args := [d] }
  | _ => none }
def matrixUndoesRow : OpenClaim := { program := "ytpocjpodeahanaa", sum := "2fef90b2b74da20721e53318b616d66cf2e392c83a2ed90a03eac2e375e85a32", func := "cairn/cairnlaw03.MatrixUndoes", spec := "matrixUndoes", unfollowed := true, recurses := true, apart := false }
def MatrixUndoesSaid : Prop := matrixUndoesRow.holds Try.pinned (OpenSpec.ofChange matrixUndoesSpec)

/-- ITS FALSE NEIGHBOUR: 'it returns false'. Refute it at one input. -/
def matrixUndoesWrong : ChangeSpec := { name := "matrixUndoes", fn := fun _ => fun
  | [d] => { results := [.lit (.bool false)], args := [d] }
  | _ => none }
def MatrixUndoesWrongFalsely : Prop := matrixUndoesRow.holds Try.pinned (OpenSpec.ofChange matrixUndoesWrong)

/-- 'cairnlaw03.MatrixApart': WHATEVER THE INPUT: true; the input reads as it did. -/
def matrixApartSpec : ChangeSpec := { name := "matrixApart", fn := fun _ => fun
  | [d] => { results := [.lit (.bool true)], args := [d] }
  | _ => none }
def matrixApartRow : OpenClaim := { program := "ytpocjpodeahanaa", sum := "2fef90b2b74da20721e53318b616d66cf2e392c83a2ed90a03eac2e375e85a32", func := "cairn/cairnlaw03.MatrixApart", spec := "matrixApart", unfollowed := true, recurses := true, apart := false }
def MatrixApartSaid : Prop := matrixApartRow.holds Try.pinned (OpenSpec.ofChange matrixApartSpec)

/-- ITS FALSE NEIGHBOUR: 'it returns false'. Refute it at one input. -/
def matrixApartWrong : ChangeSpec := { name := "matrixApart", fn := fun _ => fun
  | [d] => { results := [.lit (.bool false)], args := [d] }
  | _ => none }
def MatrixApartWrongFalsely : Prop := matrixApartRow.holds Try.pinned (OpenSpec.ofChange matrixApartWrong)

/-- 'cairnlaw03.MatrixPoints': WHATEVER THE INPUT: true; the input reads as it did. -/
def matrixPointsSpec : ChangeSpec := { name := "matrixPoints", fn := fun _ => fun
  | [d] => { results := [.lit (.bool true)], args := [d] }
  | _ => none }
def matrixPointsRow : OpenClaim := { program := "ytpocjpodeahanaa", sum := "2fef90b2b74da20721e53318b616d66cf2e392c83a2ed90a03eac2e375e85a32", func := "cairn/cairnlaw03.MatrixPoints", spec := "matrixPoints", unfollowed := true, recurses := true, apart := false }
def MatrixPointsSaid : Prop := matrixPointsRow.holds Try.pinned (OpenSpec.ofChange matrixPointsSpec)

/-- ITS FALSE NEIGHBOUR: 'it returns false'. Refute it at one input. -/
def matrixPointsWrong : ChangeSpec := { name := "matrixPoints", fn := fun _ => fun
  | [d] => { results := [.lit (.bool false)], args := [d] }
  | _ => none }
def MatrixPointsWrongFalsely : Prop := matrixPointsRow.holds Try.pinned (OpenSpec.ofChange matrixPointsWrong)

/- THE SECOND FORM. 'bulk': how many values and letters a reading holds, each counted each time it is reached (what is shared counts as often as it is met; a slice's spare places count too). A statement '..UptoSaid' is the law's where the arguments, and the package variables that the reading takes, are together of bulk at most 1048576: NARROWER than '..Said'. Prove '..Said' where nothing that the law and all that it calls make is longer than what came in: it says more and counts as full. Else prove '..UptoSaid'. A law counts once. -/
mutual
def uptoBulk {H : Type} : DataW H → Nat
  | .lit (.string bytes) => bytes.length + 1
  | .lit _ => 1
  | .nil => 1
  | .ptr d => uptoBulk d + 1
  | .slice elems spare => uptoBulkAll elems + uptoBulkAll spare + 1
  | .agg parts => uptoBulkAll parts + 1
  | .iface _ d => uptoBulk d + 1
  | .map entries => uptoBulkEntries entries + 1
  | .held _ => 1
def uptoBulkAll {H : Type} : List (DataW H) → Nat
  | [] => 0
  | d :: r => uptoBulk d + uptoBulkAll r
def uptoBulkEntries {H : Type} : List (Lit × DataW H) → Nat
  | [] => 0
  | x :: r => uptoBulkEntry x + uptoBulkEntries r
def uptoBulkEntry {H : Type} : Lit × DataW H → Nat
  | (.string bytes, d) => bytes.length + uptoBulk d + 1
  | (_, d) => uptoBulk d + 1
 end
def uptoSmall : (H : Type) → List (DataW H) → Bool := fun _ ds => decide (uptoBulkAll ds ≤ 1048576)
def OpenSpec.upto (s : _root_.Go.ChangeSpec) : _root_.Go.OpenSpec := { _root_.Go.OpenSpec.ofChange s with cond := some uptoSmall }

/-- 'cairnlaw03.MatrixIdentities', WHERE WHAT IT READS IS OF BULK AT MOST 1048576: true; the input reads as it did. -/
def matrixIdentitiesUptoRow : OpenClaim := { program := "ytpocjpodeahanaa", sum := "2fef90b2b74da20721e53318b616d66cf2e392c83a2ed90a03eac2e375e85a32", func := "cairn/cairnlaw03.MatrixIdentities", spec := "matrixIdentities", apart := false, narrowed := true }
def MatrixIdentitiesUptoSaid : Prop := matrixIdentitiesUptoRow.holds Try.pinned (OpenSpec.upto matrixIdentitiesSpec)

/-- 'cairnlaw03.MatrixRows', WHERE WHAT IT READS IS OF BULK AT MOST 1048576: true; the input reads as it did. -/
def matrixRowsUptoRow : OpenClaim := { program := "ytpocjpodeahanaa", sum := "2fef90b2b74da20721e53318b616d66cf2e392c83a2ed90a03eac2e375e85a32", func := "cairn/cairnlaw03.MatrixRows", spec := "matrixRows", apart := false, narrowed := true }
def MatrixRowsUptoSaid : Prop := matrixRowsUptoRow.holds Try.pinned (OpenSpec.upto matrixRowsSpec)

/-- 'cairnlaw03.MatrixPowers', WHERE WHAT IT READS IS OF BULK AT MOST 1048576: true; the input reads as it did. -/
def matrixPowersUptoRow : OpenClaim := { program := "ytpocjpodeahanaa", sum := "2fef90b2b74da20721e53318b616d66cf2e392c83a2ed90a03eac2e375e85a32", func := "cairn/cairnlaw03.MatrixPowers", spec := "matrixPowers", unfollowed := true, recurses := true, apart := false, narrowed := true }
def MatrixPowersUptoSaid : Prop := matrixPowersUptoRow.holds Try.pinned (OpenSpec.upto matrixPowersSpec)

/-- 'cairnlaw03.MatrixTimes', WHERE WHAT IT READS IS OF BULK AT MOST 1048576: true; the input reads as it did. -/
def matrixTimesUptoRow : OpenClaim := { program := "ytpocjpodeahanaa", sum := "2fef90b2b74da20721e53318b616d66cf2e392c83a2ed90a03eac2e375e85a32", func := "cairn/cairnlaw03.MatrixTimes", spec := "matrixTimes", unfollowed := true, recurses := true, apart := false, narrowed := true }
def MatrixTimesUptoSaid : Prop := matrixTimesUptoRow.holds Try.pinned (OpenSpec.upto matrixTimesSpec)

/-- 'cairnlaw03.MatrixRanks', WHERE WHAT IT READS IS OF BULK AT MOST 1048576: true; the input reads as it did. -/
def matrixRanksUptoRow : OpenClaim := { program := "ytpocjpodeahanaa", sum := "2fef90b2b74da20721e53318b616d66cf2e392c83a2ed90a03eac2e375e85a32", func := "cairn/cairnlaw03.MatrixRanks", spec := "matrixRanks", unfollowed := true, recurses := true, apart := false, narrowed := true }
def MatrixRanksUptoSaid : Prop := matrixRanksUptoRow.holds Try.pinned (OpenSpec.upto matrixRanksSpec)

/-- 'cairnlaw03.MatrixSolves', WHERE WHAT IT READS IS OF BULK AT MOST 1048576: true; the input reads as it did. -/
def matrixSolvesUptoRow : OpenClaim := { program := "ytpocjpodeahanaa", sum := "2fef90b2b74da20721e53318b616d66cf2e392c83a2ed90a03eac2e375e85a32", func := "cairn/cairnlaw03.MatrixSolves", spec := "matrixSolves", unfollowed := true, recurses := true, apart := false, narrowed := true }
def MatrixSolvesUptoSaid : Prop := matrixSolvesUptoRow.holds Try.pinned (OpenSpec.upto matrixSolvesSpec)

/-- 'cairnlaw03.MatrixInverts', WHERE WHAT IT READS IS OF BULK AT MOST 1048576: true; the input reads as it did. -/
def matrixInvertsUptoRow : OpenClaim := { program := "ytpocjpodeahanaa", sum := "2fef90b2b74da20721e53318b616d66cf2e392c83a2ed90a03eac2e375e85a32", func := "cairn/cairnlaw03.MatrixInverts", spec := "matrixInverts", unfollowed := true, recurses := true, apart := false, narrowed := true }
def MatrixInvertsUptoSaid : Prop := matrixInvertsUptoRow.holds Try.pinned (OpenSpec.upto matrixInvertsSpec)

/-- 'cairnlaw03.MatrixLeaves', WHERE WHAT IT READS IS OF BULK AT MOST 1048576: true; the input reads as it did. -/
def matrixLeavesUptoRow : OpenClaim := { program := "ytpocjpodeahanaa", sum := "2fef90b2b74da20721e53318b616d66cf2e392c83a2ed90a03eac2e375e85a32", func := "cairn/cairnlaw03.MatrixLeaves", spec := "matrixLeaves", unfollowed := true, recurses := true, apart := false, narrowed := true }
def MatrixLeavesUptoSaid : Prop := matrixLeavesUptoRow.holds Try.pinned (OpenSpec.upto matrixLeavesSpec)

/-- 'cairnlaw03.MatrixGroups', WHERE WHAT IT READS IS OF BULK AT MOST 1048576: true; the input reads as it did. -/
def matrixGroupsUptoRow : OpenClaim := { program := "ytpocjpodeahanaa", sum := "2fef90b2b74da20721e53318b616d66cf2e392c83a2ed90a03eac2e375e85a32", func := "cairn/cairnlaw03.MatrixGroups", spec := "matrixGroups", unfollowed := true, recurses := true, apart := false, narrowed := true }
def MatrixGroupsUptoSaid : Prop := matrixGroupsUptoRow.holds Try.pinned (OpenSpec.upto matrixGroupsSpec)

/-- 'cairnlaw03.MatrixUndoes', WHERE WHAT IT READS IS OF BULK AT MOST 1048576: true; the input reads as it did. -/
def matrixUndoesUptoRow : OpenClaim := { program := "ytpocjpodeahanaa", sum := "2fef90b2b74da20721e53318b616d66cf2e392c83a2ed90a03eac2e375e85a32", func := "cairn/cairnlaw03.MatrixUndoes", spec := "matrixUndoes", unfollowed := true, recurses := true, apart := false, narrowed := true }
def MatrixUndoesUptoSaid : Prop := matrixUndoesUptoRow.holds Try.pinned (OpenSpec.upto matrixUndoesSpec)

/-- 'cairnlaw03.MatrixApart', WHERE WHAT IT READS IS OF BULK AT MOST 1048576: true; the input reads as it did. -/
def matrixApartUptoRow : OpenClaim := { program := "ytpocjpodeahanaa", sum := "2fef90b2b74da20721e53318b616d66cf2e392c83a2ed90a03eac2e375e85a32", func := "cairn/cairnlaw03.MatrixApart", spec := "matrixApart", unfollowed := true, recurses := true, apart := false, narrowed := true }
def MatrixApartUptoSaid : Prop := matrixApartUptoRow.holds Try.pinned (OpenSpec.upto matrixApartSpec)

/-- 'cairnlaw03.MatrixPoints', WHERE WHAT IT READS IS OF BULK AT MOST 1048576: true; the input reads as it did. -/
def matrixPointsUptoRow : OpenClaim := { program := "ytpocjpodeahanaa", sum := "2fef90b2b74da20721e53318b616d66cf2e392c83a2ed90a03eac2e375e85a32", func := "cairn/cairnlaw03.MatrixPoints", spec := "matrixPoints", unfollowed := true, recurses := true, apart := false, narrowed := true }
def MatrixPointsUptoSaid : Prop := matrixPointsUptoRow.holds Try.pinned (OpenSpec.upto matrixPointsSpec)

end Rows
end Go.Proofs.Ytpocjpodeahanaa
