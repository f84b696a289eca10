/-
  No cell of these rows narrows 'for every input' (looked for: loops, veiled, ifaces, maps, wideKeys, modest, calm, conditions, laid).
  DERIVED. THE GIVEN ROWS OF THIS SEAT. 12 by the template 'for every input the law returns true; each argument reads behind the call as it read before'; 0 by the template 'total and deterministic' (their statements: YthodpgkelmalmaaTotals.lean).
  GIVEN WITH THE SEED: the statements are not yours to turn. If you find one false, say at which input.
  Laid BY PROGRAM, IN A SANDBOX (cutbox-rows.mjs): the forced cells as the released guide's own fill.sh prints them over the translation 32f6300de810647d… (all of the seat's roots in one cut). By AI agents, Wed Nov 11 2026. No macro, syntax, notation, axiom, sorry.
-/
import Derived.Test.YthodpgkelmalmaaChecked
import GoSem.Claim
import GoSem.ClaimJoined
import GoSem.ClaimMapViews
import Derived.JoinedTies
import Derived.KernelRfl
namespace Go.Proofs.Ythodpgkelmalmaa
/- THE CELL 'sum', in the pinned program and in every row, IS THE sha256 OF THE DUMP (.gsa) THAT YthodpgkelmalmaaProg.lean LOADS. Nothing in Lean hashes anything: it is a label: what it is worth is what the hold of that sum in a sandbox is worth. -/
noncomputable def Try.pinned : Pinned := { name := "ythodpgkelmalmaa", sum := "32f6300de810647da4c71628360884a36f2c7fa6e936a30d21cf790976e5cc77", checked := Try.checked }
namespace Rows
def none {H : Type} : Left H := { results := [], args := [] }

/-- 'cairnlaw04.CodeNames': WHATEVER THE INPUT: true; the input reads as it did. -/
def codeNamesSpec : ChangeSpec := { name := "codeNames", fn := fun _ => fun
  | [] => { results := [.lit (.bool true)], args := [] }
  | _ => none }
def codeNamesRow : OpenClaim := { program := "ythodpgkelmalmaa", sum := "32f6300de810647da4c71628360884a36f2c7fa6e936a30d21cf790976e5cc77", func := "cairn/cairnlaw04.CodeNames", spec := "codeNames", apart := false }
def CodeNamesSaid : Prop := codeNamesRow.holds Try.pinned (OpenSpec.ofChange codeNamesSpec)

/-- ITS FALSE NEIGHBOUR: 'it returns false'. Refute it at one input. -/
def codeNamesWrong : ChangeSpec := { name := "codeNames", fn := fun _ => fun
  | [] => { results := [.lit (.bool false)], args := [] }
  | _ => none }
def CodeNamesWrongFalsely : Prop := codeNamesRow.holds Try.pinned (OpenSpec.ofChange codeNamesWrong)

/-- 'cairnlaw04.CodeEncodes': WHATEVER THE INPUT: true; the input reads as it did. -/
def codeEncodesSpec : ChangeSpec := { name := "codeEncodes", fn := fun _ => fun
  | [d] => { results := [.lit (.bool true)], args := [d] }
  | _ => none }
def codeEncodesRow : OpenClaim := { program := "ythodpgkelmalmaa", sum := "32f6300de810647da4c71628360884a36f2c7fa6e936a30d21cf790976e5cc77", func := "cairn/cairnlaw04.CodeEncodes", spec := "codeEncodes", apart := false }
def CodeEncodesSaid : Prop := codeEncodesRow.holds Try.pinned (OpenSpec.ofChange codeEncodesSpec)

/-- ITS FALSE NEIGHBOUR: 'it returns false'. Refute it at one input. -/
def codeEncodesWrong : ChangeSpec := { name := "codeEncodes", fn := fun _ => fun
  | [d] => { results := [.lit (.bool false)], args := [d] }
  | _ => none }
def CodeEncodesWrongFalsely : Prop := codeEncodesRow.holds Try.pinned (OpenSpec.ofChange codeEncodesWrong)

/-- 'cairnlaw04.CodeFar': WHATEVER THE INPUT: true; the input reads as it did. -/
def codeFarSpec : ChangeSpec := { name := "codeFar", fn := fun _ => fun
  | [d1, d2] => { results := [.lit (.bool true)], args := [d1, d2] }
  | _ => none }
def codeFarRow : OpenClaim := { program := "ythodpgkelmalmaa", sum := "32f6300de810647da4c71628360884a36f2c7fa6e936a30d21cf790976e5cc77", func := "cairn/cairnlaw04.CodeFar", spec := "codeFar", apart := false }
def CodeFarSaid : Prop := codeFarRow.holds Try.pinned (OpenSpec.ofChange codeFarSpec)

/-- ITS FALSE NEIGHBOUR: 'it returns false'. Refute it at one input. -/
def codeFarWrong : ChangeSpec := { name := "codeFar", fn := fun _ => fun
  | [d1, d2] => { results := [.lit (.bool false)], args := [d1, d2] }
  | _ => none }
def CodeFarWrongFalsely : Prop := codeFarRow.holds Try.pinned (OpenSpec.ofChange codeFarWrong)

/-- 'cairnlaw04.CodeTurns': WHATEVER THE INPUT: true; the input reads as it did. -/
def codeTurnsSpec : ChangeSpec := { name := "codeTurns", fn := fun _ => fun
  | [d] => { results := [.lit (.bool true)], args := [d] }
  | _ => none }
def codeTurnsRow : OpenClaim := { program := "ythodpgkelmalmaa", sum := "32f6300de810647da4c71628360884a36f2c7fa6e936a30d21cf790976e5cc77", func := "cairn/cairnlaw04.CodeTurns", spec := "codeTurns", apart := false }
def CodeTurnsSaid : Prop := codeTurnsRow.holds Try.pinned (OpenSpec.ofChange codeTurnsSpec)

/-- ITS FALSE NEIGHBOUR: 'it returns false'. Refute it at one input. -/
def codeTurnsWrong : ChangeSpec := { name := "codeTurns", fn := fun _ => fun
  | [d] => { results := [.lit (.bool false)], args := [d] }
  | _ => none }
def CodeTurnsWrongFalsely : Prop := codeTurnsRow.holds Try.pinned (OpenSpec.ofChange codeTurnsWrong)

/-- 'cairnlaw04.CodeChecks': WHATEVER THE INPUT: true; the input reads as it did. -/
def codeChecksSpec : ChangeSpec := { name := "codeChecks", fn := fun _ => fun
  | [d] => { results := [.lit (.bool true)], args := [d] }
  | _ => none }
def codeChecksRow : OpenClaim := { program := "ythodpgkelmalmaa", sum := "32f6300de810647da4c71628360884a36f2c7fa6e936a30d21cf790976e5cc77", func := "cairn/cairnlaw04.CodeChecks", spec := "codeChecks", apart := false }
def CodeChecksSaid : Prop := codeChecksRow.holds Try.pinned (OpenSpec.ofChange codeChecksSpec)

/-- ITS FALSE NEIGHBOUR: 'it returns false'. Refute it at one input. -/
def codeChecksWrong : ChangeSpec := { name := "codeChecks", fn := fun _ => fun
  | [d] => { results := [.lit (.bool false)], args := [d] }
  | _ => none }
def CodeChecksWrongFalsely : Prop := codeChecksRow.holds Try.pinned (OpenSpec.ofChange codeChecksWrong)

/-- 'cairnlaw04.CodeLinear': WHATEVER THE INPUT: true; the input reads as it did. -/
def codeLinearSpec : ChangeSpec := { name := "codeLinear", fn := fun _ => fun
  | [d1, d2, d3] => { results := [.lit (.bool true)], args := [d1, d2, d3] }
  | _ => none }
def codeLinearRow : OpenClaim := { program := "ythodpgkelmalmaa", sum := "32f6300de810647da4c71628360884a36f2c7fa6e936a30d21cf790976e5cc77", func := "cairn/cairnlaw04.CodeLinear", spec := "codeLinear", apart := false }
def CodeLinearSaid : Prop := codeLinearRow.holds Try.pinned (OpenSpec.ofChange codeLinearSpec)

/-- ITS FALSE NEIGHBOUR: 'it returns false'. Refute it at one input. -/
def codeLinearWrong : ChangeSpec := { name := "codeLinear", fn := fun _ => fun
  | [d1, d2, d3] => { results := [.lit (.bool false)], args := [d1, d2, d3] }
  | _ => none }
def CodeLinearWrongFalsely : Prop := codeLinearRow.holds Try.pinned (OpenSpec.ofChange codeLinearWrong)

/-- 'cairnlaw04.CodeRebuilds': WHATEVER THE INPUT: true; the input reads as it did. -/
def codeRebuildsSpec : ChangeSpec := { name := "codeRebuilds", fn := fun _ => fun
  | [d] => { results := [.lit (.bool true)], args := [d] }
  | _ => none }
def codeRebuildsRow : OpenClaim := { program := "ythodpgkelmalmaa", sum := "32f6300de810647da4c71628360884a36f2c7fa6e936a30d21cf790976e5cc77", func := "cairn/cairnlaw04.CodeRebuilds", spec := "codeRebuilds", unfollowed := true, recurses := true, apart := false }
def CodeRebuildsSaid : Prop := codeRebuildsRow.holds Try.pinned (OpenSpec.ofChange codeRebuildsSpec)

/-- ITS FALSE NEIGHBOUR: 'it returns false'. Refute it at one input. -/
def codeRebuildsWrong : ChangeSpec := { name := "codeRebuilds", fn := fun _ => fun
  | [d] => { results := [.lit (.bool false)], args := [d] }
  | _ => none }
def CodeRebuildsWrongFalsely : Prop := codeRebuildsRow.holds Try.pinned (OpenSpec.ofChange codeRebuildsWrong)

/-- 'cairnlaw04.CodeAnyK': WHATEVER THE INPUT: true; the input reads as it did. -/
def codeAnyKSpec : ChangeSpec := { name := "codeAnyK", fn := fun _ => fun
  | [d] => { results := [.lit (.bool true)], args := [d] }
  | _ => none }
def codeAnyKRow : OpenClaim := { program := "ythodpgkelmalmaa", sum := "32f6300de810647da4c71628360884a36f2c7fa6e936a30d21cf790976e5cc77", func := "cairn/cairnlaw04.CodeAnyK", spec := "codeAnyK", unfollowed := true, recurses := true, apart := false }
def CodeAnyKSaid : Prop := codeAnyKRow.holds Try.pinned (OpenSpec.ofChange codeAnyKSpec)

/-- ITS FALSE NEIGHBOUR: 'it returns false'. Refute it at one input. -/
def codeAnyKWrong : ChangeSpec := { name := "codeAnyK", fn := fun _ => fun
  | [d] => { results := [.lit (.bool false)], args := [d] }
  | _ => none }
def CodeAnyKWrongFalsely : Prop := codeAnyKRow.holds Try.pinned (OpenSpec.ofChange codeAnyKWrong)

/-- 'cairnlaw04.CodeOpen': WHATEVER THE INPUT: true; the input reads as it did. -/
def codeOpenSpec : ChangeSpec := { name := "codeOpen", fn := fun _ => fun
  | [d1, d2] => { results := [.lit (.bool true)], args := [d1, d2] }
  | _ => none }
def codeOpenRow : OpenClaim := { program := "ythodpgkelmalmaa", sum := "32f6300de810647da4c71628360884a36f2c7fa6e936a30d21cf790976e5cc77", func := "cairn/cairnlaw04.CodeOpen", spec := "codeOpen", unfollowed := true, recurses := true, apart := false }
def CodeOpenSaid : Prop := codeOpenRow.holds Try.pinned (OpenSpec.ofChange codeOpenSpec)

/-- ITS FALSE NEIGHBOUR: 'it returns false'. Refute it at one input. -/
def codeOpenWrong : ChangeSpec := { name := "codeOpen", fn := fun _ => fun
  | [d1, d2] => { results := [.lit (.bool false)], args := [d1, d2] }
  | _ => none }
def CodeOpenWrongFalsely : Prop := codeOpenRow.holds Try.pinned (OpenSpec.ofChange codeOpenWrong)

/-- 'cairnlaw04.CodeMatrix': WHATEVER THE INPUT: true; the input reads as it did. -/
def codeMatrixSpec : ChangeSpec := { name := "codeMatrix", fn := fun _ => fun
  | [d] => { results := [.lit (.bool true)], args := [d] }
  | _ => none }
def codeMatrixRow : OpenClaim := { program := "ythodpgkelmalmaa", sum := "32f6300de810647da4c71628360884a36f2c7fa6e936a30d21cf790976e5cc77", func := "cairn/cairnlaw04.CodeMatrix", spec := "codeMatrix", unfollowed := true, recurses := true, apart := false }
def CodeMatrixSaid : Prop := codeMatrixRow.holds Try.pinned (OpenSpec.ofChange codeMatrixSpec)

/-- ITS FALSE NEIGHBOUR: 'it returns false'. Refute it at one input. -/
def codeMatrixWrong : ChangeSpec := { name := "codeMatrix", fn := fun _ => fun
  | [d] => { results := [.lit (.bool false)], args := [d] }
  | _ => none }
def CodeMatrixWrongFalsely : Prop := codeMatrixRow.holds Try.pinned (OpenSpec.ofChange codeMatrixWrong)

/-- 'cairnlaw04.CodeMemory': WHATEVER THE INPUT: true; the input reads as it did. -/
def codeMemorySpec : ChangeSpec := { name := "codeMemory", fn := fun _ => fun
  | [d1, d2] => { results := [.lit (.bool true)], args := [d1, d2] }
  | _ => none }
def codeMemoryRow : OpenClaim := { program := "ythodpgkelmalmaa", sum := "32f6300de810647da4c71628360884a36f2c7fa6e936a30d21cf790976e5cc77", func := "cairn/cairnlaw04.CodeMemory", spec := "codeMemory", unfollowed := true, recurses := true, apart := false }
def CodeMemorySaid : Prop := codeMemoryRow.holds Try.pinned (OpenSpec.ofChange codeMemorySpec)

/-- ITS FALSE NEIGHBOUR: 'it returns false'. Refute it at one input. -/
def codeMemoryWrong : ChangeSpec := { name := "codeMemory", fn := fun _ => fun
  | [d1, d2] => { results := [.lit (.bool false)], args := [d1, d2] }
  | _ => none }
def CodeMemoryWrongFalsely : Prop := codeMemoryRow.holds Try.pinned (OpenSpec.ofChange codeMemoryWrong)

/-- 'cairnlaw04.CodeNews': WHATEVER THE INPUT: true; the input reads as it did. -/
def codeNewsSpec : ChangeSpec := { name := "codeNews", fn := fun _ => fun
  | [d1, d2] => { results := [.lit (.bool true)], args := [d1, d2] }
  | _ => none }
def codeNewsRow : OpenClaim := { program := "ythodpgkelmalmaa", sum := "32f6300de810647da4c71628360884a36f2c7fa6e936a30d21cf790976e5cc77", func := "cairn/cairnlaw04.CodeNews", spec := "codeNews", unfollowed := true, recurses := true, apart := false }
def CodeNewsSaid : Prop := codeNewsRow.holds Try.pinned (OpenSpec.ofChange codeNewsSpec)

/-- ITS FALSE NEIGHBOUR: 'it returns false'. Refute it at one input. -/
def codeNewsWrong : ChangeSpec := { name := "codeNews", fn := fun _ => fun
  | [d1, d2] => { results := [.lit (.bool false)], args := [d1, d2] }
  | _ => none }
def CodeNewsWrongFalsely : Prop := codeNewsRow.holds Try.pinned (OpenSpec.ofChange codeNewsWrong)

/- THE SECOND FORM. 'bulk': how many values and letters a reading holds, each counted each time it is reached (what is shared counts as often as it is met; a slice's spare places count too). A statement '..UptoSaid' is the law's where the arguments, and the package variables that the reading takes, are together of bulk at most 1048576: NARROWER than '..Said'. Prove '..Said' where nothing that the law and all that it calls make is longer than what came in: it says more and counts as full. Else prove '..UptoSaid'. A law counts once. -/
mutual
def uptoBulk {H : Type} : DataW H → Nat
  | .lit (.string bytes) => bytes.length + 1
  | .lit _ => 1
  | .nil => 1
  | .ptr d => uptoBulk d + 1
  | .slice elems spare => uptoBulkAll elems + uptoBulkAll spare + 1
  | .agg parts => uptoBulkAll parts + 1
  | .iface _ d => uptoBulk d + 1
  | .map entries => uptoBulkEntries entries + 1
  | .held _ => 1
def uptoBulkAll {H : Type} : List (DataW H) → Nat
  | [] => 0
  | d :: r => uptoBulk d + uptoBulkAll r
def uptoBulkEntries {H : Type} : List (Lit × DataW H) → Nat
  | [] => 0
  | x :: r => uptoBulkEntry x + uptoBulkEntries r
def uptoBulkEntry {H : Type} : Lit × DataW H → Nat
  | (.string bytes, d) => bytes.length + uptoBulk d + 1
  | (_, d) => uptoBulk d + 1
 end
def uptoSmall : (H : Type) → List (DataW H) → Bool := fun _ ds => decide (uptoBulkAll ds ≤ 1048576)
def OpenSpec.upto (s : _root_.Go.ChangeSpec) : _root_.Go.OpenSpec := { _root_.Go.OpenSpec.ofChange s with cond := some uptoSmall }

/-- 'cairnlaw04.CodeNames', WHERE WHAT IT READS IS OF BULK AT MOST 1048576: true; the input reads as it did. -/
def codeNamesUptoRow : OpenClaim := { program := "ythodpgkelmalmaa", sum := "32f6300de810647da4c71628360884a36f2c7fa6e936a30d21cf790976e5cc77", func := "cairn/cairnlaw04.CodeNames", spec := "codeNames", apart := false, narrowed := true }
def CodeNamesUptoSaid : Prop := codeNamesUptoRow.holds Try.pinned (OpenSpec.upto codeNamesSpec)

/-- 'cairnlaw04.CodeEncodes', WHERE WHAT IT READS IS OF BULK AT MOST 1048576: true; the input reads as it did. -/
def codeEncodesUptoRow : OpenClaim := { program := "ythodpgkelmalmaa", sum := "32f6300de810647da4c71628360884a36f2c7fa6e936a30d21cf790976e5cc77", func := "cairn/cairnlaw04.CodeEncodes", spec := "codeEncodes", apart := false, narrowed := true }
def CodeEncodesUptoSaid : Prop := codeEncodesUptoRow.holds Try.pinned (OpenSpec.upto codeEncodesSpec)

/-- 'cairnlaw04.CodeFar', WHERE WHAT IT READS IS OF BULK AT MOST 1048576: true; the input reads as it did. -/
def codeFarUptoRow : OpenClaim := { program := "ythodpgkelmalmaa", sum := "32f6300de810647da4c71628360884a36f2c7fa6e936a30d21cf790976e5cc77", func := "cairn/cairnlaw04.CodeFar", spec := "codeFar", apart := false, narrowed := true }
def CodeFarUptoSaid : Prop := codeFarUptoRow.holds Try.pinned (OpenSpec.upto codeFarSpec)

/-- 'cairnlaw04.CodeTurns', WHERE WHAT IT READS IS OF BULK AT MOST 1048576: true; the input reads as it did. -/
def codeTurnsUptoRow : OpenClaim := { program := "ythodpgkelmalmaa", sum := "32f6300de810647da4c71628360884a36f2c7fa6e936a30d21cf790976e5cc77", func := "cairn/cairnlaw04.CodeTurns", spec := "codeTurns", apart := false, narrowed := true }
def CodeTurnsUptoSaid : Prop := codeTurnsUptoRow.holds Try.pinned (OpenSpec.upto codeTurnsSpec)

/-- 'cairnlaw04.CodeChecks', WHERE WHAT IT READS IS OF BULK AT MOST 1048576: true; the input reads as it did. -/
def codeChecksUptoRow : OpenClaim := { program := "ythodpgkelmalmaa", sum := "32f6300de810647da4c71628360884a36f2c7fa6e936a30d21cf790976e5cc77", func := "cairn/cairnlaw04.CodeChecks", spec := "codeChecks", apart := false, narrowed := true }
def CodeChecksUptoSaid : Prop := codeChecksUptoRow.holds Try.pinned (OpenSpec.upto codeChecksSpec)

/-- 'cairnlaw04.CodeLinear', WHERE WHAT IT READS IS OF BULK AT MOST 1048576: true; the input reads as it did. -/
def codeLinearUptoRow : OpenClaim := { program := "ythodpgkelmalmaa", sum := "32f6300de810647da4c71628360884a36f2c7fa6e936a30d21cf790976e5cc77", func := "cairn/cairnlaw04.CodeLinear", spec := "codeLinear", apart := false, narrowed := true }
def CodeLinearUptoSaid : Prop := codeLinearUptoRow.holds Try.pinned (OpenSpec.upto codeLinearSpec)

/-- 'cairnlaw04.CodeRebuilds', WHERE WHAT IT READS IS OF BULK AT MOST 1048576: true; the input reads as it did. -/
def codeRebuildsUptoRow : OpenClaim := { program := "ythodpgkelmalmaa", sum := "32f6300de810647da4c71628360884a36f2c7fa6e936a30d21cf790976e5cc77", func := "cairn/cairnlaw04.CodeRebuilds", spec := "codeRebuilds", unfollowed := true, recurses := true, apart := false, narrowed := true }
def CodeRebuildsUptoSaid : Prop := codeRebuildsUptoRow.holds Try.pinned (OpenSpec.upto codeRebuildsSpec)

/-- 'cairnlaw04.CodeAnyK', WHERE WHAT IT READS IS OF BULK AT MOST 1048576: true; the input reads as it did. -/
def codeAnyKUptoRow : OpenClaim := { program := "ythodpgkelmalmaa", sum := "32f6300de810647da4c71628360884a36f2c7fa6e936a30d21cf790976e5cc77", func := "cairn/cairnlaw04.CodeAnyK", spec := "codeAnyK", unfollowed := true, recurses := true, apart := false, narrowed := true }
def CodeAnyKUptoSaid : Prop := codeAnyKUptoRow.holds Try.pinned (OpenSpec.upto codeAnyKSpec)

/-- 'cairnlaw04.CodeOpen', WHERE WHAT IT READS IS OF BULK AT MOST 1048576: true; the input reads as it did. -/
def codeOpenUptoRow : OpenClaim := { program := "ythodpgkelmalmaa", sum := "32f6300de810647da4c71628360884a36f2c7fa6e936a30d21cf790976e5cc77", func := "cairn/cairnlaw04.CodeOpen", spec := "codeOpen", unfollowed := true, recurses := true, apart := false, narrowed := true }
def CodeOpenUptoSaid : Prop := codeOpenUptoRow.holds Try.pinned (OpenSpec.upto codeOpenSpec)

/-- 'cairnlaw04.CodeMatrix', WHERE WHAT IT READS IS OF BULK AT MOST 1048576: true; the input reads as it did. -/
def codeMatrixUptoRow : OpenClaim := { program := "ythodpgkelmalmaa", sum := "32f6300de810647da4c71628360884a36f2c7fa6e936a30d21cf790976e5cc77", func := "cairn/cairnlaw04.CodeMatrix", spec := "codeMatrix", unfollowed := true, recurses := true, apart := false, narrowed := true }
def CodeMatrixUptoSaid : Prop := codeMatrixUptoRow.holds Try.pinned (OpenSpec.upto codeMatrixSpec)

/-- 'cairnlaw04.CodeMemory', WHERE WHAT IT READS IS OF BULK AT MOST 1048576: true; the input reads as it did. -/
def codeMemoryUptoRow : OpenClaim := { program := "ythodpgkelmalmaa", sum := "32f6300de810647da4c71628360884a36f2c7fa6e936a30d21cf790976e5cc77", func := "cairn/cairnlaw04.CodeMemory", spec := "codeMemory", unfollowed := true, recurses := true, apart := false, narrowed := true }
def CodeMemoryUptoSaid : Prop := codeMemoryUptoRow.holds Try.pinned (OpenSpec.upto codeMemorySpec)

/-- 'cairnlaw04.CodeNews', WHERE WHAT IT READS IS OF BULK AT MOST 1048576: true; the input reads as it did. -/
def codeNewsUptoRow : OpenClaim := { program := "ythodpgkelmalmaa", sum := "32f6300de810647da4c71628360884a36f2c7fa6e936a30d21cf790976e5cc77", func := "cairn/cairnlaw04.CodeNews", spec := "codeNews", unfollowed := true, recurses := true, apart := false, narrowed := true }
def CodeNewsUptoSaid : Prop := codeNewsUptoRow.holds Try.pinned (OpenSpec.upto codeNewsSpec)

end Rows
end Go.Proofs.Ythodpgkelmalmaa
