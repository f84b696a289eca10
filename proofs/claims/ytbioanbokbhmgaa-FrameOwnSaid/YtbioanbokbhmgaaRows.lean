/-
  No cell of these rows narrows 'for every input' (looked for: loops, veiled, ifaces, maps, wideKeys, modest, calm, conditions, laid).
  DERIVED. THE GIVEN ROWS OF THIS SEAT. 11 by the template 'for every input the law returns true; each argument reads behind the call as it read before'; 0 by the template 'total and deterministic' (their statements: YtbioanbokbhmgaaTotals.lean).
  GIVEN WITH THE SEED: the statements are not yours to turn. If you find one false, say at which input.
  Laid BY PROGRAM, IN A SANDBOX (cutbox-rows.mjs): the forced cells as the released guide's own fill.sh prints them over the translation 73bafe5c6bd866b0… (all of the seat's roots in one cut). By AI agents, Wed Nov 11 2026. No macro, syntax, notation, axiom, sorry.
-/
import Derived.Test.YtbioanbokbhmgaaChecked
import GoSem.Claim
import GoSem.ClaimJoined
import GoSem.ClaimMapViews
import Derived.JoinedTies
import Derived.KernelRfl
namespace Go.Proofs.Ytbioanbokbhmgaa
/- THE CELL 'sum', in the pinned program and in every row, IS THE sha256 OF THE DUMP (.gsa) THAT YtbioanbokbhmgaaProg.lean LOADS. Nothing in Lean hashes anything: it is a label: what it is worth is what the hold of that sum in a sandbox is worth. -/
noncomputable def Try.pinned : Pinned := { name := "ytbioanbokbhmgaa", sum := "73bafe5c6bd866b00e60ffb967c5515c0b09b3beb773c31b3dd6b61b9dd31b1d", checked := Try.checked }
namespace Rows
def none {H : Type} : Left H := { results := [], args := [] }

/-- 'cairnlaw08.FrameChecks': WHATEVER THE INPUT: true; the input reads as it did. -/
def frameChecksSpec : ChangeSpec := { name := "frameChecks", fn := fun _ => fun
  | [d] => { results := [.lit (.bool true)], args := [d] }
  | _ => none }
def frameChecksRow : OpenClaim := { program := "ytbioanbokbhmgaa", sum := "73bafe5c6bd866b00e60ffb967c5515c0b09b3beb773c31b3dd6b61b9dd31b1d", func := "cairn/cairnlaw08.FrameChecks", spec := "frameChecks", apart := false }
def FrameChecksSaid : Prop := frameChecksRow.holds Try.pinned (OpenSpec.ofChange frameChecksSpec)

/-- ITS FALSE NEIGHBOUR: 'it returns false'. Refute it at one input. -/
def frameChecksWrong : ChangeSpec := { name := "frameChecks", fn := fun _ => fun
  | [d] => { results := [.lit (.bool false)], args := [d] }
  | _ => none }
def FrameChecksWrongFalsely : Prop := frameChecksRow.holds Try.pinned (OpenSpec.ofChange frameChecksWrong)

/-- 'cairnlaw08.FrameWrites': WHATEVER THE INPUT: true; the input reads as it did. -/
def frameWritesSpec : ChangeSpec := { name := "frameWrites", fn := fun _ => fun
  | [d] => { results := [.lit (.bool true)], args := [d] }
  | _ => none }
def frameWritesRow : OpenClaim := { program := "ytbioanbokbhmgaa", sum := "73bafe5c6bd866b00e60ffb967c5515c0b09b3beb773c31b3dd6b61b9dd31b1d", func := "cairn/cairnlaw08.FrameWrites", spec := "frameWrites", apart := false }
def FrameWritesSaid : Prop := frameWritesRow.holds Try.pinned (OpenSpec.ofChange frameWritesSpec)

/-- ITS FALSE NEIGHBOUR: 'it returns false'. Refute it at one input. -/
def frameWritesWrong : ChangeSpec := { name := "frameWrites", fn := fun _ => fun
  | [d] => { results := [.lit (.bool false)], args := [d] }
  | _ => none }
def FrameWritesWrongFalsely : Prop := frameWritesRow.holds Try.pinned (OpenSpec.ofChange frameWritesWrong)

/-- 'cairnlaw08.FrameReads': WHATEVER THE INPUT: true; the input reads as it did. -/
def frameReadsSpec : ChangeSpec := { name := "frameReads", fn := fun _ => fun
  | [d] => { results := [.lit (.bool true)], args := [d] }
  | _ => none }
def frameReadsRow : OpenClaim := { program := "ytbioanbokbhmgaa", sum := "73bafe5c6bd866b00e60ffb967c5515c0b09b3beb773c31b3dd6b61b9dd31b1d", func := "cairn/cairnlaw08.FrameReads", spec := "frameReads", unfollowed := true, recurses := true, apart := false }
def FrameReadsSaid : Prop := frameReadsRow.holds Try.pinned (OpenSpec.ofChange frameReadsSpec)

/-- ITS FALSE NEIGHBOUR: 'it returns false'. Refute it at one input. -/
def frameReadsWrong : ChangeSpec := { name := "frameReads", fn := fun _ => fun
  | [d] => { results := [.lit (.bool false)], args := [d] }
  | _ => none }
def FrameReadsWrongFalsely : Prop := frameReadsRow.holds Try.pinned (OpenSpec.ofChange frameReadsWrong)

/-- 'cairnlaw08.FrameSwaps': WHATEVER THE INPUT: true; the input reads as it did. -/
def frameSwapsSpec : ChangeSpec := { name := "frameSwaps", fn := fun _ => fun
  | [d1, d2, d3] => { results := [.lit (.bool true)], args := [d1, d2, d3] }
  | _ => none }
def frameSwapsRow : OpenClaim := { program := "ytbioanbokbhmgaa", sum := "73bafe5c6bd866b00e60ffb967c5515c0b09b3beb773c31b3dd6b61b9dd31b1d", func := "cairn/cairnlaw08.FrameSwaps", spec := "frameSwaps", unfollowed := true, recurses := true, apart := false }
def FrameSwapsSaid : Prop := frameSwapsRow.holds Try.pinned (OpenSpec.ofChange frameSwapsSpec)

/-- ITS FALSE NEIGHBOUR: 'it returns false'. Refute it at one input. -/
def frameSwapsWrong : ChangeSpec := { name := "frameSwaps", fn := fun _ => fun
  | [d1, d2, d3] => { results := [.lit (.bool false)], args := [d1, d2, d3] }
  | _ => none }
def FrameSwapsWrongFalsely : Prop := frameSwapsRow.holds Try.pinned (OpenSpec.ofChange frameSwapsWrong)

/-- 'cairnlaw08.FrameForeign': WHATEVER THE INPUT: true; the input reads as it did. -/
def frameForeignSpec : ChangeSpec := { name := "frameForeign", fn := fun _ => fun
  | [d] => { results := [.lit (.bool true)], args := [d] }
  | _ => none }
def frameForeignRow : OpenClaim := { program := "ytbioanbokbhmgaa", sum := "73bafe5c6bd866b00e60ffb967c5515c0b09b3beb773c31b3dd6b61b9dd31b1d", func := "cairn/cairnlaw08.FrameForeign", spec := "frameForeign", unfollowed := true, recurses := true, apart := false }
def FrameForeignSaid : Prop := frameForeignRow.holds Try.pinned (OpenSpec.ofChange frameForeignSpec)

/-- ITS FALSE NEIGHBOUR: 'it returns false'. Refute it at one input. -/
def frameForeignWrong : ChangeSpec := { name := "frameForeign", fn := fun _ => fun
  | [d] => { results := [.lit (.bool false)], args := [d] }
  | _ => none }
def FrameForeignWrongFalsely : Prop := frameForeignRow.holds Try.pinned (OpenSpec.ofChange frameForeignWrong)

/-- 'cairnlaw08.FrameUnlike': WHATEVER THE INPUT: true; the input reads as it did. -/
def frameUnlikeSpec : ChangeSpec := { name := "frameUnlike", fn := fun _ => fun
  | [d1, d2] => { results := [.lit (.bool true)], args := [d1, d2] }
  | _ => none }
def frameUnlikeRow : OpenClaim := { program := "ytbioanbokbhmgaa", sum := "73bafe5c6bd866b00e60ffb967c5515c0b09b3beb773c31b3dd6b61b9dd31b1d", func := "cairn/cairnlaw08.FrameUnlike", spec := "frameUnlike", unfollowed := true, recurses := true, apart := false }
def FrameUnlikeSaid : Prop := frameUnlikeRow.holds Try.pinned (OpenSpec.ofChange frameUnlikeSpec)

/-- ITS FALSE NEIGHBOUR: 'it returns false'. Refute it at one input. -/
def frameUnlikeWrong : ChangeSpec := { name := "frameUnlike", fn := fun _ => fun
  | [d1, d2] => { results := [.lit (.bool false)], args := [d1, d2] }
  | _ => none }
def FrameUnlikeWrongFalsely : Prop := frameUnlikeRow.holds Try.pinned (OpenSpec.ofChange frameUnlikeWrong)

/-- 'cairnlaw08.FrameEncodeOwn': WHATEVER THE INPUT: true; the input reads as it did. -/
def frameEncodeOwnSpec : ChangeSpec := { name := "frameEncodeOwn", fn := fun _ => fun
  | [d] => { results := [.lit (.bool true)], args := [d] }
  | _ => none }
def frameEncodeOwnRow : OpenClaim := { program := "ytbioanbokbhmgaa", sum := "73bafe5c6bd866b00e60ffb967c5515c0b09b3beb773c31b3dd6b61b9dd31b1d", func := "cairn/cairnlaw08.FrameEncodeOwn", spec := "frameEncodeOwn", unfollowed := true, recurses := true, apart := false }
def FrameEncodeOwnSaid : Prop := frameEncodeOwnRow.holds Try.pinned (OpenSpec.ofChange frameEncodeOwnSpec)

/-- ITS FALSE NEIGHBOUR: 'it returns false'. Refute it at one input. -/
def frameEncodeOwnWrong : ChangeSpec := { name := "frameEncodeOwn", fn := fun _ => fun
  | [d] => { results := [.lit (.bool false)], args := [d] }
  | _ => none }
def FrameEncodeOwnWrongFalsely : Prop := frameEncodeOwnRow.holds Try.pinned (OpenSpec.ofChange frameEncodeOwnWrong)

/-- 'cairnlaw08.FrameBursts': WHATEVER THE INPUT: true; the input reads as it did. -/
def frameBurstsSpec : ChangeSpec := { name := "frameBursts", fn := fun _ => fun
  | [d1, d2, d3] => { results := [.lit (.bool true)], args := [d1, d2, d3] }
  | _ => none }
def frameBurstsRow : OpenClaim := { program := "ytbioanbokbhmgaa", sum := "73bafe5c6bd866b00e60ffb967c5515c0b09b3beb773c31b3dd6b61b9dd31b1d", func := "cairn/cairnlaw08.FrameBursts", spec := "frameBursts", unfollowed := true, recurses := true, apart := false }
def FrameBurstsSaid : Prop := frameBurstsRow.holds Try.pinned (OpenSpec.ofChange frameBurstsSpec)

/-- ITS FALSE NEIGHBOUR: 'it returns false'. Refute it at one input. -/
def frameBurstsWrong : ChangeSpec := { name := "frameBursts", fn := fun _ => fun
  | [d1, d2, d3] => { results := [.lit (.bool false)], args := [d1, d2, d3] }
  | _ => none }
def FrameBurstsWrongFalsely : Prop := frameBurstsRow.holds Try.pinned (OpenSpec.ofChange frameBurstsWrong)

/-- 'cairnlaw08.FrameBack': WHATEVER THE INPUT: true; the input reads as it did. -/
def frameBackSpec : ChangeSpec := { name := "frameBack", fn := fun _ => fun
  | [d1, d2, d3] => { results := [.lit (.bool true)], args := [d1, d2, d3] }
  | _ => none }
def frameBackRow : OpenClaim := { program := "ytbioanbokbhmgaa", sum := "73bafe5c6bd866b00e60ffb967c5515c0b09b3beb773c31b3dd6b61b9dd31b1d", func := "cairn/cairnlaw08.FrameBack", spec := "frameBack", unfollowed := true, recurses := true, apart := false }
def FrameBackSaid : Prop := frameBackRow.holds Try.pinned (OpenSpec.ofChange frameBackSpec)

/-- ITS FALSE NEIGHBOUR: 'it returns false'. Refute it at one input. -/
def frameBackWrong : ChangeSpec := { name := "frameBack", fn := fun _ => fun
  | [d1, d2, d3] => { results := [.lit (.bool false)], args := [d1, d2, d3] }
  | _ => none }
def FrameBackWrongFalsely : Prop := frameBackRow.holds Try.pinned (OpenSpec.ofChange frameBackWrong)

/-- 'cairnlaw08.FrameForm': WHATEVER THE INPUT: true; the input reads as it did. -/
def frameFormSpec : ChangeSpec := { name := "frameForm", fn := fun _ => fun
  | [d] => { results := [.lit (.bool true)], args := [d] }
  | _ => none }
def frameFormRow : OpenClaim := { program := "ytbioanbokbhmgaa", sum := "73bafe5c6bd866b00e60ffb967c5515c0b09b3beb773c31b3dd6b61b9dd31b1d", func := "cairn/cairnlaw08.FrameForm", spec := "frameForm", unfollowed := true, recurses := true, apart := false }
def FrameFormSaid : Prop := frameFormRow.holds Try.pinned (OpenSpec.ofChange frameFormSpec)

/-- ITS FALSE NEIGHBOUR: 'it returns false'. Refute it at one input. -/
def frameFormWrong : ChangeSpec := { name := "frameForm", fn := fun _ => fun
  | [d] => { results := [.lit (.bool false)], args := [d] }
  | _ => none }
def FrameFormWrongFalsely : Prop := frameFormRow.holds Try.pinned (OpenSpec.ofChange frameFormWrong)

/-- 'cairnlaw08.FrameOwn': WHATEVER THE INPUT: true; the input reads as it did. -/
def frameOwnSpec : ChangeSpec := { name := "frameOwn", fn := fun _ => fun
  | [d1, d2] => { results := [.lit (.bool true)], args := [d1, d2] }
  | _ => none }
def frameOwnRow : OpenClaim := { program := "ytbioanbokbhmgaa", sum := "73bafe5c6bd866b00e60ffb967c5515c0b09b3beb773c31b3dd6b61b9dd31b1d", func := "cairn/cairnlaw08.FrameOwn", spec := "frameOwn", unfollowed := true, recurses := true, apart := false }
def FrameOwnSaid : Prop := frameOwnRow.holds Try.pinned (OpenSpec.ofChange frameOwnSpec)

/-- ITS FALSE NEIGHBOUR: 'it returns false'. Refute it at one input. -/
def frameOwnWrong : ChangeSpec := { name := "frameOwn", fn := fun _ => fun
  | [d1, d2] => { results := [.lit (.bool false)], args := [d1, d2] }
  | _ => none }
def FrameOwnWrongFalsely : Prop := frameOwnRow.holds Try.pinned (OpenSpec.ofChange frameOwnWrong)

/- THE SECOND FORM. 'bulk': how many values and letters a reading holds, each counted each time it is reached (what is shared counts as often as it is met; a slice's spare places count too). A statement '..UptoSaid' is the law's where the arguments, and the package variables that the reading takes, are together of bulk at most 1048576: NARROWER than '..Said'. Prove '..Said' where nothing that the law and all that it calls make is longer than what came in: it says more and counts as full. Else prove '..UptoSaid'. A law counts once. -/
mutual
def uptoBulk {H : Type} : DataW H → Nat
  | .lit (.string bytes) => bytes.length + 1
  | .lit _ => 1
  | .nil => 1
  | .ptr d => uptoBulk d + 1
  | .slice elems spare => uptoBulkAll elems + uptoBulkAll spare + 1
  | .agg parts => uptoBulkAll parts + 1
  | .iface _ d => uptoBulk d + 1
  | .map entries => uptoBulkEntries entries + 1
  | .held _ => 1
def uptoBulkAll {H : Type} : List (DataW H) → Nat
  | [] => 0
  | d :: r => uptoBulk d + uptoBulkAll r
def uptoBulkEntries {H : Type} : List (Lit × DataW H) → Nat
  | [] => 0
  | x :: r => uptoBulkEntry x + uptoBulkEntries r
def uptoBulkEntry {H : Type} : Lit × DataW H → Nat
  | (.string bytes, d) => bytes.length + uptoBulk d + 1
  | (_, d) => uptoBulk d + 1
 end
def uptoSmall : (H : Type) → List (DataW H) → Bool := fun _ ds => decide (uptoBulkAll ds ≤ 1048576)
def OpenSpec.upto (s : _root_.Go.ChangeSpec) : _root_.Go.OpenSpec := { _root_.Go.OpenSpec.ofChange s with cond := some uptoSmall }

/-- 'cairnlaw08.FrameChecks', WHERE WHAT IT READS IS OF BULK AT MOST 1048576: true; the input reads as it did. -/
def frameChecksUptoRow : OpenClaim := { program := "ytbioanbokbhmgaa", sum := "73bafe5c6bd866b00e60ffb967c5515c0b09b3beb773c31b3dd6b61b9dd31b1d", func := "cairn/cairnlaw08.FrameChecks", spec := "frameChecks", apart := false, narrowed := true }
def FrameChecksUptoSaid : Prop := frameChecksUptoRow.holds Try.pinned (OpenSpec.upto frameChecksSpec)

/-- 'cairnlaw08.FrameWrites', WHERE WHAT IT READS IS OF BULK AT MOST 1048576: true; the input reads as it did. -/
def frameWritesUptoRow : OpenClaim := { program := "ytbioanbokbhmgaa", sum := "73bafe5c6bd866b00e60ffb967c5515c0b09b3beb773c31b3dd6b61b9dd31b1d", func := "cairn/cairnlaw08.FrameWrites", spec := "frameWrites", apart := false, narrowed := true }
def FrameWritesUptoSaid : Prop := frameWritesUptoRow.holds Try.pinned (OpenSpec.upto frameWritesSpec)

/-- 'cairnlaw08.FrameReads', WHERE WHAT IT READS IS OF BULK AT MOST 1048576: true; the input reads as it did. -/
def frameReadsUptoRow : OpenClaim := { program := "ytbioanbokbhmgaa", sum := "73bafe5c6bd866b00e60ffb967c5515c0b09b3beb773c31b3dd6b61b9dd31b1d", func := "cairn/cairnlaw08.FrameReads", spec := "frameReads", unfollowed := true, recurses := true, apart := false, narrowed := true }
def FrameReadsUptoSaid : Prop := frameReadsUptoRow.holds Try.pinned (OpenSpec.upto frameReadsSpec)

/-- 'cairnlaw08.FrameSwaps', WHERE WHAT IT READS IS OF BULK AT MOST 1048576: true; the input reads as it did. -/
def frameSwapsUptoRow : OpenClaim := { program := "ytbioanbokbhmgaa", sum := "73bafe5c6bd866b00e60ffb967c5515c0b09b3beb773c31b3dd6b61b9dd31b1d", func := "cairn/cairnlaw08.FrameSwaps", spec := "frameSwaps", unfollowed := true, recurses := true, apart := false, narrowed := true }
def FrameSwapsUptoSaid : Prop := frameSwapsUptoRow.holds Try.pinned (OpenSpec.upto frameSwapsSpec)

/-- 'cairnlaw08.FrameForeign', WHERE WHAT IT READS IS OF BULK AT MOST 1048576: true; the input reads as it did. -/
def frameForeignUptoRow : OpenClaim := { program := "ytbioanbokbhmgaa", sum := "73bafe5c6bd866b00e60ffb967c5515c0b09b3beb773c31b3dd6b61b9dd31b1d", func := "cairn/cairnlaw08.FrameForeign", spec := "frameForeign", unfollowed := true, recurses := true, apart := false, narrowed := true }
def FrameForeignUptoSaid : Prop := frameForeignUptoRow.holds Try.pinned (OpenSpec.upto frameForeignSpec)

/-- 'cairnlaw08.FrameUnlike', WHERE WHAT IT READS IS OF BULK AT MOST 1048576: true; the input reads as it did. -/
def frameUnlikeUptoRow : OpenClaim := { program := "ytbioanbokbhmgaa", sum := "73bafe5c6bd866b00e60ffb967c5515c0b09b3beb773c31b3dd6b61b9dd31b1d", func := "cairn/cairnlaw08.FrameUnlike", spec := "frameUnlike", unfollowed := true, recurses := true, apart := false, narrowed := true }
def FrameUnlikeUptoSaid : Prop := frameUnlikeUptoRow.holds Try.pinned (OpenSpec.upto frameUnlikeSpec)

/-- 'cairnlaw08.FrameEncodeOwn', WHERE WHAT IT READS IS OF BULK AT MOST 1048576: true; the input reads as it did. -/
def frameEncodeOwnUptoRow : OpenClaim := { program := "ytbioanbokbhmgaa", sum := "73bafe5c6bd866b00e60ffb967c5515c0b09b3beb773c31b3dd6b61b9dd31b1d", func := "cairn/cairnlaw08.FrameEncodeOwn", spec := "frameEncodeOwn", unfollowed := true, recurses := true, apart := false, narrowed := true }
def FrameEncodeOwnUptoSaid : Prop := frameEncodeOwnUptoRow.holds Try.pinned (OpenSpec.upto frameEncodeOwnSpec)

/-- 'cairnlaw08.FrameBursts', WHERE WHAT IT READS IS OF BULK AT MOST 1048576: true; the input reads as it did. -/
def frameBurstsUptoRow : OpenClaim := { program := "ytbioanbokbhmgaa", sum := "73bafe5c6bd866b00e60ffb967c5515c0b09b3beb773c31b3dd6b61b9dd31b1d", func := "cairn/cairnlaw08.FrameBursts", spec := "frameBursts", unfollowed := true, recurses := true, apart := false, narrowed := true }
def FrameBurstsUptoSaid : Prop := frameBurstsUptoRow.holds Try.pinned (OpenSpec.upto frameBurstsSpec)

/-- 'cairnlaw08.FrameBack', WHERE WHAT IT READS IS OF BULK AT MOST 1048576: true; the input reads as it did. -/
def frameBackUptoRow : OpenClaim := { program := "ytbioanbokbhmgaa", sum := "73bafe5c6bd866b00e60ffb967c5515c0b09b3beb773c31b3dd6b61b9dd31b1d", func := "cairn/cairnlaw08.FrameBack", spec := "frameBack", unfollowed := true, recurses := true, apart := false, narrowed := true }
def FrameBackUptoSaid : Prop := frameBackUptoRow.holds Try.pinned (OpenSpec.upto frameBackSpec)

/-- 'cairnlaw08.FrameForm', WHERE WHAT IT READS IS OF BULK AT MOST 1048576: true; the input reads as it did. -/
def frameFormUptoRow : OpenClaim := { program := "ytbioanbokbhmgaa", sum := "73bafe5c6bd866b00e60ffb967c5515c0b09b3beb773c31b3dd6b61b9dd31b1d", func := "cairn/cairnlaw08.FrameForm", spec := "frameForm", unfollowed := true, recurses := true, apart := false, narrowed := true }
def FrameFormUptoSaid : Prop := frameFormUptoRow.holds Try.pinned (OpenSpec.upto frameFormSpec)

/-- 'cairnlaw08.FrameOwn', WHERE WHAT IT READS IS OF BULK AT MOST 1048576: true; the input reads as it did. -/
def frameOwnUptoRow : OpenClaim := { program := "ytbioanbokbhmgaa", sum := "73bafe5c6bd866b00e60ffb967c5515c0b09b3beb773c31b3dd6b61b9dd31b1d", func := "cairn/cairnlaw08.FrameOwn", spec := "frameOwn", unfollowed := true, recurses := true, apart := false, narrowed := true }
def FrameOwnUptoSaid : Prop := frameOwnUptoRow.holds Try.pinned (OpenSpec.upto frameOwnSpec)

end Rows
end Go.Proofs.Ytbioanbokbhmgaa
