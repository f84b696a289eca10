/-
  No cell of these rows narrows 'for every input' (looked for: loops, veiled, ifaces, maps, wideKeys, modest, calm, conditions, laid).
  DERIVED. THE GIVEN ROWS OF THIS SEAT. 12 by the template 'for every input the law returns true; each argument reads behind the call as it read before'; 0 by the template 'total and deterministic' (their statements: YtjaaldandgfkgaaTotals.lean).
  GIVEN WITH THE SEED: the statements are not yours to turn. If you find one false, say at which input.
  Laid BY PROGRAM, IN A SANDBOX (cutbox-rows.mjs): the forced cells as the released guide's own fill.sh prints them over the translation 4b868bc2bea6f2bb… (all of the seat's roots in one cut). By AI agents, Wed Nov 11 2026. No macro, syntax, notation, axiom, sorry.
-/
import Derived.Test.YtjaaldandgfkgaaChecked
import GoSem.Claim
import GoSem.ClaimJoined
import GoSem.ClaimMapViews
import Derived.JoinedTies
import Derived.KernelRfl
namespace Go.Proofs.Ytjaaldandgfkgaa
/- THE CELL 'sum', in the pinned program and in every row, IS THE sha256 OF THE DUMP (.gsa) THAT YtjaaldandgfkgaaProg.lean LOADS. Nothing in Lean hashes anything: it is a label: what it is worth is what the hold of that sum in a sandbox is worth. -/
noncomputable def Try.pinned : Pinned := { name := "ytjaaldandgfkgaa", sum := "4b868bc2bea6f2bbfaa8b54386596e71383d69244c1a5cdfd41a1dd3492fe989", checked := Try.checked }
namespace Rows
def none {H : Type} : Left H := { results := [], args := [] }

/-- 'cairnlaw10.StripeNames': WHATEVER THE INPUT: true; the input reads as it did. -/
def stripeNamesSpec : ChangeSpec := { name := "stripeNames", fn := fun _ => fun
  | [] => { results := [.lit (.bool true)], args := [] }
  | _ => none }
def stripeNamesRow : OpenClaim := { program := "ytjaaldandgfkgaa", sum := "4b868bc2bea6f2bbfaa8b54386596e71383d69244c1a5cdfd41a1dd3492fe989", func := "cairn/cairnlaw10.StripeNames", spec := "stripeNames", apart := false }
def StripeNamesSaid : Prop := stripeNamesRow.holds Try.pinned (OpenSpec.ofChange stripeNamesSpec)

/-- ITS FALSE NEIGHBOUR: 'it returns false'. Refute it at one input. -/
def stripeNamesWrong : ChangeSpec := { name := "stripeNames", fn := fun _ => fun
  | [] => { results := [.lit (.bool false)], args := [] }
  | _ => none }
def StripeNamesWrongFalsely : Prop := stripeNamesRow.holds Try.pinned (OpenSpec.ofChange stripeNamesWrong)

/-- 'cairnlaw10.StripeSizes': WHATEVER THE INPUT: true; the input reads as it did. -/
def stripeSizesSpec : ChangeSpec := { name := "stripeSizes", fn := fun _ => fun
  | [d1, d2] => { results := [.lit (.bool true)], args := [d1, d2] }
  | _ => none }
def stripeSizesRow : OpenClaim := { program := "ytjaaldandgfkgaa", sum := "4b868bc2bea6f2bbfaa8b54386596e71383d69244c1a5cdfd41a1dd3492fe989", func := "cairn/cairnlaw10.StripeSizes", spec := "stripeSizes", apart := false }
def StripeSizesSaid : Prop := stripeSizesRow.holds Try.pinned (OpenSpec.ofChange stripeSizesSpec)

/-- ITS FALSE NEIGHBOUR: 'it returns false'. Refute it at one input. -/
def stripeSizesWrong : ChangeSpec := { name := "stripeSizes", fn := fun _ => fun
  | [d1, d2] => { results := [.lit (.bool false)], args := [d1, d2] }
  | _ => none }
def StripeSizesWrongFalsely : Prop := stripeSizesRow.holds Try.pinned (OpenSpec.ofChange stripeSizesWrong)

/-- 'cairnlaw10.StripeWheres': WHATEVER THE INPUT: true; the input reads as it did. -/
def stripeWheresSpec : ChangeSpec := { name := "stripeWheres", fn := fun _ => fun
  | [d1, d2, d3, d4] => { results := [.lit (.bool true)], args := [d1, d2, d3, d4] }
  | _ => none }
def stripeWheresRow : OpenClaim := { program := "ytjaaldandgfkgaa", sum := "4b868bc2bea6f2bbfaa8b54386596e71383d69244c1a5cdfd41a1dd3492fe989", func := "cairn/cairnlaw10.StripeWheres", spec := "stripeWheres", apart := false }
def StripeWheresSaid : Prop := stripeWheresRow.holds Try.pinned (OpenSpec.ofChange stripeWheresSpec)

/-- ITS FALSE NEIGHBOUR: 'it returns false'. Refute it at one input. -/
def stripeWheresWrong : ChangeSpec := { name := "stripeWheres", fn := fun _ => fun
  | [d1, d2, d3, d4] => { results := [.lit (.bool false)], args := [d1, d2, d3, d4] }
  | _ => none }
def StripeWheresWrongFalsely : Prop := stripeWheresRow.holds Try.pinned (OpenSpec.ofChange stripeWheresWrong)

/-- 'cairnlaw10.StripeSplits': WHATEVER THE INPUT: true; the input reads as it did. -/
def stripeSplitsSpec : ChangeSpec := { name := "stripeSplits", fn := fun _ => fun
  | [d1, d2] => { results := [.lit (.bool true)], args := [d1, d2] }
  | _ => none }
def stripeSplitsRow : OpenClaim := { program := "ytjaaldandgfkgaa", sum := "4b868bc2bea6f2bbfaa8b54386596e71383d69244c1a5cdfd41a1dd3492fe989", func := "cairn/cairnlaw10.StripeSplits", spec := "stripeSplits", apart := false }
def StripeSplitsSaid : Prop := stripeSplitsRow.holds Try.pinned (OpenSpec.ofChange stripeSplitsSpec)

/-- ITS FALSE NEIGHBOUR: 'it returns false'. Refute it at one input. -/
def stripeSplitsWrong : ChangeSpec := { name := "stripeSplits", fn := fun _ => fun
  | [d1, d2] => { results := [.lit (.bool false)], args := [d1, d2] }
  | _ => none }
def StripeSplitsWrongFalsely : Prop := stripeSplitsRow.holds Try.pinned (OpenSpec.ofChange stripeSplitsWrong)

/-- 'cairnlaw10.StripeJoins': WHATEVER THE INPUT: true; the input reads as it did. -/
def stripeJoinsSpec : ChangeSpec := { name := "stripeJoins", fn := fun _ => fun
  | [d] => { results := [.lit (.bool true)], args := [d] }
  | _ => none }
def stripeJoinsRow : OpenClaim := { program := "ytjaaldandgfkgaa", sum := "4b868bc2bea6f2bbfaa8b54386596e71383d69244c1a5cdfd41a1dd3492fe989", func := "cairn/cairnlaw10.StripeJoins", spec := "stripeJoins", inPlace := ["internal/bytealg.MakeNoZero"], unfollowed := true, recurses := true, apart := false }
def StripeJoinsSaid : Prop := stripeJoinsRow.holds Try.pinned (OpenSpec.ofChange stripeJoinsSpec)

/-- ITS FALSE NEIGHBOUR: 'it returns false'. Refute it at one input. -/
def stripeJoinsWrong : ChangeSpec := { name := "stripeJoins", fn := fun _ => fun
  | [d] => { results := [.lit (.bool false)], args := [d] }
  | _ => none }
def StripeJoinsWrongFalsely : Prop := stripeJoinsRow.holds Try.pinned (OpenSpec.ofChange stripeJoinsWrong)

/-- 'cairnlaw10.StripePieces': WHATEVER THE INPUT: true; the input reads as it did. -/
def stripePiecesSpec : ChangeSpec := { name := "stripePieces", fn := fun _ => fun
  | [d1, d2, d3] => { results := [.lit (.bool true)], args := [d1, d2, d3] }
  | _ => none }
def stripePiecesRow : OpenClaim := { program := "ytjaaldandgfkgaa", sum := "4b868bc2bea6f2bbfaa8b54386596e71383d69244c1a5cdfd41a1dd3492fe989", func := "cairn/cairnlaw10.StripePieces", spec := "stripePieces", inPlace := ["internal/bytealg.MakeNoZero"], unfollowed := true, recurses := true, apart := false }
def StripePiecesSaid : Prop := stripePiecesRow.holds Try.pinned (OpenSpec.ofChange stripePiecesSpec)

/-- ITS FALSE NEIGHBOUR: 'it returns false'. Refute it at one input. -/
def stripePiecesWrong : ChangeSpec := { name := "stripePieces", fn := fun _ => fun
  | [d1, d2, d3] => { results := [.lit (.bool false)], args := [d1, d2, d3] }
  | _ => none }
def StripePiecesWrongFalsely : Prop := stripePiecesRow.holds Try.pinned (OpenSpec.ofChange stripePiecesWrong)

/-- 'cairnlaw10.StripeAlone': WHATEVER THE INPUT: true; the input reads as it did. -/
def stripeAloneSpec : ChangeSpec := { name := "stripeAlone", fn := fun _ => fun
  | [d1, d2, d3] => { results := [.lit (.bool true)], args := [d1, d2, d3] }
  | _ => none }
def stripeAloneRow : OpenClaim := { program := "ytjaaldandgfkgaa", sum := "4b868bc2bea6f2bbfaa8b54386596e71383d69244c1a5cdfd41a1dd3492fe989", func := "cairn/cairnlaw10.StripeAlone", spec := "stripeAlone", inPlace := ["internal/bytealg.MakeNoZero"], unfollowed := true, recurses := true, apart := false }
def StripeAloneSaid : Prop := stripeAloneRow.holds Try.pinned (OpenSpec.ofChange stripeAloneSpec)

/-- ITS FALSE NEIGHBOUR: 'it returns false'. Refute it at one input. -/
def stripeAloneWrong : ChangeSpec := { name := "stripeAlone", fn := fun _ => fun
  | [d1, d2, d3] => { results := [.lit (.bool false)], args := [d1, d2, d3] }
  | _ => none }
def StripeAloneWrongFalsely : Prop := stripeAloneRow.holds Try.pinned (OpenSpec.ofChange stripeAloneWrong)

/-- 'cairnlaw10.StripeOpen': WHATEVER THE INPUT: true; the input reads as it did. -/
def stripeOpenSpec : ChangeSpec := { name := "stripeOpen", fn := fun _ => fun
  | [d1, d2] => { results := [.lit (.bool true)], args := [d1, d2] }
  | _ => none }
def stripeOpenRow : OpenClaim := { program := "ytjaaldandgfkgaa", sum := "4b868bc2bea6f2bbfaa8b54386596e71383d69244c1a5cdfd41a1dd3492fe989", func := "cairn/cairnlaw10.StripeOpen", spec := "stripeOpen", inPlace := ["internal/bytealg.MakeNoZero"], unfollowed := true, recurses := true, apart := false }
def StripeOpenSaid : Prop := stripeOpenRow.holds Try.pinned (OpenSpec.ofChange stripeOpenSpec)

/-- ITS FALSE NEIGHBOUR: 'it returns false'. Refute it at one input. -/
def stripeOpenWrong : ChangeSpec := { name := "stripeOpen", fn := fun _ => fun
  | [d1, d2] => { results := [.lit (.bool false)], args := [d1, d2] }
  | _ => none }
def StripeOpenWrongFalsely : Prop := stripeOpenRow.holds Try.pinned (OpenSpec.ofChange stripeOpenWrong)

/-- 'cairnlaw10.StripeAnyK': WHATEVER THE INPUT: true; the input reads as it did. -/
def stripeAnyKSpec : ChangeSpec := { name := "stripeAnyK", fn := fun _ => fun
  | [d1, d2, d3] => { results := [.lit (.bool true)], args := [d1, d2, d3] }
  | _ => none }
def stripeAnyKRow : OpenClaim := { program := "ytjaaldandgfkgaa", sum := "4b868bc2bea6f2bbfaa8b54386596e71383d69244c1a5cdfd41a1dd3492fe989", func := "cairn/cairnlaw10.StripeAnyK", spec := "stripeAnyK", inPlace := ["internal/bytealg.MakeNoZero"], unfollowed := true, recurses := true, apart := false }
def StripeAnyKSaid : Prop := stripeAnyKRow.holds Try.pinned (OpenSpec.ofChange stripeAnyKSpec)

/-- ITS FALSE NEIGHBOUR: 'it returns false'. Refute it at one input. -/
def stripeAnyKWrong : ChangeSpec := { name := "stripeAnyK", fn := fun _ => fun
  | [d1, d2, d3] => { results := [.lit (.bool false)], args := [d1, d2, d3] }
  | _ => none }
def StripeAnyKWrongFalsely : Prop := stripeAnyKRow.holds Try.pinned (OpenSpec.ofChange stripeAnyKWrong)

/-- 'cairnlaw10.StripeMemory': WHATEVER THE INPUT: true; the input reads as it did. -/
def stripeMemorySpec : ChangeSpec := { name := "stripeMemory", fn := fun _ => fun
  | [d1, d2] => { results := [.lit (.bool true)], args := [d1, d2] }
  | _ => none }
def stripeMemoryRow : OpenClaim := { program := "ytjaaldandgfkgaa", sum := "4b868bc2bea6f2bbfaa8b54386596e71383d69244c1a5cdfd41a1dd3492fe989", func := "cairn/cairnlaw10.StripeMemory", spec := "stripeMemory", inPlace := ["internal/bytealg.MakeNoZero"], unfollowed := true, recurses := true, apart := false }
def StripeMemorySaid : Prop := stripeMemoryRow.holds Try.pinned (OpenSpec.ofChange stripeMemorySpec)

/-- ITS FALSE NEIGHBOUR: 'it returns false'. Refute it at one input. -/
def stripeMemoryWrong : ChangeSpec := { name := "stripeMemory", fn := fun _ => fun
  | [d1, d2] => { results := [.lit (.bool false)], args := [d1, d2] }
  | _ => none }
def StripeMemoryWrongFalsely : Prop := stripeMemoryRow.holds Try.pinned (OpenSpec.ofChange stripeMemoryWrong)

/-- 'cairnlaw10.StripeCost': WHATEVER THE INPUT: true; the input reads as it did. -/
def stripeCostSpec : ChangeSpec := { name := "stripeCost", fn := fun _ => fun
  | [d1, d2, d3] => { results := [.lit (.bool true)], args := [d1, d2, d3] }
  | _ => none }
def stripeCostRow : OpenClaim := { program := "ytjaaldandgfkgaa", sum := "4b868bc2bea6f2bbfaa8b54386596e71383d69244c1a5cdfd41a1dd3492fe989", func := "cairn/cairnlaw10.StripeCost", spec := "stripeCost", inPlace := ["internal/bytealg.MakeNoZero"], unfollowed := true, recurses := true, apart := false }
def StripeCostSaid : Prop := stripeCostRow.holds Try.pinned (OpenSpec.ofChange stripeCostSpec)

/-- ITS FALSE NEIGHBOUR: 'it returns false'. Refute it at one input. -/
def stripeCostWrong : ChangeSpec := { name := "stripeCost", fn := fun _ => fun
  | [d1, d2, d3] => { results := [.lit (.bool false)], args := [d1, d2, d3] }
  | _ => none }
def StripeCostWrongFalsely : Prop := stripeCostRow.holds Try.pinned (OpenSpec.ofChange stripeCostWrong)

/-- 'cairnlaw10.StripeFiles': WHATEVER THE INPUT: true; the input reads as it did. -/
def stripeFilesSpec : ChangeSpec := { name := "stripeFiles", fn := fun _ => fun
  | [d1, d2] => { results := [.lit (.bool true)], args := [d1, d2] }
  | _ => none }
def stripeFilesRow : OpenClaim := { program := "ytjaaldandgfkgaa", sum := "4b868bc2bea6f2bbfaa8b54386596e71383d69244c1a5cdfd41a1dd3492fe989", func := "cairn/cairnlaw10.StripeFiles", spec := "stripeFiles", inPlace := ["internal/bytealg.MakeNoZero"], unfollowed := true, recurses := true, apart := false }
def StripeFilesSaid : Prop := stripeFilesRow.holds Try.pinned (OpenSpec.ofChange stripeFilesSpec)

/-- ITS FALSE NEIGHBOUR: 'it returns false'. Refute it at one input. -/
def stripeFilesWrong : ChangeSpec := { name := "stripeFiles", fn := fun _ => fun
  | [d1, d2] => { results := [.lit (.bool false)], args := [d1, d2] }
  | _ => none }
def StripeFilesWrongFalsely : Prop := stripeFilesRow.holds Try.pinned (OpenSpec.ofChange stripeFilesWrong)

/- THE SECOND FORM. 'bulk': how many values and letters a reading holds, each counted each time it is reached (what is shared counts as often as it is met; a slice's spare places count too). A statement '..UptoSaid' is the law's where the arguments, and the package variables that the reading takes, are together of bulk at most 1048576: NARROWER than '..Said'. Prove '..Said' where nothing that the law and all that it calls make is longer than what came in: it says more and counts as full. Else prove '..UptoSaid'. A law counts once. -/
mutual
def uptoBulk {H : Type} : DataW H → Nat
  | .lit (.string bytes) => bytes.length + 1
  | .lit _ => 1
  | .nil => 1
  | .ptr d => uptoBulk d + 1
  | .slice elems spare => uptoBulkAll elems + uptoBulkAll spare + 1
  | .agg parts => uptoBulkAll parts + 1
  | .iface _ d => uptoBulk d + 1
  | .map entries => uptoBulkEntries entries + 1
  | .held _ => 1
def uptoBulkAll {H : Type} : List (DataW H) → Nat
  | [] => 0
  | d :: r => uptoBulk d + uptoBulkAll r
def uptoBulkEntries {H : Type} : List (Lit × DataW H) → Nat
  | [] => 0
  | x :: r => uptoBulkEntry x + uptoBulkEntries r
def uptoBulkEntry {H : Type} : Lit × DataW H → Nat
  | (.string bytes, d) => bytes.length + uptoBulk d + 1
  | (_, d) => uptoBulk d + 1
 end
def uptoSmall : (H : Type) → List (DataW H) → Bool := fun _ ds => decide (uptoBulkAll ds ≤ 1048576)
def OpenSpec.upto (s : _root_.Go.ChangeSpec) : _root_.Go.OpenSpec := { _root_.Go.OpenSpec.ofChange s with cond := some uptoSmall }

/-- 'cairnlaw10.StripeNames', WHERE WHAT IT READS IS OF BULK AT MOST 1048576: true; the input reads as it did. -/
def stripeNamesUptoRow : OpenClaim := { program := "ytjaaldandgfkgaa", sum := "4b868bc2bea6f2bbfaa8b54386596e71383d69244c1a5cdfd41a1dd3492fe989", func := "cairn/cairnlaw10.StripeNames", spec := "stripeNames", apart := false, narrowed := true }
def StripeNamesUptoSaid : Prop := stripeNamesUptoRow.holds Try.pinned (OpenSpec.upto stripeNamesSpec)

/-- 'cairnlaw10.StripeSizes', WHERE WHAT IT READS IS OF BULK AT MOST 1048576: true; the input reads as it did. -/
def stripeSizesUptoRow : OpenClaim := { program := "ytjaaldandgfkgaa", sum := "4b868bc2bea6f2bbfaa8b54386596e71383d69244c1a5cdfd41a1dd3492fe989", func := "cairn/cairnlaw10.StripeSizes", spec := "stripeSizes", apart := false, narrowed := true }
def StripeSizesUptoSaid : Prop := stripeSizesUptoRow.holds Try.pinned (OpenSpec.upto stripeSizesSpec)

/-- 'cairnlaw10.StripeWheres', WHERE WHAT IT READS IS OF BULK AT MOST 1048576: true; the input reads as it did. -/
def stripeWheresUptoRow : OpenClaim := { program := "ytjaaldandgfkgaa", sum := "4b868bc2bea6f2bbfaa8b54386596e71383d69244c1a5cdfd41a1dd3492fe989", func := "cairn/cairnlaw10.StripeWheres", spec := "stripeWheres", apart := false, narrowed := true }
def StripeWheresUptoSaid : Prop := stripeWheresUptoRow.holds Try.pinned (OpenSpec.upto stripeWheresSpec)

/-- 'cairnlaw10.StripeSplits', WHERE WHAT IT READS IS OF BULK AT MOST 1048576: true; the input reads as it did. -/
def stripeSplitsUptoRow : OpenClaim := { program := "ytjaaldandgfkgaa", sum := "4b868bc2bea6f2bbfaa8b54386596e71383d69244c1a5cdfd41a1dd3492fe989", func := "cairn/cairnlaw10.StripeSplits", spec := "stripeSplits", apart := false, narrowed := true }
def StripeSplitsUptoSaid : Prop := stripeSplitsUptoRow.holds Try.pinned (OpenSpec.upto stripeSplitsSpec)

/-- 'cairnlaw10.StripeJoins', WHERE WHAT IT READS IS OF BULK AT MOST 1048576: true; the input reads as it did. -/
def stripeJoinsUptoRow : OpenClaim := { program := "ytjaaldandgfkgaa", sum := "4b868bc2bea6f2bbfaa8b54386596e71383d69244c1a5cdfd41a1dd3492fe989", func := "cairn/cairnlaw10.StripeJoins", spec := "stripeJoins", inPlace := ["internal/bytealg.MakeNoZero"], unfollowed := true, recurses := true, apart := false, narrowed := true }
def StripeJoinsUptoSaid : Prop := stripeJoinsUptoRow.holds Try.pinned (OpenSpec.upto stripeJoinsSpec)

/-- 'cairnlaw10.StripePieces', WHERE WHAT IT READS IS OF BULK AT MOST 1048576: true; the input reads as it did. -/
def stripePiecesUptoRow : OpenClaim := { program := "ytjaaldandgfkgaa", sum := "4b868bc2bea6f2bbfaa8b54386596e71383d69244c1a5cdfd41a1dd3492fe989", func := "cairn/cairnlaw10.StripePieces", spec := "stripePieces", inPlace := ["internal/bytealg.MakeNoZero"], unfollowed := true, recurses := true, apart := false, narrowed := true }
def StripePiecesUptoSaid : Prop := stripePiecesUptoRow.holds Try.pinned (OpenSpec.upto stripePiecesSpec)

/-- 'cairnlaw10.StripeAlone', WHERE WHAT IT READS IS OF BULK AT MOST 1048576: true; the input reads as it did. -/
def stripeAloneUptoRow : OpenClaim := { program := "ytjaaldandgfkgaa", sum := "4b868bc2bea6f2bbfaa8b54386596e71383d69244c1a5cdfd41a1dd3492fe989", func := "cairn/cairnlaw10.StripeAlone", spec := "stripeAlone", inPlace := ["internal/bytealg.MakeNoZero"], unfollowed := true, recurses := true, apart := false, narrowed := true }
def StripeAloneUptoSaid : Prop := stripeAloneUptoRow.holds Try.pinned (OpenSpec.upto stripeAloneSpec)

/-- 'cairnlaw10.StripeOpen', WHERE WHAT IT READS IS OF BULK AT MOST 1048576: true; the input reads as it did. -/
def stripeOpenUptoRow : OpenClaim := { program := "ytjaaldandgfkgaa", sum := "4b868bc2bea6f2bbfaa8b54386596e71383d69244c1a5cdfd41a1dd3492fe989", func := "cairn/cairnlaw10.StripeOpen", spec := "stripeOpen", inPlace := ["internal/bytealg.MakeNoZero"], unfollowed := true, recurses := true, apart := false, narrowed := true }
def StripeOpenUptoSaid : Prop := stripeOpenUptoRow.holds Try.pinned (OpenSpec.upto stripeOpenSpec)

/-- 'cairnlaw10.StripeAnyK', WHERE WHAT IT READS IS OF BULK AT MOST 1048576: true; the input reads as it did. -/
def stripeAnyKUptoRow : OpenClaim := { program := "ytjaaldandgfkgaa", sum := "4b868bc2bea6f2bbfaa8b54386596e71383d69244c1a5cdfd41a1dd3492fe989", func := "cairn/cairnlaw10.StripeAnyK", spec := "stripeAnyK", inPlace := ["internal/bytealg.MakeNoZero"], unfollowed := true, recurses := true, apart := false, narrowed := true }
def StripeAnyKUptoSaid : Prop := stripeAnyKUptoRow.holds Try.pinned (OpenSpec.upto stripeAnyKSpec)

/-- 'cairnlaw10.StripeMemory', WHERE WHAT IT READS IS OF BULK AT MOST 1048576: true; the input reads as it did. -/
def stripeMemoryUptoRow : OpenClaim := { program := "ytjaaldandgfkgaa", sum := "4b868bc2bea6f2bbfaa8b54386596e71383d69244c1a5cdfd41a1dd3492fe989", func := "cairn/cairnlaw10.StripeMemory", spec := "stripeMemory", inPlace := ["internal/bytealg.MakeNoZero"], unfollowed := true, recurses := true, apart := false, narrowed := true }
def StripeMemoryUptoSaid : Prop := stripeMemoryUptoRow.holds Try.pinned (OpenSpec.upto stripeMemorySpec)

/-- 'cairnlaw10.StripeCost', WHERE WHAT IT READS IS OF BULK AT MOST 1048576: true; the input reads as it did. -/
def stripeCostUptoRow : OpenClaim := { program := "ytjaaldandgfkgaa", sum := "4b868bc2bea6f2bbfaa8b54386596e71383d69244c1a5cdfd41a1dd3492fe989", func := "cairn/cairnlaw10.StripeCost", spec := "stripeCost", inPlace := ["internal/bytealg.MakeNoZero"], unfollowed := true, recurses := true, apart := false, narrowed := true }
def StripeCostUptoSaid : Prop := stripeCostUptoRow.holds Try.pinned (OpenSpec.upto stripeCostSpec)

/-- 'cairnlaw10.StripeFiles', WHERE WHAT IT READS IS OF BULK AT MOST 1048576: true; the input reads as it did. -/
def stripeFilesUptoRow : OpenClaim := { program := "ytjaaldandgfkgaa", sum := "4b868bc2bea6f2bbfaa8b54386596e71383d69244c1a5cdfd41a1dd3492fe989", func := "cairn/cairnlaw10.StripeFiles", spec := "stripeFiles", inPlace := ["internal/bytealg.MakeNoZero"], unfollowed := true, recurses := true, apart := false, narrowed := true }
def StripeFilesUptoSaid : Prop := stripeFilesUptoRow.holds Try.pinned (OpenSpec.upto stripeFilesSpec)

end Rows
end Go.Proofs.Ytjaaldandgfkgaa
