/-
  No cell of these rows narrows 'for every input' (looked for: loops, veiled, ifaces, maps, wideKeys, modest, calm, conditions, laid).
  DERIVED. THE GIVEN ROWS OF THIS SEAT. 17 by the template 'for every input the law returns true; each argument reads behind the call as it read before'; 0 by the template 'total and deterministic' (their statements: YtngbiaeliphdjaaTotals.lean).
  GIVEN WITH THE SEED: the statements are not yours to turn. If you find one false, say at which input.
  Laid BY PROGRAM, IN A SANDBOX (cutbox-rows.mjs): the forced cells as the released guide's own fill.sh prints them over the translation 9e93e5a5b016910c… (all of the seat's roots in one cut). By AI agents, Wed Nov 11 2026. No macro, syntax, notation, axiom, sorry.
-/
import Derived.Test.YtngbiaeliphdjaaChecked
import GoSem.Claim
import GoSem.ClaimJoined
import GoSem.ClaimMapViews
import Derived.JoinedTies
import Derived.KernelRfl
namespace Go.Proofs.Ytngbiaeliphdjaa
/- THE CELL 'sum', in the pinned program and in every row, IS THE sha256 OF THE DUMP (.gsa) THAT YtngbiaeliphdjaaProg.lean LOADS. Nothing in Lean hashes anything: it is a label: what it is worth is what the hold of that sum in a sandbox is worth. -/
noncomputable def Try.pinned : Pinned := { name := "ytngbiaeliphdjaa", sum := "9e93e5a5b016910c4423bbbcb7c96a039fb3e95ada8b6e5b2000884aeb9e1a23", checked := Try.checked }
namespace Rows
def none {H : Type} : Left H := { results := [], args := [] }

/-- 'laws.FnTop': WHATEVER THE INPUT: true; the input reads as it did. -/
def fnTopSpec : ChangeSpec := { name := "fnTop", fn := fun _ => fun
  | [d] => { results := [.lit (.bool true)], args := [d] }
  | _ => none }
def fnTopRow : OpenClaim := { program := "ytngbiaeliphdjaa", sum := "9e93e5a5b016910c4423bbbcb7c96a039fb3e95ada8b6e5b2000884aeb9e1a23", func := "loop.example/twist/laws.FnTop", spec := "fnTop", unfollowed := true, recurses := true, plainKeys := false, apart := false }
def FnTopSaid : Prop := fnTopRow.holds Try.pinned (OpenSpec.ofChange fnTopSpec)

/-- ITS FALSE NEIGHBOUR: 'it returns false'. Refute it at one input. -/
def fnTopWrong : ChangeSpec := { name := "fnTop", fn := fun _ => fun
  | [d] => { results := [.lit (.bool false)], args := [d] }
  | _ => none }
def FnTopWrongFalsely : Prop := fnTopRow.holds Try.pinned (OpenSpec.ofChange fnTopWrong)

/-- 'laws.FnCounts': WHATEVER THE INPUT: true; the input reads as it did. -/
def fnCountsSpec : ChangeSpec := { name := "fnCounts", fn := fun _ => fun
  | [d] => { results := [.lit (.bool true)], args := [d] }
  | _ => none }
def fnCountsRow : OpenClaim := { program := "ytngbiaeliphdjaa", sum := "9e93e5a5b016910c4423bbbcb7c96a039fb3e95ada8b6e5b2000884aeb9e1a23", func := "loop.example/twist/laws.FnCounts", spec := "fnCounts", unfollowed := true, recurses := true, plainKeys := false, apart := false }
def FnCountsSaid : Prop := fnCountsRow.holds Try.pinned (OpenSpec.ofChange fnCountsSpec)

/-- ITS FALSE NEIGHBOUR: 'it returns false'. Refute it at one input. -/
def fnCountsWrong : ChangeSpec := { name := "fnCounts", fn := fun _ => fun
  | [d] => { results := [.lit (.bool false)], args := [d] }
  | _ => none }
def FnCountsWrongFalsely : Prop := fnCountsRow.holds Try.pinned (OpenSpec.ofChange fnCountsWrong)

/-- 'laws.FnEscape': WHATEVER THE INPUT: true; the input reads as it did. -/
def fnEscapeSpec : ChangeSpec := { name := "fnEscape", fn := fun _ => fun
  | [d1, d2] => { results := [.lit (.bool true)], args := [d1, d2] }
  | _ => none }
def fnEscapeRow : OpenClaim := { program := "ytngbiaeliphdjaa", sum := "9e93e5a5b016910c4423bbbcb7c96a039fb3e95ada8b6e5b2000884aeb9e1a23", func := "loop.example/twist/laws.FnEscape", spec := "fnEscape", unfollowed := true, recurses := true, plainKeys := false, apart := false }
def FnEscapeSaid : Prop := fnEscapeRow.holds Try.pinned (OpenSpec.ofChange fnEscapeSpec)

/-- ITS FALSE NEIGHBOUR: 'it returns false'. Refute it at one input. -/
def fnEscapeWrong : ChangeSpec := { name := "fnEscape", fn := fun _ => fun
  | [d1, d2] => { results := [.lit (.bool false)], args := [d1, d2] }
  | _ => none }
def FnEscapeWrongFalsely : Prop := fnEscapeRow.holds Try.pinned (OpenSpec.ofChange fnEscapeWrong)

/-- 'laws.FnExactReadPattern': WHATEVER THE INPUT: true; the input reads as it did. -/
def fnExactReadPatternSpec : ChangeSpec := { name := "fnExactReadPattern", fn := fun _ => fun
  | [d] => { results := [.lit (.bool true)], args := [d] }
  | _ => none }
def fnExactReadPatternRow : OpenClaim := { program := "ytngbiaeliphdjaa", sum := "9e93e5a5b016910c4423bbbcb7c96a039fb3e95ada8b6e5b2000884aeb9e1a23", func := "loop.example/twist/laws.FnExactReadPattern", spec := "fnExactReadPattern", unfollowed := true, recurses := true, plainKeys := false, apart := false }
def FnExactReadPatternSaid : Prop := fnExactReadPatternRow.holds Try.pinned (OpenSpec.ofChange fnExactReadPatternSpec)

/-- ITS FALSE NEIGHBOUR: 'it returns false'. Refute it at one input. -/
def fnExactReadPatternWrong : ChangeSpec := { name := "fnExactReadPattern", fn := fun _ => fun
  | [d] => { results := [.lit (.bool false)], args := [d] }
  | _ => none }
def FnExactReadPatternWrongFalsely : Prop := fnExactReadPatternRow.holds Try.pinned (OpenSpec.ofChange fnExactReadPatternWrong)

/-- 'laws.FnExactCount': WHATEVER THE INPUT: true; the input reads as it did. -/
def fnExactCountSpec : ChangeSpec := { name := "fnExactCount", fn := fun _ => fun
  | [d1, d2] => { results := [.lit (.bool true)], args := [d1, d2] }
  | _ => none }
def fnExactCountRow : OpenClaim := { program := "ytngbiaeliphdjaa", sum := "9e93e5a5b016910c4423bbbcb7c96a039fb3e95ada8b6e5b2000884aeb9e1a23", func := "loop.example/twist/laws.FnExactCount", spec := "fnExactCount", unfollowed := true, recurses := true, plainKeys := false, apart := false }
def FnExactCountSaid : Prop := fnExactCountRow.holds Try.pinned (OpenSpec.ofChange fnExactCountSpec)

/-- ITS FALSE NEIGHBOUR: 'it returns false'. Refute it at one input. -/
def fnExactCountWrong : ChangeSpec := { name := "fnExactCount", fn := fun _ => fun
  | [d1, d2] => { results := [.lit (.bool false)], args := [d1, d2] }
  | _ => none }
def FnExactCountWrongFalsely : Prop := fnExactCountRow.holds Try.pinned (OpenSpec.ofChange fnExactCountWrong)

/-- 'laws.FnExactWhole': WHATEVER THE INPUT: true; the input reads as it did. -/
def fnExactWholeSpec : ChangeSpec := { name := "fnExactWhole", fn := fun _ => fun
  | [d1, d2] => { results := [.lit (.bool true)], args := [d1, d2] }
  | _ => none }
def fnExactWholeRow : OpenClaim := { program := "ytngbiaeliphdjaa", sum := "9e93e5a5b016910c4423bbbcb7c96a039fb3e95ada8b6e5b2000884aeb9e1a23", func := "loop.example/twist/laws.FnExactWhole", spec := "fnExactWhole", unfollowed := true, recurses := true, plainKeys := false, apart := false }
def FnExactWholeSaid : Prop := fnExactWholeRow.holds Try.pinned (OpenSpec.ofChange fnExactWholeSpec)

/-- ITS FALSE NEIGHBOUR: 'it returns false'. Refute it at one input. -/
def fnExactWholeWrong : ChangeSpec := { name := "fnExactWhole", fn := fun _ => fun
  | [d1, d2] => { results := [.lit (.bool false)], args := [d1, d2] }
  | _ => none }
def FnExactWholeWrongFalsely : Prop := fnExactWholeRow.holds Try.pinned (OpenSpec.ofChange fnExactWholeWrong)

/-- 'laws.FnExactFind': WHATEVER THE INPUT: true; the input reads as it did. -/
def fnExactFindSpec : ChangeSpec := { name := "fnExactFind", fn := fun _ => fun
  | [d1, d2, d3] => { results := [.lit (.bool true)], args := [d1, d2, d3] }
  | _ => none }
def fnExactFindRow : OpenClaim := { program := "ytngbiaeliphdjaa", sum := "9e93e5a5b016910c4423bbbcb7c96a039fb3e95ada8b6e5b2000884aeb9e1a23", func := "loop.example/twist/laws.FnExactFind", spec := "fnExactFind", unfollowed := true, recurses := true, plainKeys := false, apart := false }
def FnExactFindSaid : Prop := fnExactFindRow.holds Try.pinned (OpenSpec.ofChange fnExactFindSpec)

/-- ITS FALSE NEIGHBOUR: 'it returns false'. Refute it at one input. -/
def fnExactFindWrong : ChangeSpec := { name := "fnExactFind", fn := fun _ => fun
  | [d1, d2, d3] => { results := [.lit (.bool false)], args := [d1, d2, d3] }
  | _ => none }
def FnExactFindWrongFalsely : Prop := fnExactFindRow.holds Try.pinned (OpenSpec.ofChange fnExactFindWrong)

/-- 'laws.FnExactWays': WHATEVER THE INPUT: true; the input reads as it did. -/
def fnExactWaysSpec : ChangeSpec := { name := "fnExactWays", fn := fun _ => fun
  | [d1, d2, d3] => { results := [.lit (.bool true)], args := [d1, d2, d3] }
  | _ => none }
def fnExactWaysRow : OpenClaim := { program := "ytngbiaeliphdjaa", sum := "9e93e5a5b016910c4423bbbcb7c96a039fb3e95ada8b6e5b2000884aeb9e1a23", func := "loop.example/twist/laws.FnExactWays", spec := "fnExactWays", unfollowed := true, recurses := true, plainKeys := false, apart := false }
def FnExactWaysSaid : Prop := fnExactWaysRow.holds Try.pinned (OpenSpec.ofChange fnExactWaysSpec)

/-- ITS FALSE NEIGHBOUR: 'it returns false'. Refute it at one input. -/
def fnExactWaysWrong : ChangeSpec := { name := "fnExactWays", fn := fun _ => fun
  | [d1, d2, d3] => { results := [.lit (.bool false)], args := [d1, d2, d3] }
  | _ => none }
def FnExactWaysWrongFalsely : Prop := fnExactWaysRow.holds Try.pinned (OpenSpec.ofChange fnExactWaysWrong)

/-- 'laws.FnExactSplit': WHATEVER THE INPUT: true; the input reads as it did. -/
def fnExactSplitSpec : ChangeSpec := { name := "fnExactSplit", fn := fun _ => fun
  | [d1, d2] => { results := [.lit (.bool true)], args := [d1, d2] }
  | _ => none }
def fnExactSplitRow : OpenClaim := { program := "ytngbiaeliphdjaa", sum := "9e93e5a5b016910c4423bbbcb7c96a039fb3e95ada8b6e5b2000884aeb9e1a23", func := "loop.example/twist/laws.FnExactSplit", spec := "fnExactSplit", unfollowed := true, recurses := true, plainKeys := false, apart := false }
def FnExactSplitSaid : Prop := fnExactSplitRow.holds Try.pinned (OpenSpec.ofChange fnExactSplitSpec)

/-- ITS FALSE NEIGHBOUR: 'it returns false'. Refute it at one input. -/
def fnExactSplitWrong : ChangeSpec := { name := "fnExactSplit", fn := fun _ => fun
  | [d1, d2] => { results := [.lit (.bool false)], args := [d1, d2] }
  | _ => none }
def FnExactSplitWrongFalsely : Prop := fnExactSplitRow.holds Try.pinned (OpenSpec.ofChange fnExactSplitWrong)

/-- 'laws.FnEnds': WHATEVER THE INPUT: true; the input reads as it did. -/
def fnEndsSpec : ChangeSpec := { name := "fnEnds", fn := fun _ => fun
  | [d] => { results := [.lit (.bool true)], args := [d] }
  | _ => none }
def fnEndsRow : OpenClaim := { program := "ytngbiaeliphdjaa", sum := "9e93e5a5b016910c4423bbbcb7c96a039fb3e95ada8b6e5b2000884aeb9e1a23", func := "loop.example/twist/laws.FnEnds", spec := "fnEnds", unfollowed := true, recurses := true, plainKeys := false, apart := false }
def FnEndsSaid : Prop := fnEndsRow.holds Try.pinned (OpenSpec.ofChange fnEndsSpec)

/-- ITS FALSE NEIGHBOUR: 'it returns false'. Refute it at one input. -/
def fnEndsWrong : ChangeSpec := { name := "fnEnds", fn := fun _ => fun
  | [d] => { results := [.lit (.bool false)], args := [d] }
  | _ => none }
def FnEndsWrongFalsely : Prop := fnEndsRow.holds Try.pinned (OpenSpec.ofChange fnEndsWrong)

/-- 'laws.FnExactWritePattern': WHATEVER THE INPUT: true; the input reads as it did. -/
def fnExactWritePatternSpec : ChangeSpec := { name := "fnExactWritePattern", fn := fun _ => fun
  | [d] => { results := [.lit (.bool true)], args := [d] }
  | _ => none }
def fnExactWritePatternRow : OpenClaim := { program := "ytngbiaeliphdjaa", sum := "9e93e5a5b016910c4423bbbcb7c96a039fb3e95ada8b6e5b2000884aeb9e1a23", func := "loop.example/twist/laws.FnExactWritePattern", spec := "fnExactWritePattern", unfollowed := true, recurses := true, plainKeys := false, apart := false }
def FnExactWritePatternSaid : Prop := fnExactWritePatternRow.holds Try.pinned (OpenSpec.ofChange fnExactWritePatternSpec)

/-- ITS FALSE NEIGHBOUR: 'it returns false'. Refute it at one input. -/
def fnExactWritePatternWrong : ChangeSpec := { name := "fnExactWritePattern", fn := fun _ => fun
  | [d] => { results := [.lit (.bool false)], args := [d] }
  | _ => none }
def FnExactWritePatternWrongFalsely : Prop := fnExactWritePatternRow.holds Try.pinned (OpenSpec.ofChange fnExactWritePatternWrong)

/-- 'laws.FnExactAll': WHATEVER THE INPUT: true; the input reads as it did. -/
def fnExactAllSpec : ChangeSpec := { name := "fnExactAll", fn := fun _ => fun
  | [d1, d2] => { results := [.lit (.bool true)], args := [d1, d2] }
  | _ => none }
def fnExactAllRow : OpenClaim := { program := "ytngbiaeliphdjaa", sum := "9e93e5a5b016910c4423bbbcb7c96a039fb3e95ada8b6e5b2000884aeb9e1a23", func := "loop.example/twist/laws.FnExactAll", spec := "fnExactAll", unfollowed := true, recurses := true, plainKeys := false, apart := false }
def FnExactAllSaid : Prop := fnExactAllRow.holds Try.pinned (OpenSpec.ofChange fnExactAllSpec)

/-- ITS FALSE NEIGHBOUR: 'it returns false'. Refute it at one input. -/
def fnExactAllWrong : ChangeSpec := { name := "fnExactAll", fn := fun _ => fun
  | [d1, d2] => { results := [.lit (.bool false)], args := [d1, d2] }
  | _ => none }
def FnExactAllWrongFalsely : Prop := fnExactAllRow.holds Try.pinned (OpenSpec.ofChange fnExactAllWrong)

/-- 'laws.FnSplit': WHATEVER THE INPUT: true; the input reads as it did. -/
def fnSplitSpec : ChangeSpec := { name := "fnSplit", fn := fun _ => fun
  | [d] => { results := [.lit (.bool true)], args := [d] }
  | _ => none }
def fnSplitRow : OpenClaim := { program := "ytngbiaeliphdjaa", sum := "9e93e5a5b016910c4423bbbcb7c96a039fb3e95ada8b6e5b2000884aeb9e1a23", func := "loop.example/twist/laws.FnSplit", spec := "fnSplit", unfollowed := true, recurses := true, plainKeys := false, apart := false }
def FnSplitSaid : Prop := fnSplitRow.holds Try.pinned (OpenSpec.ofChange fnSplitSpec)

/-- ITS FALSE NEIGHBOUR: 'it returns false'. Refute it at one input. -/
def fnSplitWrong : ChangeSpec := { name := "fnSplit", fn := fun _ => fun
  | [d] => { results := [.lit (.bool false)], args := [d] }
  | _ => none }
def FnSplitWrongFalsely : Prop := fnSplitRow.holds Try.pinned (OpenSpec.ofChange fnSplitWrong)

/-- 'laws.FnFirst': WHATEVER THE INPUT: true; the input reads as it did. -/
def fnFirstSpec : ChangeSpec := { name := "fnFirst", fn := fun _ => fun
  | [d1, d2] => { results := [.lit (.bool true)], args := [d1, d2] }
  | _ => none }
def fnFirstRow : OpenClaim := { program := "ytngbiaeliphdjaa", sum := "9e93e5a5b016910c4423bbbcb7c96a039fb3e95ada8b6e5b2000884aeb9e1a23", func := "loop.example/twist/laws.FnFirst", spec := "fnFirst", unfollowed := true, recurses := true, plainKeys := false, apart := false }
def FnFirstSaid : Prop := fnFirstRow.holds Try.pinned (OpenSpec.ofChange fnFirstSpec)

/-- ITS FALSE NEIGHBOUR: 'it returns false'. Refute it at one input. -/
def fnFirstWrong : ChangeSpec := { name := "fnFirst", fn := fun _ => fun
  | [d1, d2] => { results := [.lit (.bool false)], args := [d1, d2] }
  | _ => none }
def FnFirstWrongFalsely : Prop := fnFirstRow.holds Try.pinned (OpenSpec.ofChange fnFirstWrong)

/-- 'laws.FnExactReplace': WHATEVER THE INPUT: true; the input reads as it did. -/
def fnExactReplaceSpec : ChangeSpec := { name := "fnExactReplace", fn := fun _ => fun
  | [d1, d2, d3, d4] => { results := [.lit (.bool true)], args := [d1, d2, d3, d4] }
  | _ => none }
def fnExactReplaceRow : OpenClaim := { program := "ytngbiaeliphdjaa", sum := "9e93e5a5b016910c4423bbbcb7c96a039fb3e95ada8b6e5b2000884aeb9e1a23", func := "loop.example/twist/laws.FnExactReplace", spec := "fnExactReplace", unfollowed := true, recurses := true, plainKeys := false, apart := false }
def FnExactReplaceSaid : Prop := fnExactReplaceRow.holds Try.pinned (OpenSpec.ofChange fnExactReplaceSpec)

/-- ITS FALSE NEIGHBOUR: 'it returns false'. Refute it at one input. -/
def fnExactReplaceWrong : ChangeSpec := { name := "fnExactReplace", fn := fun _ => fun
  | [d1, d2, d3, d4] => { results := [.lit (.bool false)], args := [d1, d2, d3, d4] }
  | _ => none }
def FnExactReplaceWrongFalsely : Prop := fnExactReplaceRow.holds Try.pinned (OpenSpec.ofChange fnExactReplaceWrong)

/-- 'laws.FnWritten': WHATEVER THE INPUT: true; the input reads as it did. -/
def fnWrittenSpec : ChangeSpec := { name := "fnWritten", fn := fun _ => fun
  | [d] => { results := [.lit (.bool true)], args := [d] }
  | _ => none }
def fnWrittenRow : OpenClaim := { program := "ytngbiaeliphdjaa", sum := "9e93e5a5b016910c4423bbbcb7c96a039fb3e95ada8b6e5b2000884aeb9e1a23", func := "loop.example/twist/laws.FnWritten", spec := "fnWritten", unfollowed := true, recurses := true, plainKeys := false, apart := false }
def FnWrittenSaid : Prop := fnWrittenRow.holds Try.pinned (OpenSpec.ofChange fnWrittenSpec)

/-- ITS FALSE NEIGHBOUR: 'it returns false'. Refute it at one input. -/
def fnWrittenWrong : ChangeSpec := { name := "fnWritten", fn := fun _ => fun
  | [d] => { results := [.lit (.bool false)], args := [d] }
  | _ => none }
def FnWrittenWrongFalsely : Prop := fnWrittenRow.holds Try.pinned (OpenSpec.ofChange fnWrittenWrong)

/-- 'laws.FnReplace': WHATEVER THE INPUT: true; the input reads as it did. -/
def fnReplaceSpec : ChangeSpec := { name := "fnReplace", fn := fun _ => fun
  | [d1, d2] => { results := [.lit (.bool true)], args := [d1, d2] }
  | _ => none }
def fnReplaceRow : OpenClaim := { program := "ytngbiaeliphdjaa", sum := "9e93e5a5b016910c4423bbbcb7c96a039fb3e95ada8b6e5b2000884aeb9e1a23", func := "loop.example/twist/laws.FnReplace", spec := "fnReplace", unfollowed := true, recurses := true, plainKeys := false, apart := false }
def FnReplaceSaid : Prop := fnReplaceRow.holds Try.pinned (OpenSpec.ofChange fnReplaceSpec)

/-- ITS FALSE NEIGHBOUR: 'it returns false'. Refute it at one input. -/
def fnReplaceWrong : ChangeSpec := { name := "fnReplace", fn := fun _ => fun
  | [d1, d2] => { results := [.lit (.bool false)], args := [d1, d2] }
  | _ => none }
def FnReplaceWrongFalsely : Prop := fnReplaceRow.holds Try.pinned (OpenSpec.ofChange fnReplaceWrong)

/- THE SECOND FORM. 'bulk': how many values and letters a reading holds, each counted each time it is reached (what is shared counts as often as it is met; a slice's spare places count too). A statement '..UptoSaid' is the law's where the arguments, and the package variables that the reading takes, are together of bulk at most 1048576: NARROWER than '..Said'. Prove '..Said' where nothing that the law and all that it calls make is longer than what came in: it says more and counts as full. Else prove '..UptoSaid'. A law counts once. -/
mutual
def uptoBulk {H : Type} : DataW H → Nat
  | .lit (.string bytes) => bytes.length + 1
  | .lit _ => 1
  | .nil => 1
  | .ptr d => uptoBulk d + 1
  | .slice elems spare => uptoBulkAll elems + uptoBulkAll spare + 1
  | .agg parts => uptoBulkAll parts + 1
  | .iface _ d => uptoBulk d + 1
  | .map entries => uptoBulkEntries entries + 1
  | .held _ => 1
def uptoBulkAll {H : Type} : List (DataW H) → Nat
  | [] => 0
  | d :: r => uptoBulk d + uptoBulkAll r
def uptoBulkEntries {H : Type} : List (Lit × DataW H) → Nat
  | [] => 0
  | x :: r => uptoBulkEntry x + uptoBulkEntries r
def uptoBulkEntry {H : Type} : Lit × DataW H → Nat
  | (.string bytes, d) => bytes.length + uptoBulk d + 1
  | (_, d) => uptoBulk d + 1
 end
def uptoSmall : (H : Type) → List (DataW H) → Bool := fun _ ds => decide (uptoBulkAll ds ≤ 1048576)
def OpenSpec.upto (s : _root_.Go.ChangeSpec) : _root_.Go.OpenSpec := { _root_.Go.OpenSpec.ofChange s with cond := some uptoSmall }

/-- 'laws.FnTop', WHERE WHAT IT READS IS OF BULK AT MOST 1048576: true; the input reads as it did. -/
def fnTopUptoRow : OpenClaim := { program := "ytngbiaeliphdjaa", sum := "9e93e5a5b016910c4423bbbcb7c96a039fb3e95ada8b6e5b2000884aeb9e1a23", func := "loop.example/twist/laws.FnTop", spec := "fnTop", unfollowed := true, recurses := true, plainKeys := false, apart := false, narrowed := true }
def FnTopUptoSaid : Prop := fnTopUptoRow.holds Try.pinned (OpenSpec.upto fnTopSpec)

/-- 'laws.FnCounts', WHERE WHAT IT READS IS OF BULK AT MOST 1048576: true; the input reads as it did. -/
def fnCountsUptoRow : OpenClaim := { program := "ytngbiaeliphdjaa", sum := "9e93e5a5b016910c4423bbbcb7c96a039fb3e95ada8b6e5b2000884aeb9e1a23", func := "loop.example/twist/laws.FnCounts", spec := "fnCounts", unfollowed := true, recurses := true, plainKeys := false, apart := false, narrowed := true }
def FnCountsUptoSaid : Prop := fnCountsUptoRow.holds Try.pinned (OpenSpec.upto fnCountsSpec)

/-- 'laws.FnEscape', WHERE WHAT IT READS IS OF BULK AT MOST 1048576: true; the input reads as it did. -/
def fnEscapeUptoRow : OpenClaim := { program := "ytngbiaeliphdjaa", sum := "9e93e5a5b016910c4423bbbcb7c96a039fb3e95ada8b6e5b2000884aeb9e1a23", func := "loop.example/twist/laws.FnEscape", spec := "fnEscape", unfollowed := true, recurses := true, plainKeys := false, apart := false, narrowed := true }
def FnEscapeUptoSaid : Prop := fnEscapeUptoRow.holds Try.pinned (OpenSpec.upto fnEscapeSpec)

/-- 'laws.FnExactReadPattern', WHERE WHAT IT READS IS OF BULK AT MOST 1048576: true; the input reads as it did. -/
def fnExactReadPatternUptoRow : OpenClaim := { program := "ytngbiaeliphdjaa", sum := "9e93e5a5b016910c4423bbbcb7c96a039fb3e95ada8b6e5b2000884aeb9e1a23", func := "loop.example/twist/laws.FnExactReadPattern", spec := "fnExactReadPattern", unfollowed := true, recurses := true, plainKeys := false, apart := false, narrowed := true }
def FnExactReadPatternUptoSaid : Prop := fnExactReadPatternUptoRow.holds Try.pinned (OpenSpec.upto fnExactReadPatternSpec)

/-- 'laws.FnExactCount', WHERE WHAT IT READS IS OF BULK AT MOST 1048576: true; the input reads as it did. -/
def fnExactCountUptoRow : OpenClaim := { program := "ytngbiaeliphdjaa", sum := "9e93e5a5b016910c4423bbbcb7c96a039fb3e95ada8b6e5b2000884aeb9e1a23", func := "loop.example/twist/laws.FnExactCount", spec := "fnExactCount", unfollowed := true, recurses := true, plainKeys := false, apart := false, narrowed := true }
def FnExactCountUptoSaid : Prop := fnExactCountUptoRow.holds Try.pinned (OpenSpec.upto fnExactCountSpec)

/-- 'laws.FnExactWhole', WHERE WHAT IT READS IS OF BULK AT MOST 1048576: true; the input reads as it did. -/
def fnExactWholeUptoRow : OpenClaim := { program := "ytngbiaeliphdjaa", sum := "9e93e5a5b016910c4423bbbcb7c96a039fb3e95ada8b6e5b2000884aeb9e1a23", func := "loop.example/twist/laws.FnExactWhole", spec := "fnExactWhole", unfollowed := true, recurses := true, plainKeys := false, apart := false, narrowed := true }
def FnExactWholeUptoSaid : Prop := fnExactWholeUptoRow.holds Try.pinned (OpenSpec.upto fnExactWholeSpec)

/-- 'laws.FnExactFind', WHERE WHAT IT READS IS OF BULK AT MOST 1048576: true; the input reads as it did. -/
def fnExactFindUptoRow : OpenClaim := { program := "ytngbiaeliphdjaa", sum := "9e93e5a5b016910c4423bbbcb7c96a039fb3e95ada8b6e5b2000884aeb9e1a23", func := "loop.example/twist/laws.FnExactFind", spec := "fnExactFind", unfollowed := true, recurses := true, plainKeys := false, apart := false, narrowed := true }
def FnExactFindUptoSaid : Prop := fnExactFindUptoRow.holds Try.pinned (OpenSpec.upto fnExactFindSpec)

/-- 'laws.FnExactWays', WHERE WHAT IT READS IS OF BULK AT MOST 1048576: true; the input reads as it did. -/
def fnExactWaysUptoRow : OpenClaim := { program := "ytngbiaeliphdjaa", sum := "9e93e5a5b016910c4423bbbcb7c96a039fb3e95ada8b6e5b2000884aeb9e1a23", func := "loop.example/twist/laws.FnExactWays", spec := "fnExactWays", unfollowed := true, recurses := true, plainKeys := false, apart := false, narrowed := true }
def FnExactWaysUptoSaid : Prop := fnExactWaysUptoRow.holds Try.pinned (OpenSpec.upto fnExactWaysSpec)

/-- 'laws.FnExactSplit', WHERE WHAT IT READS IS OF BULK AT MOST 1048576: true; the input reads as it did. -/
def fnExactSplitUptoRow : OpenClaim := { program := "ytngbiaeliphdjaa", sum := "9e93e5a5b016910c4423bbbcb7c96a039fb3e95ada8b6e5b2000884aeb9e1a23", func := "loop.example/twist/laws.FnExactSplit", spec := "fnExactSplit", unfollowed := true, recurses := true, plainKeys := false, apart := false, narrowed := true }
def FnExactSplitUptoSaid : Prop := fnExactSplitUptoRow.holds Try.pinned (OpenSpec.upto fnExactSplitSpec)

/-- 'laws.FnEnds', WHERE WHAT IT READS IS OF BULK AT MOST 1048576: true; the input reads as it did. -/
def fnEndsUptoRow : OpenClaim := { program := "ytngbiaeliphdjaa", sum := "9e93e5a5b016910c4423bbbcb7c96a039fb3e95ada8b6e5b2000884aeb9e1a23", func := "loop.example/twist/laws.FnEnds", spec := "fnEnds", unfollowed := true, recurses := true, plainKeys := false, apart := false, narrowed := true }
def FnEndsUptoSaid : Prop := fnEndsUptoRow.holds Try.pinned (OpenSpec.upto fnEndsSpec)

/-- 'laws.FnExactWritePattern', WHERE WHAT IT READS IS OF BULK AT MOST 1048576: true; the input reads as it did. -/
def fnExactWritePatternUptoRow : OpenClaim := { program := "ytngbiaeliphdjaa", sum := "9e93e5a5b016910c4423bbbcb7c96a039fb3e95ada8b6e5b2000884aeb9e1a23", func := "loop.example/twist/laws.FnExactWritePattern", spec := "fnExactWritePattern", unfollowed := true, recurses := true, plainKeys := false, apart := false, narrowed := true }
def FnExactWritePatternUptoSaid : Prop := fnExactWritePatternUptoRow.holds Try.pinned (OpenSpec.upto fnExactWritePatternSpec)

/-- 'laws.FnExactAll', WHERE WHAT IT READS IS OF BULK AT MOST 1048576: true; the input reads as it did. -/
def fnExactAllUptoRow : OpenClaim := { program := "ytngbiaeliphdjaa", sum := "9e93e5a5b016910c4423bbbcb7c96a039fb3e95ada8b6e5b2000884aeb9e1a23", func := "loop.example/twist/laws.FnExactAll", spec := "fnExactAll", unfollowed := true, recurses := true, plainKeys := false, apart := false, narrowed := true }
def FnExactAllUptoSaid : Prop := fnExactAllUptoRow.holds Try.pinned (OpenSpec.upto fnExactAllSpec)

/-- 'laws.FnSplit', WHERE WHAT IT READS IS OF BULK AT MOST 1048576: true; the input reads as it did. -/
def fnSplitUptoRow : OpenClaim := { program := "ytngbiaeliphdjaa", sum := "9e93e5a5b016910c4423bbbcb7c96a039fb3e95ada8b6e5b2000884aeb9e1a23", func := "loop.example/twist/laws.FnSplit", spec := "fnSplit", unfollowed := true, recurses := true, plainKeys := false, apart := false, narrowed := true }
def FnSplitUptoSaid : Prop := fnSplitUptoRow.holds Try.pinned (OpenSpec.upto fnSplitSpec)

/-- 'laws.FnFirst', WHERE WHAT IT READS IS OF BULK AT MOST 1048576: true; the input reads as it did. -/
def fnFirstUptoRow : OpenClaim := { program := "ytngbiaeliphdjaa", sum := "9e93e5a5b016910c4423bbbcb7c96a039fb3e95ada8b6e5b2000884aeb9e1a23", func := "loop.example/twist/laws.FnFirst", spec := "fnFirst", unfollowed := true, recurses := true, plainKeys := false, apart := false, narrowed := true }
def FnFirstUptoSaid : Prop := fnFirstUptoRow.holds Try.pinned (OpenSpec.upto fnFirstSpec)

/-- 'laws.FnExactReplace', WHERE WHAT IT READS IS OF BULK AT MOST 1048576: true; the input reads as it did. -/
def fnExactReplaceUptoRow : OpenClaim := { program := "ytngbiaeliphdjaa", sum := "9e93e5a5b016910c4423bbbcb7c96a039fb3e95ada8b6e5b2000884aeb9e1a23", func := "loop.example/twist/laws.FnExactReplace", spec := "fnExactReplace", unfollowed := true, recurses := true, plainKeys := false, apart := false, narrowed := true }
def FnExactReplaceUptoSaid : Prop := fnExactReplaceUptoRow.holds Try.pinned (OpenSpec.upto fnExactReplaceSpec)

/-- 'laws.FnWritten', WHERE WHAT IT READS IS OF BULK AT MOST 1048576: true; the input reads as it did. -/
def fnWrittenUptoRow : OpenClaim := { program := "ytngbiaeliphdjaa", sum := "9e93e5a5b016910c4423bbbcb7c96a039fb3e95ada8b6e5b2000884aeb9e1a23", func := "loop.example/twist/laws.FnWritten", spec := "fnWritten", unfollowed := true, recurses := true, plainKeys := false, apart := false, narrowed := true }
def FnWrittenUptoSaid : Prop := fnWrittenUptoRow.holds Try.pinned (OpenSpec.upto fnWrittenSpec)

/-- 'laws.FnReplace', WHERE WHAT IT READS IS OF BULK AT MOST 1048576: true; the input reads as it did. -/
def fnReplaceUptoRow : OpenClaim := { program := "ytngbiaeliphdjaa", sum := "9e93e5a5b016910c4423bbbcb7c96a039fb3e95ada8b6e5b2000884aeb9e1a23", func := "loop.example/twist/laws.FnReplace", spec := "fnReplace", unfollowed := true, recurses := true, plainKeys := false, apart := false, narrowed := true }
def FnReplaceUptoSaid : Prop := fnReplaceUptoRow.holds Try.pinned (OpenSpec.upto fnReplaceSpec)

end Rows
end Go.Proofs.Ytngbiaeliphdjaa
