/-
  No cell of these rows narrows 'for every input' (looked for: loops, veiled, ifaces, maps, wideKeys, modest, calm, conditions, laid).
  DERIVED. THE GIVEN ROWS OF THIS SEAT. 6 by the template 'for every input the law returns true; each argument reads behind the call as it read before'; 0 by the template 'total and deterministic' (their statements: YtekhfplbhcfdmaaTotals.lean).
  GIVEN WITH THE SEED: the statements are not yours to turn. If you find one false, say at which input.
  Laid BY PROGRAM, IN A SANDBOX (cutbox-rows.mjs): the forced cells as the released guide's own fill.sh prints them over the translation 675715c5a172445f… (all of the seat's roots in one cut). By AI agents, Wed Nov 11 2026. No macro, syntax, notation, axiom, sorry.
-/
import Derived.Test.YtekhfplbhcfdmaaChecked
import GoSem.Claim
import GoSem.ClaimJoined
import GoSem.ClaimMapViews
import Derived.JoinedTies
import Derived.KernelRfl
namespace Go.Proofs.Ytekhfplbhcfdmaa
/- THE CELL 'sum', in the pinned program and in every row, IS THE sha256 OF THE DUMP (.gsa) THAT YtekhfplbhcfdmaaProg.lean LOADS. Nothing in Lean hashes anything: it is a label: what it is worth is what the hold of that sum in a sandbox is worth. -/
noncomputable def Try.pinned : Pinned := { name := "ytekhfplbhcfdmaa", sum := "675715c5a172445f4d6c327589551b83500c7a2745e329c80a3fcf7ccbcf8002", checked := Try.checked }
namespace Rows
def none {H : Type} : Left H := { results := [], args := [] }

/-- 'laws.FnExactReadHint': WHATEVER THE INPUT: true; the input reads as it did. -/
def fnExactReadHintSpec : ChangeSpec := { name := "fnExactReadHint", fn := fun _ => fun
  | [d] => { results := [.lit (.bool true)], args := [d] }
  | _ => none }
def fnExactReadHintRow : OpenClaim := { program := "ytekhfplbhcfdmaa", sum := "675715c5a172445f4d6c327589551b83500c7a2745e329c80a3fcf7ccbcf8002", func := "loop.example/g00124/laws.FnExactReadHint", spec := "fnExactReadHint", unfollowed := true, recurses := true, apart := false }
def FnExactReadHintSaid : Prop := fnExactReadHintRow.holds Try.pinned (OpenSpec.ofChange fnExactReadHintSpec)

/-- ITS FALSE NEIGHBOUR: 'it returns false'. Refute it at one input. -/
def fnExactReadHintWrong : ChangeSpec := { name := "fnExactReadHint", fn := fun _ => fun
  | [d] => { results := [.lit (.bool false)], args := [d] }
  | _ => none }
def FnExactReadHintWrongFalsely : Prop := fnExactReadHintRow.holds Try.pinned (OpenSpec.ofChange fnExactReadHintWrong)

/-- 'laws.FnExactReadBatch': WHATEVER THE INPUT: true; the input reads as it did. -/
def fnExactReadBatchSpec : ChangeSpec := { name := "fnExactReadBatch", fn := fun _ => fun
  | [d] => { results := [.lit (.bool true)], args := [d] }
  | _ => none }
def fnExactReadBatchRow : OpenClaim := { program := "ytekhfplbhcfdmaa", sum := "675715c5a172445f4d6c327589551b83500c7a2745e329c80a3fcf7ccbcf8002", func := "loop.example/g00124/laws.FnExactReadBatch", spec := "fnExactReadBatch", unfollowed := true, recurses := true, apart := false }
def FnExactReadBatchSaid : Prop := fnExactReadBatchRow.holds Try.pinned (OpenSpec.ofChange fnExactReadBatchSpec)

/-- ITS FALSE NEIGHBOUR: 'it returns false'. Refute it at one input. -/
def fnExactReadBatchWrong : ChangeSpec := { name := "fnExactReadBatch", fn := fun _ => fun
  | [d] => { results := [.lit (.bool false)], args := [d] }
  | _ => none }
def FnExactReadBatchWrongFalsely : Prop := fnExactReadBatchRow.holds Try.pinned (OpenSpec.ofChange fnExactReadBatchWrong)

/-- 'laws.FnVals': WHATEVER THE INPUT: true; the input reads as it did. -/
def fnValsSpec : ChangeSpec := { name := "fnVals", fn := fun _ => fun
  | [d] => { results := [.lit (.bool true)], args := [d] }
  | _ => none }
def fnValsRow : OpenClaim := { program := "ytekhfplbhcfdmaa", sum := "675715c5a172445f4d6c327589551b83500c7a2745e329c80a3fcf7ccbcf8002", func := "loop.example/g00124/laws.FnVals", spec := "fnVals", unfollowed := true, recurses := true, apart := false }
def FnValsSaid : Prop := fnValsRow.holds Try.pinned (OpenSpec.ofChange fnValsSpec)

/-- ITS FALSE NEIGHBOUR: 'it returns false'. Refute it at one input. -/
def fnValsWrong : ChangeSpec := { name := "fnVals", fn := fun _ => fun
  | [d] => { results := [.lit (.bool false)], args := [d] }
  | _ => none }
def FnValsWrongFalsely : Prop := fnValsRow.holds Try.pinned (OpenSpec.ofChange fnValsWrong)

/-- 'laws.FnBatches': WHATEVER THE INPUT: true; the input reads as it did. -/
def fnBatchesSpec : ChangeSpec := { name := "fnBatches", fn := fun _ => fun
  | [d] => { results := [.lit (.bool true)], args := [d] }
  | _ => none }
def fnBatchesRow : OpenClaim := { program := "ytekhfplbhcfdmaa", sum := "675715c5a172445f4d6c327589551b83500c7a2745e329c80a3fcf7ccbcf8002", func := "loop.example/g00124/laws.FnBatches", spec := "fnBatches", unfollowed := true, recurses := true, apart := false }
def FnBatchesSaid : Prop := fnBatchesRow.holds Try.pinned (OpenSpec.ofChange fnBatchesSpec)

/-- ITS FALSE NEIGHBOUR: 'it returns false'. Refute it at one input. -/
def fnBatchesWrong : ChangeSpec := { name := "fnBatches", fn := fun _ => fun
  | [d] => { results := [.lit (.bool false)], args := [d] }
  | _ => none }
def FnBatchesWrongFalsely : Prop := fnBatchesRow.holds Try.pinned (OpenSpec.ofChange fnBatchesWrong)

/-- 'laws.FnExactReadSegment': WHATEVER THE INPUT: true; the input reads as it did. -/
def fnExactReadSegmentSpec : ChangeSpec := { name := "fnExactReadSegment", fn := fun _ => fun
  | [d1, d2] => { results := [.lit (.bool true)], args := [d1, d2] }
  | _ => none }
def fnExactReadSegmentRow : OpenClaim := { program := "ytekhfplbhcfdmaa", sum := "675715c5a172445f4d6c327589551b83500c7a2745e329c80a3fcf7ccbcf8002", func := "loop.example/g00124/laws.FnExactReadSegment", spec := "fnExactReadSegment", unfollowed := true, recurses := true, apart := false }
def FnExactReadSegmentSaid : Prop := fnExactReadSegmentRow.holds Try.pinned (OpenSpec.ofChange fnExactReadSegmentSpec)

/-- ITS FALSE NEIGHBOUR: 'it returns false'. Refute it at one input. -/
def fnExactReadSegmentWrong : ChangeSpec := { name := "fnExactReadSegment", fn := fun _ => fun
  | [d1, d2] => { results := [.lit (.bool false)], args := [d1, d2] }
  | _ => none }
def FnExactReadSegmentWrongFalsely : Prop := fnExactReadSegmentRow.holds Try.pinned (OpenSpec.ofChange fnExactReadSegmentWrong)

/-- 'laws.FnHints': WHATEVER THE INPUT: true; the input reads as it did. -/
def fnHintsSpec : ChangeSpec := { name := "fnHints", fn := fun _ => fun
  | [d] => { results := [.lit (.bool true)], args := [d] }
  | _ => none }
def fnHintsRow : OpenClaim := { program := "ytekhfplbhcfdmaa", sum := "675715c5a172445f4d6c327589551b83500c7a2745e329c80a3fcf7ccbcf8002", func := "loop.example/g00124/laws.FnHints", spec := "fnHints", unfollowed := true, recurses := true, apart := false }
def FnHintsSaid : Prop := fnHintsRow.holds Try.pinned (OpenSpec.ofChange fnHintsSpec)

/-- ITS FALSE NEIGHBOUR: 'it returns false'. Refute it at one input. -/
def fnHintsWrong : ChangeSpec := { name := "fnHints", fn := fun _ => fun
  | [d] => { results := [.lit (.bool false)], args := [d] }
  | _ => none }
def FnHintsWrongFalsely : Prop := fnHintsRow.holds Try.pinned (OpenSpec.ofChange fnHintsWrong)

/- THE SECOND FORM. 'bulk': how many values and letters a reading holds, each counted each time it is reached (what is shared counts as often as it is met; a slice's spare places count too). A statement '..UptoSaid' is the law's where the arguments, and the package variables that the reading takes, are together of bulk at most 1048576: NARROWER than '..Said'. Prove '..Said' where nothing that the law and all that it calls make is longer than what came in: it says more and counts as full. Else prove '..UptoSaid'. A law counts once. -/
mutual
def uptoBulk {H : Type} : DataW H → Nat
  | .lit (.string bytes) => bytes.length + 1
  | .lit _ => 1
  | .nil => 1
  | .ptr d => uptoBulk d + 1
  | .slice elems spare => uptoBulkAll elems + uptoBulkAll spare + 1
  | .agg parts => uptoBulkAll parts + 1
  | .iface _ d => uptoBulk d + 1
  | .map entries => uptoBulkEntries entries + 1
  | .held _ => 1
def uptoBulkAll {H : Type} : List (DataW H) → Nat
  | [] => 0
  | d :: r => uptoBulk d + uptoBulkAll r
def uptoBulkEntries {H : Type} : List (Lit × DataW H) → Nat
  | [] => 0
  | x :: r => uptoBulkEntry x + uptoBulkEntries r
def uptoBulkEntry {H : Type} : Lit × DataW H → Nat
  | (.string bytes, d) => bytes.length + uptoBulk d + 1
  | (_, d) => uptoBulk d + 1
 end
def uptoSmall : (H : Type) → List (DataW H) → Bool := fun _ ds => decide (uptoBulkAll ds ≤ 1048576)
def OpenSpec.upto (s : _root_.Go.ChangeSpec) : _root_.Go.OpenSpec := { _root_.Go.OpenSpec.ofChange s with cond := some uptoSmall }

/-- 'laws.FnExactReadHint', WHERE WHAT IT READS IS OF BULK AT MOST 1048576: true; the input reads as it did. -/
def fnExactReadHintUptoRow : OpenClaim := { program := "ytekhfplbhcfdmaa", sum := "675715c5a172445f4d6c327589551b83500c7a2745e329c80a3fcf7ccbcf8002", func := "loop.example/g00124/laws.FnExactReadHint", spec := "fnExactReadHint", unfollowed := true, recurses := true, apart := false, narrowed := true }
def FnExactReadHintUptoSaid : Prop := fnExactReadHintUptoRow.holds Try.pinned (OpenSpec.upto fnExactReadHintSpec)

/-- 'laws.FnExactReadBatch', WHERE WHAT IT READS IS OF BULK AT MOST 1048576: true; the input reads as it did. -/
def fnExactReadBatchUptoRow : OpenClaim := { program := "ytekhfplbhcfdmaa", sum := "675715c5a172445f4d6c327589551b83500c7a2745e329c80a3fcf7ccbcf8002", func := "loop.example/g00124/laws.FnExactReadBatch", spec := "fnExactReadBatch", unfollowed := true, recurses := true, apart := false, narrowed := true }
def FnExactReadBatchUptoSaid : Prop := fnExactReadBatchUptoRow.holds Try.pinned (OpenSpec.upto fnExactReadBatchSpec)

/-- 'laws.FnVals', WHERE WHAT IT READS IS OF BULK AT MOST 1048576: true; the input reads as it did. -/
def fnValsUptoRow : OpenClaim := { program := "ytekhfplbhcfdmaa", sum := "675715c5a172445f4d6c327589551b83500c7a2745e329c80a3fcf7ccbcf8002", func := "loop.example/g00124/laws.FnVals", spec := "fnVals", unfollowed := true, recurses := true, apart := false, narrowed := true }
def FnValsUptoSaid : Prop := fnValsUptoRow.holds Try.pinned (OpenSpec.upto fnValsSpec)

/-- 'laws.FnBatches', WHERE WHAT IT READS IS OF BULK AT MOST 1048576: true; the input reads as it did. -/
def fnBatchesUptoRow : OpenClaim := { program := "ytekhfplbhcfdmaa", sum := "675715c5a172445f4d6c327589551b83500c7a2745e329c80a3fcf7ccbcf8002", func := "loop.example/g00124/laws.FnBatches", spec := "fnBatches", unfollowed := true, recurses := true, apart := false, narrowed := true }
def FnBatchesUptoSaid : Prop := fnBatchesUptoRow.holds Try.pinned (OpenSpec.upto fnBatchesSpec)

/-- 'laws.FnExactReadSegment', WHERE WHAT IT READS IS OF BULK AT MOST 1048576: true; the input reads as it did. -/
def fnExactReadSegmentUptoRow : OpenClaim := { program := "ytekhfplbhcfdmaa", sum := "675715c5a172445f4d6c327589551b83500c7a2745e329c80a3fcf7ccbcf8002", func := "loop.example/g00124/laws.FnExactReadSegment", spec := "fnExactReadSegment", unfollowed := true, recurses := true, apart := false, narrowed := true }
def FnExactReadSegmentUptoSaid : Prop := fnExactReadSegmentUptoRow.holds Try.pinned (OpenSpec.upto fnExactReadSegmentSpec)

/-- 'laws.FnHints', WHERE WHAT IT READS IS OF BULK AT MOST 1048576: true; the input reads as it did. -/
def fnHintsUptoRow : OpenClaim := { program := "ytekhfplbhcfdmaa", sum := "675715c5a172445f4d6c327589551b83500c7a2745e329c80a3fcf7ccbcf8002", func := "loop.example/g00124/laws.FnHints", spec := "fnHints", unfollowed := true, recurses := true, apart := false, narrowed := true }
def FnHintsUptoSaid : Prop := fnHintsUptoRow.holds Try.pinned (OpenSpec.upto fnHintsSpec)

end Rows
end Go.Proofs.Ytekhfplbhcfdmaa
