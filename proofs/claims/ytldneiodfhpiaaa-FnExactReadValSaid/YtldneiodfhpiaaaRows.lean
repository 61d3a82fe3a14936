/-
  No cell of these rows narrows 'for every input' (looked for: loops, veiled, ifaces, maps, wideKeys, modest, calm, conditions, laid).
  DERIVED. THE GIVEN ROWS OF THIS SEAT. 5 by the template 'for every input the law returns true; each argument reads behind the call as it read before'; 0 by the template 'total and deterministic' (their statements: YtldneiodfhpiaaaTotals.lean).
  GIVEN WITH THE SEED: the statements are not yours to turn. If you find one false, say at which input.
  Laid BY PROGRAM, IN A SANDBOX (cutbox-rows.mjs): the forced cells as the released guide's own fill.sh prints them over the translation 821df47cada24366… (all of the seat's roots in one cut). By AI agents, Wed Nov 11 2026. No macro, syntax, notation, axiom, sorry.
-/
import Derived.Test.YtldneiodfhpiaaaChecked
import GoSem.Claim
import GoSem.ClaimJoined
import GoSem.ClaimMapViews
import Derived.JoinedTies
import Derived.KernelRfl
namespace Go.Proofs.Ytldneiodfhpiaaa
/- THE CELL 'sum', in the pinned program and in every row, IS THE sha256 OF THE DUMP (.gsa) THAT YtldneiodfhpiaaaProg.lean LOADS. Nothing in Lean hashes anything: it is a label: what it is worth is what the hold of that sum in a sandbox is worth. -/
noncomputable def Try.pinned : Pinned := { name := "ytldneiodfhpiaaa", sum := "821df47cada24366fd0807751979cb55d82f30a88959c09fd86b490d9512727e", checked := Try.checked }
namespace Rows
def none {H : Type} : Left H := { results := [], args := [] }

/-- 'laws.FnExactFault': WHATEVER THE INPUT: true; the input reads as it did. -/
def fnExactFaultSpec : ChangeSpec := { name := "fnExactFault", fn := fun _ => fun
  | [d] => { results := [.lit (.bool true)], args := [d] }
  | _ => none }
def fnExactFaultRow : OpenClaim := { program := "ytldneiodfhpiaaa", sum := "821df47cada24366fd0807751979cb55d82f30a88959c09fd86b490d9512727e", func := "loop.example/g00124/laws.FnExactFault", spec := "fnExactFault", apart := false }
def FnExactFaultSaid : Prop := fnExactFaultRow.holds Try.pinned (OpenSpec.ofChange fnExactFaultSpec)

/-- ITS FALSE NEIGHBOUR: 'it returns false'. Refute it at one input. -/
def fnExactFaultWrong : ChangeSpec := { name := "fnExactFault", fn := fun _ => fun
  | [d] => { results := [.lit (.bool false)], args := [d] }
  | _ => none }
def FnExactFaultWrongFalsely : Prop := fnExactFaultRow.holds Try.pinned (OpenSpec.ofChange fnExactFaultWrong)

/-- 'laws.FnExactNil': WHATEVER THE INPUT: true; the input reads as it did. -/
def fnExactNilSpec : ChangeSpec := { name := "fnExactNil", fn := fun _ => fun
  | [] => { results := [.lit (.bool true)], args := [] }
  | _ => none }
def fnExactNilRow : OpenClaim := { program := "ytldneiodfhpiaaa", sum := "821df47cada24366fd0807751979cb55d82f30a88959c09fd86b490d9512727e", func := "loop.example/g00124/laws.FnExactNil", spec := "fnExactNil", apart := false }
def FnExactNilSaid : Prop := fnExactNilRow.holds Try.pinned (OpenSpec.ofChange fnExactNilSpec)

/-- ITS FALSE NEIGHBOUR: 'it returns false'. Refute it at one input. -/
def fnExactNilWrong : ChangeSpec := { name := "fnExactNil", fn := fun _ => fun
  | [] => { results := [.lit (.bool false)], args := [] }
  | _ => none }
def FnExactNilWrongFalsely : Prop := fnExactNilRow.holds Try.pinned (OpenSpec.ofChange fnExactNilWrong)

/-- 'laws.FnExactSimple': WHATEVER THE INPUT: true; the input reads as it did. -/
def fnExactSimpleSpec : ChangeSpec := { name := "fnExactSimple", fn := fun _ => fun
  | [d] => { results := [.lit (.bool true)], args := [d] }
  | _ => none }
def fnExactSimpleRow : OpenClaim := { program := "ytldneiodfhpiaaa", sum := "821df47cada24366fd0807751979cb55d82f30a88959c09fd86b490d9512727e", func := "loop.example/g00124/laws.FnExactSimple", spec := "fnExactSimple", apart := false }
def FnExactSimpleSaid : Prop := fnExactSimpleRow.holds Try.pinned (OpenSpec.ofChange fnExactSimpleSpec)

/-- ITS FALSE NEIGHBOUR: 'it returns false'. Refute it at one input. -/
def fnExactSimpleWrong : ChangeSpec := { name := "fnExactSimple", fn := fun _ => fun
  | [d] => { results := [.lit (.bool false)], args := [d] }
  | _ => none }
def FnExactSimpleWrongFalsely : Prop := fnExactSimpleRow.holds Try.pinned (OpenSpec.ofChange fnExactSimpleWrong)

/-- 'laws.FnExactUpper': WHATEVER THE INPUT: true; the input reads as it did. -/
def fnExactUpperSpec : ChangeSpec := { name := "fnExactUpper", fn := fun _ => fun
  | [d] => { results := [.lit (.bool true)], args := [d] }
  | _ => none }
def fnExactUpperRow : OpenClaim := { program := "ytldneiodfhpiaaa", sum := "821df47cada24366fd0807751979cb55d82f30a88959c09fd86b490d9512727e", func := "loop.example/g00124/laws.FnExactUpper", spec := "fnExactUpper", apart := false }
def FnExactUpperSaid : Prop := fnExactUpperRow.holds Try.pinned (OpenSpec.ofChange fnExactUpperSpec)

/-- ITS FALSE NEIGHBOUR: 'it returns false'. Refute it at one input. -/
def fnExactUpperWrong : ChangeSpec := { name := "fnExactUpper", fn := fun _ => fun
  | [d] => { results := [.lit (.bool false)], args := [d] }
  | _ => none }
def FnExactUpperWrongFalsely : Prop := fnExactUpperRow.holds Try.pinned (OpenSpec.ofChange fnExactUpperWrong)

/-- 'laws.FnExactReadVal': WHATEVER THE INPUT: true; the input reads as it did. -/
def fnExactReadValSpec : ChangeSpec := { name := "fnExactReadVal", fn := fun _ => fun
  | [d] => { results := [.lit (.bool true)], args := [d] }
  | _ => none }
def fnExactReadValRow : OpenClaim := { program := "ytldneiodfhpiaaa", sum := "821df47cada24366fd0807751979cb55d82f30a88959c09fd86b490d9512727e", func := "loop.example/g00124/laws.FnExactReadVal", spec := "fnExactReadVal", unfollowed := true, recurses := true, apart := false }
def FnExactReadValSaid : Prop := fnExactReadValRow.holds Try.pinned (OpenSpec.ofChange fnExactReadValSpec)

/-- ITS FALSE NEIGHBOUR: 'it returns false'. Refute it at one input. -/
def fnExactReadValWrong : ChangeSpec := { name := "fnExactReadVal", fn := fun _ => fun
  | [d] => { results := [.lit (.bool false)], args := [d] }
  | _ => none }
def FnExactReadValWrongFalsely : Prop := fnExactReadValRow.holds Try.pinned (OpenSpec.ofChange fnExactReadValWrong)

/- THE SECOND FORM. 'bulk': how many values and letters a reading holds, each counted each time it is reached (what is shared counts as often as it is met; a slice's spare places count too). A statement '..UptoSaid' is the law's where the arguments, and the package variables that the reading takes, are together of bulk at most 1048576: NARROWER than '..Said'. Prove '..Said' where nothing that the law and all that it calls make is longer than what came in: it says more and counts as full. Else prove '..UptoSaid'. A law counts once. -/
mutual
def uptoBulk {H : Type} : DataW H → Nat
  | .lit (.string bytes) => bytes.length + 1
  | .lit _ => 1
  | .nil => 1
  | .ptr d => uptoBulk d + 1
  | .slice elems spare => uptoBulkAll elems + uptoBulkAll spare + 1
  | .agg parts => uptoBulkAll parts + 1
  | .iface _ d => uptoBulk d + 1
  | .map entries => uptoBulkEntries entries + 1
  | .held _ => 1
def uptoBulkAll {H : Type} : List (DataW H) → Nat
  | [] => 0
  | d :: r => uptoBulk d + uptoBulkAll r
def uptoBulkEntries {H : Type} : List (Lit × DataW H) → Nat
  | [] => 0
  | x :: r => uptoBulkEntry x + uptoBulkEntries r
def uptoBulkEntry {H : Type} : Lit × DataW H → Nat
  | (.string bytes, d) => bytes.length + uptoBulk d + 1
  | (_, d) => uptoBulk d + 1
 end
def uptoSmall : (H : Type) → List (DataW H) → Bool := fun _ ds => decide (uptoBulkAll ds ≤ 1048576)
def OpenSpec.upto (s : _root_.Go.ChangeSpec) : _root_.Go.OpenSpec := { _root_.Go.OpenSpec.ofChange s with cond := some uptoSmall }

/-- 'laws.FnExactFault', WHERE WHAT IT READS IS OF BULK AT MOST 1048576: true; the input reads as it did. -/
def fnExactFaultUptoRow : OpenClaim := { program := "ytldneiodfhpiaaa", sum := "821df47cada24366fd0807751979cb55d82f30a88959c09fd86b490d9512727e", func := "loop.example/g00124/laws.FnExactFault", spec := "fnExactFault", apart := false, narrowed := true }
def FnExactFaultUptoSaid : Prop := fnExactFaultUptoRow.holds Try.pinned (OpenSpec.upto fnExactFaultSpec)

/-- 'laws.FnExactNil', WHERE WHAT IT READS IS OF BULK AT MOST 1048576: true; the input reads as it did. -/
def fnExactNilUptoRow : OpenClaim := { program := "ytldneiodfhpiaaa", sum := "821df47cada24366fd0807751979cb55d82f30a88959c09fd86b490d9512727e", func := "loop.example/g00124/laws.FnExactNil", spec := "fnExactNil", apart := false, narrowed := true }
def FnExactNilUptoSaid : Prop := fnExactNilUptoRow.holds Try.pinned (OpenSpec.upto fnExactNilSpec)

/-- 'laws.FnExactSimple', WHERE WHAT IT READS IS OF BULK AT MOST 1048576: true; the input reads as it did. -/
def fnExactSimpleUptoRow : OpenClaim := { program := "ytldneiodfhpiaaa", sum := "821df47cada24366fd0807751979cb55d82f30a88959c09fd86b490d9512727e", func := "loop.example/g00124/laws.FnExactSimple", spec := "fnExactSimple", apart := false, narrowed := true }
def FnExactSimpleUptoSaid : Prop := fnExactSimpleUptoRow.holds Try.pinned (OpenSpec.upto fnExactSimpleSpec)

/-- 'laws.FnExactUpper', WHERE WHAT IT READS IS OF BULK AT MOST 1048576: true; the input reads as it did. -/
def fnExactUpperUptoRow : OpenClaim := { program := "ytldneiodfhpiaaa", sum := "821df47cada24366fd0807751979cb55d82f30a88959c09fd86b490d9512727e", func := "loop.example/g00124/laws.FnExactUpper", spec := "fnExactUpper", apart := false, narrowed := true }
def FnExactUpperUptoSaid : Prop := fnExactUpperUptoRow.holds Try.pinned (OpenSpec.upto fnExactUpperSpec)

/-- 'laws.FnExactReadVal', WHERE WHAT IT READS IS OF BULK AT MOST 1048576: true; the input reads as it did. -/
def fnExactReadValUptoRow : OpenClaim := { program := "ytldneiodfhpiaaa", sum := "821df47cada24366fd0807751979cb55d82f30a88959c09fd86b490d9512727e", func := "loop.example/g00124/laws.FnExactReadVal", spec := "fnExactReadVal", unfollowed := true, recurses := true, apart := false, narrowed := true }
def FnExactReadValUptoSaid : Prop := fnExactReadValUptoRow.holds Try.pinned (OpenSpec.upto fnExactReadValSpec)

end Rows
end Go.Proofs.Ytldneiodfhpiaaa
