/- The fwords of a text (Go's strings.Fields at plain texts). -/
import Derived.Test.YtanpkomifhbhnaaDoorBase
import Derived.Lib.Fields
import Derived.Lib.SlicesS
namespace Go.Proofs.YtanpkomifhbhnaaDoor
set_option linter.unusedVariables false
set_option linter.unusedSimpArgs false
open Go.RowKit

def fwords (names : ByteArray) : List ByteArray := (Lib.fields (ub names)).map bs
structure Plain (names : ByteArray) : Prop where
  short : names.size < 4294967281
  ascii : ∀ (j : Nat) b, names.data.toList[j]? = some b → b.toNat < 128
  few : (fwords names).length ≤ 9223372036854775807
theorem ascii_of {l : List UInt8} (h : l.all (fun b => decide (b.toNat < 128)) = true) : ∀ (j : Nat) b, (bs l).data.toList[j]? = some b → b.toNat < 128 := by
  intro j b hb
  have : b ∈ l := by
    have e : (bs l).data.toList = l := ub_bs l
    rw [e] at hb
    exact List.mem_of_getElem? hb
  exact of_decide_eq_true (List.all_eq_true.1 h b this)
end Go.Proofs.YtanpkomifhbhnaaDoor
