/- The walks of the laws FnExactNumber and FnExactBulk. -/
import Derived.Test.YtanpkomifhbhnaaDoorNum
import Derived.Test.YtanpkomifhbhnaaDoorRows
import Derived.LaidMore
import Derived.Stop.Joined
import Derived.Stop.LaidErr
import Derived.ProofKit
namespace Go.Proofs.YtanpkomifhbhnaaDoor
set_option linter.unusedVariables false
set_option linter.unusedSimpArgs false
open Go.RowKit
theorem pow_of_tab {w : World} (h : Lib.TabIs Tryd.prog w "internal/strconv.uint64pow10" .u64 Lib.pow10Tab) : Pow w :=
  ⟨h, World.block_lt_of_cell? w _ (h.cell gPow 0 (by decide))⟩
theorem gPowType : (Tryd.prog.globals[5]?).map (·.type) = some 183 := by kernel_rfl
theorem pow_of_laid {W : World} {rest : List (String × DataW Unit)} (h : laidMet Tryd.prog (("internal/strconv.uint64pow10", Rows.laid_internal_strconv_uint64pow10) :: rest) W) : Pow W :=
  pow_of_tab (Lib.tabIs_of_head (rest := rest) gPow gPowType Tryd.underlying183 Tryd.underlying145 (by kernel_rfl) (by kernel_rfl) h)
end Go.Proofs.YtanpkomifhbhnaaDoor
