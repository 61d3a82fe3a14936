/- The library's table of powers of ten, out of what the rows lay. -/
import Derived.Test.YtdoaemagednclaaDoorNum
import Derived.Test.YtdoaemagednclaaDoorRows
import Derived.LaidMore
import Derived.Stop.Joined
import Derived.Stop.LaidErr
import Derived.ProofKit
import Derived.MakeChecks
namespace Go.Proofs.YtdoaemagednclaaDoor
set_option linter.unusedVariables false
set_option linter.unusedSimpArgs false
open Go.RowKit
theorem pow_of_tab {w : World} (h : Lib.TabIs Tryd.prog w "internal/strconv.uint64pow10" .u64 Lib.pow10Tab) : Pow w :=
  ⟨h, World.block_lt_of_cell? w _ (h.cell gPow 0 (by decide))⟩
theorem gPowType : (Tryd.prog.globals[5]?).map (·.type) = some 134 := by kernel_rfl
theorem pow_of_laid {W : World} {rest : List (String × DataW Unit)} (h : laidMet Tryd.prog (("internal/strconv.uint64pow10", Rows.laid_internal_strconv_uint64pow10) :: rest) W) : Pow W :=
  pow_of_tab (Lib.tabIs_of_head (rest := rest) gPow gPowType Tryd.underlying134 Tryd.underlying115 (by kernel_rfl) (by kernel_rfl) h)
end Go.Proofs.YtdoaemagednclaaDoor
