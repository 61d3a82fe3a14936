/- What the laid facts of a row give the walks: strconv's powers of ten (Pow) and sentinels (Sent). -/
import Derived.Test.YtdoaemagednclaaDoorDec
import Derived.Test.YtdoaemagednclaaDoorPowLaid
namespace Go.Proofs.YtdoaemagednclaaDoor
set_option linter.unusedVariables false
set_option linter.unusedSimpArgs false
open Go.RowKit
theorem sentCells : Tryd.prog.cellsOf 144 = 1 := by kernel_rfl
theorem strCells : Tryd.prog.cellsOf 9 = 1 := by kernel_rfl
theorem gSyn : Tryd.prog.globalNamed "strconv.ErrSyntax" = some 2 := by kernel_rfl
theorem gRan : Tryd.prog.globalNamed "strconv.ErrRange" = some 3 := by kernel_rfl
theorem gSynType : (Tryd.prog.globals[2]?).map (·.type) = some 68 := by kernel_rfl
theorem gRanType : (Tryd.prog.globals[3]?).map (·.type) = some 68 := by kernel_rfl
theorem errStar : "*" ++ "errors.errorString" = "*errors.errorString" := by decide
theorem errRow (u : TypeId) (h : Tryd.prog.typeName? 3 u = some "*errors.errorString") : u = 142 :=
  typeName_ptr_named (nm := "errors.errorString") (by rw [errStar]; kernel_rfl) (by kernel_rfl) (by decide) u (by rw [errStar]; exact h)
theorem sent_of_laid {W : World} {rest : List (String × DataW Unit)} (h : laidMet Tryd.prog (("strconv.ErrRange", Rows.laid_strconv_ErrRange) :: ("strconv.ErrSyntax", Rows.laid_strconv_ErrSyntax) :: rest) W) : Sent W := by
  obtain ⟨a, s, hv, _⟩ := laid_sentinel h gRan gRanType Tryd.underlying68 errRow Tryd.underlying142 Tryd.underlying144 rfl rfl Tryd.underlying9 sentCells strCells
  obtain ⟨a2, s2, hv2, _⟩ := laid_sentinel h.tail gSyn gSynType Tryd.underlying68 errRow Tryd.underlying142 Tryd.underlying144 rfl rfl Tryd.underlying9 sentCells strCells
  have c1 := World.var?_cell gRan hv 0
  have c2 := World.var?_cell gSyn hv2 0
  exact ⟨⟨_, by simpa using c2, .inr ⟨_, _, rfl⟩⟩, ⟨_, by simpa using c1, .inr ⟨_, _, rfl⟩⟩, World.block_lt_of_cell? W ⟨2, 0, none⟩ (by simpa using c2), World.block_lt_of_cell? W ⟨3, 0, none⟩ (by simpa using c1)⟩
end Go.Proofs.YtdoaemagednclaaDoor
