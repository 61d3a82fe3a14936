/- The walks of the laws FnExactNumber and FnExactBulk. -/
import Derived.Test.YtldneiodfhpiaaaDoorNum
import Derived.Test.YtldneiodfhpiaaaDoorRows
import Derived.LaidMore
import Derived.Stop.Joined
import Derived.Stop.LaidErr
import Derived.ProofKit
namespace Go.Proofs.YtldneiodfhpiaaaDoor
open Go.RowKit
theorem pow_of_tab {w : World} (h : Lib.TabIs Tryd.prog w "internal/strconv.uint64pow10" .u64 Lib.pow10Tab) : Pow w :=
  ⟨h, World.block_lt_of_cell? w _ (h.cell gPow 0 (by decide))⟩
theorem gPowType : (Tryd.prog.globals[3]?).map (·.type) = some 113 := by kernel_rfl
theorem pow_of_laid {W : World} {rest : List (String × DataW Unit)} (h : laidMet Tryd.prog (("internal/strconv.uint64pow10", Rows.laid_internal_strconv_uint64pow10) :: rest) W) : Pow W :=
  pow_of_tab (Lib.tabIs_of_head (rest := rest) gPow gPowType Tryd.underlying113 Tryd.underlying105 (by kernel_rfl) (by kernel_rfl) h)
theorem pow_of_laid_FnExactBulk {W : World} (h : laidMetH Tryd.prog Rows.fnExactBulkRow.laid W) : Pow W := by
  rw [MakeChecks.laidMetH_plain _ _ _ (by kernel_rfl)] at h
  exact pow_of_laid (laidMet.tail (laidMet.tail h))
set_option maxRecDepth 100000 in
theorem walk_FnExactBulk (s : ByteArray) (w : World) (hs : s.size ≤ 140737488351232) (hP : Pow w) :
    Calls Tryd.prog 5 #[.string s] w fun e w' => e = .returned (.bool true) ∧ Below w.heap.size w w' := by
  by_cases h : 1048576 < s.size
  · go_enter Tryd.func5, Tryd.ntmps5
    go_wp2
    go_ret
    exact ⟨rfl, Below.refl _ _⟩
  · have HP := Lib.hid hP
    clear hP
    go_enter Tryd.func5, Tryd.ntmps5
    go_wp2_with (first
      | (go_at_call 21; refine (spec_Bulk_calls s _ hs).mono ?_; rintro e w' ⟨rfl, hb⟩)
      | (go_at_call 22; refine (impl_Bulk_calls s _ hs (HP.out.below hb)).mono ?_; rintro e w' ⟨rfl, hb'⟩))
    go_ret
    exact ⟨by simp, hb.trans (hb'.mono hb.size)⟩
theorem pow_of_laid_FnExactNumber {W : World} (h : laidMetH Tryd.prog Rows.fnExactNumberRow.laid W) : Pow W := by
  rw [MakeChecks.laidMetH_plain _ _ _ (by kernel_rfl)] at h
  exact pow_of_laid (laidMet.tail (laidMet.tail h))
set_option maxRecDepth 100000 in
theorem walk_FnExactNumber (n : Int) (w : World) (h0 : -9223372036854775808 ≤ n) (h1 : n ≤ 9223372036854775807) (hP : Pow w) :
    Calls Tryd.prog 6 #[.int .i64 n] w fun e w' => e = .returned (.bool true) ∧ Below w.heap.size w w' := by
  have HP := Lib.hid hP
  clear hP
  go_enter Tryd.func6, Tryd.ntmps6
  go_wp2_with (first
    | (go_at_call 23; refine (spec_Number_calls n _ h0 h1).mono ?_; rintro e w' ⟨rfl, hb⟩)
    | (go_at_call 24; refine (impl_Number_calls n _ h0 h1 (HP.out.below hb)).mono ?_; rintro e w' ⟨rfl, hb'⟩))
  go_ret
  exact ⟨by simp, hb.trans (hb'.mono hb.size)⟩
end Go.Proofs.YtldneiodfhpiaaaDoor
