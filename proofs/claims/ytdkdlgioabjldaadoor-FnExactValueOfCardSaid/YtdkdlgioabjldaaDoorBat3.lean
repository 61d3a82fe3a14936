/- Batches: their texts: flag, vars. -/
import Derived.Test.YtdkdlgioabjldaaDoorBat2
import Derived.Test.YtdkdlgioabjldaaDoorVars

namespace Go.Proofs.YtdkdlgioabjldaaDoor
set_option linter.unusedVariables false
set_option linter.unusedSimpArgs false
open Go.RowKit
attribute [local go_sem] bs_size List.length_cons List.length_nil List.length_append

theorem impl_flag_calls (g : Bool) (w : World) : Calls Tryd.prog 85 #[.bool g] w fun e w' => e = .returned (.string (bs [flagB g])) ∧ w = w' := by
  cases g
  all_goals
    go_enter Tryd.func85, Tryd.ntmps85
    go_wp2
    go_ret
    exact ⟨rfl, rfl⟩
theorem spec_l05Flag_calls (g : Bool) (w : World) : Calls Tryd.prog 67 #[.bool g] w fun e w' => e = .returned (.string (bs [flagB g])) ∧ w = w' := by
  cases g
  all_goals
    go_enter Tryd.func67, Tryd.ntmps67
    go_wp2
    go_ret
    exact ⟨rfl, rfl⟩
end Go.Proofs.YtdkdlgioabjldaaDoor
