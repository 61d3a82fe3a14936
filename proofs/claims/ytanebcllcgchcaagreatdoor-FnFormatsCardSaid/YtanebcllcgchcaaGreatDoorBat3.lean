/- Batches: their texts: flag, vars. -/
import Derived.Test.YtanebcllcgchcaaGreatDoorBat2
import Derived.Test.YtanebcllcgchcaaGreatDoorVars

namespace Go.Proofs.YtanebcllcgchcaaGreatDoor
set_option linter.unusedVariables false
set_option linter.unusedSimpArgs false
open Go.RowKit
attribute [local go_sem] bs_size List.length_cons List.length_nil List.length_append

theorem impl_flag_calls (g : Bool) (w : World) : Calls Tryz.prog 83 #[.bool g] w fun e w' => e = .returned (.string (bs [flagB g])) ∧ w = w' := by
  cases g
  all_goals
    go_enter Tryz.func83, Tryz.ntmps83
    go_wp2
    go_ret
    exact ⟨rfl, rfl⟩
end Go.Proofs.YtanebcllcgchcaaGreatDoor
