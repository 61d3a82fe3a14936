/- Batches: their texts: flag, vars. -/
import Derived.Test.YticnhfflppkpoaaGreatDoorBat2
import Derived.Test.YticnhfflppkpoaaGreatDoorVars

namespace Go.Proofs.YticnhfflppkpoaaGreatDoor
set_option linter.unusedVariables false
set_option linter.unusedSimpArgs false
open Go.RowKit
attribute [local go_sem] bs_size List.length_cons List.length_nil List.length_append

theorem impl_flag_calls (g : Bool) (w : World) : Calls Tryz.prog 114 #[.bool g] w fun e w' => e = .returned (.string (bs [flagB g])) ∧ w = w' := by
  cases g
  all_goals
    go_enter Tryz.func114, Tryz.ntmps114
    go_wp2
    go_ret
    exact ⟨rfl, rfl⟩
theorem spec_l05Flag_calls (g : Bool) (w : World) : Calls Tryz.prog 93 #[.bool g] w fun e w' => e = .returned (.string (bs [flagB g])) ∧ w = w' := by
  cases g
  all_goals
    go_enter Tryz.func93, Tryz.ntmps93
    go_wp2
    go_ret
    exact ⟨rfl, rfl⟩
end Go.Proofs.YticnhfflppkpoaaGreatDoor
