/- Batches: their texts: flag, vars. -/
import Derived.Test.YtaacpdejpcbbbaaGreatDoorBat2
import Derived.Test.YtaacpdejpcbbbaaGreatDoorVars

namespace Go.Proofs.YtaacpdejpcbbbaaGreatDoor
set_option linter.unusedVariables false
set_option linter.unusedSimpArgs false
open Go.RowKit
attribute [local go_sem] bs_size List.length_cons List.length_nil List.length_append

theorem impl_flag_calls (g : Bool) (w : World) : Calls Tryz.prog 175 #[.bool g] w fun e w' => e = .returned (.string (bs [flagB g])) ∧ w = w' := by
  cases g
  all_goals
    go_enter Tryz.func175, Tryz.ntmps175
    go_wp2
    go_ret
    exact ⟨rfl, rfl⟩
theorem spec_l05Flag_calls (g : Bool) (w : World) : Calls Tryz.prog 121 #[.bool g] w fun e w' => e = .returned (.string (bs [flagB g])) ∧ w = w' := by
  cases g
  all_goals
    go_enter Tryz.func121, Tryz.ntmps121
    go_wp2
    go_ret
    exact ⟨rfl, rfl⟩
end Go.Proofs.YtaacpdejpcbbbaaGreatDoor
