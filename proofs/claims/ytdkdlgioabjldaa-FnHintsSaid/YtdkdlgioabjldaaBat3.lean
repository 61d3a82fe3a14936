/- Batches: their texts: flag, vars. -/
import Derived.Test.YtdkdlgioabjldaaBat2
import Derived.Test.YtdkdlgioabjldaaVars

namespace Go.Proofs.Ytdkdlgioabjldaa
set_option linter.unusedVariables false
set_option linter.unusedSimpArgs false
open Go.RowKit
attribute [local go_sem] bs_size List.length_cons List.length_nil List.length_append

theorem spec_l05Flag_calls (g : Bool) (w : World) : Calls Try.prog 75 #[.bool g] w fun e w' => e = .returned (.string (bs [flagB g])) ∧ w = w' := by
  cases g
  all_goals
    go_enter Try.func75, Try.ntmps75
    go_wp2
    go_ret
    exact ⟨rfl, rfl⟩
end Go.Proofs.Ytdkdlgioabjldaa
