/- Files of a disk: DiskOk of the reference. -/
import Derived.Test.YtanebcllcgchcaaGreatDoorFileA
namespace Go.Proofs.YtanebcllcgchcaaGreatDoor
set_option linter.unusedVariables false
set_option linter.unusedSimpArgs false
open Go.RowKit
attribute [local go_sem] bs_size List.length_cons List.length_nil List.length_append

end Go.Proofs.YtanebcllcgchcaaGreatDoor
