/- Contracts: slices copied and compared. -/
import Derived.Test.YtbknmokoegembabDoorSlicePlain
import Derived.Deep.QuietTactic
import Derived.BigQuiet

namespace Go.Proofs.YtbknmokoegembabDoor
open Go.RowKit
set_option linter.unusedVariables false

theorem infoInt : (Tryd.prog.info? 3).map (fun i => (i.zero, i.size, i.bytes)) = some (some (.int .i64 0), 1, 8) := by kernel_rfl

end Go.Proofs.YtbknmokoegembabDoor
