/- Walks of the small functions on slices of numbers that the laws use: what each computes. -/
import Derived.Test.YtiiohodkfipfbaaGreatDoorRows
import Derived.Test.YtiiohodkfipfbaaGreatDoorLib
import Derived.BigQuiet
import Derived.Deep.QuietTactic
namespace Go.Proofs.YtiiohodkfipfbaaGreatDoor
open Go.RowKit Go.Hyp Go.Deep

theorem Tryz.infoInt : (Tryz.prog.info? 3).map (fun i => (i.zero, i.size, i.bytes)) = some (some (.int .i64 0), 1, 8) := by kernel_rfl

end Go.Proofs.YtiiohodkfipfbaaGreatDoor
