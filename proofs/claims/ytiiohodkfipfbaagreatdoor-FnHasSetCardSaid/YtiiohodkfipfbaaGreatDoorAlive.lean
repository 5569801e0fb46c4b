/- The laws' alive. -/
import Derived.Test.YtiiohodkfipfbaaGreatDoorInt
namespace Go.Proofs.YtiiohodkfipfbaaGreatDoor
open Go.RowKit Go.Hyp Go.Deep
set_option maxHeartbeats 400000 in
theorem alive1_any (w : World) : Calls Tryz.prog 10 #[] w fun e w' => e = .returned (.bool true) ∧ w = w' := by
  go_enter Tryz.func10, Tryz.ntmps10
  go_wp2
  go_ret
  exact ⟨ret_bool (by decide), rfl⟩
end Go.Proofs.YtiiohodkfipfbaaGreatDoor
