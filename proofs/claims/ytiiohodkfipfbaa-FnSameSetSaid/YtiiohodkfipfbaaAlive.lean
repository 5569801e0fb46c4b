/- The laws' alive. -/
import Derived.Test.YtiiohodkfipfbaaInt
namespace Go.Proofs.Ytiiohodkfipfbaa
open Go.RowKit Go.Hyp Go.Deep
set_option maxHeartbeats 400000 in
theorem alive1_any (w : World) : Calls Try.prog 15 #[] w fun e w' => e = .returned (.bool true) ∧ w = w' := by
  go_enter Try.func15, Try.ntmps15
  go_wp2
  go_ret
  exact ⟨ret_bool (by decide), rfl⟩
end Go.Proofs.Ytiiohodkfipfbaa
