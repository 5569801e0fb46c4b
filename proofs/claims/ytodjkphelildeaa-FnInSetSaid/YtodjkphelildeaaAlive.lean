/- The laws' alive. -/
import Derived.Test.YtodjkphelildeaaInt
namespace Go.Proofs.Ytodjkphelildeaa
open Go.RowKit Go.Hyp Go.Deep
set_option maxHeartbeats 400000 in
theorem alive1_any (w : World) : Calls Try.prog 21 #[] w fun e w' => e = .returned (.bool true) ∧ w = w' := by
  go_enter Try.func21, Try.ntmps21
  go_wp2
  go_ret
  exact ⟨ret_bool (by decide), rfl⟩
end Go.Proofs.Ytodjkphelildeaa
