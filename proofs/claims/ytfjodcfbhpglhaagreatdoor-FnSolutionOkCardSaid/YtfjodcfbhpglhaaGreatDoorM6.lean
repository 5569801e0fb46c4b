/- Walks of the functions by which the laws draw streams: what comes is a pair of short slices of numbers. -/
import Derived.Deep.RegionHeld3
import Derived.Deep.RegionLaw
import Derived.Deep.Cut
import Derived.Test.YtfjodcfbhpglhaaGreatDoorM4
import Derived.Test.YtfjodcfbhpglhaaGreatDoorM3
namespace Go.Proofs.YtfjodcfbhpglhaaGreatDoor
open Go.RowKit Go.Hyp Go.Deep

set_option maxHeartbeats 400000 in
theorem alive_any (w : World) : Calls Tryz.prog 20 #[] w fun e w' => e = .returned (.bool true) ∧ w = w' := by
  go_enter Tryz.func20, Tryz.ntmps20
  go_wp2
  go_ret
  exact ⟨ret_bool (by decide), rfl⟩
end Go.Proofs.YtfjodcfbhpglhaaGreatDoor
