/- spec.KindsOf: the kinds of all nodes. -/
import Derived.Test.YtgfoolneophkcaaHeld
import Derived.Test.YtgfoolneophkcaaLeft
namespace Go.Hyp
def kindsS (p : List (List Int)) : List Int := if picB p = true then kindsL p p.length else []
theorem kindsS_no {p : List (List Int)} (h : picB p = false) : kindsS p = [] := by unfold kindsS; rw [h]; rfl
theorem kindsS_yes {p : List (List Int)} (h : picB p = true) : kindsS p = kindsL p p.length := by unfold kindsS; rw [h]; rfl
end Go.Hyp
namespace Go.Proofs.Ytgfoolneophkcaa
open Go.RowKit Go.Hyp Go.Deep

end Go.Proofs.Ytgfoolneophkcaa
