/- Walks of the functions by which the laws draw: the reader of a code, and what it picks. -/
import Derived.IntWalk
import Derived.Test.YtfjodcfbhpglhaaDoorM3
namespace Go.Proofs.YtfjodcfbhpglhaaDoor
open Go.RowKit Go.Hyp Go.Deep

end Go.Proofs.YtfjodcfbhpglhaaDoor
