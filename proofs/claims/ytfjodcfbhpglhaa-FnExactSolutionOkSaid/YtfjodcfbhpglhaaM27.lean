/- strings.Join, by the library's contract. -/
import Derived.Shelf.Strings.OnBuilder
import Derived.Test.YtfjodcfbhpglhaaM3
namespace Go.Proofs.Ytfjodcfbhpglhaa
open Go.RowKit Go.Hyp Go.Shelf

end Go.Proofs.Ytfjodcfbhpglhaa
