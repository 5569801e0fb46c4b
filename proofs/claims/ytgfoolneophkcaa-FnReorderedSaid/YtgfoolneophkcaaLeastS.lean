/- spec.LeastOf and spec.SameSet: the least picture at a node, and whether two are equal. -/
import Derived.Test.YtgfoolneophkcaaCanon
import Derived.Test.YtgfoolneophkcaaOrdS
import Derived.Test.YtgfoolneophkcaaText
import Derived.Test.YtgfoolneophkcaaMarkII
namespace Go.Proofs.Ytgfoolneophkcaa
open Go.RowKit Go.Hyp Go.Deep

end Go.Proofs.Ytgfoolneophkcaa
