/- The text of a picture, as the reference writes it: spec.l1Number, spec.PictureText. -/
import Derived.Test.YtgfoolneophkcaaTextP
import Derived.Test.YtgfoolneophkcaaHeld
import Derived.Laws.BytesString
import Derived.Laws.Concat
import Derived.Laws.IdiomStrings
namespace Go.Hyp
open Go.RowKit Go.Deep
theorem str_app (x y : List UInt8) : (ByteArray.mk x.toArray ++ ByteArray.mk y.toArray) = ByteArray.mk (x ++ y).toArray := ByteArray.mk_append_mk x y
theorem str_list (x : List UInt8) : (ByteArray.mk x.toArray).toList = x := by rw [ByteArray.toList_eq]
theorem rowT_upto (p : List (List Int)) (n k j : Nat) (h : j ≤ n) : (rowT p k j).length ≤ n := Nat.le_trans (rowT_len p k j) h
end Go.Hyp
namespace Go.Proofs.Ytgfoolneophkcaa
open Go.RowKit Go.Hyp Go.Deep

end Go.Proofs.Ytgfoolneophkcaa
