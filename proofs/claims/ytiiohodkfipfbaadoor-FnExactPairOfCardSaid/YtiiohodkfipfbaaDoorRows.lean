/-
  NARROWER THAN 'FOR EVERY INPUT', by the rows' own cells (each row's printed sentence says how): FnSystemOf: laid · FnManyIn: laid · FnAlikeNames: laid · FnExactLeastOk: laid · FnExactLeastOf: laid · FnLeastOk: laid · FnLeastOf: laid · FnExactPairOf: laid.
  DERIVED. THE GIVEN ROWS OF THIS SEAT. 8 by the template 'for every input the law returns true; each argument reads behind the call as it read before'; 0 by the template 'total and deterministic' (their statements: YtiiohodkfipfbaaDoorTotals.lean).
  GIVEN WITH THE SEED: the statements are not yours to turn. If you find one false, say at which input.
  Laid BY PROGRAM, IN A SANDBOX (cutbox-rows.mjs): the forced cells as the released guide's own fill.sh prints them over the translation 5444ab781afbca05… (all of the seat's roots in one cut). By AI agents, Wed Nov 11 2026. No macro, syntax, notation, axiom, sorry.
-/
import Derived.Test.YtiiohodkfipfbaaDoorChecked
import GoSem.Claim
import GoSem.ClaimJoined
import GoSem.ClaimMapViews
import Derived.JoinedTies
import Derived.KernelRfl
namespace Go.Proofs.YtiiohodkfipfbaaDoor
/- THE CELL 'sum', in the pinned program and in every row, IS THE sha256 OF THE DUMP (.gsa) THAT YtiiohodkfipfbaaDoorProg.lean LOADS. Nothing in Lean hashes anything: it is a label: what it is worth is what the hold of that sum in a sandbox is worth. -/
noncomputable def Tryd.pinned : Pinned := { name := "ytiiohodkfipfbaadoor", sum := "5444ab781afbca058e648a03af866bdd9b8686b3e750bf590ab0f9751cbc9586", checked := Tryd.checked }
namespace Rows
def none {H : Type} : Left H := { results := [], args := [] }

/- WHAT THE LISTED PACKAGE-LEVEL VARIABLES READ AS WHEN THE CALL BEGINS. Each datum BY PROGRAM (the guide's laid-datum.mjs) off the statement by which the dump's own 'gosem.cut.vars' lays the variable. In a bare row this is a premise. The card (YtiiohodkfipfbaaDoorCards.lean) ties it to the program's text. -/
def laid_math_bits_deBruijn32tab {H : Type} : DataW H := .agg [.lit (.int .u8 0), .lit (.int .u8 1), .lit (.int .u8 28), .lit (.int .u8 2), .lit (.int .u8 29), .lit (.int .u8 14), .lit (.int .u8 24), .lit (.int .u8 3), .lit (.int .u8 30), .lit (.int .u8 22), .lit (.int .u8 20), .lit (.int .u8 15), .lit (.int .u8 25), .lit (.int .u8 17), .lit (.int .u8 4), .lit (.int .u8 8), .lit (.int .u8 31), .lit (.int .u8 27), .lit (.int .u8 13), .lit (.int .u8 23), .lit (.int .u8 21), .lit (.int .u8 19), .lit (.int .u8 16), .lit (.int .u8 7), .lit (.int .u8 26), .lit (.int .u8 12), .lit (.int .u8 18), .lit (.int .u8 6), .lit (.int .u8 11), .lit (.int .u8 5), .lit (.int .u8 10), .lit (.int .u8 9)]
def laid_math_bits_deBruijn64tab {H : Type} : DataW H := .agg [.lit (.int .u8 0), .lit (.int .u8 1), .lit (.int .u8 56), .lit (.int .u8 2), .lit (.int .u8 57), .lit (.int .u8 49), .lit (.int .u8 28), .lit (.int .u8 3), .lit (.int .u8 61), .lit (.int .u8 58), .lit (.int .u8 42), .lit (.int .u8 50), .lit (.int .u8 38), .lit (.int .u8 29), .lit (.int .u8 17), .lit (.int .u8 4), .lit (.int .u8 62), .lit (.int .u8 47), .lit (.int .u8 59), .lit (.int .u8 36), .lit (.int .u8 45), .lit (.int .u8 43), .lit (.int .u8 51), .lit (.int .u8 22), .lit (.int .u8 53), .lit (.int .u8 39), .lit (.int .u8 33), .lit (.int .u8 30), .lit (.int .u8 24), .lit (.int .u8 18), .lit (.int .u8 12), .lit (.int .u8 5), .lit (.int .u8 63), .lit (.int .u8 55), .lit (.int .u8 48), .lit (.int .u8 27), .lit (.int .u8 60), .lit (.int .u8 41), .lit (.int .u8 37), .lit (.int .u8 16), .lit (.int .u8 46), .lit (.int .u8 35), .lit (.int .u8 44), .lit (.int .u8 21), .lit (.int .u8 52), .lit (.int .u8 32), .lit (.int .u8 23), .lit (.int .u8 11), .lit (.int .u8 54), .lit (.int .u8 26), .lit (.int .u8 40), .lit (.int .u8 15), .lit (.int .u8 34), .lit (.int .u8 20), .lit (.int .u8 31), .lit (.int .u8 10), .lit (.int .u8 25), .lit (.int .u8 14), .lit (.int .u8 19), .lit (.int .u8 9), .lit (.int .u8 13), .lit (.int .u8 8), .lit (.int .u8 7), .lit (.int .u8 6)]
def laid_internal_strconv_uint64pow10 {H : Type} : DataW H := .agg [.lit (.int .u64 1), .lit (.int .u64 10), .lit (.int .u64 100), .lit (.int .u64 1000), .lit (.int .u64 10000), .lit (.int .u64 100000), .lit (.int .u64 1000000), .lit (.int .u64 10000000), .lit (.int .u64 100000000), .lit (.int .u64 1000000000), .lit (.int .u64 10000000000), .lit (.int .u64 100000000000), .lit (.int .u64 1000000000000), .lit (.int .u64 10000000000000), .lit (.int .u64 100000000000000), .lit (.int .u64 1000000000000000), .lit (.int .u64 10000000000000000), .lit (.int .u64 100000000000000000), .lit (.int .u64 1000000000000000000), .lit (.int .u64 10000000000000000000)]

/-- 'laws.FnSystemOf': WHATEVER THE INPUT: true; the input reads as it did. -/
def fnSystemOfSpec : ChangeSpec := { name := "fnSystemOf", fn := fun _ => fun
  | [d] => { results := [.lit (.bool true)], args := [d] }
  | _ => none }
def fnSystemOfRow : OpenClaim := { program := "ytiiohodkfipfbaadoor", sum := "5444ab781afbca058e648a03af866bdd9b8686b3e750bf590ab0f9751cbc9586", func := "loop.example/hypersets/laws.FnSystemOf", spec := "fnSystemOf", inPlace := ["internal/abi.NoEscape", "internal/bytealg.MakeNoZero"], unfollowed := true, recurses := true, named := ["internal/strconv.uint64pow10", "math/bits.deBruijn32tab", "math/bits.deBruijn64tab"], apart := false, laid := [("math/bits.deBruijn32tab", laid_math_bits_deBruijn32tab), ("math/bits.deBruijn64tab", laid_math_bits_deBruijn64tab), ("internal/strconv.uint64pow10", laid_internal_strconv_uint64pow10)] }
def FnSystemOfSaid : Prop := fnSystemOfRow.holds Tryd.pinned (OpenSpec.ofChange fnSystemOfSpec)

/-- ITS FALSE NEIGHBOUR: 'it returns false'. Refute it at one input. -/
def fnSystemOfWrong : ChangeSpec := { name := "fnSystemOf", fn := fun _ => fun
  | [d] => { results := [.lit (.bool false)], args := [d] }
  | _ => none }
def FnSystemOfWrongFalsely : Prop := fnSystemOfRow.holds Tryd.pinned (OpenSpec.ofChange fnSystemOfWrong)

/-- 'laws.FnManyIn': WHATEVER THE INPUT: true; the input reads as it did. -/
def fnManyInSpec : ChangeSpec := { name := "fnManyIn", fn := fun _ => fun
  | [d] => { results := [.lit (.bool true)], args := [d] }
  | _ => none }
def fnManyInRow : OpenClaim := { program := "ytiiohodkfipfbaadoor", sum := "5444ab781afbca058e648a03af866bdd9b8686b3e750bf590ab0f9751cbc9586", func := "loop.example/hypersets/laws.FnManyIn", spec := "fnManyIn", inPlace := ["internal/abi.NoEscape", "internal/bytealg.MakeNoZero"], unfollowed := true, recurses := true, named := ["internal/strconv.uint64pow10", "math/bits.deBruijn32tab", "math/bits.deBruijn64tab"], apart := false, laid := [("math/bits.deBruijn32tab", laid_math_bits_deBruijn32tab), ("math/bits.deBruijn64tab", laid_math_bits_deBruijn64tab), ("internal/strconv.uint64pow10", laid_internal_strconv_uint64pow10)] }
def FnManyInSaid : Prop := fnManyInRow.holds Tryd.pinned (OpenSpec.ofChange fnManyInSpec)

/-- ITS FALSE NEIGHBOUR: 'it returns false'. Refute it at one input. -/
def fnManyInWrong : ChangeSpec := { name := "fnManyIn", fn := fun _ => fun
  | [d] => { results := [.lit (.bool false)], args := [d] }
  | _ => none }
def FnManyInWrongFalsely : Prop := fnManyInRow.holds Tryd.pinned (OpenSpec.ofChange fnManyInWrong)

/-- 'laws.FnAlikeNames': WHATEVER THE INPUT: true; the input reads as it did. -/
def fnAlikeNamesSpec : ChangeSpec := { name := "fnAlikeNames", fn := fun _ => fun
  | [d] => { results := [.lit (.bool true)], args := [d] }
  | _ => none }
def fnAlikeNamesRow : OpenClaim := { program := "ytiiohodkfipfbaadoor", sum := "5444ab781afbca058e648a03af866bdd9b8686b3e750bf590ab0f9751cbc9586", func := "loop.example/hypersets/laws.FnAlikeNames", spec := "fnAlikeNames", inPlace := ["internal/abi.NoEscape", "internal/bytealg.MakeNoZero"], unfollowed := true, recurses := true, named := ["internal/strconv.uint64pow10", "math/bits.deBruijn32tab", "math/bits.deBruijn64tab"], apart := false, laid := [("math/bits.deBruijn32tab", laid_math_bits_deBruijn32tab), ("math/bits.deBruijn64tab", laid_math_bits_deBruijn64tab), ("internal/strconv.uint64pow10", laid_internal_strconv_uint64pow10)] }
def FnAlikeNamesSaid : Prop := fnAlikeNamesRow.holds Tryd.pinned (OpenSpec.ofChange fnAlikeNamesSpec)

/-- ITS FALSE NEIGHBOUR: 'it returns false'. Refute it at one input. -/
def fnAlikeNamesWrong : ChangeSpec := { name := "fnAlikeNames", fn := fun _ => fun
  | [d] => { results := [.lit (.bool false)], args := [d] }
  | _ => none }
def FnAlikeNamesWrongFalsely : Prop := fnAlikeNamesRow.holds Tryd.pinned (OpenSpec.ofChange fnAlikeNamesWrong)

/-- 'laws.FnExactLeastOk': WHATEVER THE INPUT: true; the input reads as it did. -/
def fnExactLeastOkSpec : ChangeSpec := { name := "fnExactLeastOk", fn := fun _ => fun
  | [d] => { results := [.lit (.bool true)], args := [d] }
  | _ => none }
def fnExactLeastOkRow : OpenClaim := { program := "ytiiohodkfipfbaadoor", sum := "5444ab781afbca058e648a03af866bdd9b8686b3e750bf590ab0f9751cbc9586", func := "loop.example/hypersets/laws.FnExactLeastOk", spec := "fnExactLeastOk", inPlace := ["internal/abi.NoEscape", "internal/bytealg.MakeNoZero"], unfollowed := true, recurses := true, named := ["internal/strconv.uint64pow10", "math/bits.deBruijn32tab", "math/bits.deBruijn64tab"], apart := false, laid := [("math/bits.deBruijn32tab", laid_math_bits_deBruijn32tab), ("math/bits.deBruijn64tab", laid_math_bits_deBruijn64tab), ("internal/strconv.uint64pow10", laid_internal_strconv_uint64pow10)] }
def FnExactLeastOkSaid : Prop := fnExactLeastOkRow.holds Tryd.pinned (OpenSpec.ofChange fnExactLeastOkSpec)

/-- ITS FALSE NEIGHBOUR: 'it returns false'. Refute it at one input. -/
def fnExactLeastOkWrong : ChangeSpec := { name := "fnExactLeastOk", fn := fun _ => fun
  | [d] => { results := [.lit (.bool false)], args := [d] }
  | _ => none }
def FnExactLeastOkWrongFalsely : Prop := fnExactLeastOkRow.holds Tryd.pinned (OpenSpec.ofChange fnExactLeastOkWrong)

/-- 'laws.FnExactLeastOf': WHATEVER THE INPUT: true; the input reads as it did. -/
def fnExactLeastOfSpec : ChangeSpec := { name := "fnExactLeastOf", fn := fun _ => fun
  | [d1, d2] => { results := [.lit (.bool true)], args := [d1, d2] }
  | _ => none }
def fnExactLeastOfRow : OpenClaim := { program := "ytiiohodkfipfbaadoor", sum := "5444ab781afbca058e648a03af866bdd9b8686b3e750bf590ab0f9751cbc9586", func := "loop.example/hypersets/laws.FnExactLeastOf", spec := "fnExactLeastOf", inPlace := ["internal/abi.NoEscape", "internal/bytealg.MakeNoZero"], unfollowed := true, recurses := true, named := ["internal/strconv.uint64pow10", "math/bits.deBruijn32tab", "math/bits.deBruijn64tab"], apart := false, laid := [("math/bits.deBruijn32tab", laid_math_bits_deBruijn32tab), ("math/bits.deBruijn64tab", laid_math_bits_deBruijn64tab), ("internal/strconv.uint64pow10", laid_internal_strconv_uint64pow10)] }
def FnExactLeastOfSaid : Prop := fnExactLeastOfRow.holds Tryd.pinned (OpenSpec.ofChange fnExactLeastOfSpec)

/-- ITS FALSE NEIGHBOUR: 'it returns false'. Refute it at one input. -/
def fnExactLeastOfWrong : ChangeSpec := { name := "fnExactLeastOf", fn := fun _ => fun
  | [d1, d2] => { results := [.lit (.bool false)], args := [d1, d2] }
  | _ => none }
def FnExactLeastOfWrongFalsely : Prop := fnExactLeastOfRow.holds Tryd.pinned (OpenSpec.ofChange fnExactLeastOfWrong)

/-- 'laws.FnLeastOk': WHATEVER THE INPUT: true; the input reads as it did. -/
def fnLeastOkSpec : ChangeSpec := { name := "fnLeastOk", fn := fun _ => fun
  | [d] => { results := [.lit (.bool true)], args := [d] }
  | _ => none }
def fnLeastOkRow : OpenClaim := { program := "ytiiohodkfipfbaadoor", sum := "5444ab781afbca058e648a03af866bdd9b8686b3e750bf590ab0f9751cbc9586", func := "loop.example/hypersets/laws.FnLeastOk", spec := "fnLeastOk", inPlace := ["internal/abi.NoEscape", "internal/bytealg.MakeNoZero"], unfollowed := true, recurses := true, named := ["internal/strconv.uint64pow10", "math/bits.deBruijn32tab", "math/bits.deBruijn64tab"], apart := false, laid := [("math/bits.deBruijn32tab", laid_math_bits_deBruijn32tab), ("math/bits.deBruijn64tab", laid_math_bits_deBruijn64tab), ("internal/strconv.uint64pow10", laid_internal_strconv_uint64pow10)] }
def FnLeastOkSaid : Prop := fnLeastOkRow.holds Tryd.pinned (OpenSpec.ofChange fnLeastOkSpec)

/-- ITS FALSE NEIGHBOUR: 'it returns false'. Refute it at one input. -/
def fnLeastOkWrong : ChangeSpec := { name := "fnLeastOk", fn := fun _ => fun
  | [d] => { results := [.lit (.bool false)], args := [d] }
  | _ => none }
def FnLeastOkWrongFalsely : Prop := fnLeastOkRow.holds Tryd.pinned (OpenSpec.ofChange fnLeastOkWrong)

/-- 'laws.FnLeastOf': WHATEVER THE INPUT: true; the input reads as it did. -/
def fnLeastOfSpec : ChangeSpec := { name := "fnLeastOf", fn := fun _ => fun
  | [d] => { results := [.lit (.bool true)], args := [d] }
  | _ => none }
def fnLeastOfRow : OpenClaim := { program := "ytiiohodkfipfbaadoor", sum := "5444ab781afbca058e648a03af866bdd9b8686b3e750bf590ab0f9751cbc9586", func := "loop.example/hypersets/laws.FnLeastOf", spec := "fnLeastOf", inPlace := ["internal/abi.NoEscape", "internal/bytealg.MakeNoZero"], unfollowed := true, recurses := true, named := ["internal/strconv.uint64pow10", "math/bits.deBruijn32tab", "math/bits.deBruijn64tab"], apart := false, laid := [("math/bits.deBruijn32tab", laid_math_bits_deBruijn32tab), ("math/bits.deBruijn64tab", laid_math_bits_deBruijn64tab), ("internal/strconv.uint64pow10", laid_internal_strconv_uint64pow10)] }
def FnLeastOfSaid : Prop := fnLeastOfRow.holds Tryd.pinned (OpenSpec.ofChange fnLeastOfSpec)

/-- ITS FALSE NEIGHBOUR: 'it returns false'. Refute it at one input. -/
def fnLeastOfWrong : ChangeSpec := { name := "fnLeastOf", fn := fun _ => fun
  | [d] => { results := [.lit (.bool false)], args := [d] }
  | _ => none }
def FnLeastOfWrongFalsely : Prop := fnLeastOfRow.holds Tryd.pinned (OpenSpec.ofChange fnLeastOfWrong)

/-- 'laws.FnExactPairOf': WHATEVER THE INPUT: true; the input reads as it did. -/
def fnExactPairOfSpec : ChangeSpec := { name := "fnExactPairOf", fn := fun _ => fun
  | [d1, d2, d3, d4] => { results := [.lit (.bool true)], args := [d1, d2, d3, d4] }
  | _ => none }
def fnExactPairOfRow : OpenClaim := { program := "ytiiohodkfipfbaadoor", sum := "5444ab781afbca058e648a03af866bdd9b8686b3e750bf590ab0f9751cbc9586", func := "loop.example/hypersets/laws.FnExactPairOf", spec := "fnExactPairOf", inPlace := ["internal/abi.NoEscape", "internal/bytealg.MakeNoZero"], unfollowed := true, recurses := true, named := ["internal/strconv.uint64pow10", "math/bits.deBruijn32tab", "math/bits.deBruijn64tab"], apart := false, laid := [("math/bits.deBruijn32tab", laid_math_bits_deBruijn32tab), ("math/bits.deBruijn64tab", laid_math_bits_deBruijn64tab), ("internal/strconv.uint64pow10", laid_internal_strconv_uint64pow10)] }
def FnExactPairOfSaid : Prop := fnExactPairOfRow.holds Tryd.pinned (OpenSpec.ofChange fnExactPairOfSpec)

/-- ITS FALSE NEIGHBOUR: 'it returns false'. Refute it at one input. -/
def fnExactPairOfWrong : ChangeSpec := { name := "fnExactPairOf", fn := fun _ => fun
  | [d1, d2, d3, d4] => { results := [.lit (.bool false)], args := [d1, d2, d3, d4] }
  | _ => none }
def FnExactPairOfWrongFalsely : Prop := fnExactPairOfRow.holds Tryd.pinned (OpenSpec.ofChange fnExactPairOfWrong)

/- THE SECOND FORM. 'bulk': how many values and letters a reading holds, each counted each time it is reached (what is shared counts as often as it is met; a slice's spare places count too). A statement '..UptoSaid' is the law's where the arguments, and the package variables that the reading takes, are together of bulk at most 1048576: NARROWER than '..Said'. Prove '..Said' where nothing that the law and all that it calls make is longer than what came in: it says more and counts as full. Else prove '..UptoSaid'. A law counts once. -/
mutual
def uptoBulk {H : Type} : DataW H → Nat
  | .lit (.string bytes) => bytes.length + 1
  | .lit _ => 1
  | .nil => 1
  | .ptr d => uptoBulk d + 1
  | .slice elems spare => uptoBulkAll elems + uptoBulkAll spare + 1
  | .agg parts => uptoBulkAll parts + 1
  | .iface _ d => uptoBulk d + 1
  | .map entries => uptoBulkEntries entries + 1
  | .held _ => 1
def uptoBulkAll {H : Type} : List (DataW H) → Nat
  | [] => 0
  | d :: r => uptoBulk d + uptoBulkAll r
def uptoBulkEntries {H : Type} : List (Lit × DataW H) → Nat
  | [] => 0
  | x :: r => uptoBulkEntry x + uptoBulkEntries r
def uptoBulkEntry {H : Type} : Lit × DataW H → Nat
  | (.string bytes, d) => bytes.length + uptoBulk d + 1
  | (_, d) => uptoBulk d + 1
 end
def uptoSmall : (H : Type) → List (DataW H) → Bool := fun _ ds => decide (uptoBulkAll ds ≤ 1048576)
def OpenSpec.upto (s : _root_.Go.ChangeSpec) : _root_.Go.OpenSpec := { _root_.Go.OpenSpec.ofChange s with cond := some uptoSmall }

/-- 'laws.FnSystemOf', WHERE WHAT IT READS IS OF BULK AT MOST 1048576: true; the input reads as it did. -/
def fnSystemOfUptoRow : OpenClaim := { program := "ytiiohodkfipfbaadoor", sum := "5444ab781afbca058e648a03af866bdd9b8686b3e750bf590ab0f9751cbc9586", func := "loop.example/hypersets/laws.FnSystemOf", spec := "fnSystemOf", inPlace := ["internal/abi.NoEscape", "internal/bytealg.MakeNoZero"], unfollowed := true, recurses := true, named := ["internal/strconv.uint64pow10", "math/bits.deBruijn32tab", "math/bits.deBruijn64tab"], apart := false, laid := [("math/bits.deBruijn32tab", laid_math_bits_deBruijn32tab), ("math/bits.deBruijn64tab", laid_math_bits_deBruijn64tab), ("internal/strconv.uint64pow10", laid_internal_strconv_uint64pow10)], narrowed := true }
def FnSystemOfUptoSaid : Prop := fnSystemOfUptoRow.holds Tryd.pinned (OpenSpec.upto fnSystemOfSpec)

/-- 'laws.FnManyIn', WHERE WHAT IT READS IS OF BULK AT MOST 1048576: true; the input reads as it did. -/
def fnManyInUptoRow : OpenClaim := { program := "ytiiohodkfipfbaadoor", sum := "5444ab781afbca058e648a03af866bdd9b8686b3e750bf590ab0f9751cbc9586", func := "loop.example/hypersets/laws.FnManyIn", spec := "fnManyIn", inPlace := ["internal/abi.NoEscape", "internal/bytealg.MakeNoZero"], unfollowed := true, recurses := true, named := ["internal/strconv.uint64pow10", "math/bits.deBruijn32tab", "math/bits.deBruijn64tab"], apart := false, laid := [("math/bits.deBruijn32tab", laid_math_bits_deBruijn32tab), ("math/bits.deBruijn64tab", laid_math_bits_deBruijn64tab), ("internal/strconv.uint64pow10", laid_internal_strconv_uint64pow10)], narrowed := true }
def FnManyInUptoSaid : Prop := fnManyInUptoRow.holds Tryd.pinned (OpenSpec.upto fnManyInSpec)

/-- 'laws.FnAlikeNames', WHERE WHAT IT READS IS OF BULK AT MOST 1048576: true; the input reads as it did. -/
def fnAlikeNamesUptoRow : OpenClaim := { program := "ytiiohodkfipfbaadoor", sum := "5444ab781afbca058e648a03af866bdd9b8686b3e750bf590ab0f9751cbc9586", func := "loop.example/hypersets/laws.FnAlikeNames", spec := "fnAlikeNames", inPlace := ["internal/abi.NoEscape", "internal/bytealg.MakeNoZero"], unfollowed := true, recurses := true, named := ["internal/strconv.uint64pow10", "math/bits.deBruijn32tab", "math/bits.deBruijn64tab"], apart := false, laid := [("math/bits.deBruijn32tab", laid_math_bits_deBruijn32tab), ("math/bits.deBruijn64tab", laid_math_bits_deBruijn64tab), ("internal/strconv.uint64pow10", laid_internal_strconv_uint64pow10)], narrowed := true }
def FnAlikeNamesUptoSaid : Prop := fnAlikeNamesUptoRow.holds Tryd.pinned (OpenSpec.upto fnAlikeNamesSpec)

/-- 'laws.FnExactLeastOk', WHERE WHAT IT READS IS OF BULK AT MOST 1048576: true; the input reads as it did. -/
def fnExactLeastOkUptoRow : OpenClaim := { program := "ytiiohodkfipfbaadoor", sum := "5444ab781afbca058e648a03af866bdd9b8686b3e750bf590ab0f9751cbc9586", func := "loop.example/hypersets/laws.FnExactLeastOk", spec := "fnExactLeastOk", inPlace := ["internal/abi.NoEscape", "internal/bytealg.MakeNoZero"], unfollowed := true, recurses := true, named := ["internal/strconv.uint64pow10", "math/bits.deBruijn32tab", "math/bits.deBruijn64tab"], apart := false, laid := [("math/bits.deBruijn32tab", laid_math_bits_deBruijn32tab), ("math/bits.deBruijn64tab", laid_math_bits_deBruijn64tab), ("internal/strconv.uint64pow10", laid_internal_strconv_uint64pow10)], narrowed := true }
def FnExactLeastOkUptoSaid : Prop := fnExactLeastOkUptoRow.holds Tryd.pinned (OpenSpec.upto fnExactLeastOkSpec)

/-- 'laws.FnExactLeastOf', WHERE WHAT IT READS IS OF BULK AT MOST 1048576: true; the input reads as it did. -/
def fnExactLeastOfUptoRow : OpenClaim := { program := "ytiiohodkfipfbaadoor", sum := "5444ab781afbca058e648a03af866bdd9b8686b3e750bf590ab0f9751cbc9586", func := "loop.example/hypersets/laws.FnExactLeastOf", spec := "fnExactLeastOf", inPlace := ["internal/abi.NoEscape", "internal/bytealg.MakeNoZero"], unfollowed := true, recurses := true, named := ["internal/strconv.uint64pow10", "math/bits.deBruijn32tab", "math/bits.deBruijn64tab"], apart := false, laid := [("math/bits.deBruijn32tab", laid_math_bits_deBruijn32tab), ("math/bits.deBruijn64tab", laid_math_bits_deBruijn64tab), ("internal/strconv.uint64pow10", laid_internal_strconv_uint64pow10)], narrowed := true }
def FnExactLeastOfUptoSaid : Prop := fnExactLeastOfUptoRow.holds Tryd.pinned (OpenSpec.upto fnExactLeastOfSpec)

/-- 'laws.FnLeastOk', WHERE WHAT IT READS IS OF BULK AT MOST 1048576: true; the input reads as it did. -/
def fnLeastOkUptoRow : OpenClaim := { program := "ytiiohodkfipfbaadoor", sum := "5444ab781afbca058e648a03af866bdd9b8686b3e750bf590ab0f9751cbc9586", func := "loop.example/hypersets/laws.FnLeastOk", spec := "fnLeastOk", inPlace := ["internal/abi.NoEscape", "internal/bytealg.MakeNoZero"], unfollowed := true, recurses := true, named := ["internal/strconv.uint64pow10", "math/bits.deBruijn32tab", "math/bits.deBruijn64tab"], apart := false, laid := [("math/bits.deBruijn32tab", laid_math_bits_deBruijn32tab), ("math/bits.deBruijn64tab", laid_math_bits_deBruijn64tab), ("internal/strconv.uint64pow10", laid_internal_strconv_uint64pow10)], narrowed := true }
def FnLeastOkUptoSaid : Prop := fnLeastOkUptoRow.holds Tryd.pinned (OpenSpec.upto fnLeastOkSpec)

/-- 'laws.FnLeastOf', WHERE WHAT IT READS IS OF BULK AT MOST 1048576: true; the input reads as it did. -/
def fnLeastOfUptoRow : OpenClaim := { program := "ytiiohodkfipfbaadoor", sum := "5444ab781afbca058e648a03af866bdd9b8686b3e750bf590ab0f9751cbc9586", func := "loop.example/hypersets/laws.FnLeastOf", spec := "fnLeastOf", inPlace := ["internal/abi.NoEscape", "internal/bytealg.MakeNoZero"], unfollowed := true, recurses := true, named := ["internal/strconv.uint64pow10", "math/bits.deBruijn32tab", "math/bits.deBruijn64tab"], apart := false, laid := [("math/bits.deBruijn32tab", laid_math_bits_deBruijn32tab), ("math/bits.deBruijn64tab", laid_math_bits_deBruijn64tab), ("internal/strconv.uint64pow10", laid_internal_strconv_uint64pow10)], narrowed := true }
def FnLeastOfUptoSaid : Prop := fnLeastOfUptoRow.holds Tryd.pinned (OpenSpec.upto fnLeastOfSpec)

/-- 'laws.FnExactPairOf', WHERE WHAT IT READS IS OF BULK AT MOST 1048576: true; the input reads as it did. -/
def fnExactPairOfUptoRow : OpenClaim := { program := "ytiiohodkfipfbaadoor", sum := "5444ab781afbca058e648a03af866bdd9b8686b3e750bf590ab0f9751cbc9586", func := "loop.example/hypersets/laws.FnExactPairOf", spec := "fnExactPairOf", inPlace := ["internal/abi.NoEscape", "internal/bytealg.MakeNoZero"], unfollowed := true, recurses := true, named := ["internal/strconv.uint64pow10", "math/bits.deBruijn32tab", "math/bits.deBruijn64tab"], apart := false, laid := [("math/bits.deBruijn32tab", laid_math_bits_deBruijn32tab), ("math/bits.deBruijn64tab", laid_math_bits_deBruijn64tab), ("internal/strconv.uint64pow10", laid_internal_strconv_uint64pow10)], narrowed := true }
def FnExactPairOfUptoSaid : Prop := fnExactPairOfUptoRow.holds Tryd.pinned (OpenSpec.upto fnExactPairOfSpec)

end Rows
end Go.Proofs.YtiiohodkfipfbaaDoor
