/-
  No cell of these rows narrows 'for every input' (looked for: loops, veiled, ifaces, maps, wideKeys, modest, calm, conditions, laid).
  DERIVED. THE GIVEN ROWS OF THIS SEAT. 12 by the template 'for every input the law returns true; each argument reads behind the call as it read before'; 0 by the template 'total and deterministic' (their statements: YtodjkphelildeaaTotals.lean).
  GIVEN WITH THE SEED: the statements are not yours to turn. If you find one false, say at which input.
  Laid BY PROGRAM, IN A SANDBOX (cutbox-rows.mjs): the forced cells as the released guide's own fill.sh prints them over the translation 1e3217087af361e2… (all of the seat's roots in one cut). By AI agents, Wed Nov 11 2026. No macro, syntax, notation, axiom, sorry.
-/
import Derived.Test.YtodjkphelildeaaChecked
import GoSem.Claim
import GoSem.ClaimJoined
import GoSem.ClaimMapViews
import Derived.JoinedTies
import Derived.KernelRfl
namespace Go.Proofs.Ytodjkphelildeaa
/- THE CELL 'sum', in the pinned program and in every row, IS THE sha256 OF THE DUMP (.gsa) THAT YtodjkphelildeaaProg.lean LOADS. Nothing in Lean hashes anything: it is a label: what it is worth is what the hold of that sum in a sandbox is worth. -/
noncomputable def Try.pinned : Pinned := { name := "ytodjkphelildeaa", sum := "1e3217087af361e2a51200f46fb88e32dbf5a95ac8102edf38fedbb5e86f80df", checked := Try.checked }
namespace Rows
def none {H : Type} : Left H := { results := [], args := [] }

/-- 'laws.FnExactAnswerTo': WHATEVER THE INPUT: true; the input reads as it did. -/
def fnExactAnswerToSpec : ChangeSpec := { name := "fnExactAnswerTo", fn := fun _ => fun
  | [d1, d2, d3, d4] => { results := [.lit (.bool true)], args := [d1, d2, d3, d4] }
  | _ => none }
def fnExactAnswerToRow : OpenClaim := { program := "ytodjkphelildeaa", sum := "1e3217087af361e2a51200f46fb88e32dbf5a95ac8102edf38fedbb5e86f80df", func := "loop.example/hypersets/laws.FnExactAnswerTo", spec := "fnExactAnswerTo", unfollowed := true, recurses := true, apart := false }
def FnExactAnswerToSaid : Prop := fnExactAnswerToRow.holds Try.pinned (OpenSpec.ofChange fnExactAnswerToSpec)

/-- ITS FALSE NEIGHBOUR: 'it returns false'. Refute it at one input. -/
def fnExactAnswerToWrong : ChangeSpec := { name := "fnExactAnswerTo", fn := fun _ => fun
  | [d1, d2, d3, d4] => { results := [.lit (.bool false)], args := [d1, d2, d3, d4] }
  | _ => none }
def FnExactAnswerToWrongFalsely : Prop := fnExactAnswerToRow.holds Try.pinned (OpenSpec.ofChange fnExactAnswerToWrong)

/-- 'laws.FnAnswerTo': WHATEVER THE INPUT: true; the input reads as it did. -/
def fnAnswerToSpec : ChangeSpec := { name := "fnAnswerTo", fn := fun _ => fun
  | [d] => { results := [.lit (.bool true)], args := [d] }
  | _ => none }
def fnAnswerToRow : OpenClaim := { program := "ytodjkphelildeaa", sum := "1e3217087af361e2a51200f46fb88e32dbf5a95ac8102edf38fedbb5e86f80df", func := "loop.example/hypersets/laws.FnAnswerTo", spec := "fnAnswerTo", unfollowed := true, recurses := true, apart := false }
def FnAnswerToSaid : Prop := fnAnswerToRow.holds Try.pinned (OpenSpec.ofChange fnAnswerToSpec)

/-- ITS FALSE NEIGHBOUR: 'it returns false'. Refute it at one input. -/
def fnAnswerToWrong : ChangeSpec := { name := "fnAnswerTo", fn := fun _ => fun
  | [d] => { results := [.lit (.bool false)], args := [d] }
  | _ => none }
def FnAnswerToWrongFalsely : Prop := fnAnswerToRow.holds Try.pinned (OpenSpec.ofChange fnAnswerToWrong)

/-- 'laws.FnExactMoveOf': WHATEVER THE INPUT: true; the input reads as it did. -/
def fnExactMoveOfSpec : ChangeSpec := { name := "fnExactMoveOf", fn := fun _ => fun
  | [d1, d2, d3] => { results := [.lit (.bool true)], args := [d1, d2, d3] }
  | _ => none }
def fnExactMoveOfRow : OpenClaim := { program := "ytodjkphelildeaa", sum := "1e3217087af361e2a51200f46fb88e32dbf5a95ac8102edf38fedbb5e86f80df", func := "loop.example/hypersets/laws.FnExactMoveOf", spec := "fnExactMoveOf", unfollowed := true, recurses := true, apart := false }
def FnExactMoveOfSaid : Prop := fnExactMoveOfRow.holds Try.pinned (OpenSpec.ofChange fnExactMoveOfSpec)

/-- ITS FALSE NEIGHBOUR: 'it returns false'. Refute it at one input. -/
def fnExactMoveOfWrong : ChangeSpec := { name := "fnExactMoveOf", fn := fun _ => fun
  | [d1, d2, d3] => { results := [.lit (.bool false)], args := [d1, d2, d3] }
  | _ => none }
def FnExactMoveOfWrongFalsely : Prop := fnExactMoveOfRow.holds Try.pinned (OpenSpec.ofChange fnExactMoveOfWrong)

/-- 'laws.FnMoveOf': WHATEVER THE INPUT: true; the input reads as it did. -/
def fnMoveOfSpec : ChangeSpec := { name := "fnMoveOf", fn := fun _ => fun
  | [d] => { results := [.lit (.bool true)], args := [d] }
  | _ => none }
def fnMoveOfRow : OpenClaim := { program := "ytodjkphelildeaa", sum := "1e3217087af361e2a51200f46fb88e32dbf5a95ac8102edf38fedbb5e86f80df", func := "loop.example/hypersets/laws.FnMoveOf", spec := "fnMoveOf", unfollowed := true, recurses := true, apart := false }
def FnMoveOfSaid : Prop := fnMoveOfRow.holds Try.pinned (OpenSpec.ofChange fnMoveOfSpec)

/-- ITS FALSE NEIGHBOUR: 'it returns false'. Refute it at one input. -/
def fnMoveOfWrong : ChangeSpec := { name := "fnMoveOf", fn := fun _ => fun
  | [d] => { results := [.lit (.bool false)], args := [d] }
  | _ => none }
def FnMoveOfWrongFalsely : Prop := fnMoveOfRow.holds Try.pinned (OpenSpec.ofChange fnMoveOfWrong)

/-- 'laws.FnExactPlayedOut': WHATEVER THE INPUT: true; the input reads as it did. -/
def fnExactPlayedOutSpec : ChangeSpec := { name := "fnExactPlayedOut", fn := fun _ => fun
  | [d1, d2, d3] => { results := [.lit (.bool true)], args := [d1, d2, d3] }
  | _ => none }
def fnExactPlayedOutRow : OpenClaim := { program := "ytodjkphelildeaa", sum := "1e3217087af361e2a51200f46fb88e32dbf5a95ac8102edf38fedbb5e86f80df", func := "loop.example/hypersets/laws.FnExactPlayedOut", spec := "fnExactPlayedOut", unfollowed := true, recurses := true, apart := false }
def FnExactPlayedOutSaid : Prop := fnExactPlayedOutRow.holds Try.pinned (OpenSpec.ofChange fnExactPlayedOutSpec)

/-- ITS FALSE NEIGHBOUR: 'it returns false'. Refute it at one input. -/
def fnExactPlayedOutWrong : ChangeSpec := { name := "fnExactPlayedOut", fn := fun _ => fun
  | [d1, d2, d3] => { results := [.lit (.bool false)], args := [d1, d2, d3] }
  | _ => none }
def FnExactPlayedOutWrongFalsely : Prop := fnExactPlayedOutRow.holds Try.pinned (OpenSpec.ofChange fnExactPlayedOutWrong)

/-- 'laws.FnPlayedOut': WHATEVER THE INPUT: true; the input reads as it did. -/
def fnPlayedOutSpec : ChangeSpec := { name := "fnPlayedOut", fn := fun _ => fun
  | [d] => { results := [.lit (.bool true)], args := [d] }
  | _ => none }
def fnPlayedOutRow : OpenClaim := { program := "ytodjkphelildeaa", sum := "1e3217087af361e2a51200f46fb88e32dbf5a95ac8102edf38fedbb5e86f80df", func := "loop.example/hypersets/laws.FnPlayedOut", spec := "fnPlayedOut", unfollowed := true, recurses := true, apart := false }
def FnPlayedOutSaid : Prop := fnPlayedOutRow.holds Try.pinned (OpenSpec.ofChange fnPlayedOutSpec)

/-- ITS FALSE NEIGHBOUR: 'it returns false'. Refute it at one input. -/
def fnPlayedOutWrong : ChangeSpec := { name := "fnPlayedOut", fn := fun _ => fun
  | [d] => { results := [.lit (.bool false)], args := [d] }
  | _ => none }
def FnPlayedOutWrongFalsely : Prop := fnPlayedOutRow.holds Try.pinned (OpenSpec.ofChange fnPlayedOutWrong)

/-- 'laws.FnExactAlikeNames': WHATEVER THE INPUT: true; the input reads as it did. -/
def fnExactAlikeNamesSpec : ChangeSpec := { name := "fnExactAlikeNames", fn := fun _ => fun
  | [d1, d2, d3] => { results := [.lit (.bool true)], args := [d1, d2, d3] }
  | _ => none }
def fnExactAlikeNamesRow : OpenClaim := { program := "ytodjkphelildeaa", sum := "1e3217087af361e2a51200f46fb88e32dbf5a95ac8102edf38fedbb5e86f80df", func := "loop.example/hypersets/laws.FnExactAlikeNames", spec := "fnExactAlikeNames", unfollowed := true, recurses := true, apart := false }
def FnExactAlikeNamesSaid : Prop := fnExactAlikeNamesRow.holds Try.pinned (OpenSpec.ofChange fnExactAlikeNamesSpec)

/-- ITS FALSE NEIGHBOUR: 'it returns false'. Refute it at one input. -/
def fnExactAlikeNamesWrong : ChangeSpec := { name := "fnExactAlikeNames", fn := fun _ => fun
  | [d1, d2, d3] => { results := [.lit (.bool false)], args := [d1, d2, d3] }
  | _ => none }
def FnExactAlikeNamesWrongFalsely : Prop := fnExactAlikeNamesRow.holds Try.pinned (OpenSpec.ofChange fnExactAlikeNamesWrong)

/-- 'laws.FnExactSameSet': WHATEVER THE INPUT: true; the input reads as it did. -/
def fnExactSameSetSpec : ChangeSpec := { name := "fnExactSameSet", fn := fun _ => fun
  | [d1, d2, d3, d4] => { results := [.lit (.bool true)], args := [d1, d2, d3, d4] }
  | _ => none }
def fnExactSameSetRow : OpenClaim := { program := "ytodjkphelildeaa", sum := "1e3217087af361e2a51200f46fb88e32dbf5a95ac8102edf38fedbb5e86f80df", func := "loop.example/hypersets/laws.FnExactSameSet", spec := "fnExactSameSet", unfollowed := true, recurses := true, apart := false }
def FnExactSameSetSaid : Prop := fnExactSameSetRow.holds Try.pinned (OpenSpec.ofChange fnExactSameSetSpec)

/-- ITS FALSE NEIGHBOUR: 'it returns false'. Refute it at one input. -/
def fnExactSameSetWrong : ChangeSpec := { name := "fnExactSameSet", fn := fun _ => fun
  | [d1, d2, d3, d4] => { results := [.lit (.bool false)], args := [d1, d2, d3, d4] }
  | _ => none }
def FnExactSameSetWrongFalsely : Prop := fnExactSameSetRow.holds Try.pinned (OpenSpec.ofChange fnExactSameSetWrong)

/-- 'laws.FnExactHasSet': WHATEVER THE INPUT: true; the input reads as it did. -/
def fnExactHasSetSpec : ChangeSpec := { name := "fnExactHasSet", fn := fun _ => fun
  | [d1, d2, d3, d4] => { results := [.lit (.bool true)], args := [d1, d2, d3, d4] }
  | _ => none }
def fnExactHasSetRow : OpenClaim := { program := "ytodjkphelildeaa", sum := "1e3217087af361e2a51200f46fb88e32dbf5a95ac8102edf38fedbb5e86f80df", func := "loop.example/hypersets/laws.FnExactHasSet", spec := "fnExactHasSet", unfollowed := true, recurses := true, apart := false }
def FnExactHasSetSaid : Prop := fnExactHasSetRow.holds Try.pinned (OpenSpec.ofChange fnExactHasSetSpec)

/-- ITS FALSE NEIGHBOUR: 'it returns false'. Refute it at one input. -/
def fnExactHasSetWrong : ChangeSpec := { name := "fnExactHasSet", fn := fun _ => fun
  | [d1, d2, d3, d4] => { results := [.lit (.bool false)], args := [d1, d2, d3, d4] }
  | _ => none }
def FnExactHasSetWrongFalsely : Prop := fnExactHasSetRow.holds Try.pinned (OpenSpec.ofChange fnExactHasSetWrong)

/-- 'laws.FnExactInSet': WHATEVER THE INPUT: true; the input reads as it did. -/
def fnExactInSetSpec : ChangeSpec := { name := "fnExactInSet", fn := fun _ => fun
  | [d1, d2, d3, d4] => { results := [.lit (.bool true)], args := [d1, d2, d3, d4] }
  | _ => none }
def fnExactInSetRow : OpenClaim := { program := "ytodjkphelildeaa", sum := "1e3217087af361e2a51200f46fb88e32dbf5a95ac8102edf38fedbb5e86f80df", func := "loop.example/hypersets/laws.FnExactInSet", spec := "fnExactInSet", unfollowed := true, recurses := true, apart := false }
def FnExactInSetSaid : Prop := fnExactInSetRow.holds Try.pinned (OpenSpec.ofChange fnExactInSetSpec)

/-- ITS FALSE NEIGHBOUR: 'it returns false'. Refute it at one input. -/
def fnExactInSetWrong : ChangeSpec := { name := "fnExactInSet", fn := fun _ => fun
  | [d1, d2, d3, d4] => { results := [.lit (.bool false)], args := [d1, d2, d3, d4] }
  | _ => none }
def FnExactInSetWrongFalsely : Prop := fnExactInSetRow.holds Try.pinned (OpenSpec.ofChange fnExactInSetWrong)

/-- 'laws.FnInSet': WHATEVER THE INPUT: true; the input reads as it did. -/
def fnInSetSpec : ChangeSpec := { name := "fnInSet", fn := fun _ => fun
  | [d] => { results := [.lit (.bool true)], args := [d] }
  | _ => none }
def fnInSetRow : OpenClaim := { program := "ytodjkphelildeaa", sum := "1e3217087af361e2a51200f46fb88e32dbf5a95ac8102edf38fedbb5e86f80df", func := "loop.example/hypersets/laws.FnInSet", spec := "fnInSet", unfollowed := true, recurses := true, apart := false }
def FnInSetSaid : Prop := fnInSetRow.holds Try.pinned (OpenSpec.ofChange fnInSetSpec)

/-- ITS FALSE NEIGHBOUR: 'it returns false'. Refute it at one input. -/
def fnInSetWrong : ChangeSpec := { name := "fnInSet", fn := fun _ => fun
  | [d] => { results := [.lit (.bool false)], args := [d] }
  | _ => none }
def FnInSetWrongFalsely : Prop := fnInSetRow.holds Try.pinned (OpenSpec.ofChange fnInSetWrong)

/-- 'laws.FnNodeOk': WHATEVER THE INPUT: true; the input reads as it did. -/
def fnNodeOkSpec : ChangeSpec := { name := "fnNodeOk", fn := fun _ => fun
  | [d] => { results := [.lit (.bool true)], args := [d] }
  | _ => none }
def fnNodeOkRow : OpenClaim := { program := "ytodjkphelildeaa", sum := "1e3217087af361e2a51200f46fb88e32dbf5a95ac8102edf38fedbb5e86f80df", func := "loop.example/hypersets/laws.FnNodeOk", spec := "fnNodeOk", recurses := true, apart := false }
def FnNodeOkSaid : Prop := fnNodeOkRow.holds Try.pinned (OpenSpec.ofChange fnNodeOkSpec)

/-- ITS FALSE NEIGHBOUR: 'it returns false'. Refute it at one input. -/
def fnNodeOkWrong : ChangeSpec := { name := "fnNodeOk", fn := fun _ => fun
  | [d] => { results := [.lit (.bool false)], args := [d] }
  | _ => none }
def FnNodeOkWrongFalsely : Prop := fnNodeOkRow.holds Try.pinned (OpenSpec.ofChange fnNodeOkWrong)

/- THE SECOND FORM. 'bulk': how many values and letters a reading holds, each counted each time it is reached (what is shared counts as often as it is met; a slice's spare places count too). A statement '..UptoSaid' is the law's where the arguments, and the package variables that the reading takes, are together of bulk at most 1048576: NARROWER than '..Said'. Prove '..Said' where nothing that the law and all that it calls make is longer than what came in: it says more and counts as full. Else prove '..UptoSaid'. A law counts once. -/
mutual
def uptoBulk {H : Type} : DataW H → Nat
  | .lit (.string bytes) => bytes.length + 1
  | .lit _ => 1
  | .nil => 1
  | .ptr d => uptoBulk d + 1
  | .slice elems spare => uptoBulkAll elems + uptoBulkAll spare + 1
  | .agg parts => uptoBulkAll parts + 1
  | .iface _ d => uptoBulk d + 1
  | .map entries => uptoBulkEntries entries + 1
  | .held _ => 1
def uptoBulkAll {H : Type} : List (DataW H) → Nat
  | [] => 0
  | d :: r => uptoBulk d + uptoBulkAll r
def uptoBulkEntries {H : Type} : List (Lit × DataW H) → Nat
  | [] => 0
  | x :: r => uptoBulkEntry x + uptoBulkEntries r
def uptoBulkEntry {H : Type} : Lit × DataW H → Nat
  | (.string bytes, d) => bytes.length + uptoBulk d + 1
  | (_, d) => uptoBulk d + 1
 end
def uptoSmall : (H : Type) → List (DataW H) → Bool := fun _ ds => decide (uptoBulkAll ds ≤ 1048576)
def OpenSpec.upto (s : _root_.Go.ChangeSpec) : _root_.Go.OpenSpec := { _root_.Go.OpenSpec.ofChange s with cond := some uptoSmall }

/-- 'laws.FnExactAnswerTo', WHERE WHAT IT READS IS OF BULK AT MOST 1048576: true; the input reads as it did. -/
def fnExactAnswerToUptoRow : OpenClaim := { program := "ytodjkphelildeaa", sum := "1e3217087af361e2a51200f46fb88e32dbf5a95ac8102edf38fedbb5e86f80df", func := "loop.example/hypersets/laws.FnExactAnswerTo", spec := "fnExactAnswerTo", unfollowed := true, recurses := true, apart := false, narrowed := true }
def FnExactAnswerToUptoSaid : Prop := fnExactAnswerToUptoRow.holds Try.pinned (OpenSpec.upto fnExactAnswerToSpec)

/-- 'laws.FnAnswerTo', WHERE WHAT IT READS IS OF BULK AT MOST 1048576: true; the input reads as it did. -/
def fnAnswerToUptoRow : OpenClaim := { program := "ytodjkphelildeaa", sum := "1e3217087af361e2a51200f46fb88e32dbf5a95ac8102edf38fedbb5e86f80df", func := "loop.example/hypersets/laws.FnAnswerTo", spec := "fnAnswerTo", unfollowed := true, recurses := true, apart := false, narrowed := true }
def FnAnswerToUptoSaid : Prop := fnAnswerToUptoRow.holds Try.pinned (OpenSpec.upto fnAnswerToSpec)

/-- 'laws.FnExactMoveOf', WHERE WHAT IT READS IS OF BULK AT MOST 1048576: true; the input reads as it did. -/
def fnExactMoveOfUptoRow : OpenClaim := { program := "ytodjkphelildeaa", sum := "1e3217087af361e2a51200f46fb88e32dbf5a95ac8102edf38fedbb5e86f80df", func := "loop.example/hypersets/laws.FnExactMoveOf", spec := "fnExactMoveOf", unfollowed := true, recurses := true, apart := false, narrowed := true }
def FnExactMoveOfUptoSaid : Prop := fnExactMoveOfUptoRow.holds Try.pinned (OpenSpec.upto fnExactMoveOfSpec)

/-- 'laws.FnMoveOf', WHERE WHAT IT READS IS OF BULK AT MOST 1048576: true; the input reads as it did. -/
def fnMoveOfUptoRow : OpenClaim := { program := "ytodjkphelildeaa", sum := "1e3217087af361e2a51200f46fb88e32dbf5a95ac8102edf38fedbb5e86f80df", func := "loop.example/hypersets/laws.FnMoveOf", spec := "fnMoveOf", unfollowed := true, recurses := true, apart := false, narrowed := true }
def FnMoveOfUptoSaid : Prop := fnMoveOfUptoRow.holds Try.pinned (OpenSpec.upto fnMoveOfSpec)

/-- 'laws.FnExactPlayedOut', WHERE WHAT IT READS IS OF BULK AT MOST 1048576: true; the input reads as it did. -/
def fnExactPlayedOutUptoRow : OpenClaim := { program := "ytodjkphelildeaa", sum := "1e3217087af361e2a51200f46fb88e32dbf5a95ac8102edf38fedbb5e86f80df", func := "loop.example/hypersets/laws.FnExactPlayedOut", spec := "fnExactPlayedOut", unfollowed := true, recurses := true, apart := false, narrowed := true }
def FnExactPlayedOutUptoSaid : Prop := fnExactPlayedOutUptoRow.holds Try.pinned (OpenSpec.upto fnExactPlayedOutSpec)

/-- 'laws.FnPlayedOut', WHERE WHAT IT READS IS OF BULK AT MOST 1048576: true; the input reads as it did. -/
def fnPlayedOutUptoRow : OpenClaim := { program := "ytodjkphelildeaa", sum := "1e3217087af361e2a51200f46fb88e32dbf5a95ac8102edf38fedbb5e86f80df", func := "loop.example/hypersets/laws.FnPlayedOut", spec := "fnPlayedOut", unfollowed := true, recurses := true, apart := false, narrowed := true }
def FnPlayedOutUptoSaid : Prop := fnPlayedOutUptoRow.holds Try.pinned (OpenSpec.upto fnPlayedOutSpec)

/-- 'laws.FnExactAlikeNames', WHERE WHAT IT READS IS OF BULK AT MOST 1048576: true; the input reads as it did. -/
def fnExactAlikeNamesUptoRow : OpenClaim := { program := "ytodjkphelildeaa", sum := "1e3217087af361e2a51200f46fb88e32dbf5a95ac8102edf38fedbb5e86f80df", func := "loop.example/hypersets/laws.FnExactAlikeNames", spec := "fnExactAlikeNames", unfollowed := true, recurses := true, apart := false, narrowed := true }
def FnExactAlikeNamesUptoSaid : Prop := fnExactAlikeNamesUptoRow.holds Try.pinned (OpenSpec.upto fnExactAlikeNamesSpec)

/-- 'laws.FnExactSameSet', WHERE WHAT IT READS IS OF BULK AT MOST 1048576: true; the input reads as it did. -/
def fnExactSameSetUptoRow : OpenClaim := { program := "ytodjkphelildeaa", sum := "1e3217087af361e2a51200f46fb88e32dbf5a95ac8102edf38fedbb5e86f80df", func := "loop.example/hypersets/laws.FnExactSameSet", spec := "fnExactSameSet", unfollowed := true, recurses := true, apart := false, narrowed := true }
def FnExactSameSetUptoSaid : Prop := fnExactSameSetUptoRow.holds Try.pinned (OpenSpec.upto fnExactSameSetSpec)

/-- 'laws.FnExactHasSet', WHERE WHAT IT READS IS OF BULK AT MOST 1048576: true; the input reads as it did. -/
def fnExactHasSetUptoRow : OpenClaim := { program := "ytodjkphelildeaa", sum := "1e3217087af361e2a51200f46fb88e32dbf5a95ac8102edf38fedbb5e86f80df", func := "loop.example/hypersets/laws.FnExactHasSet", spec := "fnExactHasSet", unfollowed := true, recurses := true, apart := false, narrowed := true }
def FnExactHasSetUptoSaid : Prop := fnExactHasSetUptoRow.holds Try.pinned (OpenSpec.upto fnExactHasSetSpec)

/-- 'laws.FnExactInSet', WHERE WHAT IT READS IS OF BULK AT MOST 1048576: true; the input reads as it did. -/
def fnExactInSetUptoRow : OpenClaim := { program := "ytodjkphelildeaa", sum := "1e3217087af361e2a51200f46fb88e32dbf5a95ac8102edf38fedbb5e86f80df", func := "loop.example/hypersets/laws.FnExactInSet", spec := "fnExactInSet", unfollowed := true, recurses := true, apart := false, narrowed := true }
def FnExactInSetUptoSaid : Prop := fnExactInSetUptoRow.holds Try.pinned (OpenSpec.upto fnExactInSetSpec)

/-- 'laws.FnInSet', WHERE WHAT IT READS IS OF BULK AT MOST 1048576: true; the input reads as it did. -/
def fnInSetUptoRow : OpenClaim := { program := "ytodjkphelildeaa", sum := "1e3217087af361e2a51200f46fb88e32dbf5a95ac8102edf38fedbb5e86f80df", func := "loop.example/hypersets/laws.FnInSet", spec := "fnInSet", unfollowed := true, recurses := true, apart := false, narrowed := true }
def FnInSetUptoSaid : Prop := fnInSetUptoRow.holds Try.pinned (OpenSpec.upto fnInSetSpec)

/-- 'laws.FnNodeOk', WHERE WHAT IT READS IS OF BULK AT MOST 1048576: true; the input reads as it did. -/
def fnNodeOkUptoRow : OpenClaim := { program := "ytodjkphelildeaa", sum := "1e3217087af361e2a51200f46fb88e32dbf5a95ac8102edf38fedbb5e86f80df", func := "loop.example/hypersets/laws.FnNodeOk", spec := "fnNodeOk", recurses := true, apart := false, narrowed := true }
def FnNodeOkUptoSaid : Prop := fnNodeOkUptoRow.holds Try.pinned (OpenSpec.upto fnNodeOkSpec)

end Rows
end Go.Proofs.Ytodjkphelildeaa
