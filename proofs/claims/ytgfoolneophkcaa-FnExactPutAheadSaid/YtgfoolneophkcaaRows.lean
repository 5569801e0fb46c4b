/-
  No cell of these rows narrows 'for every input' (looked for: loops, veiled, ifaces, maps, wideKeys, modest, calm, conditions, laid).
  DERIVED. THE GIVEN ROWS OF THIS SEAT. 12 by the template 'for every input the law returns true; each argument reads behind the call as it read before'; 0 by the template 'total and deterministic' (their statements: YtgfoolneophkcaaTotals.lean).
  GIVEN WITH THE SEED: the statements are not yours to turn. If you find one false, say at which input.
  Laid BY PROGRAM, IN A SANDBOX (cutbox-rows.mjs): the forced cells as the released guide's own fill.sh prints them over the translation e43e92803581a390… (all of the seat's roots in one cut). By AI agents, Wed Nov 11 2026. No macro, syntax, notation, axiom, sorry.
-/
import Derived.Test.YtgfoolneophkcaaChecked
import GoSem.Claim
import GoSem.ClaimJoined
import GoSem.ClaimMapViews
import Derived.JoinedTies
import Derived.KernelRfl
namespace Go.Proofs.Ytgfoolneophkcaa
/- THE CELL 'sum', in the pinned program and in every row, IS THE sha256 OF THE DUMP (.gsa) THAT YtgfoolneophkcaaProg.lean LOADS. Nothing in Lean hashes anything: it is a label: what it is worth is what the hold of that sum in a sandbox is worth. -/
noncomputable def Try.pinned : Pinned := { name := "ytgfoolneophkcaa", sum := "e43e92803581a3902156150ef11837ed0fc44126a7f9282a49029538125cb465", checked := Try.checked }
namespace Rows
def none {H : Type} : Left H := { results := [], args := [] }

/-- 'laws.FnExactSystemOk': WHATEVER THE INPUT: true; the input reads as it did. -/
def fnExactSystemOkSpec : ChangeSpec := { name := "fnExactSystemOk", fn := fun _ => fun
  | [d] => { results := [.lit (.bool true)], args := [d] }
  | _ => none }
def fnExactSystemOkRow : OpenClaim := { program := "ytgfoolneophkcaa", sum := "e43e92803581a3902156150ef11837ed0fc44126a7f9282a49029538125cb465", func := "loop.example/hypersets/laws.FnExactSystemOk", spec := "fnExactSystemOk", apart := false }
def FnExactSystemOkSaid : Prop := fnExactSystemOkRow.holds Try.pinned (OpenSpec.ofChange fnExactSystemOkSpec)

/-- ITS FALSE NEIGHBOUR: 'it returns false'. Refute it at one input. -/
def fnExactSystemOkWrong : ChangeSpec := { name := "fnExactSystemOk", fn := fun _ => fun
  | [d] => { results := [.lit (.bool false)], args := [d] }
  | _ => none }
def FnExactSystemOkWrongFalsely : Prop := fnExactSystemOkRow.holds Try.pinned (OpenSpec.ofChange fnExactSystemOkWrong)

/-- 'laws.FnExactSameStreams': WHATEVER THE INPUT: true; the input reads as it did. -/
def fnExactSameStreamsSpec : ChangeSpec := { name := "fnExactSameStreams", fn := fun _ => fun
  | [d1, d2] => { results := [.lit (.bool true)], args := [d1, d2] }
  | _ => none }
def fnExactSameStreamsRow : OpenClaim := { program := "ytgfoolneophkcaa", sum := "e43e92803581a3902156150ef11837ed0fc44126a7f9282a49029538125cb465", func := "loop.example/hypersets/laws.FnExactSameStreams", spec := "fnExactSameStreams", apart := false }
def FnExactSameStreamsSaid : Prop := fnExactSameStreamsRow.holds Try.pinned (OpenSpec.ofChange fnExactSameStreamsSpec)

/-- ITS FALSE NEIGHBOUR: 'it returns false'. Refute it at one input. -/
def fnExactSameStreamsWrong : ChangeSpec := { name := "fnExactSameStreams", fn := fun _ => fun
  | [d1, d2] => { results := [.lit (.bool false)], args := [d1, d2] }
  | _ => none }
def FnExactSameStreamsWrongFalsely : Prop := fnExactSameStreamsRow.holds Try.pinned (OpenSpec.ofChange fnExactSameStreamsWrong)

/-- 'laws.FnShortOf': WHATEVER THE INPUT: true; the input reads as it did. -/
def fnShortOfSpec : ChangeSpec := { name := "fnShortOf", fn := fun _ => fun
  | [d] => { results := [.lit (.bool true)], args := [d] }
  | _ => none }
def fnShortOfRow : OpenClaim := { program := "ytgfoolneophkcaa", sum := "e43e92803581a3902156150ef11837ed0fc44126a7f9282a49029538125cb465", func := "loop.example/hypersets/laws.FnShortOf", spec := "fnShortOf", apart := false }
def FnShortOfSaid : Prop := fnShortOfRow.holds Try.pinned (OpenSpec.ofChange fnShortOfSpec)

/-- ITS FALSE NEIGHBOUR: 'it returns false'. Refute it at one input. -/
def fnShortOfWrong : ChangeSpec := { name := "fnShortOf", fn := fun _ => fun
  | [d] => { results := [.lit (.bool false)], args := [d] }
  | _ => none }
def FnShortOfWrongFalsely : Prop := fnShortOfRow.holds Try.pinned (OpenSpec.ofChange fnShortOfWrong)

/-- 'laws.FnExactShortOf': WHATEVER THE INPUT: true; the input reads as it did. -/
def fnExactShortOfSpec : ChangeSpec := { name := "fnExactShortOf", fn := fun _ => fun
  | [d] => { results := [.lit (.bool true)], args := [d] }
  | _ => none }
def fnExactShortOfRow : OpenClaim := { program := "ytgfoolneophkcaa", sum := "e43e92803581a3902156150ef11837ed0fc44126a7f9282a49029538125cb465", func := "loop.example/hypersets/laws.FnExactShortOf", spec := "fnExactShortOf", apart := false }
def FnExactShortOfSaid : Prop := fnExactShortOfRow.holds Try.pinned (OpenSpec.ofChange fnExactShortOfSpec)

/-- ITS FALSE NEIGHBOUR: 'it returns false'. Refute it at one input. -/
def fnExactShortOfWrong : ChangeSpec := { name := "fnExactShortOf", fn := fun _ => fun
  | [d] => { results := [.lit (.bool false)], args := [d] }
  | _ => none }
def FnExactShortOfWrongFalsely : Prop := fnExactShortOfRow.holds Try.pinned (OpenSpec.ofChange fnExactShortOfWrong)

/-- 'laws.FnExactPutAhead': WHATEVER THE INPUT: true; the input reads as it did. -/
def fnExactPutAheadSpec : ChangeSpec := { name := "fnExactPutAhead", fn := fun _ => fun
  | [d1, d2] => { results := [.lit (.bool true)], args := [d1, d2] }
  | _ => none }
def fnExactPutAheadRow : OpenClaim := { program := "ytgfoolneophkcaa", sum := "e43e92803581a3902156150ef11837ed0fc44126a7f9282a49029538125cb465", func := "loop.example/hypersets/laws.FnExactPutAhead", spec := "fnExactPutAhead", apart := false }
def FnExactPutAheadSaid : Prop := fnExactPutAheadRow.holds Try.pinned (OpenSpec.ofChange fnExactPutAheadSpec)

/-- ITS FALSE NEIGHBOUR: 'it returns false'. Refute it at one input. -/
def fnExactPutAheadWrong : ChangeSpec := { name := "fnExactPutAhead", fn := fun _ => fun
  | [d1, d2] => { results := [.lit (.bool false)], args := [d1, d2] }
  | _ => none }
def FnExactPutAheadWrongFalsely : Prop := fnExactPutAheadRow.holds Try.pinned (OpenSpec.ofChange fnExactPutAheadWrong)

/-- 'laws.FnExactSystemOf': WHATEVER THE INPUT: true; the input reads as it did. -/
def fnExactSystemOfSpec : ChangeSpec := { name := "fnExactSystemOf", fn := fun _ => fun
  | [d] => { results := [.lit (.bool true)], args := [d] }
  | _ => none }
def fnExactSystemOfRow : OpenClaim := { program := "ytgfoolneophkcaa", sum := "e43e92803581a3902156150ef11837ed0fc44126a7f9282a49029538125cb465", func := "loop.example/hypersets/laws.FnExactSystemOf", spec := "fnExactSystemOf", apart := false }
def FnExactSystemOfSaid : Prop := fnExactSystemOfRow.holds Try.pinned (OpenSpec.ofChange fnExactSystemOfSpec)

/-- ITS FALSE NEIGHBOUR: 'it returns false'. Refute it at one input. -/
def fnExactSystemOfWrong : ChangeSpec := { name := "fnExactSystemOf", fn := fun _ => fun
  | [d] => { results := [.lit (.bool false)], args := [d] }
  | _ => none }
def FnExactSystemOfWrongFalsely : Prop := fnExactSystemOfRow.holds Try.pinned (OpenSpec.ofChange fnExactSystemOfWrong)

/-- 'laws.FnExactReordered': WHATEVER THE INPUT: true; the input reads as it did. -/
def fnExactReorderedSpec : ChangeSpec := { name := "fnExactReordered", fn := fun _ => fun
  | [d1, d2] => { results := [.lit (.bool true)], args := [d1, d2] }
  | _ => none }
def fnExactReorderedRow : OpenClaim := { program := "ytgfoolneophkcaa", sum := "e43e92803581a3902156150ef11837ed0fc44126a7f9282a49029538125cb465", func := "loop.example/hypersets/laws.FnExactReordered", spec := "fnExactReordered", apart := false }
def FnExactReorderedSaid : Prop := fnExactReorderedRow.holds Try.pinned (OpenSpec.ofChange fnExactReorderedSpec)

/-- ITS FALSE NEIGHBOUR: 'it returns false'. Refute it at one input. -/
def fnExactReorderedWrong : ChangeSpec := { name := "fnExactReordered", fn := fun _ => fun
  | [d1, d2] => { results := [.lit (.bool false)], args := [d1, d2] }
  | _ => none }
def FnExactReorderedWrongFalsely : Prop := fnExactReorderedRow.holds Try.pinned (OpenSpec.ofChange fnExactReorderedWrong)

/-- 'laws.FnExactSolvedBy': WHATEVER THE INPUT: true; the input reads as it did. -/
def fnExactSolvedBySpec : ChangeSpec := { name := "fnExactSolvedBy", fn := fun _ => fun
  | [d] => { results := [.lit (.bool true)], args := [d] }
  | _ => none }
def fnExactSolvedByRow : OpenClaim := { program := "ytgfoolneophkcaa", sum := "e43e92803581a3902156150ef11837ed0fc44126a7f9282a49029538125cb465", func := "loop.example/hypersets/laws.FnExactSolvedBy", spec := "fnExactSolvedBy", apart := false }
def FnExactSolvedBySaid : Prop := fnExactSolvedByRow.holds Try.pinned (OpenSpec.ofChange fnExactSolvedBySpec)

/-- ITS FALSE NEIGHBOUR: 'it returns false'. Refute it at one input. -/
def fnExactSolvedByWrong : ChangeSpec := { name := "fnExactSolvedBy", fn := fun _ => fun
  | [d] => { results := [.lit (.bool false)], args := [d] }
  | _ => none }
def FnExactSolvedByWrongFalsely : Prop := fnExactSolvedByRow.holds Try.pinned (OpenSpec.ofChange fnExactSolvedByWrong)

/-- 'laws.FnExactHeldFor': WHATEVER THE INPUT: true; the input reads as it did. -/
def fnExactHeldForSpec : ChangeSpec := { name := "fnExactHeldFor", fn := fun _ => fun
  | [d1, d2, d3] => { results := [.lit (.bool true)], args := [d1, d2, d3] }
  | _ => none }
def fnExactHeldForRow : OpenClaim := { program := "ytgfoolneophkcaa", sum := "e43e92803581a3902156150ef11837ed0fc44126a7f9282a49029538125cb465", func := "loop.example/hypersets/laws.FnExactHeldFor", spec := "fnExactHeldFor", unfollowed := true, recurses := true, apart := false }
def FnExactHeldForSaid : Prop := fnExactHeldForRow.holds Try.pinned (OpenSpec.ofChange fnExactHeldForSpec)

/-- ITS FALSE NEIGHBOUR: 'it returns false'. Refute it at one input. -/
def fnExactHeldForWrong : ChangeSpec := { name := "fnExactHeldFor", fn := fun _ => fun
  | [d1, d2, d3] => { results := [.lit (.bool false)], args := [d1, d2, d3] }
  | _ => none }
def FnExactHeldForWrongFalsely : Prop := fnExactHeldForRow.holds Try.pinned (OpenSpec.ofChange fnExactHeldForWrong)

/-- 'laws.FnHeldFor': WHATEVER THE INPUT: true; the input reads as it did. -/
def fnHeldForSpec : ChangeSpec := { name := "fnHeldFor", fn := fun _ => fun
  | [d] => { results := [.lit (.bool true)], args := [d] }
  | _ => none }
def fnHeldForRow : OpenClaim := { program := "ytgfoolneophkcaa", sum := "e43e92803581a3902156150ef11837ed0fc44126a7f9282a49029538125cb465", func := "loop.example/hypersets/laws.FnHeldFor", spec := "fnHeldFor", unfollowed := true, recurses := true, apart := false }
def FnHeldForSaid : Prop := fnHeldForRow.holds Try.pinned (OpenSpec.ofChange fnHeldForSpec)

/-- ITS FALSE NEIGHBOUR: 'it returns false'. Refute it at one input. -/
def fnHeldForWrong : ChangeSpec := { name := "fnHeldFor", fn := fun _ => fun
  | [d] => { results := [.lit (.bool false)], args := [d] }
  | _ => none }
def FnHeldForWrongFalsely : Prop := fnHeldForRow.holds Try.pinned (OpenSpec.ofChange fnHeldForWrong)

/-- 'laws.FnExactManyIn': WHATEVER THE INPUT: true; the input reads as it did. -/
def fnExactManyInSpec : ChangeSpec := { name := "fnExactManyIn", fn := fun _ => fun
  | [d1, d2] => { results := [.lit (.bool true)], args := [d1, d2] }
  | _ => none }
def fnExactManyInRow : OpenClaim := { program := "ytgfoolneophkcaa", sum := "e43e92803581a3902156150ef11837ed0fc44126a7f9282a49029538125cb465", func := "loop.example/hypersets/laws.FnExactManyIn", spec := "fnExactManyIn", unfollowed := true, recurses := true, apart := false }
def FnExactManyInSaid : Prop := fnExactManyInRow.holds Try.pinned (OpenSpec.ofChange fnExactManyInSpec)

/-- ITS FALSE NEIGHBOUR: 'it returns false'. Refute it at one input. -/
def fnExactManyInWrong : ChangeSpec := { name := "fnExactManyIn", fn := fun _ => fun
  | [d1, d2] => { results := [.lit (.bool false)], args := [d1, d2] }
  | _ => none }
def FnExactManyInWrongFalsely : Prop := fnExactManyInRow.holds Try.pinned (OpenSpec.ofChange fnExactManyInWrong)

/-- 'laws.FnReordered': WHATEVER THE INPUT: true; the input reads as it did. -/
def fnReorderedSpec : ChangeSpec := { name := "fnReordered", fn := fun _ => fun
  | [d] => { results := [.lit (.bool true)], args := [d] }
  | _ => none }
def fnReorderedRow : OpenClaim := { program := "ytgfoolneophkcaa", sum := "e43e92803581a3902156150ef11837ed0fc44126a7f9282a49029538125cb465", func := "loop.example/hypersets/laws.FnReordered", spec := "fnReordered", unfollowed := true, recurses := true, apart := false }
def FnReorderedSaid : Prop := fnReorderedRow.holds Try.pinned (OpenSpec.ofChange fnReorderedSpec)

/-- ITS FALSE NEIGHBOUR: 'it returns false'. Refute it at one input. -/
def fnReorderedWrong : ChangeSpec := { name := "fnReordered", fn := fun _ => fun
  | [d] => { results := [.lit (.bool false)], args := [d] }
  | _ => none }
def FnReorderedWrongFalsely : Prop := fnReorderedRow.holds Try.pinned (OpenSpec.ofChange fnReorderedWrong)

/- THE SECOND FORM. 'bulk': how many values and letters a reading holds, each counted each time it is reached (what is shared counts as often as it is met; a slice's spare places count too). A statement '..UptoSaid' is the law's where the arguments, and the package variables that the reading takes, are together of bulk at most 1048576: NARROWER than '..Said'. Prove '..Said' where nothing that the law and all that it calls make is longer than what came in: it says more and counts as full. Else prove '..UptoSaid'. A law counts once. -/
mutual
def uptoBulk {H : Type} : DataW H → Nat
  | .lit (.string bytes) => bytes.length + 1
  | .lit _ => 1
  | .nil => 1
  | .ptr d => uptoBulk d + 1
  | .slice elems spare => uptoBulkAll elems + uptoBulkAll spare + 1
  | .agg parts => uptoBulkAll parts + 1
  | .iface _ d => uptoBulk d + 1
  | .map entries => uptoBulkEntries entries + 1
  | .held _ => 1
def uptoBulkAll {H : Type} : List (DataW H) → Nat
  | [] => 0
  | d :: r => uptoBulk d + uptoBulkAll r
def uptoBulkEntries {H : Type} : List (Lit × DataW H) → Nat
  | [] => 0
  | x :: r => uptoBulkEntry x + uptoBulkEntries r
def uptoBulkEntry {H : Type} : Lit × DataW H → Nat
  | (.string bytes, d) => bytes.length + uptoBulk d + 1
  | (_, d) => uptoBulk d + 1
 end
def uptoSmall : (H : Type) → List (DataW H) → Bool := fun _ ds => decide (uptoBulkAll ds ≤ 1048576)
def OpenSpec.upto (s : _root_.Go.ChangeSpec) : _root_.Go.OpenSpec := { _root_.Go.OpenSpec.ofChange s with cond := some uptoSmall }

/-- 'laws.FnExactSystemOk', WHERE WHAT IT READS IS OF BULK AT MOST 1048576: true; the input reads as it did. -/
def fnExactSystemOkUptoRow : OpenClaim := { program := "ytgfoolneophkcaa", sum := "e43e92803581a3902156150ef11837ed0fc44126a7f9282a49029538125cb465", func := "loop.example/hypersets/laws.FnExactSystemOk", spec := "fnExactSystemOk", apart := false, narrowed := true }
def FnExactSystemOkUptoSaid : Prop := fnExactSystemOkUptoRow.holds Try.pinned (OpenSpec.upto fnExactSystemOkSpec)

/-- 'laws.FnExactSameStreams', WHERE WHAT IT READS IS OF BULK AT MOST 1048576: true; the input reads as it did. -/
def fnExactSameStreamsUptoRow : OpenClaim := { program := "ytgfoolneophkcaa", sum := "e43e92803581a3902156150ef11837ed0fc44126a7f9282a49029538125cb465", func := "loop.example/hypersets/laws.FnExactSameStreams", spec := "fnExactSameStreams", apart := false, narrowed := true }
def FnExactSameStreamsUptoSaid : Prop := fnExactSameStreamsUptoRow.holds Try.pinned (OpenSpec.upto fnExactSameStreamsSpec)

/-- 'laws.FnShortOf', WHERE WHAT IT READS IS OF BULK AT MOST 1048576: true; the input reads as it did. -/
def fnShortOfUptoRow : OpenClaim := { program := "ytgfoolneophkcaa", sum := "e43e92803581a3902156150ef11837ed0fc44126a7f9282a49029538125cb465", func := "loop.example/hypersets/laws.FnShortOf", spec := "fnShortOf", apart := false, narrowed := true }
def FnShortOfUptoSaid : Prop := fnShortOfUptoRow.holds Try.pinned (OpenSpec.upto fnShortOfSpec)

/-- 'laws.FnExactShortOf', WHERE WHAT IT READS IS OF BULK AT MOST 1048576: true; the input reads as it did. -/
def fnExactShortOfUptoRow : OpenClaim := { program := "ytgfoolneophkcaa", sum := "e43e92803581a3902156150ef11837ed0fc44126a7f9282a49029538125cb465", func := "loop.example/hypersets/laws.FnExactShortOf", spec := "fnExactShortOf", apart := false, narrowed := true }
def FnExactShortOfUptoSaid : Prop := fnExactShortOfUptoRow.holds Try.pinned (OpenSpec.upto fnExactShortOfSpec)

/-- 'laws.FnExactPutAhead', WHERE WHAT IT READS IS OF BULK AT MOST 1048576: true; the input reads as it did. -/
def fnExactPutAheadUptoRow : OpenClaim := { program := "ytgfoolneophkcaa", sum := "e43e92803581a3902156150ef11837ed0fc44126a7f9282a49029538125cb465", func := "loop.example/hypersets/laws.FnExactPutAhead", spec := "fnExactPutAhead", apart := false, narrowed := true }
def FnExactPutAheadUptoSaid : Prop := fnExactPutAheadUptoRow.holds Try.pinned (OpenSpec.upto fnExactPutAheadSpec)

/-- 'laws.FnExactSystemOf', WHERE WHAT IT READS IS OF BULK AT MOST 1048576: true; the input reads as it did. -/
def fnExactSystemOfUptoRow : OpenClaim := { program := "ytgfoolneophkcaa", sum := "e43e92803581a3902156150ef11837ed0fc44126a7f9282a49029538125cb465", func := "loop.example/hypersets/laws.FnExactSystemOf", spec := "fnExactSystemOf", apart := false, narrowed := true }
def FnExactSystemOfUptoSaid : Prop := fnExactSystemOfUptoRow.holds Try.pinned (OpenSpec.upto fnExactSystemOfSpec)

/-- 'laws.FnExactReordered', WHERE WHAT IT READS IS OF BULK AT MOST 1048576: true; the input reads as it did. -/
def fnExactReorderedUptoRow : OpenClaim := { program := "ytgfoolneophkcaa", sum := "e43e92803581a3902156150ef11837ed0fc44126a7f9282a49029538125cb465", func := "loop.example/hypersets/laws.FnExactReordered", spec := "fnExactReordered", apart := false, narrowed := true }
def FnExactReorderedUptoSaid : Prop := fnExactReorderedUptoRow.holds Try.pinned (OpenSpec.upto fnExactReorderedSpec)

/-- 'laws.FnExactSolvedBy', WHERE WHAT IT READS IS OF BULK AT MOST 1048576: true; the input reads as it did. -/
def fnExactSolvedByUptoRow : OpenClaim := { program := "ytgfoolneophkcaa", sum := "e43e92803581a3902156150ef11837ed0fc44126a7f9282a49029538125cb465", func := "loop.example/hypersets/laws.FnExactSolvedBy", spec := "fnExactSolvedBy", apart := false, narrowed := true }
def FnExactSolvedByUptoSaid : Prop := fnExactSolvedByUptoRow.holds Try.pinned (OpenSpec.upto fnExactSolvedBySpec)

/-- 'laws.FnExactHeldFor', WHERE WHAT IT READS IS OF BULK AT MOST 1048576: true; the input reads as it did. -/
def fnExactHeldForUptoRow : OpenClaim := { program := "ytgfoolneophkcaa", sum := "e43e92803581a3902156150ef11837ed0fc44126a7f9282a49029538125cb465", func := "loop.example/hypersets/laws.FnExactHeldFor", spec := "fnExactHeldFor", unfollowed := true, recurses := true, apart := false, narrowed := true }
def FnExactHeldForUptoSaid : Prop := fnExactHeldForUptoRow.holds Try.pinned (OpenSpec.upto fnExactHeldForSpec)

/-- 'laws.FnHeldFor', WHERE WHAT IT READS IS OF BULK AT MOST 1048576: true; the input reads as it did. -/
def fnHeldForUptoRow : OpenClaim := { program := "ytgfoolneophkcaa", sum := "e43e92803581a3902156150ef11837ed0fc44126a7f9282a49029538125cb465", func := "loop.example/hypersets/laws.FnHeldFor", spec := "fnHeldFor", unfollowed := true, recurses := true, apart := false, narrowed := true }
def FnHeldForUptoSaid : Prop := fnHeldForUptoRow.holds Try.pinned (OpenSpec.upto fnHeldForSpec)

/-- 'laws.FnExactManyIn', WHERE WHAT IT READS IS OF BULK AT MOST 1048576: true; the input reads as it did. -/
def fnExactManyInUptoRow : OpenClaim := { program := "ytgfoolneophkcaa", sum := "e43e92803581a3902156150ef11837ed0fc44126a7f9282a49029538125cb465", func := "loop.example/hypersets/laws.FnExactManyIn", spec := "fnExactManyIn", unfollowed := true, recurses := true, apart := false, narrowed := true }
def FnExactManyInUptoSaid : Prop := fnExactManyInUptoRow.holds Try.pinned (OpenSpec.upto fnExactManyInSpec)

/-- 'laws.FnReordered', WHERE WHAT IT READS IS OF BULK AT MOST 1048576: true; the input reads as it did. -/
def fnReorderedUptoRow : OpenClaim := { program := "ytgfoolneophkcaa", sum := "e43e92803581a3902156150ef11837ed0fc44126a7f9282a49029538125cb465", func := "loop.example/hypersets/laws.FnReordered", spec := "fnReordered", unfollowed := true, recurses := true, apart := false, narrowed := true }
def FnReorderedUptoSaid : Prop := fnReorderedUptoRow.holds Try.pinned (OpenSpec.upto fnReorderedSpec)

end Rows
end Go.Proofs.Ytgfoolneophkcaa
