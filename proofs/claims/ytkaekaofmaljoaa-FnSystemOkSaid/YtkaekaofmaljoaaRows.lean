/-
  No cell of these rows narrows 'for every input' (looked for: loops, veiled, ifaces, maps, wideKeys, modest, calm, conditions, laid).
  DERIVED. THE GIVEN ROWS OF THIS SEAT. 6 by the template 'for every input the law returns true; each argument reads behind the call as it read before'; 0 by the template 'total and deterministic' (their statements: YtkaekaofmaljoaaTotals.lean).
  GIVEN WITH THE SEED: the statements are not yours to turn. If you find one false, say at which input.
  Laid BY PROGRAM, IN A SANDBOX (cutbox-rows.mjs): the forced cells as the released guide's own fill.sh prints them over the translation 2441fb39d69d95fb… (all of the seat's roots in one cut). By AI agents, Wed Nov 11 2026. No macro, syntax, notation, axiom, sorry.
-/
import Derived.Test.YtkaekaofmaljoaaChecked
import GoSem.Claim
import GoSem.ClaimJoined
import GoSem.ClaimMapViews
import Derived.JoinedTies
import Derived.KernelRfl
namespace Go.Proofs.Ytkaekaofmaljoaa
/- THE CELL 'sum', in the pinned program and in every row, IS THE sha256 OF THE DUMP (.gsa) THAT YtkaekaofmaljoaaProg.lean LOADS. Nothing in Lean hashes anything: it is a label: what it is worth is what the hold of that sum in a sandbox is worth. -/
noncomputable def Try.pinned : Pinned := { name := "ytkaekaofmaljoaa", sum := "2441fb39d69d95fb423a9cbed0c80fe4a01cd6c09b4a2090656e6e1708a0eba0", checked := Try.checked }
namespace Rows
def none {H : Type} : Left H := { results := [], args := [] }

/-- 'laws.FnExactStreamOk': WHATEVER THE INPUT: true; the input reads as it did. -/
def fnExactStreamOkSpec : ChangeSpec := { name := "fnExactStreamOk", fn := fun _ => fun
  | [d] => { results := [.lit (.bool true)], args := [d] }
  | _ => none }
def fnExactStreamOkRow : OpenClaim := { program := "ytkaekaofmaljoaa", sum := "2441fb39d69d95fb423a9cbed0c80fe4a01cd6c09b4a2090656e6e1708a0eba0", func := "loop.example/hypersets/laws.FnExactStreamOk", spec := "fnExactStreamOk", apart := false }
def FnExactStreamOkSaid : Prop := fnExactStreamOkRow.holds Try.pinned (OpenSpec.ofChange fnExactStreamOkSpec)

/-- ITS FALSE NEIGHBOUR: 'it returns false'. Refute it at one input. -/
def fnExactStreamOkWrong : ChangeSpec := { name := "fnExactStreamOk", fn := fun _ => fun
  | [d] => { results := [.lit (.bool false)], args := [d] }
  | _ => none }
def FnExactStreamOkWrongFalsely : Prop := fnExactStreamOkRow.holds Try.pinned (OpenSpec.ofChange fnExactStreamOkWrong)

/-- 'laws.FnStreamOk': WHATEVER THE INPUT: true; the input reads as it did. -/
def fnStreamOkSpec : ChangeSpec := { name := "fnStreamOk", fn := fun _ => fun
  | [d] => { results := [.lit (.bool true)], args := [d] }
  | _ => none }
def fnStreamOkRow : OpenClaim := { program := "ytkaekaofmaljoaa", sum := "2441fb39d69d95fb423a9cbed0c80fe4a01cd6c09b4a2090656e6e1708a0eba0", func := "loop.example/hypersets/laws.FnStreamOk", spec := "fnStreamOk", apart := false }
def FnStreamOkSaid : Prop := fnStreamOkRow.holds Try.pinned (OpenSpec.ofChange fnStreamOkSpec)

/-- ITS FALSE NEIGHBOUR: 'it returns false'. Refute it at one input. -/
def fnStreamOkWrong : ChangeSpec := { name := "fnStreamOk", fn := fun _ => fun
  | [d] => { results := [.lit (.bool false)], args := [d] }
  | _ => none }
def FnStreamOkWrongFalsely : Prop := fnStreamOkRow.holds Try.pinned (OpenSpec.ofChange fnStreamOkWrong)

/-- 'laws.FnSystemOk': WHATEVER THE INPUT: true; the input reads as it did. -/
def fnSystemOkSpec : ChangeSpec := { name := "fnSystemOk", fn := fun _ => fun
  | [d] => { results := [.lit (.bool true)], args := [d] }
  | _ => none }
def fnSystemOkRow : OpenClaim := { program := "ytkaekaofmaljoaa", sum := "2441fb39d69d95fb423a9cbed0c80fe4a01cd6c09b4a2090656e6e1708a0eba0", func := "loop.example/hypersets/laws.FnSystemOk", spec := "fnSystemOk", apart := false }
def FnSystemOkSaid : Prop := fnSystemOkRow.holds Try.pinned (OpenSpec.ofChange fnSystemOkSpec)

/-- ITS FALSE NEIGHBOUR: 'it returns false'. Refute it at one input. -/
def fnSystemOkWrong : ChangeSpec := { name := "fnSystemOk", fn := fun _ => fun
  | [d] => { results := [.lit (.bool false)], args := [d] }
  | _ => none }
def FnSystemOkWrongFalsely : Prop := fnSystemOkRow.holds Try.pinned (OpenSpec.ofChange fnSystemOkWrong)

/-- 'laws.FnExactNodeOk': WHATEVER THE INPUT: true; the input reads as it did. -/
def fnExactNodeOkSpec : ChangeSpec := { name := "fnExactNodeOk", fn := fun _ => fun
  | [d1, d2] => { results := [.lit (.bool true)], args := [d1, d2] }
  | _ => none }
def fnExactNodeOkRow : OpenClaim := { program := "ytkaekaofmaljoaa", sum := "2441fb39d69d95fb423a9cbed0c80fe4a01cd6c09b4a2090656e6e1708a0eba0", func := "loop.example/hypersets/laws.FnExactNodeOk", spec := "fnExactNodeOk", apart := false }
def FnExactNodeOkSaid : Prop := fnExactNodeOkRow.holds Try.pinned (OpenSpec.ofChange fnExactNodeOkSpec)

/-- ITS FALSE NEIGHBOUR: 'it returns false'. Refute it at one input. -/
def fnExactNodeOkWrong : ChangeSpec := { name := "fnExactNodeOk", fn := fun _ => fun
  | [d1, d2] => { results := [.lit (.bool false)], args := [d1, d2] }
  | _ => none }
def FnExactNodeOkWrongFalsely : Prop := fnExactNodeOkRow.holds Try.pinned (OpenSpec.ofChange fnExactNodeOkWrong)

/-- 'laws.FnExactBitAt': WHATEVER THE INPUT: true; the input reads as it did. -/
def fnExactBitAtSpec : ChangeSpec := { name := "fnExactBitAt", fn := fun _ => fun
  | [d1, d2] => { results := [.lit (.bool true)], args := [d1, d2] }
  | _ => none }
def fnExactBitAtRow : OpenClaim := { program := "ytkaekaofmaljoaa", sum := "2441fb39d69d95fb423a9cbed0c80fe4a01cd6c09b4a2090656e6e1708a0eba0", func := "loop.example/hypersets/laws.FnExactBitAt", spec := "fnExactBitAt", apart := false }
def FnExactBitAtSaid : Prop := fnExactBitAtRow.holds Try.pinned (OpenSpec.ofChange fnExactBitAtSpec)

/-- ITS FALSE NEIGHBOUR: 'it returns false'. Refute it at one input. -/
def fnExactBitAtWrong : ChangeSpec := { name := "fnExactBitAt", fn := fun _ => fun
  | [d1, d2] => { results := [.lit (.bool false)], args := [d1, d2] }
  | _ => none }
def FnExactBitAtWrongFalsely : Prop := fnExactBitAtRow.holds Try.pinned (OpenSpec.ofChange fnExactBitAtWrong)

/-- 'laws.FnBitAt': WHATEVER THE INPUT: true; the input reads as it did. -/
def fnBitAtSpec : ChangeSpec := { name := "fnBitAt", fn := fun _ => fun
  | [d] => { results := [.lit (.bool true)], args := [d] }
  | _ => none }
def fnBitAtRow : OpenClaim := { program := "ytkaekaofmaljoaa", sum := "2441fb39d69d95fb423a9cbed0c80fe4a01cd6c09b4a2090656e6e1708a0eba0", func := "loop.example/hypersets/laws.FnBitAt", spec := "fnBitAt", apart := false }
def FnBitAtSaid : Prop := fnBitAtRow.holds Try.pinned (OpenSpec.ofChange fnBitAtSpec)

/-- ITS FALSE NEIGHBOUR: 'it returns false'. Refute it at one input. -/
def fnBitAtWrong : ChangeSpec := { name := "fnBitAt", fn := fun _ => fun
  | [d] => { results := [.lit (.bool false)], args := [d] }
  | _ => none }
def FnBitAtWrongFalsely : Prop := fnBitAtRow.holds Try.pinned (OpenSpec.ofChange fnBitAtWrong)

/- THE SECOND FORM. 'bulk': how many values and letters a reading holds, each counted each time it is reached (what is shared counts as often as it is met; a slice's spare places count too). A statement '..UptoSaid' is the law's where the arguments, and the package variables that the reading takes, are together of bulk at most 1048576: NARROWER than '..Said'. Prove '..Said' where nothing that the law and all that it calls make is longer than what came in: it says more and counts as full. Else prove '..UptoSaid'. A law counts once. -/
mutual
def uptoBulk {H : Type} : DataW H → Nat
  | .lit (.string bytes) => bytes.length + 1
  | .lit _ => 1
  | .nil => 1
  | .ptr d => uptoBulk d + 1
  | .slice elems spare => uptoBulkAll elems + uptoBulkAll spare + 1
  | .agg parts => uptoBulkAll parts + 1
  | .iface _ d => uptoBulk d + 1
  | .map entries => uptoBulkEntries entries + 1
  | .held _ => 1
def uptoBulkAll {H : Type} : List (DataW H) → Nat
  | [] => 0
  | d :: r => uptoBulk d + uptoBulkAll r
def uptoBulkEntries {H : Type} : List (Lit × DataW H) → Nat
  | [] => 0
  | x :: r => uptoBulkEntry x + uptoBulkEntries r
def uptoBulkEntry {H : Type} : Lit × DataW H → Nat
  | (.string bytes, d) => bytes.length + uptoBulk d + 1
  | (_, d) => uptoBulk d + 1
 end
def uptoSmall : (H : Type) → List (DataW H) → Bool := fun _ ds => decide (uptoBulkAll ds ≤ 1048576)
def OpenSpec.upto (s : _root_.Go.ChangeSpec) : _root_.Go.OpenSpec := { _root_.Go.OpenSpec.ofChange s with cond := some uptoSmall }

/-- 'laws.FnExactStreamOk', WHERE WHAT IT READS IS OF BULK AT MOST 1048576: true; the input reads as it did. -/
def fnExactStreamOkUptoRow : OpenClaim := { program := "ytkaekaofmaljoaa", sum := "2441fb39d69d95fb423a9cbed0c80fe4a01cd6c09b4a2090656e6e1708a0eba0", func := "loop.example/hypersets/laws.FnExactStreamOk", spec := "fnExactStreamOk", apart := false, narrowed := true }
def FnExactStreamOkUptoSaid : Prop := fnExactStreamOkUptoRow.holds Try.pinned (OpenSpec.upto fnExactStreamOkSpec)

/-- 'laws.FnStreamOk', WHERE WHAT IT READS IS OF BULK AT MOST 1048576: true; the input reads as it did. -/
def fnStreamOkUptoRow : OpenClaim := { program := "ytkaekaofmaljoaa", sum := "2441fb39d69d95fb423a9cbed0c80fe4a01cd6c09b4a2090656e6e1708a0eba0", func := "loop.example/hypersets/laws.FnStreamOk", spec := "fnStreamOk", apart := false, narrowed := true }
def FnStreamOkUptoSaid : Prop := fnStreamOkUptoRow.holds Try.pinned (OpenSpec.upto fnStreamOkSpec)

/-- 'laws.FnSystemOk', WHERE WHAT IT READS IS OF BULK AT MOST 1048576: true; the input reads as it did. -/
def fnSystemOkUptoRow : OpenClaim := { program := "ytkaekaofmaljoaa", sum := "2441fb39d69d95fb423a9cbed0c80fe4a01cd6c09b4a2090656e6e1708a0eba0", func := "loop.example/hypersets/laws.FnSystemOk", spec := "fnSystemOk", apart := false, narrowed := true }
def FnSystemOkUptoSaid : Prop := fnSystemOkUptoRow.holds Try.pinned (OpenSpec.upto fnSystemOkSpec)

/-- 'laws.FnExactNodeOk', WHERE WHAT IT READS IS OF BULK AT MOST 1048576: true; the input reads as it did. -/
def fnExactNodeOkUptoRow : OpenClaim := { program := "ytkaekaofmaljoaa", sum := "2441fb39d69d95fb423a9cbed0c80fe4a01cd6c09b4a2090656e6e1708a0eba0", func := "loop.example/hypersets/laws.FnExactNodeOk", spec := "fnExactNodeOk", apart := false, narrowed := true }
def FnExactNodeOkUptoSaid : Prop := fnExactNodeOkUptoRow.holds Try.pinned (OpenSpec.upto fnExactNodeOkSpec)

/-- 'laws.FnExactBitAt', WHERE WHAT IT READS IS OF BULK AT MOST 1048576: true; the input reads as it did. -/
def fnExactBitAtUptoRow : OpenClaim := { program := "ytkaekaofmaljoaa", sum := "2441fb39d69d95fb423a9cbed0c80fe4a01cd6c09b4a2090656e6e1708a0eba0", func := "loop.example/hypersets/laws.FnExactBitAt", spec := "fnExactBitAt", apart := false, narrowed := true }
def FnExactBitAtUptoSaid : Prop := fnExactBitAtUptoRow.holds Try.pinned (OpenSpec.upto fnExactBitAtSpec)

/-- 'laws.FnBitAt', WHERE WHAT IT READS IS OF BULK AT MOST 1048576: true; the input reads as it did. -/
def fnBitAtUptoRow : OpenClaim := { program := "ytkaekaofmaljoaa", sum := "2441fb39d69d95fb423a9cbed0c80fe4a01cd6c09b4a2090656e6e1708a0eba0", func := "loop.example/hypersets/laws.FnBitAt", spec := "fnBitAt", apart := false, narrowed := true }
def FnBitAtUptoSaid : Prop := fnBitAtUptoRow.holds Try.pinned (OpenSpec.upto fnBitAtSpec)

end Rows
end Go.Proofs.Ytkaekaofmaljoaa
