/-
  No cell of these rows narrows 'for every input' (looked for: loops, veiled, ifaces, maps, wideKeys, modest, calm, conditions, laid).
  DERIVED. THE GIVEN ROWS OF THIS SEAT. 3 by the template 'for every input the law returns true; each argument reads behind the call as it read before'; 0 by the template 'total and deterministic' (their statements: YtiiohodkfipfbaaTotals.lean).
  GIVEN WITH THE SEED: the statements are not yours to turn. If you find one false, say at which input.
  Laid BY PROGRAM, IN A SANDBOX (cutbox-rows.mjs): the forced cells as the released guide's own fill.sh prints them over the translation b7938544bc60c781… (all of the seat's roots in one cut). By AI agents, Wed Nov 11 2026. No macro, syntax, notation, axiom, sorry.
-/
import Derived.Test.YtiiohodkfipfbaaChecked
import GoSem.Claim
import GoSem.ClaimJoined
import GoSem.ClaimMapViews
import Derived.JoinedTies
import Derived.KernelRfl
namespace Go.Proofs.Ytiiohodkfipfbaa
/- THE CELL 'sum', in the pinned program and in every row, IS THE sha256 OF THE DUMP (.gsa) THAT YtiiohodkfipfbaaProg.lean LOADS. Nothing in Lean hashes anything: it is a label: what it is worth is what the hold of that sum in a sandbox is worth. -/
noncomputable def Try.pinned : Pinned := { name := "ytiiohodkfipfbaa", sum := "b7938544bc60c78161207ef6df8e97d295afbb7ecb2b7d363f29ce8b4315dfa3", checked := Try.checked }
namespace Rows
def none {H : Type} : Left H := { results := [], args := [] }

/-- 'laws.FnExactJoinedOf': WHATEVER THE INPUT: true; the input reads as it did. -/
def fnExactJoinedOfSpec : ChangeSpec := { name := "fnExactJoinedOf", fn := fun _ => fun
  | [d1, d2] => { results := [.lit (.bool true)], args := [d1, d2] }
  | _ => none }
def fnExactJoinedOfRow : OpenClaim := { program := "ytiiohodkfipfbaa", sum := "b7938544bc60c78161207ef6df8e97d295afbb7ecb2b7d363f29ce8b4315dfa3", func := "loop.example/hypersets/laws.FnExactJoinedOf", spec := "fnExactJoinedOf", unfollowed := true, recurses := true, apart := false }
def FnExactJoinedOfSaid : Prop := fnExactJoinedOfRow.holds Try.pinned (OpenSpec.ofChange fnExactJoinedOfSpec)

/-- ITS FALSE NEIGHBOUR: 'it returns false'. Refute it at one input. -/
def fnExactJoinedOfWrong : ChangeSpec := { name := "fnExactJoinedOf", fn := fun _ => fun
  | [d1, d2] => { results := [.lit (.bool false)], args := [d1, d2] }
  | _ => none }
def FnExactJoinedOfWrongFalsely : Prop := fnExactJoinedOfRow.holds Try.pinned (OpenSpec.ofChange fnExactJoinedOfWrong)

/-- 'laws.FnJoinedOf': WHATEVER THE INPUT: true; the input reads as it did. -/
def fnJoinedOfSpec : ChangeSpec := { name := "fnJoinedOf", fn := fun _ => fun
  | [d] => { results := [.lit (.bool true)], args := [d] }
  | _ => none }
def fnJoinedOfRow : OpenClaim := { program := "ytiiohodkfipfbaa", sum := "b7938544bc60c78161207ef6df8e97d295afbb7ecb2b7d363f29ce8b4315dfa3", func := "loop.example/hypersets/laws.FnJoinedOf", spec := "fnJoinedOf", unfollowed := true, recurses := true, apart := false }
def FnJoinedOfSaid : Prop := fnJoinedOfRow.holds Try.pinned (OpenSpec.ofChange fnJoinedOfSpec)

/-- ITS FALSE NEIGHBOUR: 'it returns false'. Refute it at one input. -/
def fnJoinedOfWrong : ChangeSpec := { name := "fnJoinedOf", fn := fun _ => fun
  | [d] => { results := [.lit (.bool false)], args := [d] }
  | _ => none }
def FnJoinedOfWrongFalsely : Prop := fnJoinedOfRow.holds Try.pinned (OpenSpec.ofChange fnJoinedOfWrong)

/-- 'laws.FnSameSet': WHATEVER THE INPUT: true; the input reads as it did. -/
def fnSameSetSpec : ChangeSpec := { name := "fnSameSet", fn := fun _ => fun
  | [d] => { results := [.lit (.bool true)], args := [d] }
  | _ => none }
def fnSameSetRow : OpenClaim := { program := "ytiiohodkfipfbaa", sum := "b7938544bc60c78161207ef6df8e97d295afbb7ecb2b7d363f29ce8b4315dfa3", func := "loop.example/hypersets/laws.FnSameSet", spec := "fnSameSet", unfollowed := true, recurses := true, apart := false }
def FnSameSetSaid : Prop := fnSameSetRow.holds Try.pinned (OpenSpec.ofChange fnSameSetSpec)

/-- ITS FALSE NEIGHBOUR: 'it returns false'. Refute it at one input. -/
def fnSameSetWrong : ChangeSpec := { name := "fnSameSet", fn := fun _ => fun
  | [d] => { results := [.lit (.bool false)], args := [d] }
  | _ => none }
def FnSameSetWrongFalsely : Prop := fnSameSetRow.holds Try.pinned (OpenSpec.ofChange fnSameSetWrong)

/- THE SECOND FORM. 'bulk': how many values and letters a reading holds, each counted each time it is reached (what is shared counts as often as it is met; a slice's spare places count too). A statement '..UptoSaid' is the law's where the arguments, and the package variables that the reading takes, are together of bulk at most 1048576: NARROWER than '..Said'. Prove '..Said' where nothing that the law and all that it calls make is longer than what came in: it says more and counts as full. Else prove '..UptoSaid'. A law counts once. -/
mutual
def uptoBulk {H : Type} : DataW H → Nat
  | .lit (.string bytes) => bytes.length + 1
  | .lit _ => 1
  | .nil => 1
  | .ptr d => uptoBulk d + 1
  | .slice elems spare => uptoBulkAll elems + uptoBulkAll spare + 1
  | .agg parts => uptoBulkAll parts + 1
  | .iface _ d => uptoBulk d + 1
  | .map entries => uptoBulkEntries entries + 1
  | .held _ => 1
def uptoBulkAll {H : Type} : List (DataW H) → Nat
  | [] => 0
  | d :: r => uptoBulk d + uptoBulkAll r
def uptoBulkEntries {H : Type} : List (Lit × DataW H) → Nat
  | [] => 0
  | x :: r => uptoBulkEntry x + uptoBulkEntries r
def uptoBulkEntry {H : Type} : Lit × DataW H → Nat
  | (.string bytes, d) => bytes.length + uptoBulk d + 1
  | (_, d) => uptoBulk d + 1
 end
def uptoSmall : (H : Type) → List (DataW H) → Bool := fun _ ds => decide (uptoBulkAll ds ≤ 1048576)
def OpenSpec.upto (s : _root_.Go.ChangeSpec) : _root_.Go.OpenSpec := { _root_.Go.OpenSpec.ofChange s with cond := some uptoSmall }

/-- 'laws.FnExactJoinedOf', WHERE WHAT IT READS IS OF BULK AT MOST 1048576: true; the input reads as it did. -/
def fnExactJoinedOfUptoRow : OpenClaim := { program := "ytiiohodkfipfbaa", sum := "b7938544bc60c78161207ef6df8e97d295afbb7ecb2b7d363f29ce8b4315dfa3", func := "loop.example/hypersets/laws.FnExactJoinedOf", spec := "fnExactJoinedOf", unfollowed := true, recurses := true, apart := false, narrowed := true }
def FnExactJoinedOfUptoSaid : Prop := fnExactJoinedOfUptoRow.holds Try.pinned (OpenSpec.upto fnExactJoinedOfSpec)

/-- 'laws.FnJoinedOf', WHERE WHAT IT READS IS OF BULK AT MOST 1048576: true; the input reads as it did. -/
def fnJoinedOfUptoRow : OpenClaim := { program := "ytiiohodkfipfbaa", sum := "b7938544bc60c78161207ef6df8e97d295afbb7ecb2b7d363f29ce8b4315dfa3", func := "loop.example/hypersets/laws.FnJoinedOf", spec := "fnJoinedOf", unfollowed := true, recurses := true, apart := false, narrowed := true }
def FnJoinedOfUptoSaid : Prop := fnJoinedOfUptoRow.holds Try.pinned (OpenSpec.upto fnJoinedOfSpec)

/-- 'laws.FnSameSet', WHERE WHAT IT READS IS OF BULK AT MOST 1048576: true; the input reads as it did. -/
def fnSameSetUptoRow : OpenClaim := { program := "ytiiohodkfipfbaa", sum := "b7938544bc60c78161207ef6df8e97d295afbb7ecb2b7d363f29ce8b4315dfa3", func := "loop.example/hypersets/laws.FnSameSet", spec := "fnSameSet", unfollowed := true, recurses := true, apart := false, narrowed := true }
def FnSameSetUptoSaid : Prop := fnSameSetUptoRow.holds Try.pinned (OpenSpec.upto fnSameSetSpec)

end Rows
end Go.Proofs.Ytiiohodkfipfbaa
