/-
  DERIVED. GIVEN WITH THE SEED: THE CARDS: each row of YtiiohodkfipfbaaGreatDoorRows.lean that lists a variable, with what it lists TIED to the program's text (the seventh form; the later family's looks); each row that meets fmt, with fmt's text TOLD by the authors' own Lean function (tested against real Go, not proved from fmt's source: count such statements apart). THE CARD IS WHAT COUNTS. Prove the row's statement (the work); the ties are given (YtiiohodkfipfbaaGreatDoorTie.lean); close each card by the builder's one call (the guide's Derived/Test/ToyasCard.lean, 'card_holds'). Laid BY PROGRAM, IN A SANDBOX (cutbox-door.mjs). By AI agents, Wed Nov 11 2026. No macro, syntax, notation, axiom, sorry.
-/
import Derived.Test.YtiiohodkfipfbaaGreatDoorRows
import GoSem.ClaimSeven
namespace Go.Proofs.YtiiohodkfipfbaaGreatDoor
namespace Rows

/-- THE TIED CARD OF 'laws.FnHasSet'. -/
def fnHasSetCard : Claim7 := { stood := { row := fnHasSetRow, standIns := [], harness := (true, "b2b24b0c0d30e67bd6b3c60e01c71c35f614ad70abda1305ea6e87e48291ed37"), looks := false }, kinds := [], alts := [], laidByText := true, laidKinds := [.data, .data, .data], laidTests := true, laidLooks := .later }
def FnHasSetCardSaid : Prop := Claim7.holds Tryz.pinned (.plain (OpenSpec.ofChange fnHasSetSpec)) fnHasSetCard

/-- THE SECOND FORM's CARD OF 'laws.FnHasSet'. -/
def fnHasSetUptoCard : Claim7 := { stood := { row := fnHasSetUptoRow, standIns := [], harness := (true, "b2b24b0c0d30e67bd6b3c60e01c71c35f614ad70abda1305ea6e87e48291ed37"), looks := false }, kinds := [], alts := [], laidByText := true, laidKinds := [.data, .data, .data], laidTests := true, laidLooks := .later }
def FnHasSetUptoCardSaid : Prop := Claim7.holds Tryz.pinned (.plain (OpenSpec.upto fnHasSetSpec)) fnHasSetUptoCard
end Rows
end Go.Proofs.YtiiohodkfipfbaaGreatDoor
