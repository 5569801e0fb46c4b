/-
  DERIVED. GIVEN WITH THE SEED: THE CARDS: each row of YtiiohodkfipfbaaDoorRows.lean that lists a variable, with what it lists TIED to the program's text (the seventh form; the later family's looks); each row that meets fmt, with fmt's text TOLD by the authors' own Lean function (tested against real Go, not proved from fmt's source: count such statements apart). THE CARD IS WHAT COUNTS. Prove the row's statement (the work); the ties are given (YtiiohodkfipfbaaDoorTie.lean); close each card by the builder's one call (the guide's Derived/Test/ToyasCard.lean, 'card_holds'). Laid BY PROGRAM, IN A SANDBOX (cutbox-door.mjs). By AI agents, Wed Nov 11 2026. No macro, syntax, notation, axiom, sorry.
-/
import Derived.Test.YtiiohodkfipfbaaDoorRows
import GoSem.ClaimSeven
namespace Go.Proofs.YtiiohodkfipfbaaDoor
namespace Rows

/-- THE TIED CARD OF 'laws.FnSystemOf'. -/
def fnSystemOfCard : Claim7 := { stood := { row := fnSystemOfRow, standIns := [], harness := (true, "0cfc41cb77a8cf22988535d76f5702477bd674fea1f30285c62f8fb18e8dafa9"), looks := false }, kinds := [], alts := [], laidByText := true, laidKinds := [.data, .data, .data], laidTests := true, laidLooks := .later }
def FnSystemOfCardSaid : Prop := Claim7.holds Tryd.pinned (.plain (OpenSpec.ofChange fnSystemOfSpec)) fnSystemOfCard

/-- THE TIED CARD OF 'laws.FnManyIn'. -/
def fnManyInCard : Claim7 := { stood := { row := fnManyInRow, standIns := [], harness := (true, "0cfc41cb77a8cf22988535d76f5702477bd674fea1f30285c62f8fb18e8dafa9"), looks := false }, kinds := [], alts := [], laidByText := true, laidKinds := [.data, .data, .data], laidTests := true, laidLooks := .later }
def FnManyInCardSaid : Prop := Claim7.holds Tryd.pinned (.plain (OpenSpec.ofChange fnManyInSpec)) fnManyInCard

/-- THE TIED CARD OF 'laws.FnAlikeNames'. -/
def fnAlikeNamesCard : Claim7 := { stood := { row := fnAlikeNamesRow, standIns := [], harness := (true, "0cfc41cb77a8cf22988535d76f5702477bd674fea1f30285c62f8fb18e8dafa9"), looks := false }, kinds := [], alts := [], laidByText := true, laidKinds := [.data, .data, .data], laidTests := true, laidLooks := .later }
def FnAlikeNamesCardSaid : Prop := Claim7.holds Tryd.pinned (.plain (OpenSpec.ofChange fnAlikeNamesSpec)) fnAlikeNamesCard

/-- THE TIED CARD OF 'laws.FnExactLeastOk'. -/
def fnExactLeastOkCard : Claim7 := { stood := { row := fnExactLeastOkRow, standIns := [], harness := (true, "0cfc41cb77a8cf22988535d76f5702477bd674fea1f30285c62f8fb18e8dafa9"), looks := false }, kinds := [], alts := [], laidByText := true, laidKinds := [.data, .data, .data], laidTests := true, laidLooks := .later }
def FnExactLeastOkCardSaid : Prop := Claim7.holds Tryd.pinned (.plain (OpenSpec.ofChange fnExactLeastOkSpec)) fnExactLeastOkCard

/-- THE TIED CARD OF 'laws.FnExactLeastOf'. -/
def fnExactLeastOfCard : Claim7 := { stood := { row := fnExactLeastOfRow, standIns := [], harness := (true, "0cfc41cb77a8cf22988535d76f5702477bd674fea1f30285c62f8fb18e8dafa9"), looks := false }, kinds := [], alts := [], laidByText := true, laidKinds := [.data, .data, .data], laidTests := true, laidLooks := .later }
def FnExactLeastOfCardSaid : Prop := Claim7.holds Tryd.pinned (.plain (OpenSpec.ofChange fnExactLeastOfSpec)) fnExactLeastOfCard

/-- THE TIED CARD OF 'laws.FnLeastOk'. -/
def fnLeastOkCard : Claim7 := { stood := { row := fnLeastOkRow, standIns := [], harness := (true, "0cfc41cb77a8cf22988535d76f5702477bd674fea1f30285c62f8fb18e8dafa9"), looks := false }, kinds := [], alts := [], laidByText := true, laidKinds := [.data, .data, .data], laidTests := true, laidLooks := .later }
def FnLeastOkCardSaid : Prop := Claim7.holds Tryd.pinned (.plain (OpenSpec.ofChange fnLeastOkSpec)) fnLeastOkCard

/-- THE TIED CARD OF 'laws.FnLeastOf'. -/
def fnLeastOfCard : Claim7 := { stood := { row := fnLeastOfRow, standIns := [], harness := (true, "0cfc41cb77a8cf22988535d76f5702477bd674fea1f30285c62f8fb18e8dafa9"), looks := false }, kinds := [], alts := [], laidByText := true, laidKinds := [.data, .data, .data], laidTests := true, laidLooks := .later }
def FnLeastOfCardSaid : Prop := Claim7.holds Tryd.pinned (.plain (OpenSpec.ofChange fnLeastOfSpec)) fnLeastOfCard

/-- THE TIED CARD OF 'laws.FnExactPairOf'. -/
def fnExactPairOfCard : Claim7 := { stood := { row := fnExactPairOfRow, standIns := [], harness := (true, "0cfc41cb77a8cf22988535d76f5702477bd674fea1f30285c62f8fb18e8dafa9"), looks := false }, kinds := [], alts := [], laidByText := true, laidKinds := [.data, .data, .data], laidTests := true, laidLooks := .later }
def FnExactPairOfCardSaid : Prop := Claim7.holds Tryd.pinned (.plain (OpenSpec.ofChange fnExactPairOfSpec)) fnExactPairOfCard

/-- THE SECOND FORM's CARD OF 'laws.FnSystemOf'. -/
def fnSystemOfUptoCard : Claim7 := { stood := { row := fnSystemOfUptoRow, standIns := [], harness := (true, "0cfc41cb77a8cf22988535d76f5702477bd674fea1f30285c62f8fb18e8dafa9"), looks := false }, kinds := [], alts := [], laidByText := true, laidKinds := [.data, .data, .data], laidTests := true, laidLooks := .later }
def FnSystemOfUptoCardSaid : Prop := Claim7.holds Tryd.pinned (.plain (OpenSpec.upto fnSystemOfSpec)) fnSystemOfUptoCard

/-- THE SECOND FORM's CARD OF 'laws.FnManyIn'. -/
def fnManyInUptoCard : Claim7 := { stood := { row := fnManyInUptoRow, standIns := [], harness := (true, "0cfc41cb77a8cf22988535d76f5702477bd674fea1f30285c62f8fb18e8dafa9"), looks := false }, kinds := [], alts := [], laidByText := true, laidKinds := [.data, .data, .data], laidTests := true, laidLooks := .later }
def FnManyInUptoCardSaid : Prop := Claim7.holds Tryd.pinned (.plain (OpenSpec.upto fnManyInSpec)) fnManyInUptoCard

/-- THE SECOND FORM's CARD OF 'laws.FnAlikeNames'. -/
def fnAlikeNamesUptoCard : Claim7 := { stood := { row := fnAlikeNamesUptoRow, standIns := [], harness := (true, "0cfc41cb77a8cf22988535d76f5702477bd674fea1f30285c62f8fb18e8dafa9"), looks := false }, kinds := [], alts := [], laidByText := true, laidKinds := [.data, .data, .data], laidTests := true, laidLooks := .later }
def FnAlikeNamesUptoCardSaid : Prop := Claim7.holds Tryd.pinned (.plain (OpenSpec.upto fnAlikeNamesSpec)) fnAlikeNamesUptoCard

/-- THE SECOND FORM's CARD OF 'laws.FnExactLeastOk'. -/
def fnExactLeastOkUptoCard : Claim7 := { stood := { row := fnExactLeastOkUptoRow, standIns := [], harness := (true, "0cfc41cb77a8cf22988535d76f5702477bd674fea1f30285c62f8fb18e8dafa9"), looks := false }, kinds := [], alts := [], laidByText := true, laidKinds := [.data, .data, .data], laidTests := true, laidLooks := .later }
def FnExactLeastOkUptoCardSaid : Prop := Claim7.holds Tryd.pinned (.plain (OpenSpec.upto fnExactLeastOkSpec)) fnExactLeastOkUptoCard

/-- THE SECOND FORM's CARD OF 'laws.FnExactLeastOf'. -/
def fnExactLeastOfUptoCard : Claim7 := { stood := { row := fnExactLeastOfUptoRow, standIns := [], harness := (true, "0cfc41cb77a8cf22988535d76f5702477bd674fea1f30285c62f8fb18e8dafa9"), looks := false }, kinds := [], alts := [], laidByText := true, laidKinds := [.data, .data, .data], laidTests := true, laidLooks := .later }
def FnExactLeastOfUptoCardSaid : Prop := Claim7.holds Tryd.pinned (.plain (OpenSpec.upto fnExactLeastOfSpec)) fnExactLeastOfUptoCard

/-- THE SECOND FORM's CARD OF 'laws.FnLeastOk'. -/
def fnLeastOkUptoCard : Claim7 := { stood := { row := fnLeastOkUptoRow, standIns := [], harness := (true, "0cfc41cb77a8cf22988535d76f5702477bd674fea1f30285c62f8fb18e8dafa9"), looks := false }, kinds := [], alts := [], laidByText := true, laidKinds := [.data, .data, .data], laidTests := true, laidLooks := .later }
def FnLeastOkUptoCardSaid : Prop := Claim7.holds Tryd.pinned (.plain (OpenSpec.upto fnLeastOkSpec)) fnLeastOkUptoCard

/-- THE SECOND FORM's CARD OF 'laws.FnLeastOf'. -/
def fnLeastOfUptoCard : Claim7 := { stood := { row := fnLeastOfUptoRow, standIns := [], harness := (true, "0cfc41cb77a8cf22988535d76f5702477bd674fea1f30285c62f8fb18e8dafa9"), looks := false }, kinds := [], alts := [], laidByText := true, laidKinds := [.data, .data, .data], laidTests := true, laidLooks := .later }
def FnLeastOfUptoCardSaid : Prop := Claim7.holds Tryd.pinned (.plain (OpenSpec.upto fnLeastOfSpec)) fnLeastOfUptoCard

/-- THE SECOND FORM's CARD OF 'laws.FnExactPairOf'. -/
def fnExactPairOfUptoCard : Claim7 := { stood := { row := fnExactPairOfUptoRow, standIns := [], harness := (true, "0cfc41cb77a8cf22988535d76f5702477bd674fea1f30285c62f8fb18e8dafa9"), looks := false }, kinds := [], alts := [], laidByText := true, laidKinds := [.data, .data, .data], laidTests := true, laidLooks := .later }
def FnExactPairOfUptoCardSaid : Prop := Claim7.holds Tryd.pinned (.plain (OpenSpec.upto fnExactPairOfSpec)) fnExactPairOfUptoCard
end Rows
end Go.Proofs.YtiiohodkfipfbaaDoor
