/-
  DERIVED. GIVEN WITH THE SEED: THE CARDS: each row of YtfjodcfbhpglhaaGreatDoorRows.lean that lists a variable, with what it lists TIED to the program's text (the seventh form; the later family's looks); each row that meets fmt, with fmt's text TOLD by the authors' own Lean function (tested against real Go, not proved from fmt's source: count such statements apart). THE CARD IS WHAT COUNTS. Prove the row's statement (the work); the ties are given (YtfjodcfbhpglhaaGreatDoorTie.lean); close each card by the builder's one call (the guide's Derived/Test/ToyasCard.lean, 'card_holds'). Laid BY PROGRAM, IN A SANDBOX (cutbox-door.mjs). By AI agents, Wed Nov 11 2026. No macro, syntax, notation, axiom, sorry.
-/
import Derived.Test.YtfjodcfbhpglhaaGreatDoorRows
import GoSem.ClaimSeven
namespace Go.Proofs.YtfjodcfbhpglhaaGreatDoor
namespace Rows

/-- THE TIED CARD OF 'laws.FnExactWithoutSet'. -/
def fnExactWithoutSetCard : Claim7 := { stood := { row := fnExactWithoutSetRow, standIns := [], harness := (true, "01b04447e476fdbe22911a04ab77376e8e838291c6e4e26baa36c7e9cadb9205"), looks := false }, kinds := [], alts := [], laidByText := true, laidKinds := [.data, .data, .data], laidTests := true, laidLooks := .later }
def FnExactWithoutSetCardSaid : Prop := Claim7.holds Tryz.pinned (.plain (OpenSpec.ofChange fnExactWithoutSetSpec)) fnExactWithoutSetCard

/-- THE TIED CARD OF 'laws.FnNameIs'. -/
def fnNameIsCard : Claim7 := { stood := { row := fnNameIsRow, standIns := [], harness := (true, "01b04447e476fdbe22911a04ab77376e8e838291c6e4e26baa36c7e9cadb9205"), looks := false }, kinds := [], alts := [], laidByText := true, laidKinds := [.data, .data, .data], laidTests := true, laidLooks := .later }
def FnNameIsCardSaid : Prop := Claim7.holds Tryz.pinned (.plain (OpenSpec.ofChange fnNameIsSpec)) fnNameIsCard

/-- THE TIED CARD OF 'laws.FnPairOf'. -/
def fnPairOfCard : Claim7 := { stood := { row := fnPairOfRow, standIns := [], harness := (true, "01b04447e476fdbe22911a04ab77376e8e838291c6e4e26baa36c7e9cadb9205"), looks := false }, kinds := [], alts := [], laidByText := true, laidKinds := [.data, .data, .data], laidTests := true, laidLooks := .later }
def FnPairOfCardSaid : Prop := Claim7.holds Tryz.pinned (.plain (OpenSpec.ofChange fnPairOfSpec)) fnPairOfCard

/-- THE TIED CARD OF 'laws.FnTogetherOf'. -/
def fnTogetherOfCard : Claim7 := { stood := { row := fnTogetherOfRow, standIns := [], harness := (true, "01b04447e476fdbe22911a04ab77376e8e838291c6e4e26baa36c7e9cadb9205"), looks := false }, kinds := [], alts := [], laidByText := true, laidKinds := [.data, .data, .data], laidTests := true, laidLooks := .later }
def FnTogetherOfCardSaid : Prop := Claim7.holds Tryz.pinned (.plain (OpenSpec.ofChange fnTogetherOfSpec)) fnTogetherOfCard

/-- THE TIED CARD OF 'laws.FnWithoutSet'. -/
def fnWithoutSetCard : Claim7 := { stood := { row := fnWithoutSetRow, standIns := [], harness := (true, "01b04447e476fdbe22911a04ab77376e8e838291c6e4e26baa36c7e9cadb9205"), looks := false }, kinds := [], alts := [], laidByText := true, laidKinds := [.data, .data, .data], laidTests := true, laidLooks := .later }
def FnWithoutSetCardSaid : Prop := Claim7.holds Tryz.pinned (.plain (OpenSpec.ofChange fnWithoutSetSpec)) fnWithoutSetCard

/-- THE TIED CARD OF 'laws.FnSolutionOk'. -/
def fnSolutionOkCard : Claim7 := { stood := { row := fnSolutionOkRow, standIns := [], harness := (true, "01b04447e476fdbe22911a04ab77376e8e838291c6e4e26baa36c7e9cadb9205"), looks := false }, kinds := [], alts := [], laidByText := true, laidKinds := [.data, .data, .data], laidTests := true, laidLooks := .later }
def FnSolutionOkCardSaid : Prop := Claim7.holds Tryz.pinned (.plain (OpenSpec.ofChange fnSolutionOkSpec)) fnSolutionOkCard

/-- THE SECOND FORM's CARD OF 'laws.FnExactWithoutSet'. -/
def fnExactWithoutSetUptoCard : Claim7 := { stood := { row := fnExactWithoutSetUptoRow, standIns := [], harness := (true, "01b04447e476fdbe22911a04ab77376e8e838291c6e4e26baa36c7e9cadb9205"), looks := false }, kinds := [], alts := [], laidByText := true, laidKinds := [.data, .data, .data], laidTests := true, laidLooks := .later }
def FnExactWithoutSetUptoCardSaid : Prop := Claim7.holds Tryz.pinned (.plain (OpenSpec.upto fnExactWithoutSetSpec)) fnExactWithoutSetUptoCard

/-- THE SECOND FORM's CARD OF 'laws.FnNameIs'. -/
def fnNameIsUptoCard : Claim7 := { stood := { row := fnNameIsUptoRow, standIns := [], harness := (true, "01b04447e476fdbe22911a04ab77376e8e838291c6e4e26baa36c7e9cadb9205"), looks := false }, kinds := [], alts := [], laidByText := true, laidKinds := [.data, .data, .data], laidTests := true, laidLooks := .later }
def FnNameIsUptoCardSaid : Prop := Claim7.holds Tryz.pinned (.plain (OpenSpec.upto fnNameIsSpec)) fnNameIsUptoCard

/-- THE SECOND FORM's CARD OF 'laws.FnPairOf'. -/
def fnPairOfUptoCard : Claim7 := { stood := { row := fnPairOfUptoRow, standIns := [], harness := (true, "01b04447e476fdbe22911a04ab77376e8e838291c6e4e26baa36c7e9cadb9205"), looks := false }, kinds := [], alts := [], laidByText := true, laidKinds := [.data, .data, .data], laidTests := true, laidLooks := .later }
def FnPairOfUptoCardSaid : Prop := Claim7.holds Tryz.pinned (.plain (OpenSpec.upto fnPairOfSpec)) fnPairOfUptoCard

/-- THE SECOND FORM's CARD OF 'laws.FnTogetherOf'. -/
def fnTogetherOfUptoCard : Claim7 := { stood := { row := fnTogetherOfUptoRow, standIns := [], harness := (true, "01b04447e476fdbe22911a04ab77376e8e838291c6e4e26baa36c7e9cadb9205"), looks := false }, kinds := [], alts := [], laidByText := true, laidKinds := [.data, .data, .data], laidTests := true, laidLooks := .later }
def FnTogetherOfUptoCardSaid : Prop := Claim7.holds Tryz.pinned (.plain (OpenSpec.upto fnTogetherOfSpec)) fnTogetherOfUptoCard

/-- THE SECOND FORM's CARD OF 'laws.FnWithoutSet'. -/
def fnWithoutSetUptoCard : Claim7 := { stood := { row := fnWithoutSetUptoRow, standIns := [], harness := (true, "01b04447e476fdbe22911a04ab77376e8e838291c6e4e26baa36c7e9cadb9205"), looks := false }, kinds := [], alts := [], laidByText := true, laidKinds := [.data, .data, .data], laidTests := true, laidLooks := .later }
def FnWithoutSetUptoCardSaid : Prop := Claim7.holds Tryz.pinned (.plain (OpenSpec.upto fnWithoutSetSpec)) fnWithoutSetUptoCard

/-- THE SECOND FORM's CARD OF 'laws.FnSolutionOk'. -/
def fnSolutionOkUptoCard : Claim7 := { stood := { row := fnSolutionOkUptoRow, standIns := [], harness := (true, "01b04447e476fdbe22911a04ab77376e8e838291c6e4e26baa36c7e9cadb9205"), looks := false }, kinds := [], alts := [], laidByText := true, laidKinds := [.data, .data, .data], laidTests := true, laidLooks := .later }
def FnSolutionOkUptoCardSaid : Prop := Claim7.holds Tryz.pinned (.plain (OpenSpec.upto fnSolutionOkSpec)) fnSolutionOkUptoCard
end Rows
end Go.Proofs.YtfjodcfbhpglhaaGreatDoor
