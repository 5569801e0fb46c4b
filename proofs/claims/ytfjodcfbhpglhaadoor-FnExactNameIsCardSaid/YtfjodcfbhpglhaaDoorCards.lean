/-
  DERIVED. GIVEN WITH THE SEED: THE CARDS: each row of YtfjodcfbhpglhaaDoorRows.lean that lists a variable, with what it lists TIED to the program's text (the seventh form; the later family's looks); each row that meets fmt, with fmt's text TOLD by the authors' own Lean function (tested against real Go, not proved from fmt's source: count such statements apart). THE CARD IS WHAT COUNTS. Prove the row's statement (the work); the ties are given (YtfjodcfbhpglhaaDoorTie.lean); close each card by the builder's one call (the guide's Derived/Test/ToyasCard.lean, 'card_holds'). Laid BY PROGRAM, IN A SANDBOX (cutbox-door.mjs). By AI agents, Wed Nov 11 2026. No macro, syntax, notation, axiom, sorry.
-/
import Derived.Test.YtfjodcfbhpglhaaDoorRows
import GoSem.ClaimSeven
namespace Go.Proofs.YtfjodcfbhpglhaaDoor
namespace Rows

/-- THE TIED CARD OF 'laws.FnExactNameIs'. -/
def fnExactNameIsCard : Claim7 := { stood := { row := fnExactNameIsRow, standIns := [], harness := (true, "feee2864d5830b37060dc4f673ad74f2fefe0f7481af244aabbaf76f7f4e95ed"), looks := false }, kinds := [], alts := [], laidByText := true, laidKinds := [.data, .data, .data], laidTests := true, laidLooks := .later }
def FnExactNameIsCardSaid : Prop := Claim7.holds Tryd.pinned (.plain (OpenSpec.ofChange fnExactNameIsSpec)) fnExactNameIsCard

/-- THE TIED CARD OF 'laws.FnExactTogetherOf'. -/
def fnExactTogetherOfCard : Claim7 := { stood := { row := fnExactTogetherOfRow, standIns := [], harness := (true, "feee2864d5830b37060dc4f673ad74f2fefe0f7481af244aabbaf76f7f4e95ed"), looks := false }, kinds := [], alts := [], laidByText := true, laidKinds := [.data, .data, .data], laidTests := true, laidLooks := .later }
def FnExactTogetherOfCardSaid : Prop := Claim7.holds Tryd.pinned (.plain (OpenSpec.ofChange fnExactTogetherOfSpec)) fnExactTogetherOfCard

/-- THE SECOND FORM's CARD OF 'laws.FnExactNameIs'. -/
def fnExactNameIsUptoCard : Claim7 := { stood := { row := fnExactNameIsUptoRow, standIns := [], harness := (true, "feee2864d5830b37060dc4f673ad74f2fefe0f7481af244aabbaf76f7f4e95ed"), looks := false }, kinds := [], alts := [], laidByText := true, laidKinds := [.data, .data, .data], laidTests := true, laidLooks := .later }
def FnExactNameIsUptoCardSaid : Prop := Claim7.holds Tryd.pinned (.plain (OpenSpec.upto fnExactNameIsSpec)) fnExactNameIsUptoCard

/-- THE SECOND FORM's CARD OF 'laws.FnExactTogetherOf'. -/
def fnExactTogetherOfUptoCard : Claim7 := { stood := { row := fnExactTogetherOfUptoRow, standIns := [], harness := (true, "feee2864d5830b37060dc4f673ad74f2fefe0f7481af244aabbaf76f7f4e95ed"), looks := false }, kinds := [], alts := [], laidByText := true, laidKinds := [.data, .data, .data], laidTests := true, laidLooks := .later }
def FnExactTogetherOfUptoCardSaid : Prop := Claim7.holds Tryd.pinned (.plain (OpenSpec.upto fnExactTogetherOfSpec)) fnExactTogetherOfUptoCard
end Rows
end Go.Proofs.YtfjodcfbhpglhaaDoor
