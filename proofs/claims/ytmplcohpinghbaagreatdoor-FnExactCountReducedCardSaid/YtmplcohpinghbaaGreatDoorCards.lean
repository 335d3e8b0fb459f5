/-
  DERIVED. GIVEN WITH THE SEED: THE CARDS: each row of YtmplcohpinghbaaGreatDoorRows.lean that lists a variable, with what it lists TIED to the program's text (the seventh form; the later family's looks); each row that meets fmt, with fmt's text TOLD by the authors' own Lean function (tested against real Go, not proved from fmt's source: count such statements apart). THE CARD IS WHAT COUNTS. Prove the row's statement (the work); the ties are given (YtmplcohpinghbaaGreatDoorTie.lean); close each card by the builder's one call (the guide's Derived/Test/ToyasCard.lean, 'card_holds'). Laid BY PROGRAM, IN A SANDBOX (cutbox-door.mjs). By AI agents, Wed Nov 11 2026. No macro, syntax, notation, axiom, sorry.
-/
import Derived.Test.YtmplcohpinghbaaGreatDoorRows
import GoSem.ClaimSeven
namespace Go.Proofs.YtmplcohpinghbaaGreatDoor
namespace Rows

/-- THE TIED CARD OF 'laws.FnExactStatesOf'. -/
def fnExactStatesOfCard : Claim7 := { stood := { row := fnExactStatesOfRow, standIns := [], harness := (true, "e0dc58bba0042597eebe61fb5c5dc516d80db8e981f5e3e0b82316e1b276eae6"), looks := false }, kinds := [], alts := [], laidByText := true, laidKinds := [.data, .data, .data], laidTests := true, laidLooks := .later }
def FnExactStatesOfCardSaid : Prop := Claim7.holds Tryz.pinned (.plain (OpenSpec.ofChange fnExactStatesOfSpec)) fnExactStatesOfCard

/-- THE TIED CARD OF 'laws.FnExactCountReduced'. -/
def fnExactCountReducedCard : Claim7 := { stood := { row := fnExactCountReducedRow, standIns := [], harness := (true, "e0dc58bba0042597eebe61fb5c5dc516d80db8e981f5e3e0b82316e1b276eae6"), looks := false }, kinds := [], alts := [], laidByText := true, laidKinds := [.data, .data, .data], laidTests := true, laidLooks := .later }
def FnExactCountReducedCardSaid : Prop := Claim7.holds Tryz.pinned (.plain (OpenSpec.ofChange fnExactCountReducedSpec)) fnExactCountReducedCard

/-- THE SECOND FORM's CARD OF 'laws.FnExactStatesOf'. -/
def fnExactStatesOfUptoCard : Claim7 := { stood := { row := fnExactStatesOfUptoRow, standIns := [], harness := (true, "e0dc58bba0042597eebe61fb5c5dc516d80db8e981f5e3e0b82316e1b276eae6"), looks := false }, kinds := [], alts := [], laidByText := true, laidKinds := [.data, .data, .data], laidTests := true, laidLooks := .later }
def FnExactStatesOfUptoCardSaid : Prop := Claim7.holds Tryz.pinned (.plain (OpenSpec.upto fnExactStatesOfSpec)) fnExactStatesOfUptoCard

/-- THE SECOND FORM's CARD OF 'laws.FnExactCountReduced'. -/
def fnExactCountReducedUptoCard : Claim7 := { stood := { row := fnExactCountReducedUptoRow, standIns := [], harness := (true, "e0dc58bba0042597eebe61fb5c5dc516d80db8e981f5e3e0b82316e1b276eae6"), looks := false }, kinds := [], alts := [], laidByText := true, laidKinds := [.data, .data, .data], laidTests := true, laidLooks := .later }
def FnExactCountReducedUptoCardSaid : Prop := Claim7.holds Tryz.pinned (.plain (OpenSpec.upto fnExactCountReducedSpec)) fnExactCountReducedUptoCard
end Rows
end Go.Proofs.YtmplcohpinghbaaGreatDoor
