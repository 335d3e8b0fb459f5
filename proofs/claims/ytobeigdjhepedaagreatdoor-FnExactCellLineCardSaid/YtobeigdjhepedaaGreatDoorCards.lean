/-
  DERIVED. GIVEN WITH THE SEED: THE CARDS: each row of YtobeigdjhepedaaGreatDoorRows.lean that lists a variable, with what it lists TIED to the program's text (the seventh form; the later family's looks); each row that meets fmt, with fmt's text TOLD by the authors' own Lean function (tested against real Go, not proved from fmt's source: count such statements apart). THE CARD IS WHAT COUNTS. Prove the row's statement (the work); the ties are given (YtobeigdjhepedaaGreatDoorTie.lean); close each card by the builder's one call (the guide's Derived/Test/ToyasCard.lean, 'card_holds'). Laid BY PROGRAM, IN A SANDBOX (cutbox-door.mjs). By AI agents, Wed Nov 11 2026. No macro, syntax, notation, axiom, sorry.
-/
import Derived.Test.YtobeigdjhepedaaGreatDoorRows
import GoSem.ClaimSeven
namespace Go.Proofs.YtobeigdjhepedaaGreatDoor
namespace Rows

/-- THE TIED CARD OF 'laws.FnExactCellLine'. -/
def fnExactCellLineCard : Claim7 := { stood := { row := fnExactCellLineRow, standIns := [], harness := (true, "a2b9150fa8dd895369f8f3f7fc6d2e563625b5c611c460d47b656cba05ceec1b"), looks := false }, kinds := [], alts := [], laidByText := true, laidKinds := [.data, .data, .data, .data, .pinned], laidTests := true, laidLooks := .later }
def FnExactCellLineCardSaid : Prop := Claim7.holds Tryz.pinned (.plain (OpenSpec.ofChange fnExactCellLineSpec)) fnExactCellLineCard

/-- THE TIED CARD OF 'laws.FnExactPairLine'. -/
def fnExactPairLineCard : Claim7 := { stood := { row := fnExactPairLineRow, standIns := [], harness := (true, "a2b9150fa8dd895369f8f3f7fc6d2e563625b5c611c460d47b656cba05ceec1b"), looks := false }, kinds := [], alts := [], laidByText := true, laidKinds := [.data, .data, .data, .data, .pinned], laidTests := true, laidLooks := .later }
def FnExactPairLineCardSaid : Prop := Claim7.holds Tryz.pinned (.plain (OpenSpec.ofChange fnExactPairLineSpec)) fnExactPairLineCard

/-- THE SECOND FORM's CARD OF 'laws.FnExactCellLine'. -/
def fnExactCellLineUptoCard : Claim7 := { stood := { row := fnExactCellLineUptoRow, standIns := [], harness := (true, "a2b9150fa8dd895369f8f3f7fc6d2e563625b5c611c460d47b656cba05ceec1b"), looks := false }, kinds := [], alts := [], laidByText := true, laidKinds := [.data, .data, .data, .data, .pinned], laidTests := true, laidLooks := .later }
def FnExactCellLineUptoCardSaid : Prop := Claim7.holds Tryz.pinned (.plain (OpenSpec.upto fnExactCellLineSpec)) fnExactCellLineUptoCard

/-- THE SECOND FORM's CARD OF 'laws.FnExactPairLine'. -/
def fnExactPairLineUptoCard : Claim7 := { stood := { row := fnExactPairLineUptoRow, standIns := [], harness := (true, "a2b9150fa8dd895369f8f3f7fc6d2e563625b5c611c460d47b656cba05ceec1b"), looks := false }, kinds := [], alts := [], laidByText := true, laidKinds := [.data, .data, .data, .data, .pinned], laidTests := true, laidLooks := .later }
def FnExactPairLineUptoCardSaid : Prop := Claim7.holds Tryz.pinned (.plain (OpenSpec.upto fnExactPairLineSpec)) fnExactPairLineUptoCard
end Rows
end Go.Proofs.YtobeigdjhepedaaGreatDoor
