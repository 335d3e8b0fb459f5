/-
  DERIVED. GIVEN WITH THE SEED: THE CARDS: each row of YtdedkfbiookofaaGreatDoorRows.lean that lists a variable, with what it lists TIED to the program's text (the seventh form; the later family's looks); each row that meets fmt, with fmt's text TOLD by the authors' own Lean function (tested against real Go, not proved from fmt's source: count such statements apart). THE CARD IS WHAT COUNTS. Prove the row's statement (the work); the ties are given (YtdedkfbiookofaaGreatDoorTie.lean); close each card by the builder's one call (the guide's Derived/Test/ToyasCard.lean, 'card_holds'). Laid BY PROGRAM, IN A SANDBOX (cutbox-door.mjs). By AI agents, Wed Nov 11 2026. No macro, syntax, notation, axiom, sorry.
-/
import Derived.Test.YtdedkfbiookofaaGreatDoorRows
import GoSem.ClaimSeven
namespace Go.Proofs.YtdedkfbiookofaaGreatDoor
namespace Rows

/-- THE TIED CARD OF 'laws.FnKazhdan'. -/
def fnKazhdanCard : Claim7 := { stood := { row := fnKazhdanRow, standIns := [], harness := (true, "d385bcc6513dd31d431338a489c63914f60d89447ef4c1dcd6f0364ab8e293dd"), looks := false }, kinds := [], alts := [], laidByText := true, laidKinds := [.data, .pinned], laidTests := true, laidLooks := .later }
def FnKazhdanCardSaid : Prop := Claim7.holds Tryz.pinned (.plain (OpenSpec.ofChange fnKazhdanSpec)) fnKazhdanCard

/-- THE TIED CARD OF 'laws.FnExactPairLine'. -/
def fnExactPairLineCard : Claim7 := { stood := { row := fnExactPairLineRow, standIns := [], harness := (true, "d385bcc6513dd31d431338a489c63914f60d89447ef4c1dcd6f0364ab8e293dd"), looks := false }, kinds := [], alts := [], laidByText := true, laidKinds := [.data, .data, .data, .data, .pinned], laidTests := true, laidLooks := .later }
def FnExactPairLineCardSaid : Prop := Claim7.holds Tryz.pinned (.plain (OpenSpec.ofChange fnExactPairLineSpec)) fnExactPairLineCard

/-- THE SECOND FORM's CARD OF 'laws.FnKazhdan'. -/
def fnKazhdanUptoCard : Claim7 := { stood := { row := fnKazhdanUptoRow, standIns := [], harness := (true, "d385bcc6513dd31d431338a489c63914f60d89447ef4c1dcd6f0364ab8e293dd"), looks := false }, kinds := [], alts := [], laidByText := true, laidKinds := [.data, .pinned], laidTests := true, laidLooks := .later }
def FnKazhdanUptoCardSaid : Prop := Claim7.holds Tryz.pinned (.plain (OpenSpec.upto fnKazhdanSpec)) fnKazhdanUptoCard

/-- THE SECOND FORM's CARD OF 'laws.FnExactPairLine'. -/
def fnExactPairLineUptoCard : Claim7 := { stood := { row := fnExactPairLineUptoRow, standIns := [], harness := (true, "d385bcc6513dd31d431338a489c63914f60d89447ef4c1dcd6f0364ab8e293dd"), looks := false }, kinds := [], alts := [], laidByText := true, laidKinds := [.data, .data, .data, .data, .pinned], laidTests := true, laidLooks := .later }
def FnExactPairLineUptoCardSaid : Prop := Claim7.holds Tryz.pinned (.plain (OpenSpec.upto fnExactPairLineSpec)) fnExactPairLineUptoCard
end Rows
end Go.Proofs.YtdedkfbiookofaaGreatDoor
