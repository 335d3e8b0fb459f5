/-
  DERIVED. GIVEN WITH THE SEED: THE CARDS: each row of YticnocoeldfiiaaGreatDoorRows.lean that lists a variable, with what it lists TIED to the program's text (the seventh form; the later family's looks); each row that meets fmt, with fmt's text TOLD by the authors' own Lean function (tested against real Go, not proved from fmt's source: count such statements apart). THE CARD IS WHAT COUNTS. Prove the row's statement (the work); the ties are given (YticnocoeldfiiaaGreatDoorTie.lean); close each card by the builder's one call (the guide's Derived/Test/ToyasCard.lean, 'card_holds'). Laid BY PROGRAM, IN A SANDBOX (cutbox-door.mjs). By AI agents, Wed Nov 11 2026. No macro, syntax, notation, axiom, sorry.
-/
import Derived.Test.YticnocoeldfiiaaGreatDoorRows
import GoSem.ClaimSeven
namespace Go.Proofs.YticnocoeldfiiaaGreatDoor
namespace Rows

/-- THE TIED CARD OF 'laws.FnExactRootLine'. -/
def fnExactRootLineCard : Claim7 := { stood := { row := fnExactRootLineRow, standIns := [], harness := (true, "83c5cf00bcb67bae83978e741d6569ce09955c551c5e1a309e4e1da12d5748b0"), looks := false }, kinds := [], alts := [], laidByText := true, laidKinds := [.data, .data, .data], laidTests := true, laidLooks := .later }
def FnExactRootLineCardSaid : Prop := Claim7.holds Tryz.pinned (.plain (OpenSpec.ofChange fnExactRootLineSpec)) fnExactRootLineCard

/-- THE TIED CARD OF 'laws.FnExactWordLine'. -/
def fnExactWordLineCard : Claim7 := { stood := { row := fnExactWordLineRow, standIns := [], harness := (true, "83c5cf00bcb67bae83978e741d6569ce09955c551c5e1a309e4e1da12d5748b0"), looks := false }, kinds := [], alts := [], laidByText := true, laidKinds := [.data, .data, .data], laidTests := true, laidLooks := .later }
def FnExactWordLineCardSaid : Prop := Claim7.holds Tryz.pinned (.plain (OpenSpec.ofChange fnExactWordLineSpec)) fnExactWordLineCard

/-- THE SECOND FORM's CARD OF 'laws.FnExactRootLine'. -/
def fnExactRootLineUptoCard : Claim7 := { stood := { row := fnExactRootLineUptoRow, standIns := [], harness := (true, "83c5cf00bcb67bae83978e741d6569ce09955c551c5e1a309e4e1da12d5748b0"), looks := false }, kinds := [], alts := [], laidByText := true, laidKinds := [.data, .data, .data], laidTests := true, laidLooks := .later }
def FnExactRootLineUptoCardSaid : Prop := Claim7.holds Tryz.pinned (.plain (OpenSpec.upto fnExactRootLineSpec)) fnExactRootLineUptoCard

/-- THE SECOND FORM's CARD OF 'laws.FnExactWordLine'. -/
def fnExactWordLineUptoCard : Claim7 := { stood := { row := fnExactWordLineUptoRow, standIns := [], harness := (true, "83c5cf00bcb67bae83978e741d6569ce09955c551c5e1a309e4e1da12d5748b0"), looks := false }, kinds := [], alts := [], laidByText := true, laidKinds := [.data, .data, .data], laidTests := true, laidLooks := .later }
def FnExactWordLineUptoCardSaid : Prop := Claim7.holds Tryz.pinned (.plain (OpenSpec.upto fnExactWordLineSpec)) fnExactWordLineUptoCard
end Rows
end Go.Proofs.YticnocoeldfiiaaGreatDoor
