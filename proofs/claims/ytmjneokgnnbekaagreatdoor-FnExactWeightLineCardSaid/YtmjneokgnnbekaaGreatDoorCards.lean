/-
  DERIVED. GIVEN WITH THE SEED: THE CARDS: each row of YtmjneokgnnbekaaGreatDoorRows.lean that lists a variable, with what it lists TIED to the program's text (the seventh form; the later family's looks); each row that meets fmt, with fmt's text TOLD by the authors' own Lean function (tested against real Go, not proved from fmt's source: count such statements apart). THE CARD IS WHAT COUNTS. Prove the row's statement (the work); the ties are given (YtmjneokgnnbekaaGreatDoorTie.lean); close each card by the builder's one call (the guide's Derived/Test/ToyasCard.lean, 'card_holds'). Laid BY PROGRAM, IN A SANDBOX (cutbox-door.mjs). By AI agents, Wed Nov 11 2026. No macro, syntax, notation, axiom, sorry.
-/
import Derived.Test.YtmjneokgnnbekaaGreatDoorRows
import GoSem.ClaimSeven
namespace Go.Proofs.YtmjneokgnnbekaaGreatDoor
namespace Rows

/-- THE TIED CARD OF 'laws.FnExactWeightLine'. -/
def fnExactWeightLineCard : Claim7 := { stood := { row := fnExactWeightLineRow, standIns := [], harness := (true, "51b8dffb6d45a0d07318d33b513c793c523a71a2392af9a121f7b8f888eb8879"), looks := false }, kinds := [], alts := [], laidByText := true, laidKinds := [.data, .data, .data], laidTests := true, laidLooks := .later }
def FnExactWeightLineCardSaid : Prop := Claim7.holds Tryz.pinned (.plain (OpenSpec.ofChange fnExactWeightLineSpec)) fnExactWeightLineCard

/-- THE SECOND FORM's CARD OF 'laws.FnExactWeightLine'. -/
def fnExactWeightLineUptoCard : Claim7 := { stood := { row := fnExactWeightLineUptoRow, standIns := [], harness := (true, "51b8dffb6d45a0d07318d33b513c793c523a71a2392af9a121f7b8f888eb8879"), looks := false }, kinds := [], alts := [], laidByText := true, laidKinds := [.data, .data, .data], laidTests := true, laidLooks := .later }
def FnExactWeightLineUptoCardSaid : Prop := Claim7.holds Tryz.pinned (.plain (OpenSpec.upto fnExactWeightLineSpec)) fnExactWeightLineUptoCard
end Rows
end Go.Proofs.YtmjneokgnnbekaaGreatDoor
