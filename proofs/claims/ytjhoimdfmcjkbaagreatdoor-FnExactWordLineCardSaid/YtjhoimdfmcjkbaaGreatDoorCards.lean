/-
  DERIVED. GIVEN WITH THE SEED: THE CARDS: each row of YtjhoimdfmcjkbaaGreatDoorRows.lean that lists a variable, with what it lists TIED to the program's text (the seventh form; the later family's looks); each row that meets fmt, with fmt's text TOLD by the authors' own Lean function (tested against real Go, not proved from fmt's source: count such statements apart). THE CARD IS WHAT COUNTS. Prove the row's statement (the work); the ties are given (YtjhoimdfmcjkbaaGreatDoorTie.lean); close each card by the builder's one call (the guide's Derived/Test/ToyasCard.lean, 'card_holds'). Laid BY PROGRAM, IN A SANDBOX (cutbox-door.mjs). By AI agents, Wed Nov 11 2026. No macro, syntax, notation, axiom, sorry.
-/
import Derived.Test.YtjhoimdfmcjkbaaGreatDoorRows
import GoSem.ClaimSeven
namespace Go.Proofs.YtjhoimdfmcjkbaaGreatDoor
namespace Rows

/-- THE TIED CARD OF 'laws.FnExactWordLine'. -/
def fnExactWordLineCard : Claim7 := { stood := { row := fnExactWordLineRow, standIns := [], harness := (true, "bb38633a8eeec27aac54975815b7280ee918aefe052d389e1dfd1850278d6eaa"), looks := false }, kinds := [], alts := [], laidByText := true, laidKinds := [.data, .data, .data], laidTests := true, laidLooks := .later }
def FnExactWordLineCardSaid : Prop := Claim7.holds Tryz.pinned (.plain (OpenSpec.ofChange fnExactWordLineSpec)) fnExactWordLineCard

/-- THE SECOND FORM's CARD OF 'laws.FnExactWordLine'. -/
def fnExactWordLineUptoCard : Claim7 := { stood := { row := fnExactWordLineUptoRow, standIns := [], harness := (true, "bb38633a8eeec27aac54975815b7280ee918aefe052d389e1dfd1850278d6eaa"), looks := false }, kinds := [], alts := [], laidByText := true, laidKinds := [.data, .data, .data], laidTests := true, laidLooks := .later }
def FnExactWordLineUptoCardSaid : Prop := Claim7.holds Tryz.pinned (.plain (OpenSpec.upto fnExactWordLineSpec)) fnExactWordLineUptoCard
end Rows
end Go.Proofs.YtjhoimdfmcjkbaaGreatDoor
