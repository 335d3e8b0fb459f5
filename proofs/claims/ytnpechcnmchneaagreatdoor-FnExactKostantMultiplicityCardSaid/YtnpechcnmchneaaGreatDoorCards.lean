/-
  DERIVED. GIVEN WITH THE SEED: THE CARDS: each row of YtnpechcnmchneaaGreatDoorRows.lean that lists a variable, with what it lists TIED to the program's text (the seventh form; the later family's looks); each row that meets fmt, with fmt's text TOLD by the authors' own Lean function (tested against real Go, not proved from fmt's source: count such statements apart). THE CARD IS WHAT COUNTS. Prove the row's statement (the work); the ties are given (YtnpechcnmchneaaGreatDoorTie.lean); close each card by the builder's one call (the guide's Derived/Test/ToyasCard.lean, 'card_holds'). Laid BY PROGRAM, IN A SANDBOX (cutbox-door.mjs). By AI agents, Wed Nov 11 2026. No macro, syntax, notation, axiom, sorry.
-/
import Derived.Test.YtnpechcnmchneaaGreatDoorRows
import GoSem.ClaimSeven
namespace Go.Proofs.YtnpechcnmchneaaGreatDoor
namespace Rows

/-- THE TIED CARD OF 'laws.FnExactGroupLine'. -/
def fnExactGroupLineCard : Claim7 := { stood := { row := fnExactGroupLineRow, standIns := [], harness := (true, "1536cd3f699b80fe379dbcb4b8fed3e1c571bf6d448f03020572644a1e0827e1"), looks := false }, kinds := [], alts := [], laidByText := true, laidKinds := [.data, .data, .data, .data, .pinned], laidTests := true, laidLooks := .later }
def FnExactGroupLineCardSaid : Prop := Claim7.holds Tryz.pinned (.plain (OpenSpec.ofChange fnExactGroupLineSpec)) fnExactGroupLineCard

/-- THE TIED CARD OF 'laws.FnExactKostantMultiplicity'. -/
def fnExactKostantMultiplicityCard : Claim7 := { stood := { row := fnExactKostantMultiplicityRow, standIns := [], harness := (true, "1536cd3f699b80fe379dbcb4b8fed3e1c571bf6d448f03020572644a1e0827e1"), looks := false }, kinds := [], alts := [], laidByText := true, laidKinds := [.data, .pinned], laidTests := true, laidLooks := .later }
def FnExactKostantMultiplicityCardSaid : Prop := Claim7.holds Tryz.pinned (.plain (OpenSpec.ofChange fnExactKostantMultiplicitySpec)) fnExactKostantMultiplicityCard

/-- THE SECOND FORM's CARD OF 'laws.FnExactGroupLine'. -/
def fnExactGroupLineUptoCard : Claim7 := { stood := { row := fnExactGroupLineUptoRow, standIns := [], harness := (true, "1536cd3f699b80fe379dbcb4b8fed3e1c571bf6d448f03020572644a1e0827e1"), looks := false }, kinds := [], alts := [], laidByText := true, laidKinds := [.data, .data, .data, .data, .pinned], laidTests := true, laidLooks := .later }
def FnExactGroupLineUptoCardSaid : Prop := Claim7.holds Tryz.pinned (.plain (OpenSpec.upto fnExactGroupLineSpec)) fnExactGroupLineUptoCard

/-- THE SECOND FORM's CARD OF 'laws.FnExactKostantMultiplicity'. -/
def fnExactKostantMultiplicityUptoCard : Claim7 := { stood := { row := fnExactKostantMultiplicityUptoRow, standIns := [], harness := (true, "1536cd3f699b80fe379dbcb4b8fed3e1c571bf6d448f03020572644a1e0827e1"), looks := false }, kinds := [], alts := [], laidByText := true, laidKinds := [.data, .pinned], laidTests := true, laidLooks := .later }
def FnExactKostantMultiplicityUptoCardSaid : Prop := Claim7.holds Tryz.pinned (.plain (OpenSpec.upto fnExactKostantMultiplicitySpec)) fnExactKostantMultiplicityUptoCard
end Rows
end Go.Proofs.YtnpechcnmchneaaGreatDoor
