/-
  DERIVED. GIVEN WITH THE SEED: THE CARDS: each row of YtldcmhgpppeooaaGreatDoorRows.lean that lists a variable, with what it lists TIED to the program's text (the seventh form; the later family's looks); each row that meets fmt, with fmt's text TOLD by the authors' own Lean function (tested against real Go, not proved from fmt's source: count such statements apart). THE CARD IS WHAT COUNTS. Prove the row's statement (the work); the ties are given (YtldcmhgpppeooaaGreatDoorTie.lean); close each card by the builder's one call (the guide's Derived/Test/ToyasCard.lean, 'card_holds'). Laid BY PROGRAM, IN A SANDBOX (cutbox-door.mjs). By AI agents, Wed Nov 11 2026. No macro, syntax, notation, axiom, sorry.
-/
import Derived.Test.YtldcmhgpppeooaaGreatDoorRows
import GoSem.ClaimSeven
namespace Go.Proofs.YtldcmhgpppeooaaGreatDoor
namespace Rows

/-- THE TIED CARD OF 'laws.FnGrowth'. -/
def fnGrowthCard : Claim7 := { stood := { row := fnGrowthRow, standIns := [], harness := (true, "eade2a8482f9e76dde6d2d46e1085ed16e892e9fb557f0c2ea42f70251cec2bd"), looks := false }, kinds := [], alts := [], laidByText := true, laidKinds := [.data, .pinned], laidTests := true, laidLooks := .later }
def FnGrowthCardSaid : Prop := Claim7.holds Tryz.pinned (.plain (OpenSpec.ofChange fnGrowthSpec)) fnGrowthCard

/-- THE TIED CARD OF 'laws.FnGroups'. -/
def fnGroupsCard : Claim7 := { stood := { row := fnGroupsRow, standIns := [], harness := (true, "eade2a8482f9e76dde6d2d46e1085ed16e892e9fb557f0c2ea42f70251cec2bd"), looks := false }, kinds := [], alts := [], laidByText := true, laidKinds := [.data, .pinned], laidTests := true, laidLooks := .later }
def FnGroupsCardSaid : Prop := Claim7.holds Tryz.pinned (.plain (OpenSpec.ofChange fnGroupsSpec)) fnGroupsCard

/-- THE SECOND FORM's CARD OF 'laws.FnGrowth'. -/
def fnGrowthUptoCard : Claim7 := { stood := { row := fnGrowthUptoRow, standIns := [], harness := (true, "eade2a8482f9e76dde6d2d46e1085ed16e892e9fb557f0c2ea42f70251cec2bd"), looks := false }, kinds := [], alts := [], laidByText := true, laidKinds := [.data, .pinned], laidTests := true, laidLooks := .later }
def FnGrowthUptoCardSaid : Prop := Claim7.holds Tryz.pinned (.plain (OpenSpec.upto fnGrowthSpec)) fnGrowthUptoCard

/-- THE SECOND FORM's CARD OF 'laws.FnGroups'. -/
def fnGroupsUptoCard : Claim7 := { stood := { row := fnGroupsUptoRow, standIns := [], harness := (true, "eade2a8482f9e76dde6d2d46e1085ed16e892e9fb557f0c2ea42f70251cec2bd"), looks := false }, kinds := [], alts := [], laidByText := true, laidKinds := [.data, .pinned], laidTests := true, laidLooks := .later }
def FnGroupsUptoCardSaid : Prop := Claim7.holds Tryz.pinned (.plain (OpenSpec.upto fnGroupsSpec)) fnGroupsUptoCard
end Rows
end Go.Proofs.YtldcmhgpppeooaaGreatDoor
