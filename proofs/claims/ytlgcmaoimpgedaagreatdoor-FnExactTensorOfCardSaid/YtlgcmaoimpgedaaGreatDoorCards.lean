/-
  DERIVED. GIVEN WITH THE SEED: THE CARDS: each row of YtlgcmaoimpgedaaGreatDoorRows.lean that lists a variable, with what it lists TIED to the program's text (the seventh form; the later family's looks); each row that meets fmt, with fmt's text TOLD by the authors' own Lean function (tested against real Go, not proved from fmt's source: count such statements apart). THE CARD IS WHAT COUNTS. Prove the row's statement (the work); the ties are given (YtlgcmaoimpgedaaGreatDoorTie.lean); close each card by the builder's one call (the guide's Derived/Test/ToyasCard.lean, 'card_holds'). Laid BY PROGRAM, IN A SANDBOX (cutbox-door.mjs). By AI agents, Wed Nov 11 2026. No macro, syntax, notation, axiom, sorry.
-/
import Derived.Test.YtlgcmaoimpgedaaGreatDoorRows
import GoSem.ClaimSeven
namespace Go.Proofs.YtlgcmaoimpgedaaGreatDoor
namespace Rows

/-- THE TIED CARD OF 'laws.FnTensors'. -/
def fnTensorsCard : Claim7 := { stood := { row := fnTensorsRow, standIns := [], harness := (true, "7832f5148f343d5fd4abdd7ccbe09eb5550fd467ac65551ea8992b7f4fc47fd2"), looks := false }, kinds := [], alts := [], laidByText := true, laidKinds := [.data, .pinned], laidTests := true, laidLooks := .later }
def FnTensorsCardSaid : Prop := Claim7.holds Tryz.pinned (.plain (OpenSpec.ofChange fnTensorsSpec)) fnTensorsCard

/-- THE TIED CARD OF 'laws.FnExactHasTrivial'. -/
def fnExactHasTrivialCard : Claim7 := { stood := { row := fnExactHasTrivialRow, standIns := [], harness := (true, "7832f5148f343d5fd4abdd7ccbe09eb5550fd467ac65551ea8992b7f4fc47fd2"), looks := false }, kinds := [], alts := [], laidByText := true, laidKinds := [.data, .pinned], laidTests := true, laidLooks := .later }
def FnExactHasTrivialCardSaid : Prop := Claim7.holds Tryz.pinned (.plain (OpenSpec.ofChange fnExactHasTrivialSpec)) fnExactHasTrivialCard

/-- THE TIED CARD OF 'laws.FnExactTensorOf'. -/
def fnExactTensorOfCard : Claim7 := { stood := { row := fnExactTensorOfRow, standIns := [], harness := (true, "7832f5148f343d5fd4abdd7ccbe09eb5550fd467ac65551ea8992b7f4fc47fd2"), looks := false }, kinds := [], alts := [], laidByText := true, laidKinds := [.data, .pinned], laidTests := true, laidLooks := .later }
def FnExactTensorOfCardSaid : Prop := Claim7.holds Tryz.pinned (.plain (OpenSpec.ofChange fnExactTensorOfSpec)) fnExactTensorOfCard

/-- THE TIED CARD OF 'laws.FnExactTensorPower'. -/
def fnExactTensorPowerCard : Claim7 := { stood := { row := fnExactTensorPowerRow, standIns := [], harness := (true, "7832f5148f343d5fd4abdd7ccbe09eb5550fd467ac65551ea8992b7f4fc47fd2"), looks := false }, kinds := [], alts := [], laidByText := true, laidKinds := [.data, .pinned], laidTests := true, laidLooks := .later }
def FnExactTensorPowerCardSaid : Prop := Claim7.holds Tryz.pinned (.plain (OpenSpec.ofChange fnExactTensorPowerSpec)) fnExactTensorPowerCard

/-- THE SECOND FORM's CARD OF 'laws.FnTensors'. -/
def fnTensorsUptoCard : Claim7 := { stood := { row := fnTensorsUptoRow, standIns := [], harness := (true, "7832f5148f343d5fd4abdd7ccbe09eb5550fd467ac65551ea8992b7f4fc47fd2"), looks := false }, kinds := [], alts := [], laidByText := true, laidKinds := [.data, .pinned], laidTests := true, laidLooks := .later }
def FnTensorsUptoCardSaid : Prop := Claim7.holds Tryz.pinned (.plain (OpenSpec.upto fnTensorsSpec)) fnTensorsUptoCard

/-- THE SECOND FORM's CARD OF 'laws.FnExactHasTrivial'. -/
def fnExactHasTrivialUptoCard : Claim7 := { stood := { row := fnExactHasTrivialUptoRow, standIns := [], harness := (true, "7832f5148f343d5fd4abdd7ccbe09eb5550fd467ac65551ea8992b7f4fc47fd2"), looks := false }, kinds := [], alts := [], laidByText := true, laidKinds := [.data, .pinned], laidTests := true, laidLooks := .later }
def FnExactHasTrivialUptoCardSaid : Prop := Claim7.holds Tryz.pinned (.plain (OpenSpec.upto fnExactHasTrivialSpec)) fnExactHasTrivialUptoCard

/-- THE SECOND FORM's CARD OF 'laws.FnExactTensorOf'. -/
def fnExactTensorOfUptoCard : Claim7 := { stood := { row := fnExactTensorOfUptoRow, standIns := [], harness := (true, "7832f5148f343d5fd4abdd7ccbe09eb5550fd467ac65551ea8992b7f4fc47fd2"), looks := false }, kinds := [], alts := [], laidByText := true, laidKinds := [.data, .pinned], laidTests := true, laidLooks := .later }
def FnExactTensorOfUptoCardSaid : Prop := Claim7.holds Tryz.pinned (.plain (OpenSpec.upto fnExactTensorOfSpec)) fnExactTensorOfUptoCard

/-- THE SECOND FORM's CARD OF 'laws.FnExactTensorPower'. -/
def fnExactTensorPowerUptoCard : Claim7 := { stood := { row := fnExactTensorPowerUptoRow, standIns := [], harness := (true, "7832f5148f343d5fd4abdd7ccbe09eb5550fd467ac65551ea8992b7f4fc47fd2"), looks := false }, kinds := [], alts := [], laidByText := true, laidKinds := [.data, .pinned], laidTests := true, laidLooks := .later }
def FnExactTensorPowerUptoCardSaid : Prop := Claim7.holds Tryz.pinned (.plain (OpenSpec.upto fnExactTensorPowerSpec)) fnExactTensorPowerUptoCard
end Rows
end Go.Proofs.YtlgcmaoimpgedaaGreatDoor
