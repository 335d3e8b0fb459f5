/- SzK4 -/
import Derived.Test.YtlgcmaoimpgedaaGreatDoorT20
set_option maxRecDepth 100000
set_option linter.unusedSimpArgs false
namespace Go.Proofs.YtlgcmaoimpgedaaGreatDoor
open Go.Value renaming slice->qS
section
open Go.RowKit Game
theorem zIn:zpg szK (0,0) (0,0) (0,0) (0,0)=true:=by kernel_rfl
theorem zIo:zpg szK (0,0) (0,0) (0,0) (-1,-1)=true:=by kernel_rfl
theorem zIp:zpg szK (0,0) (0,0) (0,0) (-1,-2)=true:=by kernel_rfl
theorem zIq:zpg szK (0,0) (0,0) (0,0) (-2,-1)=true:=by kernel_rfl
theorem zIr:zpg szK (0,0) (0,0) (0,0) (-1,-3)=true:=by kernel_rfl
theorem zIs:zpg szK (0,0) (0,0) (0,0) (-3,-1)=true:=by kernel_rfl
end
end Go.Proofs.YtlgcmaoimpgedaaGreatDoor
