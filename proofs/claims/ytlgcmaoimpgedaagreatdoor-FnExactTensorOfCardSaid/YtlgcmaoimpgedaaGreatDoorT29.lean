/- SzK5 -/
import Derived.Test.YtlgcmaoimpgedaaGreatDoorT20
set_option maxRecDepth 100000
set_option linter.unusedSimpArgs false
namespace Go.Proofs.YtlgcmaoimpgedaaGreatDoor
open Go.Value renaming slice->qS
section
open Go.RowKit Game
theorem zIt:znl szK (0,0) (0,0) (-1,-1)=true:=by kernel_rfl
theorem zIu:znl szK (0,0) (0,0) (-1,-2)=true:=by kernel_rfl
theorem zIv:znl szK (0,0) (0,0) (-2,-1)=true:=by kernel_rfl
theorem zIw:znl szK (0,0) (0,0) (-1,-3)=true:=by kernel_rfl
theorem zIx:znl szK (0,0) (0,0) (-3,-1)=true:=by kernel_rfl
end
end Go.Proofs.YtlgcmaoimpgedaaGreatDoor
