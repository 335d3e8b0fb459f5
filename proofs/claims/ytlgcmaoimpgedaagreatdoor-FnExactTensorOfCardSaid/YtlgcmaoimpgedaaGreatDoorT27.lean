/- SzK3 -/
import Derived.Test.YtlgcmaoimpgedaaGreatDoorT20
set_option maxRecDepth 100000
set_option linter.unusedSimpArgs false
namespace Go.Proofs.YtlgcmaoimpgedaaGreatDoor
open Go.Value renaming slice->qS
section
open Go.RowKit Game
theorem zEg:zad szK (-1,-3) (0,0)=true:=by kernel_rfl
theorem zEh:zad szK (-1,-3) (-1,-1)=true:=by kernel_rfl
theorem zEi:zad szK (-1,-3) (-1,-2)=true:=by kernel_rfl
theorem zEj:zad szK (-1,-3) (-2,-1)=true:=by kernel_rfl
theorem zEk:zad szK (-1,-3) (-1,-3)=true:=by kernel_rfl
theorem zEl:zad szK (-1,-3) (-3,-1)=true:=by kernel_rfl
theorem zEm:zad szK (-3,-1) (0,0)=true:=by kernel_rfl
theorem zEn:zad szK (-3,-1) (-1,-1)=true:=by kernel_rfl
theorem zEo:zad szK (-3,-1) (-1,-2)=true:=by kernel_rfl
theorem zEp:zad szK (-3,-1) (-2,-1)=true:=by kernel_rfl
theorem zEq:zad szK (-3,-1) (-1,-3)=true:=by kernel_rfl
theorem zEr:zad szK (-3,-1) (-3,-1)=true:=by kernel_rfl
end
end Go.Proofs.YtlgcmaoimpgedaaGreatDoor
