/- SzK2 -/
import Derived.Test.YtlgcmaoimpgedaaGreatDoorT20
set_option maxRecDepth 100000
set_option linter.unusedSimpArgs false
namespace Go.Proofs.YtlgcmaoimpgedaaGreatDoor
open Go.Value renaming slice->qS
section
open Go.RowKit Game
theorem zDU:zad szK (-1,-2) (0,0)=true:=by kernel_rfl
theorem zDV:zad szK (-1,-2) (-1,-1)=true:=by kernel_rfl
theorem zDW:zad szK (-1,-2) (-1,-2)=true:=by kernel_rfl
theorem zDX:zad szK (-1,-2) (-2,-1)=true:=by kernel_rfl
theorem zDY:zad szK (-1,-2) (-1,-3)=true:=by kernel_rfl
theorem zDZ:zad szK (-1,-2) (-3,-1)=true:=by kernel_rfl
theorem zEa:zad szK (-2,-1) (0,0)=true:=by kernel_rfl
theorem zEb:zad szK (-2,-1) (-1,-1)=true:=by kernel_rfl
theorem zEc:zad szK (-2,-1) (-1,-2)=true:=by kernel_rfl
theorem zEd:zad szK (-2,-1) (-2,-1)=true:=by kernel_rfl
theorem zEe:zad szK (-2,-1) (-1,-3)=true:=by kernel_rfl
theorem zEf:zad szK (-2,-1) (-3,-1)=true:=by kernel_rfl
end
end Go.Proofs.YtlgcmaoimpgedaaGreatDoor
