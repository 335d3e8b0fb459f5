/- SzK1 -/
import Derived.Test.YtlgcmaoimpgedaaGreatDoorT20
set_option maxRecDepth 100000
set_option linter.unusedSimpArgs false
namespace Go.Proofs.YtlgcmaoimpgedaaGreatDoor
open Go.Value renaming slice->qS
section
open Go.RowKit Game
theorem zKv:szK [[2]]=true:=by kernel_rfl
theorem zKw:ziY szK=true:=by kernel_rfl
theorem zKx:ziZ szK=true:=by kernel_rfl
theorem zDJ:zad szK (0,0) (-1,-1)=true:=by kernel_rfl
theorem zDK:zad szK (0,0) (-1,-2)=true:=by kernel_rfl
theorem zDL:zad szK (0,0) (-2,-1)=true:=by kernel_rfl
theorem zDM:zad szK (0,0) (-1,-3)=true:=by kernel_rfl
theorem zDN:zad szK (0,0) (-3,-1)=true:=by kernel_rfl
theorem zDO:zad szK (-1,-1) (0,0)=true:=by kernel_rfl
theorem zDP:zad szK (-1,-1) (-1,-1)=true:=by kernel_rfl
theorem zDQ:zad szK (-1,-1) (-1,-2)=true:=by kernel_rfl
theorem zDR:zad szK (-1,-1) (-2,-1)=true:=by kernel_rfl
theorem zDS:zad szK (-1,-1) (-1,-3)=true:=by kernel_rfl
theorem zDT:zad szK (-1,-1) (-3,-1)=true:=by kernel_rfl
end
end Go.Proofs.YtlgcmaoimpgedaaGreatDoor
