/- Enum -/
import Derived.Test.YtlgcmaoimpgedaaGreatDoorT08
set_option maxRecDepth 100000
set_option linter.unusedSimpArgs false
namespace Go.Proofs.YtlgcmaoimpgedaaGreatDoor
open Go.Value renaming slice->qS
section
open Go.RowKit
def zlp(c:LL):Bool:=
 match zbJ c 30 (zdu c.length) with
 |none=>false
 |some long=>decide (long.length<=24)&&((zct c long (zax c.length)==zdu c.length)&&(List.range c.length).all fun i=>(List.range c.length).any fun j=>zct c long (refl c i (zax c.length))==refl c j (zdu c.length))
theorem zKl:zlp [[2]]=true:=by kernel_rfl
theorem zGU:ziY zlp=true:=by kernel_rfl
theorem zGV:ziZ zlp=true:=by kernel_rfl
theorem zGW:zip zlp=true:=by kernel_rfl
end
end Go.Proofs.YtlgcmaoimpgedaaGreatDoor
