/- The kernel's enumeration, rank 3, part 3. -/
import Derived.Test.YtdedkfbiookofaaGreatDoorK21
import Derived.Test.YtdedkfbiookofaaGreatDoorK22
namespace Go.Proofs.YtdedkfbiookofaaGreatDoor
set_option maxRecDepth 100000
open Go.RowKit Game
theorem kh_3_04 : chk3At kh24 (0, 0) (-1, -3) = true := by kernel_rfl
theorem kh_3_05 : chk3At kh24 (0, 0) (-3, -1) = true := by kernel_rfl
end Go.Proofs.YtdedkfbiookofaaGreatDoor
