/- The kernel's enumeration, rank 3, part 2. -/
import Derived.Test.YtdedkfbiookofaaGreatDoorK21
import Derived.Test.YtdedkfbiookofaaGreatDoorK22
namespace Go.Proofs.YtdedkfbiookofaaGreatDoor
set_option maxRecDepth 100000
open Go.RowKit Game
theorem kh_3_01 : chk3At kh24 (0, 0) (-1, -1) = true := by kernel_rfl
theorem kh_3_02 : chk3At kh24 (0, 0) (-1, -2) = true := by kernel_rfl
theorem kh_3_03 : chk3At kh24 (0, 0) (-2, -1) = true := by kernel_rfl
end Go.Proofs.YtdedkfbiookofaaGreatDoor
