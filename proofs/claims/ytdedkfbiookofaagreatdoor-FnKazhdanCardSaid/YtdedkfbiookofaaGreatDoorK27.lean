/- The kernel's enumeration, rank 3, part 4. -/
import Derived.Test.YtdedkfbiookofaaGreatDoorK21
import Derived.Test.YtdedkfbiookofaaGreatDoorK22
namespace Go.Proofs.YtdedkfbiookofaaGreatDoor
set_option maxRecDepth 100000
open Go.RowKit Game
theorem kh_3_10 : chk3At kh24 (-1, -1) (0, 0) = true := by kernel_rfl
theorem kh_3_11 : chk3At kh24 (-1, -1) (-1, -1) = true := by kernel_rfl
theorem kh_3_12 : chk3At kh24 (-1, -1) (-1, -2) = true := by kernel_rfl
theorem kh_3_13 : chk3At kh24 (-1, -1) (-2, -1) = true := by kernel_rfl
theorem kh_3_14 : chk3At kh24 (-1, -1) (-1, -3) = true := by kernel_rfl
theorem kh_3_15 : chk3At kh24 (-1, -1) (-3, -1) = true := by kernel_rfl
end Go.Proofs.YtdedkfbiookofaaGreatDoor
