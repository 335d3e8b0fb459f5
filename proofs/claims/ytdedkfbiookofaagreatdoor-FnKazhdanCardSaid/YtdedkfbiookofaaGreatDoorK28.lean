/- The kernel's enumeration, rank 3, part 5. -/
import Derived.Test.YtdedkfbiookofaaGreatDoorK21
import Derived.Test.YtdedkfbiookofaaGreatDoorK22
namespace Go.Proofs.YtdedkfbiookofaaGreatDoor
set_option maxRecDepth 100000
open Go.RowKit Game
theorem kh_3_20 : chk3At kh24 (-1, -2) (0, 0) = true := by kernel_rfl
theorem kh_3_21 : chk3At kh24 (-1, -2) (-1, -1) = true := by kernel_rfl
theorem kh_3_22 : chk3At kh24 (-1, -2) (-1, -2) = true := by kernel_rfl
theorem kh_3_23 : chk3At kh24 (-1, -2) (-2, -1) = true := by kernel_rfl
theorem kh_3_24 : chk3At kh24 (-1, -2) (-1, -3) = true := by kernel_rfl
theorem kh_3_25 : chk3At kh24 (-1, -2) (-3, -1) = true := by kernel_rfl
theorem kh_3_30 : chk3At kh24 (-2, -1) (0, 0) = true := by kernel_rfl
theorem kh_3_31 : chk3At kh24 (-2, -1) (-1, -1) = true := by kernel_rfl
theorem kh_3_32 : chk3At kh24 (-2, -1) (-1, -2) = true := by kernel_rfl
theorem kh_3_33 : chk3At kh24 (-2, -1) (-2, -1) = true := by kernel_rfl
theorem kh_3_34 : chk3At kh24 (-2, -1) (-1, -3) = true := by kernel_rfl
theorem kh_3_35 : chk3At kh24 (-2, -1) (-3, -1) = true := by kernel_rfl
end Go.Proofs.YtdedkfbiookofaaGreatDoor
