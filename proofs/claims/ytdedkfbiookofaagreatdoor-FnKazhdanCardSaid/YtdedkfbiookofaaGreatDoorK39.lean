/- The kernel's enumeration of cells, rank 4, part 1. -/
import Derived.Test.YtdedkfbiookofaaGreatDoorK21
import Derived.Test.YtdedkfbiookofaaGreatDoorK08
namespace Go.Proofs.YtdedkfbiookofaaGreatDoor
set_option maxRecDepth 100000
open Go.RowKit Game
theorem kl_4_00 : chk4At kl24 (0, 0) (0, 0) = true := by kernel_rfl
theorem kl_4_01 : chk4At kl24 (0, 0) (-1, -1) = true := by kernel_rfl
theorem kl_4_02 : chk4At kl24 (0, 0) (-1, -2) = true := by kernel_rfl
theorem kl_4_03 : chk4At kl24 (0, 0) (-2, -1) = true := by kernel_rfl
theorem kl_4_04 : chk4At kl24 (0, 0) (-1, -3) = true := by kernel_rfl
theorem kl_4_05 : chk4At kl24 (0, 0) (-3, -1) = true := by kernel_rfl
end Go.Proofs.YtdedkfbiookofaaGreatDoor
