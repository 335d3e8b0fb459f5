/- What the polynomials hold at all groups of at most 24 elements: the kernel's enumeration, ranks up to 2, some of rank 3. -/
import Derived.Test.YtdedkfbiookofaaGreatDoorK21
import Derived.Test.YtdedkfbiookofaaGreatDoorK22
namespace Go.Proofs.YtdedkfbiookofaaGreatDoor
set_option maxRecDepth 100000
open Go.RowKit Game
theorem kh_1 : kh24 [[2]] = true := by kernel_rfl
theorem kh_2 : chk2 kh24 = true := by kernel_rfl
theorem kh_300_0 : kh24 (mat3 (0, 0) (0, 0) (0, 0)) = true := by kernel_rfl
theorem kh_300_1 : kh24 (mat3 (0, 0) (0, 0) (-1, -1)) = true := by kernel_rfl
theorem kh_300_2 : kh24 (mat3 (0, 0) (0, 0) (-1, -2)) = true := by kernel_rfl
theorem kh_300_3 : kh24 (mat3 (0, 0) (0, 0) (-2, -1)) = true := by kernel_rfl
end Go.Proofs.YtdedkfbiookofaaGreatDoor
