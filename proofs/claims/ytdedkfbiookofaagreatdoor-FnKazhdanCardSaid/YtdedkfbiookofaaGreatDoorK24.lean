/- The kernel's enumeration, rank 3, part 6. -/
import Derived.Test.YtdedkfbiookofaaGreatDoorK23
namespace Go.Proofs.YtdedkfbiookofaaGreatDoor
set_option maxRecDepth 100000
open Go.RowKit Game
theorem kh_300_4 : kh24 (mat3 (0, 0) (0, 0) (-1, -3)) = true := by kernel_rfl
theorem kh_300_5 : kh24 (mat3 (0, 0) (0, 0) (-3, -1)) = true := by kernel_rfl
theorem kh_3_00 : chk3At kh24 (0, 0) (0, 0) = true := by
  unfold chk3At
  simp only [L6, List.all_cons, List.all_nil, Bool.and_true, Bool.or_true, kh_300_0, kh_300_1, kh_300_2, kh_300_3, kh_300_4, kh_300_5]
end Go.Proofs.YtdedkfbiookofaaGreatDoor
