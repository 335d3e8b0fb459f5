/- The kernel's enumeration, rank 3. -/
import Derived.Test.YtdedkfbiookofaaGreatDoorK21
import Derived.Test.YtdedkfbiookofaaGreatDoorK22
import Derived.Test.YtdedkfbiookofaaGreatDoorK24
import Derived.Test.YtdedkfbiookofaaGreatDoorK25
import Derived.Test.YtdedkfbiookofaaGreatDoorK26
import Derived.Test.YtdedkfbiookofaaGreatDoorK27
import Derived.Test.YtdedkfbiookofaaGreatDoorK28
namespace Go.Proofs.YtdedkfbiookofaaGreatDoor
set_option maxRecDepth 100000
open Go.RowKit Game
theorem kh_3_40 : chk3At kh24 (-1, -3) (0, 0) = true := by kernel_rfl
theorem kh_3_41 : chk3At kh24 (-1, -3) (-1, -1) = true := by kernel_rfl
theorem kh_3_42 : chk3At kh24 (-1, -3) (-1, -2) = true := by kernel_rfl
theorem kh_3_43 : chk3At kh24 (-1, -3) (-2, -1) = true := by kernel_rfl
theorem kh_3_44 : chk3At kh24 (-1, -3) (-1, -3) = true := by kernel_rfl
theorem kh_3_45 : chk3At kh24 (-1, -3) (-3, -1) = true := by kernel_rfl
theorem kh_3_50 : chk3At kh24 (-3, -1) (0, 0) = true := by kernel_rfl
theorem kh_3_51 : chk3At kh24 (-3, -1) (-1, -1) = true := by kernel_rfl
theorem kh_3_52 : chk3At kh24 (-3, -1) (-1, -2) = true := by kernel_rfl
theorem kh_3_53 : chk3At kh24 (-3, -1) (-2, -1) = true := by kernel_rfl
theorem kh_3_54 : chk3At kh24 (-3, -1) (-1, -3) = true := by kernel_rfl
theorem kh_3_55 : chk3At kh24 (-3, -1) (-3, -1) = true := by kernel_rfl
theorem kh_3 : chk3 kh24 = true := by
  rw [chk3_eq]
  simp only [L6, List.all_cons, List.all_nil, Bool.and_true, kh_3_00, kh_3_01, kh_3_02, kh_3_03, kh_3_04, kh_3_05, kh_3_10, kh_3_11, kh_3_12, kh_3_13, kh_3_14, kh_3_15, kh_3_20, kh_3_21, kh_3_22, kh_3_23, kh_3_24, kh_3_25, kh_3_30, kh_3_31, kh_3_32, kh_3_33, kh_3_34, kh_3_35, kh_3_40, kh_3_41, kh_3_42, kh_3_43, kh_3_44, kh_3_45, kh_3_50, kh_3_51, kh_3_52, kh_3_53, kh_3_54, kh_3_55]
end Go.Proofs.YtdedkfbiookofaaGreatDoor
