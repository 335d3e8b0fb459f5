/- The kernel's enumeration, rank 4, part 3. -/
import Derived.Test.YtdedkfbiookofaaGreatDoorK30
namespace Go.Proofs.YtdedkfbiookofaaGreatDoor
set_option maxRecDepth 100000
open Go.RowKit Game
theorem kh_4_01 : chk4At kh24 (0, 0) (-1, -1) = true := by kernel_rfl
theorem kh_4_02 : chk4At kh24 (0, 0) (-1, -2) = true := by kernel_rfl
theorem kh_4_03 : chk4At kh24 (0, 0) (-2, -1) = true := by kernel_rfl
theorem kh_4_04 : chk4At kh24 (0, 0) (-1, -3) = true := by kernel_rfl
theorem kh_4_05 : chk4At kh24 (0, 0) (-3, -1) = true := by kernel_rfl
theorem kh_4_10 : chk4At kh24 (-1, -1) (0, 0) = true := by kernel_rfl
theorem kh_4_11 : chk4At kh24 (-1, -1) (-1, -1) = true := by kernel_rfl
theorem kh_4_12 : chk4At kh24 (-1, -1) (-1, -2) = true := by kernel_rfl
theorem kh_4_13 : chk4At kh24 (-1, -1) (-2, -1) = true := by kernel_rfl
theorem kh_4_14 : chk4At kh24 (-1, -1) (-1, -3) = true := by kernel_rfl
theorem kh_4_15 : chk4At kh24 (-1, -1) (-3, -1) = true := by kernel_rfl
theorem kh_4_20 : chk4At kh24 (-1, -2) (0, 0) = true := by kernel_rfl
theorem kh_4_21 : chk4At kh24 (-1, -2) (-1, -1) = true := by kernel_rfl
theorem kh_4_22 : chk4At kh24 (-1, -2) (-1, -2) = true := by kernel_rfl
theorem kh_4_23 : chk4At kh24 (-1, -2) (-2, -1) = true := by kernel_rfl
theorem kh_4_24 : chk4At kh24 (-1, -2) (-1, -3) = true := by kernel_rfl
theorem kh_4_25 : chk4At kh24 (-1, -2) (-3, -1) = true := by kernel_rfl
theorem kh_4_30 : chk4At kh24 (-2, -1) (0, 0) = true := by kernel_rfl
theorem kh_4_31 : chk4At kh24 (-2, -1) (-1, -1) = true := by kernel_rfl
theorem kh_4_32 : chk4At kh24 (-2, -1) (-1, -2) = true := by kernel_rfl
theorem kh_4_33 : chk4At kh24 (-2, -1) (-2, -1) = true := by kernel_rfl
theorem kh_4_34 : chk4At kh24 (-2, -1) (-1, -3) = true := by kernel_rfl
theorem kh_4_35 : chk4At kh24 (-2, -1) (-3, -1) = true := by kernel_rfl
theorem kh_4_40 : chk4At kh24 (-1, -3) (0, 0) = true := by kernel_rfl
theorem kh_4_41 : chk4At kh24 (-1, -3) (-1, -1) = true := by kernel_rfl
theorem kh_4_42 : chk4At kh24 (-1, -3) (-1, -2) = true := by kernel_rfl
theorem kh_4_43 : chk4At kh24 (-1, -3) (-2, -1) = true := by kernel_rfl
theorem kh_4_44 : chk4At kh24 (-1, -3) (-1, -3) = true := by kernel_rfl
theorem kh_4_45 : chk4At kh24 (-1, -3) (-3, -1) = true := by kernel_rfl
theorem kh_4_50 : chk4At kh24 (-3, -1) (0, 0) = true := by kernel_rfl
theorem kh_4_51 : chk4At kh24 (-3, -1) (-1, -1) = true := by kernel_rfl
theorem kh_4_52 : chk4At kh24 (-3, -1) (-1, -2) = true := by kernel_rfl
theorem kh_4_53 : chk4At kh24 (-3, -1) (-2, -1) = true := by kernel_rfl
theorem kh_4_54 : chk4At kh24 (-3, -1) (-1, -3) = true := by kernel_rfl
theorem kh_4_55 : chk4At kh24 (-3, -1) (-3, -1) = true := by kernel_rfl
end Go.Proofs.YtdedkfbiookofaaGreatDoor
