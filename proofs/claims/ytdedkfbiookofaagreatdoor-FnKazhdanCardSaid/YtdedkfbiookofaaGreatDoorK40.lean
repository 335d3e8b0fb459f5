/- The kernel's enumeration of cells, rank 4. -/
import Derived.Test.YtdedkfbiookofaaGreatDoorK22
import Derived.Test.YtdedkfbiookofaaGreatDoorK39
namespace Go.Proofs.YtdedkfbiookofaaGreatDoor
set_option maxRecDepth 100000
open Go.RowKit Game
theorem kl_4_10 : chk4At kl24 (-1, -1) (0, 0) = true := by kernel_rfl
theorem kl_4_11 : chk4At kl24 (-1, -1) (-1, -1) = true := by kernel_rfl
theorem kl_4_12 : chk4At kl24 (-1, -1) (-1, -2) = true := by kernel_rfl
theorem kl_4_13 : chk4At kl24 (-1, -1) (-2, -1) = true := by kernel_rfl
theorem kl_4_14 : chk4At kl24 (-1, -1) (-1, -3) = true := by kernel_rfl
theorem kl_4_15 : chk4At kl24 (-1, -1) (-3, -1) = true := by kernel_rfl
theorem kl_4_20 : chk4At kl24 (-1, -2) (0, 0) = true := by kernel_rfl
theorem kl_4_21 : chk4At kl24 (-1, -2) (-1, -1) = true := by kernel_rfl
theorem kl_4_22 : chk4At kl24 (-1, -2) (-1, -2) = true := by kernel_rfl
theorem kl_4_23 : chk4At kl24 (-1, -2) (-2, -1) = true := by kernel_rfl
theorem kl_4_24 : chk4At kl24 (-1, -2) (-1, -3) = true := by kernel_rfl
theorem kl_4_25 : chk4At kl24 (-1, -2) (-3, -1) = true := by kernel_rfl
theorem kl_4_30 : chk4At kl24 (-2, -1) (0, 0) = true := by kernel_rfl
theorem kl_4_31 : chk4At kl24 (-2, -1) (-1, -1) = true := by kernel_rfl
theorem kl_4_32 : chk4At kl24 (-2, -1) (-1, -2) = true := by kernel_rfl
theorem kl_4_33 : chk4At kl24 (-2, -1) (-2, -1) = true := by kernel_rfl
theorem kl_4_34 : chk4At kl24 (-2, -1) (-1, -3) = true := by kernel_rfl
theorem kl_4_35 : chk4At kl24 (-2, -1) (-3, -1) = true := by kernel_rfl
theorem kl_4_40 : chk4At kl24 (-1, -3) (0, 0) = true := by kernel_rfl
theorem kl_4_41 : chk4At kl24 (-1, -3) (-1, -1) = true := by kernel_rfl
theorem kl_4_42 : chk4At kl24 (-1, -3) (-1, -2) = true := by kernel_rfl
theorem kl_4_43 : chk4At kl24 (-1, -3) (-2, -1) = true := by kernel_rfl
theorem kl_4_44 : chk4At kl24 (-1, -3) (-1, -3) = true := by kernel_rfl
theorem kl_4_45 : chk4At kl24 (-1, -3) (-3, -1) = true := by kernel_rfl
theorem kl_4_50 : chk4At kl24 (-3, -1) (0, 0) = true := by kernel_rfl
theorem kl_4_51 : chk4At kl24 (-3, -1) (-1, -1) = true := by kernel_rfl
theorem kl_4_52 : chk4At kl24 (-3, -1) (-1, -2) = true := by kernel_rfl
theorem kl_4_53 : chk4At kl24 (-3, -1) (-2, -1) = true := by kernel_rfl
theorem kl_4_54 : chk4At kl24 (-3, -1) (-1, -3) = true := by kernel_rfl
theorem kl_4_55 : chk4At kl24 (-3, -1) (-3, -1) = true := by kernel_rfl
theorem kl_4 : chk4 kl24 = true := by
  rw [chk4_eq]
  simp only [L6, List.all_cons, List.all_nil, Bool.and_true, kl_4_00, kl_4_01, kl_4_02, kl_4_03, kl_4_04, kl_4_05, kl_4_10, kl_4_11, kl_4_12, kl_4_13, kl_4_14, kl_4_15, kl_4_20, kl_4_21, kl_4_22, kl_4_23, kl_4_24, kl_4_25, kl_4_30, kl_4_31, kl_4_32, kl_4_33, kl_4_34, kl_4_35, kl_4_40, kl_4_41, kl_4_42, kl_4_43, kl_4_44, kl_4_45, kl_4_50, kl_4_51, kl_4_52, kl_4_53, kl_4_54, kl_4_55]
theorem kl_fin {c : List (List Int)} (hC : IsC c) (hf : finB c = true) : kl24 c = true := fin_all kl24 kl_1 kl_2 kl_3 kl_4 hC hf
end Go.Proofs.YtdedkfbiookofaaGreatDoor
