/- Arrows and cells of both agree at all groups of at most 24 elements: the kernel's enumeration, ranks up to 3. -/
import Derived.Test.YtdedkfbiookofaaGreatDoorK21
import Derived.Test.YtdedkfbiookofaaGreatDoorK08
namespace Go.Proofs.YtdedkfbiookofaaGreatDoor
set_option maxRecDepth 100000
open Go.RowKit Game
theorem kl_1 : kl24 [[2]] = true := by kernel_rfl
theorem kl_2 : chk2 kl24 = true := by kernel_rfl
def chk3At (P : List (List Int) → Bool) (a b : Int × Int) : Bool := L6.all fun e => bad3 a b e || P (mat3 a b e)
theorem chk3_eq (P : List (List Int) → Bool) : chk3 P = L6.all fun a => L6.all fun b => chk3At P a b := rfl
theorem kl_3_00 : chk3At kl24 (0, 0) (0, 0) = true := by kernel_rfl
theorem kl_3_01 : chk3At kl24 (0, 0) (-1, -1) = true := by kernel_rfl
theorem kl_3_02 : chk3At kl24 (0, 0) (-1, -2) = true := by kernel_rfl
theorem kl_3_03 : chk3At kl24 (0, 0) (-2, -1) = true := by kernel_rfl
theorem kl_3_04 : chk3At kl24 (0, 0) (-1, -3) = true := by kernel_rfl
theorem kl_3_05 : chk3At kl24 (0, 0) (-3, -1) = true := by kernel_rfl
theorem kl_3_10 : chk3At kl24 (-1, -1) (0, 0) = true := by kernel_rfl
theorem kl_3_11 : chk3At kl24 (-1, -1) (-1, -1) = true := by kernel_rfl
theorem kl_3_12 : chk3At kl24 (-1, -1) (-1, -2) = true := by kernel_rfl
theorem kl_3_13 : chk3At kl24 (-1, -1) (-2, -1) = true := by kernel_rfl
theorem kl_3_14 : chk3At kl24 (-1, -1) (-1, -3) = true := by kernel_rfl
theorem kl_3_15 : chk3At kl24 (-1, -1) (-3, -1) = true := by kernel_rfl
theorem kl_3_20 : chk3At kl24 (-1, -2) (0, 0) = true := by kernel_rfl
theorem kl_3_21 : chk3At kl24 (-1, -2) (-1, -1) = true := by kernel_rfl
theorem kl_3_22 : chk3At kl24 (-1, -2) (-1, -2) = true := by kernel_rfl
theorem kl_3_23 : chk3At kl24 (-1, -2) (-2, -1) = true := by kernel_rfl
theorem kl_3_24 : chk3At kl24 (-1, -2) (-1, -3) = true := by kernel_rfl
theorem kl_3_25 : chk3At kl24 (-1, -2) (-3, -1) = true := by kernel_rfl
theorem kl_3_30 : chk3At kl24 (-2, -1) (0, 0) = true := by kernel_rfl
theorem kl_3_31 : chk3At kl24 (-2, -1) (-1, -1) = true := by kernel_rfl
theorem kl_3_32 : chk3At kl24 (-2, -1) (-1, -2) = true := by kernel_rfl
theorem kl_3_33 : chk3At kl24 (-2, -1) (-2, -1) = true := by kernel_rfl
theorem kl_3_34 : chk3At kl24 (-2, -1) (-1, -3) = true := by kernel_rfl
theorem kl_3_35 : chk3At kl24 (-2, -1) (-3, -1) = true := by kernel_rfl
theorem kl_3_40 : chk3At kl24 (-1, -3) (0, 0) = true := by kernel_rfl
theorem kl_3_41 : chk3At kl24 (-1, -3) (-1, -1) = true := by kernel_rfl
theorem kl_3_42 : chk3At kl24 (-1, -3) (-1, -2) = true := by kernel_rfl
theorem kl_3_43 : chk3At kl24 (-1, -3) (-2, -1) = true := by kernel_rfl
theorem kl_3_44 : chk3At kl24 (-1, -3) (-1, -3) = true := by kernel_rfl
theorem kl_3_45 : chk3At kl24 (-1, -3) (-3, -1) = true := by kernel_rfl
theorem kl_3_50 : chk3At kl24 (-3, -1) (0, 0) = true := by kernel_rfl
theorem kl_3_51 : chk3At kl24 (-3, -1) (-1, -1) = true := by kernel_rfl
theorem kl_3_52 : chk3At kl24 (-3, -1) (-1, -2) = true := by kernel_rfl
theorem kl_3_53 : chk3At kl24 (-3, -1) (-2, -1) = true := by kernel_rfl
theorem kl_3_54 : chk3At kl24 (-3, -1) (-1, -3) = true := by kernel_rfl
theorem kl_3_55 : chk3At kl24 (-3, -1) (-3, -1) = true := by kernel_rfl
theorem kl_3 : chk3 kl24 = true := by
  rw [chk3_eq]
  simp only [L6, List.all_cons, List.all_nil, Bool.and_true, kl_3_00, kl_3_01, kl_3_02, kl_3_03, kl_3_04, kl_3_05, kl_3_10, kl_3_11, kl_3_12, kl_3_13, kl_3_14, kl_3_15, kl_3_20, kl_3_21, kl_3_22, kl_3_23, kl_3_24, kl_3_25, kl_3_30, kl_3_31, kl_3_32, kl_3_33, kl_3_34, kl_3_35, kl_3_40, kl_3_41, kl_3_42, kl_3_43, kl_3_44, kl_3_45, kl_3_50, kl_3_51, kl_3_52, kl_3_53, kl_3_54, kl_3_55]
end Go.Proofs.YtdedkfbiookofaaGreatDoor
