/- At every finite type the search for positive roots is closed: by enumeration. Plain law. -/
import Derived.Test.YtldcmhgpppeooaaGreatDoorG15
namespace Go.Proofs.YtldcmhgpppeooaaGreatDoor
set_option maxRecDepth 100000
theorem pos_1 : posOk [[2]] = true := by kernel_rfl
theorem pos_2 : chk2 posOk = true := by kernel_rfl
theorem pos_3 : chk3 posOk = true := by kernel_rfl
theorem pos_4_00 : chk4At posOk (0, 0) (0, 0) = true := by kernel_rfl
theorem pos_4_01 : chk4At posOk (0, 0) (-1, -1) = true := by kernel_rfl
theorem pos_4_02 : chk4At posOk (0, 0) (-1, -2) = true := by kernel_rfl
theorem pos_4_03 : chk4At posOk (0, 0) (-2, -1) = true := by kernel_rfl
theorem pos_4_04 : chk4At posOk (0, 0) (-1, -3) = true := by kernel_rfl
theorem pos_4_05 : chk4At posOk (0, 0) (-3, -1) = true := by kernel_rfl
theorem pos_4_10 : chk4At posOk (-1, -1) (0, 0) = true := by kernel_rfl
theorem pos_4_11 : chk4At posOk (-1, -1) (-1, -1) = true := by kernel_rfl
theorem pos_4_12 : chk4At posOk (-1, -1) (-1, -2) = true := by kernel_rfl
theorem pos_4_13 : chk4At posOk (-1, -1) (-2, -1) = true := by kernel_rfl
theorem pos_4_14 : chk4At posOk (-1, -1) (-1, -3) = true := by kernel_rfl
theorem pos_4_15 : chk4At posOk (-1, -1) (-3, -1) = true := by kernel_rfl
theorem pos_4_20 : chk4At posOk (-1, -2) (0, 0) = true := by kernel_rfl
theorem pos_4_21 : chk4At posOk (-1, -2) (-1, -1) = true := by kernel_rfl
theorem pos_4_22 : chk4At posOk (-1, -2) (-1, -2) = true := by kernel_rfl
theorem pos_4_23 : chk4At posOk (-1, -2) (-2, -1) = true := by kernel_rfl
theorem pos_4_24 : chk4At posOk (-1, -2) (-1, -3) = true := by kernel_rfl
theorem pos_4_25 : chk4At posOk (-1, -2) (-3, -1) = true := by kernel_rfl
theorem pos_4_30 : chk4At posOk (-2, -1) (0, 0) = true := by kernel_rfl
theorem pos_4_31 : chk4At posOk (-2, -1) (-1, -1) = true := by kernel_rfl
theorem pos_4_32 : chk4At posOk (-2, -1) (-1, -2) = true := by kernel_rfl
theorem pos_4_33 : chk4At posOk (-2, -1) (-2, -1) = true := by kernel_rfl
theorem pos_4_34 : chk4At posOk (-2, -1) (-1, -3) = true := by kernel_rfl
theorem pos_4_35 : chk4At posOk (-2, -1) (-3, -1) = true := by kernel_rfl
theorem pos_4_40 : chk4At posOk (-1, -3) (0, 0) = true := by kernel_rfl
theorem pos_4_41 : chk4At posOk (-1, -3) (-1, -1) = true := by kernel_rfl
theorem pos_4_42 : chk4At posOk (-1, -3) (-1, -2) = true := by kernel_rfl
theorem pos_4_43 : chk4At posOk (-1, -3) (-2, -1) = true := by kernel_rfl
theorem pos_4_44 : chk4At posOk (-1, -3) (-1, -3) = true := by kernel_rfl
theorem pos_4_45 : chk4At posOk (-1, -3) (-3, -1) = true := by kernel_rfl
theorem pos_4_50 : chk4At posOk (-3, -1) (0, 0) = true := by kernel_rfl
theorem pos_4_51 : chk4At posOk (-3, -1) (-1, -1) = true := by kernel_rfl
theorem pos_4_52 : chk4At posOk (-3, -1) (-1, -2) = true := by kernel_rfl
theorem pos_4_53 : chk4At posOk (-3, -1) (-2, -1) = true := by kernel_rfl
theorem pos_4_54 : chk4At posOk (-3, -1) (-1, -3) = true := by kernel_rfl
theorem pos_4_55 : chk4At posOk (-3, -1) (-3, -1) = true := by kernel_rfl
theorem pos_4 : chk4 posOk = true := by
  rw [chk4_eq]
  simp only [L6, List.all_cons, List.all_nil, Bool.and_true, pos_4_00, pos_4_01, pos_4_02, pos_4_03, pos_4_04, pos_4_05, pos_4_10, pos_4_11, pos_4_12, pos_4_13, pos_4_14, pos_4_15, pos_4_20, pos_4_21, pos_4_22, pos_4_23, pos_4_24, pos_4_25, pos_4_30, pos_4_31, pos_4_32, pos_4_33, pos_4_34, pos_4_35, pos_4_40, pos_4_41, pos_4_42, pos_4_43, pos_4_44, pos_4_45, pos_4_50, pos_4_51, pos_4_52, pos_4_53, pos_4_54, pos_4_55]
theorem pos_fin {c : List (List Int)} (hC : IsC c) (hf : finB c = true) : posOk c = true := fin_all posOk pos_1 pos_2 pos_3 pos_4 hC hf
end Go.Proofs.YtldcmhgpppeooaaGreatDoor
