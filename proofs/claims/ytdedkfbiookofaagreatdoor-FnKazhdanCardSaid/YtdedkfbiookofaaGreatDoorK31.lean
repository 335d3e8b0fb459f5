/- The kernel's enumeration, rank 4, part 2. -/
import Derived.Test.YtdedkfbiookofaaGreatDoorK30
namespace Go.Proofs.YtdedkfbiookofaaGreatDoor
set_option maxRecDepth 100000
open Go.RowKit Game
theorem kh_4_0001 : chk4D kh24 (0, 0) (0, 0) (0, 0) (-1, -1) = true := by kernel_rfl
theorem kh_4_0002 : chk4D kh24 (0, 0) (0, 0) (0, 0) (-1, -2) = true := by kernel_rfl
theorem kh_4_0003 : chk4D kh24 (0, 0) (0, 0) (0, 0) (-2, -1) = true := by kernel_rfl
theorem kh_4_0004 : chk4D kh24 (0, 0) (0, 0) (0, 0) (-1, -3) = true := by kernel_rfl
theorem kh_4_0005 : chk4D kh24 (0, 0) (0, 0) (0, 0) (-3, -1) = true := by kernel_rfl
theorem kh_4_0010 : chk4D kh24 (0, 0) (0, 0) (-1, -1) (0, 0) = true := by kernel_rfl
theorem kh_4_0011 : chk4D kh24 (0, 0) (0, 0) (-1, -1) (-1, -1) = true := by kernel_rfl
theorem kh_4_0012 : chk4D kh24 (0, 0) (0, 0) (-1, -1) (-1, -2) = true := by kernel_rfl
theorem kh_4_0013 : chk4D kh24 (0, 0) (0, 0) (-1, -1) (-2, -1) = true := by kernel_rfl
theorem kh_4_0014 : chk4D kh24 (0, 0) (0, 0) (-1, -1) (-1, -3) = true := by kernel_rfl
theorem kh_4_0015 : chk4D kh24 (0, 0) (0, 0) (-1, -1) (-3, -1) = true := by kernel_rfl
theorem kh_4_0020 : chk4D kh24 (0, 0) (0, 0) (-1, -2) (0, 0) = true := by kernel_rfl
theorem kh_4_0021 : chk4D kh24 (0, 0) (0, 0) (-1, -2) (-1, -1) = true := by kernel_rfl
theorem kh_4_0022 : chk4D kh24 (0, 0) (0, 0) (-1, -2) (-1, -2) = true := by kernel_rfl
theorem kh_4_0023 : chk4D kh24 (0, 0) (0, 0) (-1, -2) (-2, -1) = true := by kernel_rfl
theorem kh_4_0024 : chk4D kh24 (0, 0) (0, 0) (-1, -2) (-1, -3) = true := by kernel_rfl
theorem kh_4_0025 : chk4D kh24 (0, 0) (0, 0) (-1, -2) (-3, -1) = true := by kernel_rfl
theorem kh_4_0030 : chk4D kh24 (0, 0) (0, 0) (-2, -1) (0, 0) = true := by kernel_rfl
theorem kh_4_0031 : chk4D kh24 (0, 0) (0, 0) (-2, -1) (-1, -1) = true := by kernel_rfl
theorem kh_4_0032 : chk4D kh24 (0, 0) (0, 0) (-2, -1) (-1, -2) = true := by kernel_rfl
theorem kh_4_0033 : chk4D kh24 (0, 0) (0, 0) (-2, -1) (-2, -1) = true := by kernel_rfl
theorem kh_4_0034 : chk4D kh24 (0, 0) (0, 0) (-2, -1) (-1, -3) = true := by kernel_rfl
theorem kh_4_0035 : chk4D kh24 (0, 0) (0, 0) (-2, -1) (-3, -1) = true := by kernel_rfl
theorem kh_4_0040 : chk4D kh24 (0, 0) (0, 0) (-1, -3) (0, 0) = true := by kernel_rfl
theorem kh_4_0041 : chk4D kh24 (0, 0) (0, 0) (-1, -3) (-1, -1) = true := by kernel_rfl
theorem kh_4_0042 : chk4D kh24 (0, 0) (0, 0) (-1, -3) (-1, -2) = true := by kernel_rfl
theorem kh_4_0043 : chk4D kh24 (0, 0) (0, 0) (-1, -3) (-2, -1) = true := by kernel_rfl
theorem kh_4_0044 : chk4D kh24 (0, 0) (0, 0) (-1, -3) (-1, -3) = true := by kernel_rfl
theorem kh_4_0045 : chk4D kh24 (0, 0) (0, 0) (-1, -3) (-3, -1) = true := by kernel_rfl
theorem kh_4_0050 : chk4D kh24 (0, 0) (0, 0) (-3, -1) (0, 0) = true := by kernel_rfl
theorem kh_4_0051 : chk4D kh24 (0, 0) (0, 0) (-3, -1) (-1, -1) = true := by kernel_rfl
theorem kh_4_0052 : chk4D kh24 (0, 0) (0, 0) (-3, -1) (-1, -2) = true := by kernel_rfl
theorem kh_4_0053 : chk4D kh24 (0, 0) (0, 0) (-3, -1) (-2, -1) = true := by kernel_rfl
theorem kh_4_0054 : chk4D kh24 (0, 0) (0, 0) (-3, -1) (-1, -3) = true := by kernel_rfl
theorem kh_4_0055 : chk4D kh24 (0, 0) (0, 0) (-3, -1) (-3, -1) = true := by kernel_rfl
theorem kh_4_00 : chk4At kh24 (0, 0) (0, 0) = true := by
  rw [chk4At_D]
  simp only [L6, List.all_cons, List.all_nil, Bool.and_true, Bool.or_true, kh_4_0000, kh_4_0001, kh_4_0002, kh_4_0003, kh_4_0004, kh_4_0005, kh_4_0010, kh_4_0011, kh_4_0012, kh_4_0013, kh_4_0014, kh_4_0015, kh_4_0020, kh_4_0021, kh_4_0022, kh_4_0023, kh_4_0024, kh_4_0025, kh_4_0030, kh_4_0031, kh_4_0032, kh_4_0033, kh_4_0034, kh_4_0035, kh_4_0040, kh_4_0041, kh_4_0042, kh_4_0043, kh_4_0044, kh_4_0045, kh_4_0050, kh_4_0051, kh_4_0052, kh_4_0053, kh_4_0054, kh_4_0055]
end Go.Proofs.YtdedkfbiookofaaGreatDoor
