/- At every finite type the coroots go along with the search for roots, and the dimension formula gives integers: by enumeration, part 1. Plain law. -/
import Derived.Test.YtmjneokgnnbekaaGreatDoorG35
namespace Go.Proofs.YtmjneokgnnbekaaGreatDoor
set_option maxRecDepth 100000
theorem co_1 : coOk [[2]] = true := by kernel_rfl
theorem co_2 : chk2 coOk = true := by kernel_rfl
theorem co_3 : chk3 coOk = true := by kernel_rfl
theorem co_4_02 : chk4At coOk (0, 0) (-1, -2) = true := by kernel_rfl
theorem co_4_03 : chk4At coOk (0, 0) (-2, -1) = true := by kernel_rfl
theorem co_4_04 : chk4At coOk (0, 0) (-1, -3) = true := by kernel_rfl
theorem co_4_05 : chk4At coOk (0, 0) (-3, -1) = true := by kernel_rfl
theorem co_4_11 : chk4At coOk (-1, -1) (-1, -1) = true := by kernel_rfl
theorem co_4_12 : chk4At coOk (-1, -1) (-1, -2) = true := by kernel_rfl
theorem co_4_13 : chk4At coOk (-1, -1) (-2, -1) = true := by kernel_rfl
theorem co_4_14 : chk4At coOk (-1, -1) (-1, -3) = true := by kernel_rfl
theorem co_4_15 : chk4At coOk (-1, -1) (-3, -1) = true := by kernel_rfl
end Go.Proofs.YtmjneokgnnbekaaGreatDoor
