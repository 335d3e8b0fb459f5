/- At every finite type the coroots go along with the search for roots, and the dimension formula gives integers: by enumeration, part 2. Plain law. -/
import Derived.Test.YtmjneokgnnbekaaGreatDoorG35
namespace Go.Proofs.YtmjneokgnnbekaaGreatDoor
set_option maxRecDepth 100000
theorem co_4_20 : chk4At coOk (-1, -2) (0, 0) = true := by kernel_rfl
theorem co_4_21 : chk4At coOk (-1, -2) (-1, -1) = true := by kernel_rfl
theorem co_4_22 : chk4At coOk (-1, -2) (-1, -2) = true := by kernel_rfl
theorem co_4_23 : chk4At coOk (-1, -2) (-2, -1) = true := by kernel_rfl
theorem co_4_24 : chk4At coOk (-1, -2) (-1, -3) = true := by kernel_rfl
theorem co_4_25 : chk4At coOk (-1, -2) (-3, -1) = true := by kernel_rfl
theorem co_4_30 : chk4At coOk (-2, -1) (0, 0) = true := by kernel_rfl
theorem co_4_31 : chk4At coOk (-2, -1) (-1, -1) = true := by kernel_rfl
theorem co_4_32 : chk4At coOk (-2, -1) (-1, -2) = true := by kernel_rfl
theorem co_4_33 : chk4At coOk (-2, -1) (-2, -1) = true := by kernel_rfl
theorem co_4_34 : chk4At coOk (-2, -1) (-1, -3) = true := by kernel_rfl
theorem co_4_35 : chk4At coOk (-2, -1) (-3, -1) = true := by kernel_rfl
end Go.Proofs.YtmjneokgnnbekaaGreatDoor
