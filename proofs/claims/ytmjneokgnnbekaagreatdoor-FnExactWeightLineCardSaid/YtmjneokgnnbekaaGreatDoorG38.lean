/- At every finite type the coroots go along with the search for roots, and the dimension formula gives integers: by enumeration, part 3. Plain law. -/
import Derived.Test.YtmjneokgnnbekaaGreatDoorG35
namespace Go.Proofs.YtmjneokgnnbekaaGreatDoor
set_option maxRecDepth 100000
theorem co_4_40 : chk4At coOk (-1, -3) (0, 0) = true := by kernel_rfl
theorem co_4_41 : chk4At coOk (-1, -3) (-1, -1) = true := by kernel_rfl
theorem co_4_42 : chk4At coOk (-1, -3) (-1, -2) = true := by kernel_rfl
theorem co_4_43 : chk4At coOk (-1, -3) (-2, -1) = true := by kernel_rfl
theorem co_4_44 : chk4At coOk (-1, -3) (-1, -3) = true := by kernel_rfl
theorem co_4_45 : chk4At coOk (-1, -3) (-3, -1) = true := by kernel_rfl
theorem co_4_50 : chk4At coOk (-3, -1) (0, 0) = true := by kernel_rfl
theorem co_4_51 : chk4At coOk (-3, -1) (-1, -1) = true := by kernel_rfl
theorem co_4_52 : chk4At coOk (-3, -1) (-1, -2) = true := by kernel_rfl
theorem co_4_53 : chk4At coOk (-3, -1) (-2, -1) = true := by kernel_rfl
theorem co_4_54 : chk4At coOk (-3, -1) (-1, -3) = true := by kernel_rfl
theorem co_4_55 : chk4At coOk (-3, -1) (-3, -1) = true := by kernel_rfl
end Go.Proofs.YtmjneokgnnbekaaGreatDoor
