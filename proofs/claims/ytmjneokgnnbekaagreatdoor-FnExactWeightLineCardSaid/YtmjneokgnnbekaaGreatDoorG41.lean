/- At every finite type the coroots go along with the search for roots: by enumeration, part 6. Plain law. -/
import Derived.Test.YtmjneokgnnbekaaGreatDoorG35
namespace Go.Proofs.YtmjneokgnnbekaaGreatDoor
set_option maxRecDepth 100000
theorem co_4_100 : chk4E coOk (-1, -1) (0, 0) (0, 0) = true := by kernel_rfl
theorem co_4_101 : chk4E coOk (-1, -1) (0, 0) (-1, -1) = true := by kernel_rfl
theorem co_4_102 : chk4E coOk (-1, -1) (0, 0) (-1, -2) = true := by kernel_rfl
theorem co_4_103 : chk4E coOk (-1, -1) (0, 0) (-2, -1) = true := by kernel_rfl
theorem co_4_104 : chk4E coOk (-1, -1) (0, 0) (-1, -3) = true := by kernel_rfl
theorem co_4_105 : chk4E coOk (-1, -1) (0, 0) (-3, -1) = true := by kernel_rfl
theorem co_4_10 : chk4At coOk (-1, -1) (0, 0) = true := by
  rw [chk4At_eq]
  simp only [L6, List.all_cons, List.all_nil, Bool.and_true, co_4_100, co_4_101, co_4_102, co_4_103, co_4_104, co_4_105]
end Go.Proofs.YtmjneokgnnbekaaGreatDoor
