/- At every finite type the coroots go along with the search for roots: by enumeration, part 5. Plain law. -/
import Derived.Test.YtmjneokgnnbekaaGreatDoorG35
namespace Go.Proofs.YtmjneokgnnbekaaGreatDoor
set_option maxRecDepth 100000
theorem co_4_010 : chk4E coOk (0, 0) (-1, -1) (0, 0) = true := by kernel_rfl
theorem co_4_011 : chk4E coOk (0, 0) (-1, -1) (-1, -1) = true := by kernel_rfl
theorem co_4_012 : chk4E coOk (0, 0) (-1, -1) (-1, -2) = true := by kernel_rfl
theorem co_4_013 : chk4E coOk (0, 0) (-1, -1) (-2, -1) = true := by kernel_rfl
theorem co_4_014 : chk4E coOk (0, 0) (-1, -1) (-1, -3) = true := by kernel_rfl
theorem co_4_015 : chk4E coOk (0, 0) (-1, -1) (-3, -1) = true := by kernel_rfl
theorem co_4_01 : chk4At coOk (0, 0) (-1, -1) = true := by
  rw [chk4At_eq]
  simp only [L6, List.all_cons, List.all_nil, Bool.and_true, co_4_010, co_4_011, co_4_012, co_4_013, co_4_014, co_4_015]
end Go.Proofs.YtmjneokgnnbekaaGreatDoor
