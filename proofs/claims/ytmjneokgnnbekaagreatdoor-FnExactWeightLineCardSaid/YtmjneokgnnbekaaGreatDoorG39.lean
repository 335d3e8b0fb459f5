/- At every finite type the coroots go along with the search for roots: by enumeration, part 4. Plain law. -/
import Derived.Test.YtmjneokgnnbekaaGreatDoorG35
namespace Go.Proofs.YtmjneokgnnbekaaGreatDoor
set_option maxRecDepth 100000
theorem co_4_000 : chk4E coOk (0, 0) (0, 0) (0, 0) = true := by kernel_rfl
theorem co_4_001 : chk4E coOk (0, 0) (0, 0) (-1, -1) = true := by kernel_rfl
theorem co_4_002 : chk4E coOk (0, 0) (0, 0) (-1, -2) = true := by kernel_rfl
theorem co_4_003 : chk4E coOk (0, 0) (0, 0) (-2, -1) = true := by kernel_rfl
theorem co_4_004 : chk4E coOk (0, 0) (0, 0) (-1, -3) = true := by kernel_rfl
theorem co_4_005 : chk4E coOk (0, 0) (0, 0) (-3, -1) = true := by kernel_rfl
theorem co_4_00 : chk4At coOk (0, 0) (0, 0) = true := by
  rw [chk4At_eq]
  simp only [L6, List.all_cons, List.all_nil, Bool.and_true, co_4_000, co_4_001, co_4_002, co_4_003, co_4_004, co_4_005]
end Go.Proofs.YtmjneokgnnbekaaGreatDoor
