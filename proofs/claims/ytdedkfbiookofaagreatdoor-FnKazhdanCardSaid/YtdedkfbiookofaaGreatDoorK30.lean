/- The kernel's enumeration, rank 4, part 1. -/
import Derived.Test.YtdedkfbiookofaaGreatDoorK21
import Derived.Test.YtdedkfbiookofaaGreatDoorK08
namespace Go.Proofs.YtdedkfbiookofaaGreatDoor
set_option maxRecDepth 100000
open Go.RowKit Game
def chk4D (P : List (List Int) → Bool) (a b e d : Int × Int) : Bool := L6.all fun f => bad3 a d f || L6.all fun g => bad3 b d g || (bad3 e f g || (decide (det 4 (mat4 a b d e f g) ≤ 0) || P (mat4 a b d e f g)))
theorem chk4At_D (P : List (List Int) → Bool) (a b : Int × Int) : chk4At P a b = L6.all fun e => bad3 a b e || L6.all fun d => chk4D P a b e d := rfl
theorem kh_4_0000 : chk4D kh24 (0, 0) (0, 0) (0, 0) (0, 0) = true := by kernel_rfl
end Go.Proofs.YtdedkfbiookofaaGreatDoor
