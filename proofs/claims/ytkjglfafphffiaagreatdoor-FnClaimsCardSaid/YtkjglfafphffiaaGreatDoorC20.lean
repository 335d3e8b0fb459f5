/- Enum -/
import Derived.Test.YtkjglfafphffiaaGreatDoorC19
namespace Go.Proofs.YtkjglfafphffiaaGreatDoor
set_option maxRecDepth 100000
open Go.RowKit
def goodB (c : List (List Int)) : Bool :=
  match normG c 30 (negL c.length) with
  | none => false
  | some long => decide (long.length ≤ 24) && ((actW c long (onesL c.length) == negL c.length) && (List.range c.length).all fun i => (List.range c.length).any fun j => actW c long (refl c i (onesL c.length)) == refl c j (negL c.length))
theorem good1 : goodB [[2]] = true := by kernel_rfl
theorem chk2_ok : chk2 goodB = true := by kernel_rfl
theorem chk3_ok : chk3 goodB = true := by kernel_rfl
theorem chk4_ok : chk4 goodB = true := by kernel_rfl
end Go.Proofs.YtkjglfafphffiaaGreatDoor
