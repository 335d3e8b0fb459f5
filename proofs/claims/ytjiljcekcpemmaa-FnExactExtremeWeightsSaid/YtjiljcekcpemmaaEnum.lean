/- All finite types of rank at most 4, by enumeration: each has its longest word. Plain law. -/
import Derived.Test.YtjiljcekcpemmaaOpp
namespace Go.Proofs.Ytjiljcekcpemmaa
open Go.RowKit

def goodB (c : List (List Int)) : Bool :=
  match normG c 30 (negL c.length) with
  | none => false
  | some long => decide (long.length ≤ 24) && ((actW c long (onesL c.length) == negL c.length) && (List.range c.length).all fun i => (List.range c.length).any fun j => actW c long (refl c i (onesL c.length)) == refl c j (negL c.length))
def L6 : List (Int × Int) := [(0, 0), (-1, -1), (-1, -2), (-2, -1), (-1, -3), (-3, -1)]
def mat2 (a : Int × Int) : List (List Int) := [[2, a.1], [a.2, 2]]
def mat3 (a b e : Int × Int) : List (List Int) := [[2, a.1, b.1], [a.2, 2, e.1], [b.2, e.2, 2]]
def mat4 (a b d e f g : Int × Int) : List (List Int) := [[2, a.1, b.1, d.1], [a.2, 2, e.1, f.1], [b.2, e.2, 2, g.1], [d.2, f.2, g.2, 2]]
def bad3 (a b e : Int × Int) : Bool := decide (det 3 (mat3 a b e) ≤ 0)
def chk2 : Bool := L6.all fun a => goodB (mat2 a)
def chk3 : Bool := L6.all fun a => L6.all fun b => L6.all fun e => bad3 a b e || goodB (mat3 a b e)
def chk4 : Bool := L6.all fun a => L6.all fun b => L6.all fun e => bad3 a b e || L6.all fun d => L6.all fun f => bad3 a d f || L6.all fun g => bad3 b d g || (bad3 e f g || (decide (det 4 (mat4 a b d e f g) ≤ 0) || goodB (mat4 a b d e f g)))
theorem good1 : goodB [[2]] = true := by kernel_rfl
theorem chk2_ok : chk2 = true := by kernel_rfl
theorem chk3_ok : chk3 = true := by kernel_rfl
theorem chk4_ok : chk4 = true := by kernel_rfl
end Go.Proofs.Ytjiljcekcpemmaa
