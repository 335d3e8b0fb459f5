/- Reflections of weights: contracts. -/
import Derived.Test.YtmplcohpinghbaaGreatDoorWt
import Derived.Test.YtmplcohpinghbaaGreatDoorRegApp
import Derived.StillTailTactics
namespace Go.Proofs.YtmplcohpinghbaaGreatDoor
open Go.RowKit

/-- a number of a reflected weight -/
def reflAt (c : List (List Int)) (i : Nat) (v : List Int) (k : Nat) : Int := wrap64 (v.getD k 0 - wrap64 (v.getD i 0 * ent c k i))
def refl (c : List (List Int)) (i : Nat) (v : List Int) : List Int := (List.range v.length).map (reflAt c i v)
/-- the first k reflected -/
def reflTo (c : List (List Int)) (i : Nat) (v : List Int) (k : Nat) : List Int := (List.range k).map (reflAt c i v) ++ v.drop k
theorem refl_length (c : List (List Int)) (i : Nat) (v : List Int) : (refl c i v).length = v.length := by simp [refl]
theorem reflTo_length {c : List (List Int)} {i : Nat} {v : List Int} {k : Nat} (hk : k ≤ v.length) : (reflTo c i v k).length = v.length := by simp [reflTo]; omega
theorem reflTo_at {c : List (List Int)} {i : Nat} {v : List Int} {k : Nat} (_hk : k < v.length) : (reflTo c i v k).getD k 0 = v.getD k 0 := by
  simp [reflTo, List.getD, List.getElem?_append_right]
theorem reflTo_succ {c : List (List Int)} {i : Nat} {v : List Int} {k : Nat} (hk : k < v.length) : (reflTo c i v k).set k (reflAt c i v k) = reflTo c i v (k + 1) := by
  unfold reflTo
  rw [List.set_append_right _ _ (by simp)]
  have e : v.drop k = v[k] :: v.drop (k + 1) := List.drop_eq_getElem_cons hk
  rw [List.length_map, List.length_range, Nat.sub_self, e, List.set_cons_zero, List.range_succ, List.map_append, List.append_assoc]
  rfl
theorem reflTo_zero (c : List (List Int)) (i : Nat) (v : List Int) : reflTo c i v 0 = v := by simp [reflTo]
theorem reflTo_all (c : List (List Int)) (i : Nat) (v : List Int) : reflTo c i v v.length = refl c i v := by simp [reflTo, refl]

def reflOk (c : List (List Int)) (i : Int) (v : List Int) : Prop := IsC c ∧ v.length = c.length ∧ 0 ≤ i ∧ i < c.length
instance (c : List (List Int)) (i : Int) (v : List Int) : Decidable (reflOk c i v) := by unfold reflOk; infer_instance
def reflW (c : List (List Int)) (i : Int) (v : List Int) : List Int := if reflOk c i v then refl c i.toNat v else v
theorem reflW_length (c : List (List Int)) (i : Int) (v : List Int) : (reflW c i v).length = v.length := by unfold reflW; split <;> simp [refl_length]

theorem refl_succ_to {c : List (List Int)} {i : Nat} {v : List Int} {k : Nat} : (List.range (k + 1)).map (reflAt c i v) = (List.range k).map (reflAt c i v) ++ [reflAt c i v k] := by
  rw [List.range_succ, List.map_append]; rfl

attribute [local go_sem ↓] Go.wp_at_zero Go.wp_at_succ
end Go.Proofs.YtmplcohpinghbaaGreatDoor
