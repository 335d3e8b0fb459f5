/- IsSymmetric: contracts. -/
import Derived.Test.YtmplcohpinghbaaGreatDoorRefl
import Derived.Test.YtmplcohpinghbaaGreatDoorArg
namespace Go.Proofs.YtmplcohpinghbaaGreatDoor
open Go.RowKit

def rowSym (c : List (List Int)) (l : List Wt) (j k : Nat) : Prop := ∀ i, i < k → countIn l (reflW c (i : Int) (wOf l j)) = ctOf l j
def symAll (c : List (List Int)) (l : List Wt) : Prop := IsC c ∧ ∀ j, j < l.length → rowSym c l j c.length
instance (c : List (List Int)) (l : List Wt) (j k : Nat) : Decidable (rowSym c l j k) := by unfold rowSym; infer_instance
instance (c : List (List Int)) (l : List Wt) : Decidable (symAll c l) := by unfold symAll; infer_instance
def symB (c : List (List Int)) (l : List Wt) : Bool := decide (symAll c l)
theorem symB_true {c : List (List Int)} {l : List Wt} (h : symAll c l) : symB c l = true := decide_eq_true h
theorem symB_false {c : List (List Int)} {l : List Wt} (h : ¬ symAll c l) : symB c l = false := decide_eq_false h
attribute [local go_sem ↓] Go.wp_at_zero Go.wp_at_succ
def symTo (c : List (List Int)) (l : List Wt) (i : Nat) : Prop := ∀ j, j < l.length → rowSym c l j i
theorem symTo_step {c : List (List Int)} {l : List Wt} {i : Nat} (h : symTo c l i) (h2 : ∀ j, j < l.length → countIn l (reflW c (i : Int) (wOf l j)) = ctOf l j) : symTo c l (i + 1) := by
  intro j hj t ht
  by_cases e : t = i
  · subst e; exact h2 j hj
  · exact h j hj t (by omega)

end Go.Proofs.YtmplcohpinghbaaGreatDoor
