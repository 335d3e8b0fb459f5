/- Connected parts, by breadth: plain law, by enumeration of zero patterns. -/
import Derived.Test.YtnpechcnmchneaaGreatDoorG02
namespace Go.Proofs.YtnpechcnmchneaaGreatDoor
set_option maxRecDepth 100000

def intsOf (l : List Nat) : List Int := l.map fun i : Nat => (i : Int)
theorem intsOf_length (l : List Nat) : (intsOf l).length = l.length := by simp [intsOf]
theorem intsOf_push (l : List Nat) (k : Nat) : intsOf (l ++ [k]) = intsOf l ++ [(k : Int)] := by simp [intsOf]
theorem intsOf_getD (l : List Nat) (k : Nat) (hk : k < l.length) : (intsOf l).getD k 0 = ((l.getD k 0 : Nat) : Int) := by simp [intsOf, List.getD, hk]

def nbL (c : List (List Int)) (i : Nat) : List Nat := (List.range c.length).filter fun j => j != i && (ent c i j != 0)
def nbTab (c : List (List Int)) : List (List Nat) := (List.range c.length).map (nbL c)
abbrev Bst := List Bool × List Nat
def visitOne (s : Bst) (j : Nat) : Bst := if s.1.getD j false then s else (s.1.set j true, s.2 ++ [j])
def visitAll (s : Bst) (l : List Nat) : Bst := l.foldl visitOne s
/-- the search, where it ends within so many rounds -/
def bfsG (tab : List (List Nat)) : Nat → Nat → Bst → Option Bst
  | 0, k, s => if k < s.2.length then none else some s
  | f + 1, k, s => if k < s.2.length then bfsG tab f (k + 1) (visitAll s (tab.getD (s.2.getD k 0) [])) else some s
def trueAt (seen : List Bool) : List Nat := (List.range seen.length).filter fun k => seen.getD k false
/-- the part of a point, with what is seen at the end -/
def partG (tab : List (List Nat)) (seen : List Bool) (i : Nat) : Option Bst := bfsG tab 5 0 (seen.set i true, [i])
/-- a list sorted by insertion -/
def insN (x : Nat) : List Nat → List Nat
  | [] => [x]
  | y :: l => if x < y then x :: y :: l else y :: insN x l
def sortN (l : List Nat) : List Nat := l.foldl (fun a x => insN x a) []
def partsIG (tab : List (List Nat)) : Nat → Option (List Bool × List (List Nat))
  | 0 => some (List.replicate tab.length false, [])
  | i + 1 => match partsIG tab i with
    | none => none
    | some (seen, out) => if seen.getD i false then some (seen, out) else match partG tab seen i with
      | none => none
      | some (seen', q) => some (seen', out ++ [sortN q])
def partS (tab : List (List Nat)) (i : Nat) : Option (List Nat) := (partG tab (List.replicate tab.length false) i).map fun s => trueAt s.1
def partsSG (tab : List (List Nat)) : Nat → Option (List (List Nat))
  | 0 => some []
  | i + 1 => match partsSG tab i, partS tab i with
    | some out, some p => some (if p.getD 0 0 == i then out ++ [p] else out)
    | _, _ => none
def ascB : List Nat → Bool
  | x :: y :: l => decide (x < y) && ascB (y :: l)
  | _ => true
def goodP (n : Nat) (p : List Nat) : Bool := ascB p && (decide (1 ≤ p.length) && (decide (p.length ≤ 4) && p.all fun x => decide (x < n)))
def chkP (c : List (List Int)) : Bool :=
  match partsIG (nbTab c) c.length, partsSG (nbTab c) c.length with
  | some (_, a), some b => ((a == b) && a.all (goodP c.length)) && (List.range c.length).all fun i => match partS (nbTab c) i with | some p => decide (1 ≤ p.length) && decide (p.length ≤ 4) | none => false
  | _, _ => false
def zo (c : List (List Int)) : List (List Int) := c.map fun r => r.map fun x => if x = 0 then 0 else 1
theorem zo_length (c : List (List Int)) : (zo c).length = c.length := by simp [zo]
theorem ent_zo (c : List (List Int)) (i j : Nat) : ent (zo c) i j = if ent c i j = 0 then 0 else 1 := by
  have key : ∀ o : Option (List Int), ((o.map fun r => r.map fun x : Int => if x = 0 then (0 : Int) else 1).getD [])[j]?.getD 0 = (fun x : Int => if x = 0 then (0 : Int) else 1) ((o.getD [])[j]?.getD 0) := by
    intro o
    cases o with
    | none => simp
    | some r =>
      simp only [Option.map_some, Option.getD_some, List.getElem?_map]
      have k2 : ∀ o : Option Int, (o.map fun x : Int => if x = 0 then (0 : Int) else 1).getD 0 = (fun x : Int => if x = 0 then (0 : Int) else 1) (o.getD 0) := by
        intro o
        cases o <;> simp
      exact k2 _
  unfold ent zo
  simp only [List.getD, List.getElem?_map]
  exact key _
theorem nbTab_zo (c : List (List Int)) : nbTab (zo c) = nbTab c := by
  unfold nbTab
  rw [zo_length]
  apply List.map_congr_left
  intro i _
  unfold nbL
  rw [zo_length]
  apply List.filter_congr
  intro j _
  rw [ent_zo]
  by_cases h : ent c i j = 0
  · simp [h]
  · simp [h]
def zm2 (a : Int) : List (List Int) := [[1, a], [a, 1]]
def zm3 (a b e : Int) : List (List Int) := [[1, a, b], [a, 1, e], [b, e, 1]]
def zm4 (a b d e f g : Int) : List (List Int) := [[1, a, b, d], [a, 1, e, f], [b, e, 1, g], [d, f, g, 1]]
def Z2 : List Int := [0, 1]
theorem chkP1 : chkP [[1]] = true := by kernel_rfl
theorem chkP2 : (Z2.all fun a => chkP (zm2 a)) = true := by kernel_rfl
theorem chkP3 : (Z2.all fun a => Z2.all fun b => Z2.all fun e => chkP (zm3 a b e)) = true := by kernel_rfl
theorem chkP4 : (Z2.all fun a => Z2.all fun b => Z2.all fun d => Z2.all fun e => Z2.all fun f => Z2.all fun g => chkP (zm4 a b d e f g)) = true := by kernel_rfl

theorem lst1 {α : Type} {l : List α} (h : l.length = 1) : ∃ a, l = [a] := by
  match l, h with
  | [a], _ => exact ⟨a, rfl⟩
theorem lst2 {α : Type} {l : List α} (h : l.length = 2) : ∃ a b, l = [a, b] := by
  match l, h with
  | [a, b], _ => exact ⟨a, b, rfl⟩
theorem lst3 {α : Type} {l : List α} (h : l.length = 3) : ∃ a b c, l = [a, b, c] := by
  match l, h with
  | [a, b, c], _ => exact ⟨a, b, c, rfl⟩
theorem lst4 {α : Type} {l : List α} (h : l.length = 4) : ∃ a b c d, l = [a, b, c, d] := by
  match l, h with
  | [a, b, c, d], _ => exact ⟨a, b, c, d, rfl⟩
theorem chkP_zo (c : List (List Int)) (h : chkP (zo c) = true) : chkP c = true := by
  unfold chkP at h ⊢
  rw [nbTab_zo, zo_length] at h
  exact h
theorem z_in (x : Int) : (if x = 0 then (0 : Int) else 1) ∈ Z2 := by split <;> simp [Z2]
theorem dg {c : List (List Int)} (hC : IsC c) {i : Nat} (hi : i < c.length) : ent c i i = 2 := by
  have := hC.2.2.2 i hi i hi
  unfold EntOk at this
  rwa [if_pos rfl] at this
theorem zsym {c : List (List Int)} (hC : IsC c) {i j : Nat} (hi : i < c.length) (hj : j < c.length) (hne : i ≠ j) : (if ent c i j = 0 then (0 : Int) else 1) = if ent c j i = 0 then 0 else 1 := by
  have := hC.2.2.2 i hi j hj
  unfold EntOk at this
  rw [if_neg hne] at this
  have h := this.2.2
  by_cases e : ent c i j = 0
  · have : ent c j i = 0 := by simpa [e] using h.symm
    simp [e, this]
  · have : ¬ ent c j i = 0 := by intro e2; apply e; simpa [e2] using h
    simp [e, this]
theorem chkP_all {c : List (List Int)} (hC : IsC c) : chkP c = true := by
  apply chkP_zo
  have : c.length = 1 ∨ c.length = 2 ∨ c.length = 3 ∨ c.length = 4 := by have := hC.1; have := hC.2.1; omega
  rcases this with hn | hn | hn | hn
  · obtain ⟨r0, rfl⟩ := lst1 hn
    obtain ⟨x00, rfl⟩ := lst1 (hC.2.2.1 0 (by simp))
    have d0 : x00 = 2 := dg hC (i := 0) (by simp)
    subst d0
    exact chkP1
  · obtain ⟨r0, r1, rfl⟩ := lst2 hn
    obtain ⟨x00, x01, rfl⟩ := lst2 (hC.2.2.1 0 (by simp))
    obtain ⟨x10, x11, rfl⟩ := lst2 (hC.2.2.1 1 (by simp))
    have d0 : x00 = 2 := dg hC (i := 0) (by simp)
    have d1 : x11 = 2 := dg hC (i := 1) (by simp)
    subst d0; subst d1
    have s10 : (if x10 = 0 then (0 : Int) else 1) = if x01 = 0 then 0 else 1 := zsym hC (i := 1) (j := 0) (by simp) (by simp) (by decide)
    have e : zo [[2, x01], [x10, 2]] = zm2 (if x01 = 0 then 0 else 1) := by simp [zo, zm2, s10]
    rw [e]
    exact List.all_eq_true.1 chkP2 _ (z_in x01)
  · obtain ⟨r0, r1, r2, rfl⟩ := lst3 hn
    obtain ⟨x00, x01, x02, rfl⟩ := lst3 (hC.2.2.1 0 (by simp))
    obtain ⟨x10, x11, x12, rfl⟩ := lst3 (hC.2.2.1 1 (by simp))
    obtain ⟨x20, x21, x22, rfl⟩ := lst3 (hC.2.2.1 2 (by simp))
    have d0 : x00 = 2 := dg hC (i := 0) (by simp)
    have d1 : x11 = 2 := dg hC (i := 1) (by simp)
    have d2 : x22 = 2 := dg hC (i := 2) (by simp)
    subst d0; subst d1; subst d2
    have s10 : (if x10 = 0 then (0 : Int) else 1) = if x01 = 0 then 0 else 1 := zsym hC (i := 1) (j := 0) (by simp) (by simp) (by decide)
    have s20 : (if x20 = 0 then (0 : Int) else 1) = if x02 = 0 then 0 else 1 := zsym hC (i := 2) (j := 0) (by simp) (by simp) (by decide)
    have s21 : (if x21 = 0 then (0 : Int) else 1) = if x12 = 0 then 0 else 1 := zsym hC (i := 2) (j := 1) (by simp) (by simp) (by decide)
    have e : zo [[2, x01, x02], [x10, 2, x12], [x20, x21, 2]] = zm3 (if x01 = 0 then 0 else 1) (if x02 = 0 then 0 else 1) (if x12 = 0 then 0 else 1) := by simp [zo, zm3, s10, s20, s21]
    rw [e]
    exact List.all_eq_true.1 (List.all_eq_true.1 (List.all_eq_true.1 chkP3 _ (z_in x01)) _ (z_in x02)) _ (z_in x12)
  · obtain ⟨r0, r1, r2, r3, rfl⟩ := lst4 hn
    obtain ⟨x00, x01, x02, x03, rfl⟩ := lst4 (hC.2.2.1 0 (by simp))
    obtain ⟨x10, x11, x12, x13, rfl⟩ := lst4 (hC.2.2.1 1 (by simp))
    obtain ⟨x20, x21, x22, x23, rfl⟩ := lst4 (hC.2.2.1 2 (by simp))
    obtain ⟨x30, x31, x32, x33, rfl⟩ := lst4 (hC.2.2.1 3 (by simp))
    have d0 : x00 = 2 := dg hC (i := 0) (by simp)
    have d1 : x11 = 2 := dg hC (i := 1) (by simp)
    have d2 : x22 = 2 := dg hC (i := 2) (by simp)
    have d3 : x33 = 2 := dg hC (i := 3) (by simp)
    subst d0; subst d1; subst d2; subst d3
    have s10 : (if x10 = 0 then (0 : Int) else 1) = if x01 = 0 then 0 else 1 := zsym hC (i := 1) (j := 0) (by simp) (by simp) (by decide)
    have s20 : (if x20 = 0 then (0 : Int) else 1) = if x02 = 0 then 0 else 1 := zsym hC (i := 2) (j := 0) (by simp) (by simp) (by decide)
    have s30 : (if x30 = 0 then (0 : Int) else 1) = if x03 = 0 then 0 else 1 := zsym hC (i := 3) (j := 0) (by simp) (by simp) (by decide)
    have s21 : (if x21 = 0 then (0 : Int) else 1) = if x12 = 0 then 0 else 1 := zsym hC (i := 2) (j := 1) (by simp) (by simp) (by decide)
    have s31 : (if x31 = 0 then (0 : Int) else 1) = if x13 = 0 then 0 else 1 := zsym hC (i := 3) (j := 1) (by simp) (by simp) (by decide)
    have s32 : (if x32 = 0 then (0 : Int) else 1) = if x23 = 0 then 0 else 1 := zsym hC (i := 3) (j := 2) (by simp) (by simp) (by decide)
    have e : zo [[2, x01, x02, x03], [x10, 2, x12, x13], [x20, x21, 2, x23], [x30, x31, x32, 2]] = zm4 (if x01 = 0 then 0 else 1) (if x02 = 0 then 0 else 1) (if x03 = 0 then 0 else 1) (if x12 = 0 then 0 else 1) (if x13 = 0 then 0 else 1) (if x23 = 0 then 0 else 1) := by simp [zo, zm4, s10, s20, s30, s21, s31, s32]
    rw [e]
    exact List.all_eq_true.1 (List.all_eq_true.1 (List.all_eq_true.1 (List.all_eq_true.1 (List.all_eq_true.1 (List.all_eq_true.1 chkP4 _ (z_in x01)) _ (z_in x02)) _ (z_in x03)) _ (z_in x12)) _ (z_in x13)) _ (z_in x23)

/-- the parts, of the program's search and of the reference's -/
theorem parts_of {c : List (List Int)} (hC : IsC c) : ∃ seen P, partsIG (nbTab c) c.length = some (seen, P) ∧ partsSG (nbTab c) c.length = some P ∧ (∀ p ∈ P, goodP c.length p = true) ∧ ∀ i, i < c.length → ∃ p, partS (nbTab c) i = some p ∧ 1 ≤ p.length ∧ p.length ≤ 4 := by
  have h := chkP_all hC
  unfold chkP at h
  split at h
  · rename_i seen a b h1 h2
    rw [Bool.and_eq_true, Bool.and_eq_true] at h
    have e : a = b := by simpa using h.1.1
    subst e
    refine ⟨seen, a, h1, h2, fun p hp => List.all_eq_true.1 h.1.2 p hp, fun i hi => ?_⟩
    have h3 := List.all_eq_true.1 h.2 i (List.mem_range.2 hi)
    split at h3
    · rename_i p hp
      rw [Bool.and_eq_true, decide_eq_true_eq, decide_eq_true_eq] at h3
      exact ⟨p, hp, h3⟩
    · simp at h3
  · simp at h
end Go.Proofs.YtnpechcnmchneaaGreatDoor
