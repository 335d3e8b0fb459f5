/- Lists of weights with counts of the call's own; what came in as one; toWeighted, szWeighted, eqWeighted. IsSymmetric: contracts. toWeighted(S), eqWeighted(S): contracts. eqWeighted(S): contracts for equal values. An argument that is a list of weights with counts, opened. -/
import Derived.Test.YtmfncbibajoeoaaG03
import Derived.Test.YtmfncbibajoeoaaG15
import Derived.Test.YtmfncbibajoeoaaG36
import Derived.Laws.ResultCell
import Derived.Test.YtmfncbibajoeoaaG16
import Derived.Deep.Slices
import Derived.Deep.Fields
import Derived.ChangeSame
namespace Go.Proofs.Ytmfncbibajoeoaa
set_option maxRecDepth 100000
open Go.RowKit

theorem Own.setNe {w : World} {B g cap : Nat} {xs : List Int} (h : Own w B g cap xs) (p : Addr) (v : Value) (hp : g ≠ p.block) : Own (w.setCell p v) B g cap xs := by
  refine ⟨h.1, ?_⟩
  rcases h.2 with ⟨h', _⟩ | ⟨g', cap', cur, h', hbb, hh, r⟩
  · simp at h'
  · refine .inr ⟨g', cap', cur, h', hbb, ?_, r⟩
    simp only [Value.slice.injEq, Option.some.injEq, Addr.mk.injEq] at h'
    obtain ⟨⟨rfl, _⟩, _⟩ := h'
    rw [Below.heap_setCell _ _ _ _ hp]; exact hh

/-- a row with its count: its block, its capacity, its numbers; the count -/
abbrev WRef := RowRef × Int
def flatW (rs : List WRef) : List Value := rs.flatMap fun r => [rowVal r.1, .int .i64 r.2]
def contW (rs : List WRef) : List Wt := rs.map fun r => (r.1.2.2, r.2)
theorem contW_length (rs : List WRef) : (contW rs).length = rs.length := by simp [contW]
theorem flatW_length (rs : List WRef) : (flatW rs).length = rs.length * 2 := by
  induction rs with
  | nil => rfl
  | cons r rs ih => simp only [flatW, List.flatMap_cons, List.length_append, List.length_cons, List.length_nil] at *; rw [ih]; omega
theorem flatW_append (a b : List WRef) : flatW (a ++ b) = flatW a ++ flatW b := by simp [flatW]
theorem flatW_one (r : WRef) : flatW [r] = [rowVal r.1, .int .i64 r.2] := rfl
theorem flatW_at (rs : List WRef) (zs : List Value) (j : Nat) (hj : j < rs.length) : (flatW rs ++ zs)[j * 2]? = some (rowVal rs[j].1) ∧ (flatW rs ++ zs)[j * 2 + 1]? = some (.int .i64 rs[j].2) := by
  have e : rs = rs.take j ++ [rs[j]] ++ rs.drop (j + 1) := by
    have h1 : rs.drop j = rs[j] :: rs.drop (j + 1) := List.drop_eq_getElem_cons hj
    rw [List.append_assoc, List.singleton_append, ← h1, List.take_append_drop]
  have hl : (flatW (rs.take j)).length = j * 2 := by rw [flatW_length, List.length_take]; omega
  have e2 : flatW rs ++ zs = flatW (rs.take j) ++ (rowVal rs[j].1 :: .int .i64 rs[j].2 :: (flatW (rs.drop (j + 1)) ++ zs)) := by
    conv => lhs; rw [e, flatW_append, flatW_append, flatW_one]
    simp
  rw [e2]
  constructor
  · rw [List.getElem?_append_right (by omega), hl]; simp
  · rw [List.getElem?_append_right (by omega), hl, show j * 2 + 1 - j * 2 = 1 by omega]; simp
theorem flatW_put (rs : List WRef) (r : WRef) (zs : List Value) (j : Nat) (hj : rs.length = j) (hz : 2 ≤ zs.length) :
    ((flatW rs ++ zs).set (j * 2) (rowVal r.1)).set (j * 2 + 1) (.int .i64 r.2) = flatW (rs ++ [r]) ++ zs.drop 2 := by
  have hl : (flatW rs).length = j * 2 := by rw [flatW_length, hj]
  match zs, hz with
  | a :: b :: zs', _ =>
    rw [List.set_append_right _ _ (by omega), hl, Nat.sub_self, List.set_cons_zero, List.set_append_right _ _ (by omega), hl, show j * 2 + 1 - j * 2 = 1 by omega, flatW_append, flatW_one]
    simp

theorem wOf_cont (rs : List WRef) (j : Nat) (hj : j < rs.length) : wOf (contW rs) j = rs[j].1.2.2 ∧ ctOf (contW rs) j = rs[j].2 := by
  simp [wOf, ctOf, contW, List.getD, hj]
/-- what came in as a list of weights with counts -/
def ArgWts (w : World) (a : Option Addr) (l : List Wt) : Prop :=
  l = [] ∨ ∃ g o, a = some ⟨g, o, none⟩ ∧ g < w.heap.size ∧ ∀ j, j < l.length → ∃ aj cj, w.cell? ⟨g, o + j * 2, none⟩ = some (.slice aj (wOf l j).length cj) ∧ w.cell? ⟨g, o + j * 2 + 1, none⟩ = some (.int .i64 (ctOf l j)) ∧ ArgInts w aj (wOf l j)
theorem ArgWts.below {w w' : World} {a : Option Addr} {l : List Wt} (h : ArgWts w a l) (hb : Below w.heap.size w w') : ArgWts w' a l := by
  rcases h with h | ⟨g, o, ha, hg, hc⟩
  · exact .inl h
  · refine .inr ⟨g, o, ha, Nat.lt_of_lt_of_le hg hb.size, fun j hj => ?_⟩
    obtain ⟨aj, cj, h1, h2, h3⟩ := hc j hj
    exact ⟨aj, cj, (hb.cell (p := ⟨g, o + j * 2, none⟩) hg).trans h1, (hb.cell (p := ⟨g, o + j * 2 + 1, none⟩) hg).trans h2, h3.below hb⟩

/-- the size of a list: what is left, where it is not negative, tells that it is small -/
def szWPost (l : List Wt) (w : World) (e : Ending) (w' : World) : Prop := ∃ L : Int, e = .returned (.int .i64 L) ∧ (0 ≤ L → wFew l ∧ L ≤ 1048576) ∧ Below w.heap.size w w'

theorem szL_bound {n : Nat} {left : Int} (hl : left ≤ 1048576) (h : 0 ≤ szL n left) : n ≤ 1048576 ∧ szL n left ≤ 1048576 := by
  unfold szL at *
  split at h
  · omega
  · rename_i hh; rw [if_neg hh]; omega

end Go.Proofs.Ytmfncbibajoeoaa
namespace Go.Proofs.Ytmfncbibajoeoaa
set_option maxRecDepth 100000
open Go.RowKit

def rowSym (c : List (List Int)) (l : List Wt) (j k : Nat) : Prop := ∀ i, i < k → countIn l (reflW c (i : Int) (wOf l j)) = ctOf l j
def symAll (c : List (List Int)) (l : List Wt) : Prop := IsC c ∧ ∀ j, j < l.length → rowSym c l j c.length
instance (c : List (List Int)) (l : List Wt) (j k : Nat) : Decidable (rowSym c l j k) := by unfold rowSym; infer_instance
instance (c : List (List Int)) (l : List Wt) : Decidable (symAll c l) := by unfold symAll; infer_instance
def symB (c : List (List Int)) (l : List Wt) : Bool := decide (symAll c l)
theorem symB_true {c : List (List Int)} {l : List Wt} (h : symAll c l) : symB c l = true := decide_eq_true h
theorem symB_false {c : List (List Int)} {l : List Wt} (h : ¬ symAll c l) : symB c l = false := decide_eq_false h
attribute [local go_sem ↓] Go.wp_at_zero Go.wp_at_succ
def symTo (c : List (List Int)) (l : List Wt) (i : Nat) : Prop := ∀ j, j < l.length → rowSym c l j i
theorem symTo_step {c : List (List Int)} {l : List Wt} {i : Nat} (h : symTo c l i) (h2 : ∀ j, j < l.length → countIn l (reflW c (i : Int) (wOf l j)) = ctOf l j) : symTo c l (i + 1) := by
  intro j hj t ht
  by_cases e : t = i
  · subst e; exact h2 j hj
  · exact h j hj t (by omega)

end Go.Proofs.Ytmfncbibajoeoaa
namespace Go.Proofs.Ytmfncbibajoeoaa
set_option maxRecDepth 100000
open Go.RowKit

theorem three_blocks (w : World) (o0 o1 o2 : Obj) : (((w.alloc o0).alloc o1).alloc o2).heap[w.heap.size]? = some o0 ∧ (((w.alloc o0).alloc o1).alloc o2).heap[w.heap.size + 1]? = some o1 ∧ (((w.alloc o0).alloc o1).alloc o2).heap[w.heap.size + 1 + 1]? = some o2 := by
  have e : (((w.alloc o0).alloc o1).alloc o2).heap = ((w.heap.push o0).push o1).push o2 := rfl
  rw [e]
  refine ⟨?_, ?_, ?_⟩
  · rw [Array.getElem?_push, if_neg (by simp; omega), Array.getElem?_push, if_neg (by simp), Array.getElem?_push, if_pos rfl]
  · rw [Array.getElem?_push, if_neg (by simp), Array.getElem?_push, if_pos (by simp)]
  · rw [Array.getElem?_push, if_pos (by simp)]

theorem inner_setNe {w : World} {B : Nat} {rs : List RowRef} (h : Inner w B rs) (p : Addr) (v : Value) (hp : ∀ r ∈ rs, r.1 ≠ p.block) : Inner (w.setCell p v) B rs :=
  ⟨fun r hr => (h.1 r hr).setNe p v (hp r hr), h.2⟩

end Go.Proofs.Ytmfncbibajoeoaa
namespace Go.Proofs.Ytmfncbibajoeoaa
set_option maxRecDepth 100000
open Go.RowKit

attribute [local go_sem ↓] Go.wp_at_zero Go.wp_at_succ
end Go.Proofs.Ytmfncbibajoeoaa
namespace Go.Proofs.Ytmfncbibajoeoaa
set_option maxRecDepth 100000
open Go.Joins Go.ChangeShapes Go.WideShapes Go.RowKit Go.Deep

theorem list_of_all {α : Type} (d : α) (n : Nat) (Q : Nat → α → Prop) (h : ∀ i, i < n → ∃ p, Q i p) : ∃ l : List α, l.length = n ∧ ∀ i, i < n → Q i (l.getD i d) := by
  induction n with
  | zero => exact ⟨[], rfl, by omega⟩
  | succ n ih =>
    obtain ⟨l, hl, hq⟩ := ih (fun i hi => h i (by omega))
    obtain ⟨p, hp⟩ := h n (by omega)
    refine ⟨l ++ [p], by simp [hl], fun i hi => ?_⟩
    by_cases e : i = n
    · subst e; simpa [List.getD, hl] using hp
    · have := hq i (by omega)
      have hi' : i < l.length := by omega
      simpa [List.getD, List.getElem?_append_left hi'] using this

section
variable {H : Type} {enc : TypeId × Value → H} {w : World} {base : Nat}
end
end Go.Proofs.Ytmfncbibajoeoaa
