/- toWeighted(S), eqWeighted(S): contracts. eqWeighted(S): contracts for equal values. An argument that is a list of weights with counts, opened. -/
import Derived.Test.YtmplcohpinghbaaGreatDoorWo
import Derived.Test.YtmplcohpinghbaaGreatDoorSym
import Derived.Deep.Slices
import Derived.Deep.Fields
import Derived.ChangeSame
namespace Go.Proofs.YtmplcohpinghbaaGreatDoor
open Go.RowKit

theorem three_blocks (w : World) (o0 o1 o2 : Obj) : (((w.alloc o0).alloc o1).alloc o2).heap[w.heap.size]? = some o0 ∧ (((w.alloc o0).alloc o1).alloc o2).heap[w.heap.size + 1]? = some o1 ∧ (((w.alloc o0).alloc o1).alloc o2).heap[w.heap.size + 1 + 1]? = some o2 := by
  have e : (((w.alloc o0).alloc o1).alloc o2).heap = ((w.heap.push o0).push o1).push o2 := rfl
  rw [e]
  refine ⟨?_, ?_, ?_⟩
  · rw [Array.getElem?_push, if_neg (by simp; omega), Array.getElem?_push, if_neg (by simp), Array.getElem?_push, if_pos rfl]
  · rw [Array.getElem?_push, if_neg (by simp), Array.getElem?_push, if_pos (by simp)]
  · rw [Array.getElem?_push, if_pos (by simp)]

theorem inner_setNe {w : World} {B : Nat} {rs : List RowRef} (h : Inner w B rs) (p : Addr) (v : Value) (hp : ∀ r ∈ rs, r.1 ≠ p.block) : Inner (w.setCell p v) B rs :=
  ⟨fun r hr => (h.1 r hr).setNe p v (hp r hr), h.2⟩

end Go.Proofs.YtmplcohpinghbaaGreatDoor
namespace Go.Proofs.YtmplcohpinghbaaGreatDoor
open Go.RowKit

attribute [local go_sem ↓] Go.wp_at_zero Go.wp_at_succ
end Go.Proofs.YtmplcohpinghbaaGreatDoor
namespace Go.Proofs.YtmplcohpinghbaaGreatDoor
open Go.Joins Go.ChangeShapes Go.WideShapes Go.RowKit Go.Deep

theorem list_of_all {α : Type} (d : α) (n : Nat) (Q : Nat → α → Prop) (h : ∀ i, i < n → ∃ p, Q i p) : ∃ l : List α, l.length = n ∧ ∀ i, i < n → Q i (l.getD i d) := by
  induction n with
  | zero => exact ⟨[], rfl, by omega⟩
  | succ n ih =>
    obtain ⟨l, hl, hq⟩ := ih (fun i hi => h i (by omega))
    obtain ⟨p, hp⟩ := h n (by omega)
    refine ⟨l ++ [p], by simp [hl], fun i hi => ?_⟩
    by_cases e : i = n
    · subst e; simpa [List.getD, hl] using hp
    · have := hq i (by omega)
      have hi' : i < l.length := by omega
      simpa [List.getD, List.getElem?_append_left hi'] using this

section
variable {H : Type} {enc : TypeId × Value → H} {w : World} {base : Nat}
end
end Go.Proofs.YtmplcohpinghbaaGreatDoor
