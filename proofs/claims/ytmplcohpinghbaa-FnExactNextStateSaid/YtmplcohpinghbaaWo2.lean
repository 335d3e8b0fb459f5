/- toWeighted(S), eqWeighted(S): contracts. -/
import Derived.Test.YtmplcohpinghbaaWo
namespace Go.Proofs.Ytmplcohpinghbaa
open Go.RowKit

theorem three_blocks (w : World) (o0 o1 o2 : Obj) : (((w.alloc o0).alloc o1).alloc o2).heap[w.heap.size]? = some o0 ∧ (((w.alloc o0).alloc o1).alloc o2).heap[w.heap.size + 1]? = some o1 ∧ (((w.alloc o0).alloc o1).alloc o2).heap[w.heap.size + 1 + 1]? = some o2 := by
  have e : (((w.alloc o0).alloc o1).alloc o2).heap = ((w.heap.push o0).push o1).push o2 := rfl
  rw [e]
  refine ⟨?_, ?_, ?_⟩
  · rw [Array.getElem?_push, if_neg (by simp; omega), Array.getElem?_push, if_neg (by simp), Array.getElem?_push, if_pos rfl]
  · rw [Array.getElem?_push, if_neg (by simp), Array.getElem?_push, if_pos (by simp)]
  · rw [Array.getElem?_push, if_pos (by simp)]

theorem inner_setNe {w : World} {B : Nat} {rs : List RowRef} (h : Inner w B rs) (p : Addr) (v : Value) (hp : ∀ r ∈ rs, r.1 ≠ p.block) : Inner (w.setCell p v) B rs :=
  ⟨fun r hr => (h.1 r hr).setNe p v (hp r hr), h.2⟩

end Go.Proofs.Ytmplcohpinghbaa
