/- append of one integer inside a region that draws its order (for go_region_held3). -/
import Derived.Test.YtmplcohpinghbaaGreatDoorBase
import Derived.Deep.RegionHeld3
import Derived.Deep.DrawnRows
namespace Go.Proofs.YtmplcohpinghbaaGreatDoor
open Go.RowKit

theorem step_append_int {ops : Array Oper} {w : World} {o : Oper} {a : Act} {K : Act → World → Prop} {Q : Exit → Act → World → Prop} {E : Prop} (hgd : o.guard = none) (s x : Operand)
    (ho : o.op = .call { callee := .builtin .append, args := #[s, x], argTypes := #[31, 31] })
    (B g cap n H : Nat) (xs : List Int) (z : Int) (W : World) (hn : xs.length = n) (hW : W = w.alloc (.cells #[.int .i64 z] 3)) (hH : w.heap.size = H) (hown : Own w B g cap xs) (hs : a.eval s = (Value.slice (some ⟨g, 0, none⟩) n cap)) (hx : a.eval x = (Value.slice (some ⟨H, 0, none⟩) 1 1)) (hlen : n + 1 ≤ 1099511627776)
    (h : ∀ g' cap' w', Own w' B g' cap' (xs ++ [z]) → w.grownBy w' (some g) → (g' = g ∨ w.heap.size < g') → K (a.put o.dst (Value.slice (some ⟨g', 0, none⟩) (n + 1) cap')) w') :
    if Region.wanted o (yielded ops a.tmps) = true then Oper.wp Tryz.prog o a W K Q else E := by
  subst hn; subst hH; subst hW
  have hw : Region.wanted o (yielded ops a.tmps) = true := by simp [Region.wanted, hgd]
  rw [if_pos hw]
  obtain ⟨g', cap', w', hr, h1, h2, h3⟩ := run_append_ints (hown.alloc (.cells #[.int .i64 z] 3)) (Own.new (B := w.heap.size) z (Nat.le_refl _)).cells (c2 := 1) hlen o.type
  have hgr : w.grownBy w' (some g) := ⟨h2.os, h2.tape, h2.output, Nat.le_trans (by simp) h2.size, fun k hk hne => (h2.block k (by simp; omega) hne).trans (Below.heap_alloc _ _ _ hk)⟩
  have hx' : a.eval x = (Value.slice (some ⟨w.heap.size, 0, none⟩) ([z].length) 1) := hx
  unfold Oper.wp execOp
  simp only [ho, resolve, invoke, builtin, Sem.run_bind, Sem.run_pure, Result.andThen_ok, List.map_toArray, List.map_cons, List.map_nil, hs, hx', hr]
  exact h g' cap' w' h1 hgr (h3.imp id (by simp; omega))
end Go.Proofs.YtmplcohpinghbaaGreatDoor
