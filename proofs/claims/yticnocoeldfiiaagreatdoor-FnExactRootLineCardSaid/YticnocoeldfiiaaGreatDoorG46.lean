/- Slices of strings of the call's own. -/
import Derived.Test.YticnocoeldfiiaaGreatDoorG05
namespace Go.Proofs.YticnocoeldfiiaaGreatDoor
open Go.RowKit

theorem infoStr : (Tryz.prog.info? 9).map (fun i => (i.zero, i.size, i.bytes)) = some (some (.string ⟨#[]⟩), 1, 16) := by kernel_rfl
def OwnStrs (w : World) (B g cap : Nat) (xs : List ByteArray) : Prop := OwnK w B 9 1 g cap xs.length (xs.map Value.string)
section
variable {w w' : World} {B g cap : Nat} {xs : List ByteArray}
theorem OwnStrs.empty (hB : B ≤ w.heap.size) : OwnStrs (w.alloc (.cells #[] 9)) B w.heap.size 0 [] := World.ownsRow_lit w #[] 0 hB (by decide) rfl
theorem OwnStrs.one (x : ByteArray) (hB : B ≤ w.heap.size) : OwnStrs (w.alloc (.cells #[.string x] 9)) B w.heap.size 1 [x] := World.ownsRow_lit w #[.string x] 1 hB (by decide) rfl
theorem OwnStrs.cell (h : OwnStrs w B g cap xs) : ∀ (j : Nat) x, xs[j]? = some x → w.cell? ⟨g, 0 + j, none⟩ = some (.string x) := by
  intro j x hx
  have hj : j < xs.length := (List.getElem?_eq_some_iff.1 hx).1
  rw [Nat.zero_add, OwnK.cell h j (by rw [List.length_map]; exact hj)]
  have : xs[j] = x := by rw [List.getElem?_eq_getElem hj] at hx; exact Option.some.inj hx
  simp [this]
theorem OwnStrs.capLe (h : OwnStrs w B g cap xs) : xs.length ≤ cap := by obtain ⟨cur, -, h2, -⟩ := OwnK.row h; exact h2
theorem wpList_append_str {ops : Array Oper} {rest : List Oper} {o : Oper} {a : Act} {Q : Exit → Act → World → Prop} (hgd : o.guard = none) (s x : Operand)
    (ho : o.op = .call { callee := .builtin .append, args := #[s, x], argTypes := #[45, 45] })
    (B g cap n H : Nat) (xs : List ByteArray) (z : ByteArray) (w W : World) (hn : xs.length = n) (hW : W = w.alloc (.cells #[.string z] 9)) (hH : w.heap.size = H) (hown : OwnStrs w B g cap xs)
    (hs : a.eval s = (Value.slice (some ⟨g, 0, none⟩) n cap)) (hx : a.eval x = (Value.slice (some ⟨H, 0, none⟩) 1 1)) (hlen : n + 1 ≤ 1048576)
    (h : ∀ g' cap' w', OwnStrs w' B g' cap' (xs ++ [z]) → w.grownBy w' (some g) → (g' = g ∨ w.heap.size < g') → wpList Tryz.prog ops Q rest (a.put o.dst (Value.slice (some ⟨g', 0, none⟩) (n + 1) cap')) w') :
    wpList Tryz.prog ops Q (o :: rest) a W := by
  subst hn; subst hW; subst hH
  have hnew := OwnStrs.one (w := w) (B := w.heap.size) z (Nat.le_refl _)
  refine wpList_append_K infoStr Tryz.underlying45 rfl (by decide) (by decide) hgd s x ho B g cap xs.length (xs.map Value.string) (OwnK.alloc hown _) w.heap.size 0 1 1 [.string z] rfl ?_ ?_ hs hx hlen ?_
  · intro j u hu
    have hj : j = 0 := by have := (List.getElem?_eq_some_iff.1 hu).1; simp at this; exact this
    subst hj
    have := hnew.cell 0 z rfl
    rw [this]
    simpa using hu
  · intro u hu
    simp at hu
    subst hu
    rfl
  · intro g' cap' w' h2 h3 h4
    refine h g' cap' w' ?_ ⟨h3.os, h3.tape, h3.output, Nat.le_trans (by simp) h3.size, fun k hk hne => (h3.block k (by simp; omega) hne).trans (Below.heap_alloc _ _ _ hk)⟩ (h4.imp id (by simp; omega))
    unfold OwnStrs
    rw [List.map_append, List.length_append]
    exact h2
end

end Go.Proofs.YticnocoeldfiiaaGreatDoor
