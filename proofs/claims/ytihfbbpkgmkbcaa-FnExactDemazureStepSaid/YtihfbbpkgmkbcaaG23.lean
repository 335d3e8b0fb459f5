/- append of integers, of a row, inside a region that draws its order. -/
import Derived.Test.YtihfbbpkgmkbcaaG09
import Derived.Test.YtihfbbpkgmkbcaaAppRow
namespace Go.Proofs.Ytihfbbpkgmkbcaa
set_option maxRecDepth 100000
open Go.RowKit

theorem step_append_ints {ops : Array Oper} {W : World} {o : Oper} {a : Act} {K : Act → World → Prop} {Q : Exit → Act → World → Prop} {E : Prop} (hgd : o.guard = none) (s x : Operand)
    (ho : o.op = .call { callee := .builtin .append, args := #[s, x], argTypes := #[35, 35] })
    (B g cap n g2 o2 n2 c2 : Nat) (xs ys : List Int) (hn : xs.length = n) (hn2 : ys.length = n2) (hown : Own W B g cap xs) (hc : Cells W g2 o2 ys) (hs : a.eval s = (Value.slice (some ⟨g, 0, none⟩) n cap)) (hx : a.eval x = (Value.slice (some ⟨g2, o2, none⟩) n2 c2)) (hlen : n + n2 ≤ 1099511627776)
    (h : ∀ g' cap' w', Own w' B g' cap' (xs ++ ys) → W.grownBy w' (some g) → (g' = g ∨ g' = W.heap.size) → K (a.put o.dst (Value.slice (some ⟨g', 0, none⟩) (n + n2) cap')) w') :
    if Region.wanted o (yielded ops a.tmps) = true then Oper.wp Try.prog o a W K Q else E := by
  subst hn; subst hn2
  have hw : Region.wanted o (yielded ops a.tmps) = true := by simp [Region.wanted, hgd]
  rw [if_pos hw]
  obtain ⟨g', cap', w', hr, h1, h2, h3⟩ := run_append_ints hown hc (c2 := c2) hlen o.type
  unfold Oper.wp execOp
  simp only [ho, resolve, invoke, builtin, Sem.run_bind, Sem.run_pure, Result.andThen_ok, List.map_toArray, List.map_cons, List.map_nil, hs, hx, hr]
  exact h g' cap' w' h1 h2 h3

theorem step_append_intsA {ops : Array Oper} {W : World} {o : Oper} {a : Act} {K : Act → World → Prop} {Q : Exit → Act → World → Prop} {E : Prop} (hgd : o.guard = none) (s x : Operand)
    (ho : o.op = .call { callee := .builtin .append, args := #[s, x], argTypes := #[35, 35] })
    (B g cap n n2 c2 : Nat) (A : Option Addr) (xs ys : List Int) (hn : xs.length = n) (hn2 : ys.length = n2) (hown : Own W B g cap xs) (hs : a.eval s = (Value.slice (some ⟨g, 0, none⟩) n cap)) (hx : a.eval x = .slice A n2 c2) (hc : ∃ g2 o2, A = some ⟨g2, o2, none⟩ ∧ Cells W g2 o2 ys) (hlen : n + n2 ≤ 1099511627776)
    (h : ∀ g' cap' w', Own w' B g' cap' (xs ++ ys) → W.grownBy w' (some g) → (g' = g ∨ g' = W.heap.size) → K (a.put o.dst (Value.slice (some ⟨g', 0, none⟩) (n + n2) cap')) w') :
    if Region.wanted o (yielded ops a.tmps) = true then Oper.wp Try.prog o a W K Q else E := by
  obtain ⟨g2, o2, rfl, hc2⟩ := hc
  exact step_append_ints hgd s x ho B g cap n g2 o2 n2 c2 xs ys hn hn2 hown hc2 hs hx hlen h

theorem step_append_row {ops : Array Oper} {w : World} {o : Oper} {a : Act} {K : Act → World → Prop} {Q : Exit → Act → World → Prop} {E : Prop} (hgd : o.guard = none) (s x : Operand)
    (ho : o.op = .call { callee := .builtin .append, args := #[s, x], argTypes := #[22, 22] })
    (B g cap n H : Nat) (rs : List RowRef) (r : RowRef) (W : World) (hn : rs.length = n) (hW : W = w.alloc (.cells #[rowVal r] 35)) (hH : w.heap.size = H) (hown : OwnRows w B g cap rs) (hr : Own w B r.1 r.2.1 r.2.2) (hne : ∀ s ∈ rs, s.1 ≠ r.1)
    (hs : a.eval s = (Value.slice (some ⟨g, 0, none⟩) n cap)) (hx : a.eval x = (Value.slice (some ⟨H, 0, none⟩) 1 1)) (hlen : n + 1 ≤ 1048576)
    (h : ∀ g' cap' w', OwnRows w' B g' cap' (rs ++ [r]) → w.grownBy w' (some g) → (g' = g ∨ w.heap.size < g') → K (a.put o.dst (Value.slice (some ⟨g', 0, none⟩) (n + 1) cap')) w') :
    if Region.wanted o (yielded ops a.tmps) = true then Oper.wp Try.prog o a W K Q else E := by
  subst hn; subst hW; subst hH
  have hw : Region.wanted o (yielded ops a.tmps) = true := by simp [Region.wanted, hgd]
  rw [if_pos hw]
  have hl : (rs.map rowVal).length = rs.length := by simp
  obtain ⟨g', cap', w', hrun, h2, h3, h4⟩ := run_append_row hown.1 (rowVal r) rfl (by rw [hl]; exact hlen) o.type
  rw [hl] at hrun
  unfold Oper.wp execOp
  simp only [ho, resolve, invoke, builtin, Sem.run_bind, Sem.run_pure, Result.andThen_ok, List.map_toArray, List.map_cons, List.map_nil, hs, hx, hrun]
  exact h g' cap' w' (hown.push hr hne h2 h3) h3 h4
end Go.Proofs.Ytihfbbpkgmkbcaa
