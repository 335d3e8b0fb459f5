/- More words: append of one integer at a named length; a call that gives a value. -/
import Derived.Test.YtmplcohpinghbaaHelp
namespace Go.Proofs.Ytmplcohpinghbaa
open Go.RowKit

/-- the call gives a value and leaves what was there -/
def Gives (w : World) (v : Value) (e : Ending) (w' : World) : Prop := e = .returned v ∧ Below w.heap.size w w'

theorem wpList_append_int_n {w : World} {ops : Array Oper} {rest : List Oper} {o : Oper} {a : Act} {Q : Exit → Act → World → Prop} (hgd : o.guard = none) (s x : Operand)
    (ho : o.op = .call { callee := .builtin .append, args := #[s, x], argTypes := #[29, 29] })
    (B g cap n : Nat) (xs : List Int) (z : Int) (hn : xs.length = n) (hown : Own w B g cap xs) (hs : a.eval s = (Value.slice (some ⟨g, 0, none⟩) n cap)) (hx : a.eval x = (Value.slice (some ⟨w.heap.size, 0, none⟩) 1 1)) (hlen : n + 1 ≤ 1099511627776)
    (h : ∀ g' cap' w', Own w' B g' cap' (xs ++ [z]) → w.grownBy w' (some g) → (g' = g ∨ w.heap.size < g') → wpList Try.prog ops Q rest (a.put o.dst (Value.slice (some ⟨g', 0, none⟩) (n + 1) cap')) w') :
    wpList Try.prog ops Q (o :: rest) a (w.alloc (.cells #[.int .i64 z] 3)) := by
  subst hn
  exact wpList_append_int hgd s x ho B g cap xs z hown hs hx hlen h

theorem marks_succ (k n : Nat) : marks k (n + 1) = marks k n ++ [((k + n : Nat) : Int)] := by simp [marks, List.range_succ]
end Go.Proofs.Ytmplcohpinghbaa
