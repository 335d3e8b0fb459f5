/- Claims: what a claim's value reads as. -/
import Derived.Test.YthlbkdcmhelggaaDoorRh
namespace Go.Proofs.YthlbkdcmhelggaaDoor
open Go.RowKit

/-- a value that reads as a list of integers -/
def IntsV (w : World) (v : Value) (xs : List Int) : Prop := ∃ g o n c, v = (Value.slice (some ⟨g, o, none⟩) n c) ∧ xs.length = n ∧ n ≤ c ∧ g < w.heap.size ∧ Cells w g o xs
/-- a value that reads as a list of lists of integers -/
def RowsV (w : World) (v : Value) (rows : List (List Int)) : Prop := ∃ g o n c, v = (Value.slice (some ⟨g, o, none⟩) n c) ∧ rows.length = n ∧ n ≤ c ∧ g < w.heap.size ∧ Rows2 w g o rows
theorem IntsV.below {w w' : World} {v : Value} {xs : List Int} (h : IntsV w v xs) (hb : Below w.heap.size w w') : IntsV w' v xs := by
  obtain ⟨g, o, n, c, h1, h2, h3, h4, h5⟩ := h
  exact ⟨g, o, n, c, h1, h2, h3, Nat.lt_of_lt_of_le h4 hb.size, h5.below hb h4⟩
theorem RowsV.below {w w' : World} {v : Value} {rows : List (List Int)} (h : RowsV w v rows) (hb : Below w.heap.size w w') : RowsV w' v rows := by
  obtain ⟨g, o, n, c, h1, h2, h3, h4, h5⟩ := h
  exact ⟨g, o, n, c, h1, h2, h3, Nat.lt_of_lt_of_le h4 hb.size, h5.below hb h4⟩
theorem Own.intsV {w : World} {B g cap n : Nat} {xs : List Int} (h : Own w B g cap xs) (hn : xs.length = n) : IntsV w (Value.slice (some ⟨g, 0, none⟩) n cap) xs :=
  ⟨g, 0, n, cap, rfl, hn, by have := h.capLe; omega, h.lt, h.cells⟩
theorem OwnRows.rowsV {w : World} {B g cap n : Nat} {rs : List RowRef} (h : OwnRows w B g cap rs) (hn : rs.length = n) : RowsV w (Value.slice (some ⟨g, 0, none⟩) n cap) (contents rs) :=
  ⟨g, 0, n, cap, rfl, by rw [contents_length]; exact hn, by have := h.capLe; omega, h.lt, h.rows2⟩

structure ClaimD where
  kind : Int
  cartan : List (List Int)
  a : List Int
  b : List Int
  proof : List Int
  roots : List (List Int)
def ClaimV (w : World) (v : Value) (x : ClaimD) : Prop := ∃ v1 v2 v3 v4 v5, v = .agg #[.int .i64 x.kind, v1, v2, v3, v4, v5] ∧ RowsV w v1 x.cartan ∧ IntsV w v2 x.a ∧ IntsV w v3 x.b ∧ IntsV w v4 x.proof ∧ RowsV w v5 x.roots
theorem ClaimV.below {w w' : World} {v : Value} {x : ClaimD} (h : ClaimV w v x) (hb : Below w.heap.size w w') : ClaimV w' v x := by
  obtain ⟨v1, v2, v3, v4, v5, e, h1, h2, h3, h4, h5⟩ := h
  exact ⟨v1, v2, v3, v4, v5, e, h1.below hb, h2.below hb, h3.below hb, h4.below hb, h5.below hb⟩
def rowsFew (rows : List (List Int)) : Prop := rows.length ≤ 1048576 ∧ ∀ j, j < rows.length → (rows.getD j []).length ≤ 1048576
/-- few enough -/
def claimFew (x : ClaimD) : Prop := rowsFew x.cartan ∧ x.a.length ≤ 1048576 ∧ x.b.length ≤ 1048576 ∧ x.proof.length ≤ 1048576 ∧ rowsFew x.roots
def sameClaim (x y : ClaimD) : Bool := decide (x.kind = y.kind) && decide (x.cartan = y.cartan) && decide (x.a = y.a) && decide (x.b = y.b) && decide (x.proof = y.proof) && decide (x.roots = y.roots)

end Go.Proofs.YthlbkdcmhelggaaDoor
