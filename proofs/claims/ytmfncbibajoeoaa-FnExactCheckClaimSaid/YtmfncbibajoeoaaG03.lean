/- Claims: what a claim's value reads as. Arguments opened: integers, rows of integers (parts of XClOf); small words on blocks. -/
import Derived.Test.YtmfncbibajoeoaaRh
import Derived.Deep.Matrix
import Derived.Lib.SmallJoins
namespace Go.Proofs.Ytmfncbibajoeoaa
set_option maxRecDepth 100000
open Go.RowKit

/-- a value that reads as a list of integers -/
def IntsV (w : World) (v : Value) (xs : List Int) : Prop := ∃ g o n c, v = (Value.slice (some ⟨g, o, none⟩) n c) ∧ xs.length = n ∧ n ≤ c ∧ g < w.heap.size ∧ Cells w g o xs
/-- a value that reads as a list of lists of integers -/
def RowsV (w : World) (v : Value) (rows : List (List Int)) : Prop := ∃ g o n c, v = (Value.slice (some ⟨g, o, none⟩) n c) ∧ rows.length = n ∧ n ≤ c ∧ g < w.heap.size ∧ Rows2 w g o rows
theorem IntsV.below {w w' : World} {v : Value} {xs : List Int} (h : IntsV w v xs) (hb : Below w.heap.size w w') : IntsV w' v xs := by
  obtain ⟨g, o, n, c, h1, h2, h3, h4, h5⟩ := h
  exact ⟨g, o, n, c, h1, h2, h3, Nat.lt_of_lt_of_le h4 hb.size, h5.below hb h4⟩
theorem RowsV.below {w w' : World} {v : Value} {rows : List (List Int)} (h : RowsV w v rows) (hb : Below w.heap.size w w') : RowsV w' v rows := by
  obtain ⟨g, o, n, c, h1, h2, h3, h4, h5⟩ := h
  exact ⟨g, o, n, c, h1, h2, h3, Nat.lt_of_lt_of_le h4 hb.size, h5.below hb h4⟩
theorem Own.intsV {w : World} {B g cap n : Nat} {xs : List Int} (h : Own w B g cap xs) (hn : xs.length = n) : IntsV w (Value.slice (some ⟨g, 0, none⟩) n cap) xs :=
  ⟨g, 0, n, cap, rfl, hn, by have := h.capLe; omega, h.lt, h.cells⟩
theorem OwnRows.rowsV {w : World} {B g cap n : Nat} {rs : List RowRef} (h : OwnRows w B g cap rs) (hn : rs.length = n) : RowsV w (Value.slice (some ⟨g, 0, none⟩) n cap) (contents rs) :=
  ⟨g, 0, n, cap, rfl, by rw [contents_length]; exact hn, by have := h.capLe; omega, h.lt, h.rows2⟩

structure ClaimD where
  kind : Int
  cartan : List (List Int)
  a : List Int
  b : List Int
  proof : List Int
  roots : List (List Int)
def ClaimV (w : World) (v : Value) (x : ClaimD) : Prop := ∃ v1 v2 v3 v4 v5, v = .agg #[.int .i64 x.kind, v1, v2, v3, v4, v5] ∧ RowsV w v1 x.cartan ∧ IntsV w v2 x.a ∧ IntsV w v3 x.b ∧ IntsV w v4 x.proof ∧ RowsV w v5 x.roots
theorem ClaimV.below {w w' : World} {v : Value} {x : ClaimD} (h : ClaimV w v x) (hb : Below w.heap.size w w') : ClaimV w' v x := by
  obtain ⟨v1, v2, v3, v4, v5, e, h1, h2, h3, h4, h5⟩ := h
  exact ⟨v1, v2, v3, v4, v5, e, h1.below hb, h2.below hb, h3.below hb, h4.below hb, h5.below hb⟩
def rowsFewC (rows : List (List Int)) : Prop := rows.length ≤ 1048576 ∧ ∀ j, j < rows.length → (rows.getD j []).length ≤ 1048576
/-- few enough -/
def claimFew (x : ClaimD) : Prop := rowsFewC x.cartan ∧ x.a.length ≤ 1048576 ∧ x.b.length ≤ 1048576 ∧ x.proof.length ≤ 1048576 ∧ rowsFewC x.roots
def sameClaim (x y : ClaimD) : Bool := decide (x.kind = y.kind) && decide (x.cartan = y.cartan) && decide (x.a = y.a) && decide (x.b = y.b) && decide (x.proof = y.proof) && decide (x.roots = y.roots)

end Go.Proofs.Ytmfncbibajoeoaa
namespace Go.Proofs.Ytmfncbibajoeoaa
set_option maxRecDepth 100000
open Go.Joins Go.ChangeShapes Go.WideShapes Go.RowKit Go.Deep

def rowsWf (rows : List (List Int)) : Prop := ∀ r ∈ rows, ∀ n ∈ r, (Lit.int .i64 n).wf = true

section
variable {H : Type} {enc : TypeId × Value → H} {w : World} {base : Nat}

theorem argInts_open {fuel : Nat} {v : Value} {x : DataW H × List MemPlace} (h : DataW.trod enc Try.prog w base (fun _ => true) true fuel 24 [v] = some x) :
    ∃ a c, ∃ xs : List Int, v = .slice a xs.length c ∧ ArgInts w a xs ∧ xs.length ≤ maxLen ∧ ∀ n ∈ xs, (Lit.int .i64 n).wf = true := by
  rcases open_ints Try.underlying24 Try.underlying3 (by kernel_rfl) h with ⟨hcs, _⟩ | ⟨a, l, c, zs, hcs, _, hl, hm, hz, _, hcell, hwz⟩
  · simp at hcs
    exact ⟨none, 0, [], hcs, .inl rfl, Nat.zero_le _, by simp⟩
  · simp at hcs
    have hz' : zs.length = c := by simpa using hz
    obtain ⟨h1, h2, h3⟩ := argInts_of (w := w) (a := some a) (len := l) (cap := c) (zs := zs) (.inr ⟨a, rfl, hl, hm, hz', hcell, hwz⟩)
    exact ⟨some a, c, zs.take l, by rw [h2]; exact hcs, h1, by rw [h2]; omega, h3⟩

theorem argRows_open {fuel : Nat} {v : Value} {x : DataW H × List MemPlace} (h : DataW.trod enc Try.prog w base (fun _ => true) true fuel 31 [v] = some x) :
    ∃ a c, ∃ rows : List (List Int), v = .slice a rows.length c ∧ ArgRows w a rows ∧ rows.length ≤ maxLen ∧ (∀ j, j < rows.length → (rows.getD j []).length ≤ maxLen) ∧ rowsWf rows := by
  rcases open_int_rows Try.underlying31 Try.underlying24 Try.underlying3 (by kernel_rfl) (by kernel_rfl) h with ⟨hcs, _⟩ | ⟨a, l, c, A, L, C, Z, hcs, _, hl, hm, _, hr⟩
  · simp at hcs
    exact ⟨none, 0, [], hcs, .inl rfl, Nat.zero_le _, by simp, by intro r hr; cases hr⟩
  · simp at hcs
    have hrow : ∀ r, r < c → ArgInts w (A r) ((Z r).take (L r)) ∧ ((Z r).take (L r)).length = L r ∧ (∀ n ∈ (Z r).take (L r), (Lit.int .i64 n).wf = true) ∧ L r ≤ maxLen := by
      intro r hrc
      obtain ⟨e0, e1, e2, e3, e4, e5, e6⟩ := hr r hrc
      have hq : ArgInts w (A r) ((Z r).take (L r)) ∧ ((Z r).take (L r)).length = L r ∧ ∀ n ∈ (Z r).take (L r), (Lit.int .i64 n).wf = true := by
        apply argInts_of (cap := C r)
        cases hA : A r with
        | none =>
          have hc0 := e5 hA
          exact .inl ⟨rfl, by omega, hc0, List.length_eq_zero_iff.1 (by omega)⟩
        | some a' =>
          exact .inr ⟨a', rfl, e1, e2, e3, fun i hi => (e6 a' hA).2 i (by omega), e4⟩
      exact ⟨hq.1, hq.2.1, hq.2.2, by omega⟩
    refine ⟨some a, c, (List.range l).map fun r => (Z r).take (L r), by simpa using hcs, ?_, by simp; omega, ?_, ?_⟩
    · by_cases h0 : l = 0
      · subst h0; exact .inl rfl
      obtain ⟨b, o, s⟩ := a
      have hc0 := (hr 0 (by omega)).1
      cases s with
      | some s => simp [World.cell?, Addr.add] at hc0; split at hc0 <;> simp_all
      | none =>
        refine .inr ⟨b, o, rfl, World.block_lt_of_cell? w _ hc0, fun j hj => ?_⟩
        simp only [List.length_map, List.length_range] at hj
        have e : ((List.range l).map fun r => (Z r).take (L r)).getD j [] = (Z j).take (L j) := by simp [List.getD_eq_getElem?_getD, hj]
        rw [e]
        obtain ⟨q1, q2, _, _⟩ := hrow j (by omega)
        refine ⟨A j, C j, ?_, q1⟩
        rw [q2]
        have := (hr j (by omega)).1
        rwa [Addr.add_lit] at this
    · intro j hj
      simp only [List.length_map, List.length_range] at hj
      have e : ((List.range l).map fun r => (Z r).take (L r)).getD j [] = (Z j).take (L j) := by simp [List.getD_eq_getElem?_getD, hj]
      rw [e]
      obtain ⟨_, q2, _, q4⟩ := hrow j (by omega)
      rw [q2]; exact q4
    · intro r hr' n hn
      obtain ⟨j, hj, rfl⟩ := List.mem_map.1 hr'
      exact (hrow j (by have := List.mem_range.1 hj; omega)).2.2.1 n hn
end

theorem cell_of_cells {w : World} {b : Nat} {cs : Array Value} {t : TypeId} (h : w.heap[b]? = some (.cells cs t (0, 0))) (i : Nat) : w.cell? ⟨b, i, none⟩ = cs[i]? := by simp [World.cell?, h]
theorem free_of_cells {w : World} {b : Nat} {cs : Array Value} {t : TypeId} (h : w.heap[b]? = some (.cells cs t (0, 0))) (i : Nat) : w.frozen? ⟨b, i, none⟩ = false := by simp [World.frozen?, h]

theorem keepCell {W W' : World} {b o : Nat} {v : Value} (hb : Below W.heap.size W W') (h : W.cell? ⟨b, o, none⟩ = some v) : W'.cell? ⟨b, o, none⟩ = some v :=
  (hb.cell (p := ⟨b, o, none⟩) (World.block_lt_of_cell? W _ h)).trans h
end Go.Proofs.Ytmfncbibajoeoaa
