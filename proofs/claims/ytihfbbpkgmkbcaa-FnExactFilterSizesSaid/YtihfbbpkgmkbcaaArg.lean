/- Arguments opened: integers, rows of integers (parts of XClOf); small words on blocks. -/
import Derived.Test.YtihfbbpkgmkbcaaRh
import Derived.Deep.Matrix
import Derived.Lib.SmallJoins
namespace Go.Proofs.Ytihfbbpkgmkbcaa
set_option maxRecDepth 100000
open Go.Joins Go.ChangeShapes Go.WideShapes Go.RowKit Go.Deep

def rowsWf (rows : List (List Int)) : Prop := ∀ r ∈ rows, ∀ n ∈ r, (Lit.int .i64 n).wf = true

section
variable {H : Type} {enc : TypeId × Value → H} {w : World} {base : Nat}

theorem argInts_open {fuel : Nat} {v : Value} {x : DataW H × List MemPlace} (h : DataW.trod enc Try.prog w base (fun _ => true) true fuel 35 [v] = some x) :
    ∃ a c, ∃ xs : List Int, v = .slice a xs.length c ∧ ArgInts w a xs ∧ xs.length ≤ maxLen ∧ ∀ n ∈ xs, (Lit.int .i64 n).wf = true := by
  rcases open_ints Try.underlying35 Try.underlying3 (by kernel_rfl) h with ⟨hcs, _⟩ | ⟨a, l, c, zs, hcs, _, hl, hm, hz, _, hcell, hwz⟩
  · simp at hcs
    exact ⟨none, 0, [], hcs, .inl rfl, Nat.zero_le _, by simp⟩
  · simp at hcs
    have hz' : zs.length = c := by simpa using hz
    obtain ⟨h1, h2, h3⟩ := argInts_of (w := w) (a := some a) (len := l) (cap := c) (zs := zs) (.inr ⟨a, rfl, hl, hm, hz', hcell, hwz⟩)
    exact ⟨some a, c, zs.take l, by rw [h2]; exact hcs, h1, by rw [h2]; omega, h3⟩

theorem argRows_open {fuel : Nat} {v : Value} {x : DataW H × List MemPlace} (h : DataW.trod enc Try.prog w base (fun _ => true) true fuel 22 [v] = some x) :
    ∃ a c, ∃ rows : List (List Int), v = .slice a rows.length c ∧ ArgRows w a rows ∧ rows.length ≤ maxLen ∧ (∀ j, j < rows.length → (rows.getD j []).length ≤ maxLen) ∧ rowsWf rows := by
  rcases open_int_rows Try.underlying22 Try.underlying35 Try.underlying3 (by kernel_rfl) (by kernel_rfl) h with ⟨hcs, _⟩ | ⟨a, l, c, A, L, C, Z, hcs, _, hl, hm, _, hr⟩
  · simp at hcs
    exact ⟨none, 0, [], hcs, .inl rfl, Nat.zero_le _, by simp, by intro r hr; cases hr⟩
  · simp at hcs
    have hrow : ∀ r, r < c → ArgInts w (A r) ((Z r).take (L r)) ∧ ((Z r).take (L r)).length = L r ∧ (∀ n ∈ (Z r).take (L r), (Lit.int .i64 n).wf = true) ∧ L r ≤ maxLen := by
      intro r hrc
      obtain ⟨e0, e1, e2, e3, e4, e5, e6⟩ := hr r hrc
      have hq : ArgInts w (A r) ((Z r).take (L r)) ∧ ((Z r).take (L r)).length = L r ∧ ∀ n ∈ (Z r).take (L r), (Lit.int .i64 n).wf = true := by
        apply argInts_of (cap := C r)
        cases hA : A r with
        | none =>
          have hc0 := e5 hA
          exact .inl ⟨rfl, by omega, hc0, List.length_eq_zero_iff.1 (by omega)⟩
        | some a' =>
          exact .inr ⟨a', rfl, e1, e2, e3, fun i hi => (e6 a' hA).2 i (by omega), e4⟩
      exact ⟨hq.1, hq.2.1, hq.2.2, by omega⟩
    refine ⟨some a, c, (List.range l).map fun r => (Z r).take (L r), by simpa using hcs, ?_, by simp; omega, ?_, ?_⟩
    · by_cases h0 : l = 0
      · subst h0; exact .inl rfl
      obtain ⟨b, o, s⟩ := a
      have hc0 := (hr 0 (by omega)).1
      cases s with
      | some s => simp [World.cell?, Addr.add] at hc0; split at hc0 <;> simp_all
      | none =>
        refine .inr ⟨b, o, rfl, World.block_lt_of_cell? w _ hc0, fun j hj => ?_⟩
        simp only [List.length_map, List.length_range] at hj
        have e : ((List.range l).map fun r => (Z r).take (L r)).getD j [] = (Z j).take (L j) := by simp [List.getD_eq_getElem?_getD, hj]
        rw [e]
        obtain ⟨q1, q2, _, _⟩ := hrow j (by omega)
        refine ⟨A j, C j, ?_, q1⟩
        rw [q2]
        have := (hr j (by omega)).1
        rwa [Addr.add_lit] at this
    · intro j hj
      simp only [List.length_map, List.length_range] at hj
      have e : ((List.range l).map fun r => (Z r).take (L r)).getD j [] = (Z j).take (L j) := by simp [List.getD_eq_getElem?_getD, hj]
      rw [e]
      obtain ⟨_, q2, _, q4⟩ := hrow j (by omega)
      rw [q2]; exact q4
    · intro r hr' n hn
      obtain ⟨j, hj, rfl⟩ := List.mem_map.1 hr'
      exact (hrow j (by have := List.mem_range.1 hj; omega)).2.2.1 n hn
end

theorem cell_of_cells {w : World} {b : Nat} {cs : Array Value} {t : TypeId} (h : w.heap[b]? = some (.cells cs t (0, 0))) (i : Nat) : w.cell? ⟨b, i, none⟩ = cs[i]? := by simp [World.cell?, h]
theorem free_of_cells {w : World} {b : Nat} {cs : Array Value} {t : TypeId} (h : w.heap[b]? = some (.cells cs t (0, 0))) (i : Nat) : w.frozen? ⟨b, i, none⟩ = false := by simp [World.frozen?, h]

theorem keepCell {W W' : World} {b o : Nat} {v : Value} (hb : Below W.heap.size W W') (h : W.cell? ⟨b, o, none⟩ = some v) : W'.cell? ⟨b, o, none⟩ = some v :=
  (hb.cell (p := ⟨b, o, none⟩) (World.block_lt_of_cell? W _ h)).trans h
end Go.Proofs.Ytihfbbpkgmkbcaa
