/- The laws' own helpers for slices of slices: toIntSS, eqIntSS, szIntS, szIntSS. Arguments opened: integers, rows of integers (parts of XClOf); small words on blocks. -/
import Derived.Test.YtjhoimdfmcjkbaaRw
import Derived.Deep.Matrix
import Derived.Lib.SmallJoins
namespace Go.Proofs.Ytjhoimdfmcjkbaa
set_option maxRecDepth 100000
open Go.RowKit

/-- what is left of a size, or -1 -/
def szL (n : Nat) (left : Int) : Int := if left - n < 0 then -1 else left - n

/-- the sum of the rows' lengths, of the first k -/
def sumLen (rows : List (List Int)) (k : Nat) : Nat := (rows.take k).foldl (fun s r => s + r.length) 0
theorem sumLen_succ (rows : List (List Int)) (k : Nat) (hk : k < rows.length) : sumLen rows (k + 1) = sumLen rows k + (rows.getD k []).length := by
  unfold sumLen
  rw [List.take_succ_eq_append_getElem hk, List.foldl_append]
  simp [List.getD, hk]
theorem sumLen_mono (rows : List (List Int)) {k n : Nat} (h : k ≤ n) : sumLen rows k ≤ sumLen rows n := by
  induction n with
  | zero => obtain rfl : k = 0 := by omega
            exact Nat.le_refl _
  | succ n ih =>
    by_cases e : k = n + 1
    · subst e; exact Nat.le_refl _
    · have h1 := ih (by omega)
      by_cases hn : n < rows.length
      · rw [sumLen_succ _ _ hn]; omega
      · have e2 : sumLen rows (n + 1) = sumLen rows n := by
          unfold sumLen; rw [List.take_of_length_le (by omega), List.take_of_length_le (by omega)]
        omega
/-- what is left of a size behind a slice of slices, or -1 -/
def szLL (rows : List (List Int)) (left : Int) : Int := if left - rows.length - sumLen rows rows.length < 0 then -1 else left - rows.length - sumLen rows rows.length

theorem contents_append (rs : List RowRef) (r : RowRef) : contents (rs ++ [r]) = contents rs ++ [r.2.2] := by simp [contents]
theorem contents_length (rs : List RowRef) : (contents rs).length = rs.length := by simp [contents]

theorem fill_rows (rs : List RowRef) (r : RowRef) {k n : Nat} (hlt : rs.length < n) (hk : rs.length = k) :
    (rs.map rowVal ++ List.replicate (n - k) (Value.slice none 0 0)).set k (Value.slice (some ⟨r.1, 0, none⟩) r.2.2.length r.2.1) = (rs ++ [r]).map rowVal ++ List.replicate (n - (k + 1)) (Value.slice none 0 0) := by
  subst hk
  have e : n - rs.length = (n - (rs.length + 1)) + 1 := by omega
  rw [List.set_append_right _ _ (by simp), e, List.replicate_succ]
  simp [rowVal]

theorem Reads.quiet3 {f : FuncId} {args : Array Value} {w : World} {m n : Nat} {v : Value} (h : Calls Try.prog f args (w.drewN (m + n)) (Reads (w.drewN (m + n)) v)) :
    Calls Try.prog f args (w.drewN (m + n)) fun e w'' => e = .returned v ∧ ∃ k, w'' = w.drewN (m + k) :=
  h.mono fun _ _ ⟨he, k, hk⟩ => ⟨he, n + k, by rw [hk, World.drewN_drewN, Nat.add_assoc]⟩

end Go.Proofs.Ytjhoimdfmcjkbaa
namespace Go.Proofs.Ytjhoimdfmcjkbaa
set_option maxRecDepth 100000
open Go.Joins Go.ChangeShapes Go.WideShapes Go.RowKit Go.Deep

def rowsWf (rows : List (List Int)) : Prop := ∀ r ∈ rows, ∀ n ∈ r, (Lit.int .i64 n).wf = true

section
variable {H : Type} {enc : TypeId × Value → H} {w : World} {base : Nat}

theorem argInts_open {fuel : Nat} {v : Value} {x : DataW H × List MemPlace} (h : DataW.trod enc Try.prog w base (fun _ => true) true fuel 24 [v] = some x) :
    ∃ a c, ∃ xs : List Int, v = .slice a xs.length c ∧ ArgInts w a xs ∧ xs.length ≤ maxLen ∧ ∀ n ∈ xs, (Lit.int .i64 n).wf = true := by
  rcases open_ints Try.underlying24 Try.underlying3 (by kernel_rfl) h with ⟨hcs, _⟩ | ⟨a, l, c, zs, hcs, _, hl, hm, hz, _, hcell, hwz⟩
  · simp at hcs
    exact ⟨none, 0, [], hcs, .inl rfl, Nat.zero_le _, by simp⟩
  · simp at hcs
    have hz' : zs.length = c := by simpa using hz
    obtain ⟨h1, h2, h3⟩ := argInts_of (w := w) (a := some a) (len := l) (cap := c) (zs := zs) (.inr ⟨a, rfl, hl, hm, hz', hcell, hwz⟩)
    exact ⟨some a, c, zs.take l, by rw [h2]; exact hcs, h1, by rw [h2]; omega, h3⟩

theorem argRows_open {fuel : Nat} {v : Value} {x : DataW H × List MemPlace} (h : DataW.trod enc Try.prog w base (fun _ => true) true fuel 31 [v] = some x) :
    ∃ a c, ∃ rows : List (List Int), v = .slice a rows.length c ∧ ArgRows w a rows ∧ rows.length ≤ maxLen ∧ (∀ j, j < rows.length → (rows.getD j []).length ≤ maxLen) ∧ rowsWf rows := by
  rcases open_int_rows Try.underlying31 Try.underlying24 Try.underlying3 (by kernel_rfl) (by kernel_rfl) h with ⟨hcs, _⟩ | ⟨a, l, c, A, L, C, Z, hcs, _, hl, hm, _, hr⟩
  · simp at hcs
    exact ⟨none, 0, [], hcs, .inl rfl, Nat.zero_le _, by simp, by intro r hr; cases hr⟩
  · simp at hcs
    have hrow : ∀ r, r < c → ArgInts w (A r) ((Z r).take (L r)) ∧ ((Z r).take (L r)).length = L r ∧ (∀ n ∈ (Z r).take (L r), (Lit.int .i64 n).wf = true) ∧ L r ≤ maxLen := by
      intro r hrc
      obtain ⟨e0, e1, e2, e3, e4, e5, e6⟩ := hr r hrc
      have hq : ArgInts w (A r) ((Z r).take (L r)) ∧ ((Z r).take (L r)).length = L r ∧ ∀ n ∈ (Z r).take (L r), (Lit.int .i64 n).wf = true := by
        apply argInts_of (cap := C r)
        cases hA : A r with
        | none =>
          have hc0 := e5 hA
          exact .inl ⟨rfl, by omega, hc0, List.length_eq_zero_iff.1 (by omega)⟩
        | some a' =>
          exact .inr ⟨a', rfl, e1, e2, e3, fun i hi => (e6 a' hA).2 i (by omega), e4⟩
      exact ⟨hq.1, hq.2.1, hq.2.2, by omega⟩
    refine ⟨some a, c, (List.range l).map fun r => (Z r).take (L r), by simpa using hcs, ?_, by simp; omega, ?_, ?_⟩
    · by_cases h0 : l = 0
      · subst h0; exact .inl rfl
      obtain ⟨b, o, s⟩ := a
      have hc0 := (hr 0 (by omega)).1
      cases s with
      | some s => simp [World.cell?, Addr.add] at hc0; split at hc0 <;> simp_all
      | none =>
        refine .inr ⟨b, o, rfl, World.block_lt_of_cell? w _ hc0, fun j hj => ?_⟩
        simp only [List.length_map, List.length_range] at hj
        have e : ((List.range l).map fun r => (Z r).take (L r)).getD j [] = (Z j).take (L j) := by simp [List.getD_eq_getElem?_getD, hj]
        rw [e]
        obtain ⟨q1, q2, _, _⟩ := hrow j (by omega)
        refine ⟨A j, C j, ?_, q1⟩
        rw [q2]
        have := (hr j (by omega)).1
        rwa [Addr.add_lit] at this
    · intro j hj
      simp only [List.length_map, List.length_range] at hj
      have e : ((List.range l).map fun r => (Z r).take (L r)).getD j [] = (Z j).take (L j) := by simp [List.getD_eq_getElem?_getD, hj]
      rw [e]
      obtain ⟨_, q2, _, q4⟩ := hrow j (by omega)
      rw [q2]; exact q4
    · intro r hr' n hn
      obtain ⟨j, hj, rfl⟩ := List.mem_map.1 hr'
      exact (hrow j (by have := List.mem_range.1 hj; omega)).2.2.1 n hn
end

theorem cell_of_cells {w : World} {b : Nat} {cs : Array Value} {t : TypeId} (h : w.heap[b]? = some (.cells cs t (0, 0))) (i : Nat) : w.cell? ⟨b, i, none⟩ = cs[i]? := by simp [World.cell?, h]
theorem free_of_cells {w : World} {b : Nat} {cs : Array Value} {t : TypeId} (h : w.heap[b]? = some (.cells cs t (0, 0))) (i : Nat) : w.frozen? ⟨b, i, none⟩ = false := by simp [World.frozen?, h]

theorem keepCell {W W' : World} {b o : Nat} {v : Value} (hb : Below W.heap.size W W') (h : W.cell? ⟨b, o, none⟩ = some v) : W'.cell? ⟨b, o, none⟩ = some v :=
  (hb.cell (p := ⟨b, o, none⟩) (World.block_lt_of_cell? W _ h)).trans h
end Go.Proofs.Ytjhoimdfmcjkbaa
