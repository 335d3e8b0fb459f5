/- Arguments opened: rows of integers; a claim. -/
import Derived.Test.YthlbkdcmhelggaaDoorCl2
import Derived.Deep.Matrix
import Derived.Lib.SmallJoins
namespace Go.Proofs.YthlbkdcmhelggaaDoor
open Go.Joins Go.ChangeShapes Go.WideShapes Go.RowKit Go.Deep

def rowsWf (rows : List (List Int)) : Prop := ∀ r ∈ rows, ∀ n ∈ r, (Lit.int .i64 n).wf = true

section
variable {H : Type} {enc : TypeId × Value → H} {w : World} {base : Nat}

theorem argInts_open {fuel : Nat} {v : Value} {x : DataW H × List MemPlace} (h : DataW.trod enc Tryd.prog w base (fun _ => true) true fuel 23 [v] = some x) :
    ∃ a c, ∃ xs : List Int, v = .slice a xs.length c ∧ ArgInts w a xs ∧ xs.length ≤ maxLen ∧ ∀ n ∈ xs, (Lit.int .i64 n).wf = true := by
  rcases open_ints Tryd.underlying23 Tryd.underlying3 (by kernel_rfl) h with ⟨hcs, _⟩ | ⟨a, l, c, zs, hcs, _, hl, hm, hz, _, hcell, hwz⟩
  · simp at hcs
    exact ⟨none, 0, [], hcs, .inl rfl, Nat.zero_le _, by simp⟩
  · simp at hcs
    have hz' : zs.length = c := by simpa using hz
    obtain ⟨h1, h2, h3⟩ := argInts_of (w := w) (a := some a) (len := l) (cap := c) (zs := zs) (.inr ⟨a, rfl, hl, hm, hz', hcell, hwz⟩)
    exact ⟨some a, c, zs.take l, by rw [h2]; exact hcs, h1, by rw [h2]; omega, h3⟩

theorem argRows_open {fuel : Nat} {v : Value} {x : DataW H × List MemPlace} (h : DataW.trod enc Tryd.prog w base (fun _ => true) true fuel 22 [v] = some x) :
    ∃ a c, ∃ rows : List (List Int), v = .slice a rows.length c ∧ ArgRows w a rows ∧ rows.length ≤ maxLen ∧ (∀ j, j < rows.length → (rows.getD j []).length ≤ maxLen) ∧ rowsWf rows := by
  rcases open_int_rows Tryd.underlying22 Tryd.underlying23 Tryd.underlying3 (by kernel_rfl) (by kernel_rfl) h with ⟨hcs, _⟩ | ⟨a, l, c, A, L, C, Z, hcs, _, hl, hm, _, hr⟩
  · simp at hcs
    exact ⟨none, 0, [], hcs, .inl rfl, Nat.zero_le _, by simp, by intro r hr; cases hr⟩
  · simp at hcs
    have hrow : ∀ r, r < c → ArgInts w (A r) ((Z r).take (L r)) ∧ ((Z r).take (L r)).length = L r ∧ (∀ n ∈ (Z r).take (L r), (Lit.int .i64 n).wf = true) ∧ L r ≤ maxLen := by
      intro r hrc
      obtain ⟨e0, e1, e2, e3, e4, e5, e6⟩ := hr r hrc
      have hq : ArgInts w (A r) ((Z r).take (L r)) ∧ ((Z r).take (L r)).length = L r ∧ ∀ n ∈ (Z r).take (L r), (Lit.int .i64 n).wf = true := by
        apply argInts_of (cap := C r)
        cases hA : A r with
        | none =>
          have hc0 := e5 hA
          exact .inl ⟨rfl, by omega, hc0, List.length_eq_zero_iff.1 (by omega)⟩
        | some a' =>
          exact .inr ⟨a', rfl, e1, e2, e3, fun i hi => (e6 a' hA).2 i (by omega), e4⟩
      exact ⟨hq.1, hq.2.1, hq.2.2, by omega⟩
    refine ⟨some a, c, (List.range l).map fun r => (Z r).take (L r), by simpa using hcs, ?_, by simp; omega, ?_, ?_⟩
    · by_cases h0 : l = 0
      · subst h0; exact .inl rfl
      obtain ⟨b, o, s⟩ := a
      have hc0 := (hr 0 (by omega)).1
      cases s with
      | some s => simp [World.cell?, Addr.add] at hc0; split at hc0 <;> simp_all
      | none =>
        refine .inr ⟨b, o, rfl, World.block_lt_of_cell? w _ hc0, fun j hj => ?_⟩
        simp only [List.length_map, List.length_range] at hj
        have e : ((List.range l).map fun r => (Z r).take (L r)).getD j [] = (Z j).take (L j) := by simp [List.getD_eq_getElem?_getD, hj]
        rw [e]
        obtain ⟨q1, q2, _, _⟩ := hrow j (by omega)
        refine ⟨A j, C j, ?_, q1⟩
        rw [q2]
        have := (hr j (by omega)).1
        rwa [Addr.add_lit] at this
    · intro j hj
      simp only [List.length_map, List.length_range] at hj
      have e : ((List.range l).map fun r => (Z r).take (L r)).getD j [] = (Z j).take (L j) := by simp [List.getD_eq_getElem?_getD, hj]
      rw [e]
      obtain ⟨_, q2, _, q4⟩ := hrow j (by omega)
      rw [q2]; exact q4
    · intro r hr' n hn
      obtain ⟨j, hj, rfl⟩ := List.mem_map.1 hr'
      exact (hrow j (by have := List.mem_range.1 hj; omega)).2.2.1 n hn

theorem open_agg6 {P : Program} {spare : Nat → Bool} {held : Bool} {r : Reach} {b0 : Nat} {t : TypeId} {f0 f1 f2 f3 f4 f5 : Field} {v : Value} {d : DataW H} {p : List MemPlace} (hs : P.underlying t = some (.struct #[f0, f1, f2, f3, f4, f5])) (hone : oneCellFields P #[f0, f1, f2, f3, f4, f5] = true) (hC : P.cellsOf t = 6)
    (hv : Value.okWide P w r b0 t v) (h : DataW.Trod enc P w base spare held t v d p) :
    ∃ (v0 v1 v2 v3 v4 v5 : Value) (y0 y1 y2 y3 y4 y5 : DataW H × List MemPlace) (n : Nat), v = .agg #[v0, v1, v2, v3, v4, v5] ∧
      DataW.trod enc P w base spare held n f0.type [v0] = some y0 ∧ DataW.trod enc P w base spare held n f1.type [v1] = some y1 ∧ DataW.trod enc P w base spare held n f2.type [v2] = some y2 ∧ DataW.trod enc P w base spare held n f3.type [v3] = some y3 ∧ DataW.trod enc P w base spare held n f4.type [v4] = some y4 ∧ DataW.trod enc P w base spare held n f5.type [v5] = some y5 := by
  obtain ⟨cs, rfl, hsz⟩ := okWide_struct hs hv
  obtain ⟨l⟩ := cs
  match l, hsz.trans hC with
  | [c0, c1, c2, c3, c4, c5], _ =>
    obtain ⟨fuel, hf⟩ := h
    obtain ⟨xs, n, _, hx, _, hlen, hg⟩ := DataW.trod_struct hs hf
    obtain ⟨o0, k0⟩ := hone_of hone 0 f0 rfl
    obtain ⟨o1, k1⟩ := hone_of hone 1 f1 rfl
    obtain ⟨o2, k2⟩ := hone_of hone 2 f2 rfl
    obtain ⟨o3, k3⟩ := hone_of hone 3 f3 rfl
    obtain ⟨o4, k4⟩ := hone_of hone 4 f4 rfl
    obtain ⟨o5, k5⟩ := hone_of hone 5 f5 rfl
    match xs, hlen with
    | [y0, y1, y2, y3, y4, y5], _ =>
      exact ⟨c0, c1, c2, c3, c4, c5, y0, y1, y2, y3, y4, y5, n, rfl, by simpa [Value.cells, o0, k0] using hg 0 f0 rfl, by simpa [Value.cells, o1, k1] using hg 1 f1 rfl, by simpa [Value.cells, o2, k2] using hg 2 f2 rfl, by simpa [Value.cells, o3, k3] using hg 3 f3 rfl, by simpa [Value.cells, o4, k4] using hg 4 f4 rfl, by simpa [Value.cells, o5, k5] using hg 5 f5 rfl⟩

theorem argClaim_openW {r : Reach} {b0 : Nat} {v : Value} {d : DataW H} {p : List MemPlace} (hv : Value.okWide Tryd.prog w r b0 25 v) (h : DataW.Trod enc Tryd.prog w base (fun _ => true) true 25 v d p) :
    ∃ x : ClaimD, ArgClaim w v x ∧ (x.cartan.length ≤ 9223372036854775807 ∧ x.a.length ≤ 9223372036854775807 ∧ x.b.length ≤ 9223372036854775807 ∧ x.proof.length ≤ 9223372036854775807 ∧ x.roots.length ≤ 9223372036854775807) ∧
      (∀ j, j < x.cartan.length → (x.cartan.getD j []).length ≤ 9223372036854775807) ∧ (∀ j, j < x.roots.length → (x.roots.getD j []).length ≤ 9223372036854775807) ∧ (∀ n ∈ x.proof, (Lit.int .i64 n).wf = true) ∧ rowsWf x.roots := by
  obtain ⟨v0, v1, v2, v3, v4, v5, y0, y1, y2, y3, y4, y5, n, rfl, h0, h1, h2, h3, h4, h5⟩ := open_agg6 Tryd.underlying25 (by kernel_rfl) (by kernel_rfl) hv h
  obtain ⟨k, hk, -⟩ := DataW.trod_int Tryd.underlying3 h0
  obtain ⟨a1, c1, r1, rfl, q1, l1, j1, -⟩ := argRows_open h1
  obtain ⟨a2, c2, r2, rfl, q2, l2, -⟩ := argInts_open h2
  obtain ⟨a3, c3, r3, rfl, q3, l3, -⟩ := argInts_open h3
  obtain ⟨a4, c4, r4, rfl, q4, l4, w4⟩ := argInts_open h4
  obtain ⟨a5, c5, r5, rfl, q5, l5, j5, w5⟩ := argRows_open h5
  have hm : maxLen ≤ 9223372036854775807 := by decide +kernel
  simp at hk
  subst hk
  refine ⟨⟨k, r1, r2, r3, r4, r5⟩, ⟨a1, c1, a2, c2, a3, c3, a4, c4, a5, c5, rfl, q1, q2, q3, q4, q5⟩, ⟨by simp; omega, by simp; omega, by simp; omega, by simp; omega, by simp; omega⟩, fun j hj => ?_, fun j hj => ?_, w4, w5⟩
  · have := j1 j hj; simp only at this ⊢; omega
  · have := j5 j hj; simp only at this ⊢; omega
theorem argClaim_open {r : Reach} {b0 : Nat} {v : Value} {d : DataW H} {p : List MemPlace} (hv : Value.okWide Tryd.prog w r b0 25 v) (h : DataW.Trod enc Tryd.prog w base (fun _ => true) true 25 v d p) :
    ∃ x : ClaimD, ArgClaim w v x ∧ (x.cartan.length ≤ 9223372036854775807 ∧ x.a.length ≤ 9223372036854775807 ∧ x.b.length ≤ 9223372036854775807 ∧ x.proof.length ≤ 9223372036854775807 ∧ x.roots.length ≤ 9223372036854775807) ∧
      (∀ j, j < x.cartan.length → (x.cartan.getD j []).length ≤ 9223372036854775807) ∧ (∀ j, j < x.roots.length → (x.roots.getD j []).length ≤ 9223372036854775807) := by
  obtain ⟨x, h1, h2, h3, h4, -⟩ := argClaim_openW hv h
  exact ⟨x, h1, h2, h3, h4⟩
end
end Go.Proofs.YthlbkdcmhelggaaDoor
