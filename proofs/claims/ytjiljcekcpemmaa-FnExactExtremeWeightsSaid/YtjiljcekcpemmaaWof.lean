/- An argument that is a list of weights with counts, opened. -/
import Derived.Test.YtjiljcekcpemmaaWo3
import Derived.Deep.Slices
import Derived.Deep.Fields
import Derived.ChangeSame
namespace Go.Proofs.Ytjiljcekcpemmaa
open Go.Joins Go.ChangeShapes Go.WideShapes Go.RowKit Go.Deep

theorem list_of_all {α : Type} (d : α) (n : Nat) (Q : Nat → α → Prop) (h : ∀ i, i < n → ∃ p, Q i p) : ∃ l : List α, l.length = n ∧ ∀ i, i < n → Q i (l.getD i d) := by
  induction n with
  | zero => exact ⟨[], rfl, by omega⟩
  | succ n ih =>
    obtain ⟨l, hl, hq⟩ := ih (fun i hi => h i (by omega))
    obtain ⟨p, hp⟩ := h n (by omega)
    refine ⟨l ++ [p], by simp [hl], fun i hi => ?_⟩
    by_cases e : i = n
    · subst e; simpa [List.getD, hl] using hp
    · have := hq i (by omega)
      have hi' : i < l.length := by omega
      simpa [List.getD, List.getElem?_append_left hi'] using this

section
variable {H : Type} {enc : TypeId × Value → H} {w : World} {base : Nat}
theorem argWts_open {fuel : Nat} {v : Value} {x : DataW H × List MemPlace} (h : DataW.trod enc Try.prog w base (fun _ => true) true fuel 36 [v] = some x) :
    ∃ a c, ∃ l : List Wt, v = .slice a l.length c ∧ ArgWts w a l ∧ l.length ≤ maxLen ∧ ∀ j, j < l.length → (wOf l j).length ≤ maxLen := by
  rcases open_slice Try.underlying36 h with ⟨hcs, _⟩ | ⟨a, len, cap, m, n, D, Pl, hcs, hb, hl, hm, hmm, hx, hi⟩
  · simp at hcs
    exact ⟨none, 0, [], hcs, .inl rfl, Nat.zero_le _, by simp⟩
  · simp at hcs
    have hmc : m = cap := by simpa using hmm
    have hC : Try.prog.cellsOf 58 = 2 := by kernel_rfl
    have each : ∀ i, i < len → ∃ p : Wt, ∃ aj cj, w.cell? (a.add (i * 2)) = some (.slice aj p.1.length cj) ∧ w.cell? (a.add (i * 2 + 1)) = some (.int .i64 p.2) ∧ ArgInts w aj p.1 ∧ p.1.length ≤ maxLen := by
      intro i hil
      obtain ⟨cs', hc, ht'⟩ := hi i (by omega)
      rw [hC] at hc
      obtain ⟨y0, y1, n', -, -, hf0, hf1⟩ := trod_struct2 Try.underlying58 ht'
      obtain ⟨_, hcl, hat⟩ := World.cells?_some hc
      have h0 := hat 0 (by omega)
      have h1 := hat 1 (by omega)
      rw [Go.Deep.add_add] at h0 h1
      have e33 : Try.prog.cellsOf 24 = 1 := by kernel_rfl
      have e3 : Try.prog.cellsOf 3 = 1 := by kernel_rfl
      simp only [e33, e3] at hf0 hf1
      match cs', hcl, h0, h1, hf0, hf1 with
      | [c0, c1], _, h0, h1, hf0, hf1 =>
        have hf0' : DataW.trod enc Try.prog w base (fun _ => true) true n' 24 [c0] = some y0 := hf0
        have hf1' : DataW.trod enc Try.prog w base (fun _ => true) true n' 3 [c1] = some y1 := hf1
        obtain ⟨aj, cj, xs, rfl, q1, q2, -⟩ := argInts_open hf0'
        obtain ⟨k, hk, -⟩ := DataW.trod_int Try.underlying3 hf1'
        simp at hk
        subst hk
        exact ⟨(xs, k), aj, cj, h0, h1, q1, q2⟩
    obtain ⟨l, hll, hq⟩ := list_of_all (([], 0) : Wt) len _ each
    refine ⟨some a, cap, l, by rw [hll]; exact hcs, ?_, by omega, fun j hj => (hq j (by omega)).choose_spec.choose_spec.2.2.2⟩
    by_cases h0 : len = 0
    · exact .inl (List.length_eq_zero_iff.1 (by omega))
    obtain ⟨b, o, s⟩ := a
    obtain ⟨aj0, cj0, hc0, -⟩ := hq 0 (by omega)
    cases s with
    | some s => simp [World.cell?, Addr.add] at hc0; split at hc0 <;> simp_all
    | none =>
      refine .inr ⟨b, o, rfl, World.block_lt_of_cell? w _ hc0, fun j hj => ?_⟩
      obtain ⟨aj, cj, q1, q2, q3, -⟩ := hq j (by omega)
      rw [Addr.add_lit] at q1 q2
      exact ⟨aj, cj, q1, q2, q3⟩
end
end Go.Proofs.Ytjiljcekcpemmaa
