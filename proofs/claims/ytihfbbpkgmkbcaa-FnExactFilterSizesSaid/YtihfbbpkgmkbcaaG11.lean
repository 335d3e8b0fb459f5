/- Arguments opened at a parameter: integers, rows, weights with counts, one integer. -/
import Derived.Test.YtihfbbpkgmkbcaaG10
namespace Go.Proofs.Ytihfbbpkgmkbcaa
set_option maxRecDepth 100000
set_option maxRecDepth 20000
open Go.Joins Go.ChangeShapes Go.WideShapes Go.RowKit Go.Deep
section
variable {H : Type} {enc : TypeId × Value → H} {w : World} {base b0 : Nat} {r : Reach} {v : Value} {d : DataW H} {p : List MemPlace}
theorem argInts_at (hv : Value.okWide Try.prog w r b0 35 v) (h : DataW.Trod enc Try.prog w base (fun _ => true) true 35 v d p) :
    ∃ a c, ∃ xs : List Int, v = .slice a xs.length c ∧ Hid (ArgInts w a xs) ∧ xs.length ≤ maxLen := by
  obtain ⟨a, l, c, rfl⟩ := okWide_slice Try.underlying35 hv
  obtain ⟨fuel, hf⟩ := h
  obtain ⟨a', c', xs, he, h1, h2, -⟩ := argInts_open hf
  exact ⟨a', c', xs, he, h1, h2⟩
theorem argRows_at (hv : Value.okWide Try.prog w r b0 22 v) (h : DataW.Trod enc Try.prog w base (fun _ => true) true 22 v d p) :
    ∃ a c, ∃ xs : List (List Int), v = .slice a xs.length c ∧ Hid (ArgRows w a xs) ∧ xs.length ≤ maxLen ∧ Hid (∀ j, j < xs.length → (xs.getD j []).length ≤ maxLen) := by
  obtain ⟨a, l, c, rfl⟩ := okWide_slice Try.underlying22 hv
  obtain ⟨fuel, hf⟩ := h
  obtain ⟨a', c', xs, he, h1, h2, h3, -⟩ := argRows_open hf
  exact ⟨a', c', xs, he, h1, h2, h3⟩
theorem argWts_at (hv : Value.okWide Try.prog w r b0 23 v) (h : DataW.Trod enc Try.prog w base (fun _ => true) true 23 v d p) :
    ∃ a c, ∃ xs : List Wt, v = .slice a xs.length c ∧ Hid (ArgWts w a xs) ∧ xs.length ≤ maxLen ∧ Hid (∀ j, j < xs.length → (wOf xs j).length ≤ maxLen) := by
  obtain ⟨a, l, c, rfl⟩ := okWide_slice Try.underlying23 hv
  obtain ⟨fuel, hf⟩ := h
  obtain ⟨a', c', xs, he, h1, h2, h3⟩ := argWts_open hf
  exact ⟨a', c', xs, he, h1, h2, h3⟩
theorem argInt_at (hv : Value.okWide Try.prog w r b0 3 v) (h : DataW.Trod enc Try.prog w base (fun _ => true) true 3 v d p) :
    ∃ x : Int, v = .int .i64 x ∧ (Lit.int .i64 x).wf = true := by
  obtain ⟨n, rfl⟩ := okWide_int Try.underlying3 hv
  obtain ⟨fuel, hf⟩ := h
  obtain ⟨k, hk, hx⟩ := DataW.trod_int Try.underlying3 hf
  simp [Value.cells] at hk
  subst hk
  exact ⟨n, rfl, hx.2⟩
end
end Go.Proofs.Ytihfbbpkgmkbcaa
