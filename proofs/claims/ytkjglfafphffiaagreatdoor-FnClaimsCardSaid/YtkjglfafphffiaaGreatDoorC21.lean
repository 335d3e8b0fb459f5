/- Enum2 -/
import Derived.Test.YtkjglfafphffiaaGreatDoorC20
namespace Go.Proofs.YtkjglfafphffiaaGreatDoor
set_option maxRecDepth 100000
open Go.RowKit
theorem good_of_fin {c : List (List Int)} (hC : IsC c) (hf : finB c = true) : goodB c = true := fin_all goodB good1 chk2_ok chk3_ok chk4_ok hC hf
theorem longOf_fin24 {c : List (List Int)} (hC : IsC c) (hf : finB c = true) : ∃ long opp, LongOf c long opp ∧ long.length ≤ 24 := by
  have h := good_of_fin hC hf
  unfold goodB at h
  split at h
  · simp at h
  · rename_i long hlong
    rw [Bool.and_eq_true] at h
    have h24 : long.length ≤ 24 := by simpa using h.1
    replace h := h.2
    rw [Bool.and_eq_true] at h
    have h1 : actW c long (onesL c.length) = negL c.length := by simpa using h.1
    have h2 : ∀ i, ∃ j, i < c.length → j < c.length ∧ actW c long (refl c i (onesL c.length)) = refl c j (negL c.length) := by
      intro i
      by_cases hi : i < c.length
      · have h3 := List.all_eq_true.1 h.2 i (List.mem_range.2 hi)
        obtain ⟨j, hj, he⟩ := List.any_eq_true.1 h3
        exact ⟨j, fun _ => ⟨List.mem_range.1 hj, by simpa using he⟩⟩
      · exact ⟨0, fun h => absurd h hi⟩
    exact ⟨long, fun i => (h2 i).choose, ⟨hlong, h1, fun i hi => ((h2 i).choose_spec hi).1, fun i hi => ((h2 i).choose_spec hi).2⟩, h24⟩
end Go.Proofs.YtkjglfafphffiaaGreatDoor
