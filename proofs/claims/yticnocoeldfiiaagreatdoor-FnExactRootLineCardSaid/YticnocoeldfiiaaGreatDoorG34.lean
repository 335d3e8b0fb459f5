/- The program's search for positive roots, as lists of roots: what holds on the way. Plain law. -/
import Derived.Test.YticnocoeldfiiaaGreatDoorG33
import Derived.Test.YticnocoeldfiiaaGreatDoorG31
namespace Go.Proofs.YticnocoeldfiiaaGreatDoor
open Go.RowKit

def addR (Q : List (List Int)) (r : List Int) : List (List Int) := if posB r = true ∧ heightL r ≤ 12 ∧ r ∉ Q then Q ++ [r] else Q
theorem rootsQ_addQP (ps : List PairRef) (p : PairRef) : rootsQ (addQP ps p) = addR (rootsQ ps) p.1.2.2 := by
  unfold addQP addR
  split
  · simp [rootsQ]
  · rfl
structure PrSt (c Q : List (List Int)) (k i : Nat) : Prop where
  nodup : Q.Nodup
  sub : ∀ x ∈ Q, x ∈ posL c
  simp : ∀ j, j < c.length → simpL c.length j ∈ Q
  done : ∀ j t, (j < k ∧ t < c.length ∨ j = k ∧ t < i) → j < Q.length → posB (mirL c t (Q.getD j [])) = true → heightL (mirL c t (Q.getD j [])) ≤ 12 → mirL c t (Q.getD j []) ∈ Q
theorem addR_sub {Q : List (List Int)} {r : List Int} : ∀ x ∈ Q, x ∈ addR Q r := fun x hx => by
  unfold addR; split
  · exact List.mem_append_left _ hx
  · exact hx
theorem addR_getD {Q : List (List Int)} {r : List Int} {j : Nat} (hj : j < Q.length) : (addR Q r).getD j [] = Q.getD j [] := by
  unfold addR; split
  · simp [List.getD, hj, List.getElem?_append_left hj]
  · rfl
theorem addR_len {Q : List (List Int)} {r : List Int} : Q.length ≤ (addR Q r).length ∧ (addR Q r).length ≤ Q.length + 1 := by
  unfold addR; split <;> simp
theorem PrSt.step {c Q : List (List Int)} {k i : Nat} (hP : PosOk c) (h : PrSt c Q k i) (hk : k < Q.length) (hi : i < c.length) : PrSt c (addR Q (mirL c i (Q.getD k []))) k (i + 1) := by
  have hx : Q.getD k [] ∈ Q := by simp [List.getD, hk]
  refine ⟨?_, ?_, fun j hj => addR_sub _ (h.simp j hj), ?_⟩
  · unfold addR
    split
    · rename_i hc
      rw [List.nodup_append]
      refine ⟨h.nodup, by simp, ?_⟩
      intro a ha b hb e
      rw [List.mem_singleton] at hb
      subst hb; subst e
      exact hc.2.2 ha
    · exact h.nodup
  · intro x hx'
    unfold addR at hx'
    split at hx'
    · rename_i hc
      rcases List.mem_append.1 hx' with g | g
      · exact h.sub x g
      · rw [List.mem_singleton] at g
        subst g
        exact hP.closed.step _ (h.sub _ hx) i hi hc.1 hc.2.1
    · exact h.sub x hx'
  · intro j t hjt hj h1 h2
    have hjQ : j < Q.length := by
      rcases hjt with ⟨g, -⟩ | ⟨g, -⟩ <;> omega
    rw [addR_getD hjQ] at h1 h2 ⊢
    by_cases e : j = k ∧ t = i
    · obtain ⟨rfl, rfl⟩ := e
      by_cases hm : mirL c t (Q.getD j []) ∈ Q
      · exact addR_sub _ hm
      · unfold addR
        rw [if_pos ⟨h1, h2, hm⟩]
        simp
    · refine addR_sub _ (h.done j t ?_ hjQ h1 h2)
      rcases hjt with g | ⟨g1, g2⟩
      · exact .inl g
      · exact .inr ⟨g1, by omega⟩
theorem PrSt.next {c Q : List (List Int)} {k : Nat} (h : PrSt c Q k c.length) : PrSt c Q (k + 1) 0 :=
  ⟨h.nodup, h.sub, h.simp, fun j t hjt => h.done j t (by rcases hjt with ⟨g1, g2⟩ | ⟨-, g2⟩ <;> omega)⟩
theorem PrSt.few {c Q : List (List Int)} {k i : Nat} (hP : PosOk c) (h : PrSt c Q k i) : Q.length ≤ 24 := by
  exact Nat.le_trans (h.nodup.length_le_of_subset h.sub) hP.few
theorem PrSt.fin {c Q : List (List Int)} {k : Nat} (h : PrSt c Q k 0) (hk : Q.length ≤ k) : putsR Q = posL c := by
  refine posL_eq h.nodup h.sub ⟨h.simp, fun r hr i hi h1 h2 => ?_⟩
  obtain ⟨j, hj, rfl⟩ := List.mem_iff_getElem.1 hr
  have e : Q.getD j [] = Q[j] := by simp [List.getD, hj]
  have := h.done j i (.inl ⟨by omega, hi⟩) hj
  rw [e] at this
  exact this h1 h2
theorem PrSt.start {c : List (List Int)} (h : ∀ j, j < c.length → simpL c.length j ∈ (smStart c).map (·.1)) (hn : ((smStart c).map (·.1)).Nodup) (hP : PosOk c) : PrSt c ((smStart c).map (·.1)) 0 0 :=
  ⟨hn, fun x hx => by
    obtain ⟨p, hp, rfl⟩ := List.mem_map.1 hx
    unfold smStart at hp
    obtain ⟨i, hi, rfl⟩ := List.mem_map.1 hp
    exact hP.closed.simp i (List.mem_range.1 hi), h, fun j t hjt => by omega⟩
end Go.Proofs.YticnocoeldfiiaaGreatDoor
