/- Small roots by the program: contract. -/
import Derived.Test.YtmjneokgnnbekaaG24
import Derived.BigQuiet
import Derived.Deep.RegionHeld3
namespace Go.Proofs.Ytmjneokgnnbekaa
set_option maxRecDepth 100000
open Go.RowKit Game

def valsQ (ps : List PairRef) : List RPair := ps.map fun p => (p.1.2.2, p.2.2.2)
theorem valsQ_fst (ps : List PairRef) : (valsQ ps).map (·.1) = rootsQ ps := by simp [valsQ, rootsQ]
theorem valsQ_length (ps : List PairRef) : (valsQ ps).length = ps.length := by simp [valsQ]
theorem valsQ_push (ps : List PairRef) (p : PairRef) : valsQ (ps ++ [p]) = valsQ ps ++ [(p.1.2.2, p.2.2.2)] := by simp [valsQ]
theorem start_new {c : List (List Int)} {k : Nat} (hk : k < c.length) : simpL c.length k ∉ ((smStart c).take k).map (·.1) := by
  have h := (smStart_ok c).nodup
  have e : smStart c = (smStart c).take (k + 1) ++ (smStart c).drop (k + 1) := (List.take_append_drop _ _).symm
  rw [e, smStart_take c k hk, List.map_append, List.map_append] at h
  have h2 := (List.nodup_append.1 (List.nodup_append.1 h).1).2.2
  intro hm
  exact h2 _ hm _ (by simp) rfl
theorem run_makeFunc (fn : Fn) (first cap : Array Value) (w : World) : (Instr.makeFunc fn first cap).run Try.prog w = .ok (.func fn first cap) w := rfl
theorem smStep_getD {c t : List (List Int)} {Q : List RPair} {k i : Nat} (hk : k < Q.length) : (smStep c t Q k i).getD k ([], []) = Q.getD k ([], []) := by
  unfold smStep
  dsimp only
  split
  · simp [List.getD, List.getElem?_append_left hk]
  · rfl
theorem smRow_getD {c t : List (List Int)} {Q : List RPair} {k : Nat} (hk : k < Q.length) : ∀ i, (smRow c t Q k i).getD k ([], []) = Q.getD k ([], [])
  | 0 => rfl
  | i + 1 => by
    simp only [smRow]
    rw [smStep_getD (Nat.lt_of_lt_of_le hk (smRow_le i).1), smRow_getD hk i]
theorem valsQ_getD {ps : List PairRef} {k : Nat} (hk : k < ps.length) : (valsQ ps).getD k ([], []) = (ps[k].1.2.2, ps[k].2.2.2) := by simp [valsQ, List.getD, hk]
theorem wfV_simp (n i : Nat) : WfV (simpL n i) := by
  intro j _
  have : (simpL n i).getD j 0 = 0 ∨ (simpL n i).getD j 0 = 1 := by
    unfold simpL
    simp only [List.getD, List.getElem?_set]
    split
    · split
      · exact .inr rfl
      · exact .inl rfl
    · left
      by_cases h : j < n
      · simp [h]
      · simp [h]
  rcases this with h | h <;> rw [h] <;> decide
theorem wfV_mir {c : List (List Int)} {i : Nat} {r : List Int} (h : WfV r) : WfV (mirL c i r) := by
  intro j hj
  have := h j hj
  unfold mirL
  simp only [List.getD, List.getElem?_set] at *
  split
  · split
    · exact wrap64_wf _
    · decide
  · exact this
theorem take_ne {ps : List PairRef} (h : (ps.map fun p => p.1.1).Nodup) {t : Nat} (ht : t < ps.length) : ∀ s ∈ (ps.take t).map (·.1), s.1 ≠ ps[t].1.1 := by
  intro s hs e
  obtain ⟨q, hq, rfl⟩ := List.mem_map.1 hs
  obtain ⟨u, hu, rfl⟩ := List.mem_iff_getElem.1 hq
  rw [List.length_take] at hu
  rw [List.getElem_take] at e
  have hu' : u < ps.length := by omega
  have h2 : (ps.map fun p => p.1.1)[u]'(by simpa using hu') = (ps.map fun p => p.1.1)[t]'(by simpa using ht) := by simpa using e
  have h3 := (List.getElem_inj h).1 h2
  omega
/-- nothing where there are too many -/
def SmPost (w : World) (c : List (List Int)) (e : Ending) (w' : World) : Prop :=
  (smR c = none ∧ e = .returned (.tuple #[.slice none 0 0, .bool false]) ∧ Below w.heap.size w w') ∨ (∃ Q, smR c = some Q ∧ GotRowsB w (smallL c) true e w')

theorem cell2 {w : World} {B : Nat} {a b : Value} {t : TypeId} (h : w.heap[B]? = some (.cells #[a, b] t (0, 0))) : w.cell? ⟨B, 0, none⟩ = some a ∧ w.cell? ⟨B, 1, none⟩ = some b := by
  constructor <;> simp [World.cell?, h]
end Go.Proofs.Ytmjneokgnnbekaa
