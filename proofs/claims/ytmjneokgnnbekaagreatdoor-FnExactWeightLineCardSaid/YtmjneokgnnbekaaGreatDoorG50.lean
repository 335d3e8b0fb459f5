/- The laws' marks over values of an interval of blocks. The laws' marks over rows, read back. -/
import Derived.Test.YtmjneokgnnbekaaGreatDoorG04
namespace Go.Proofs.YtmjneokgnnbekaaGreatDoor
set_option maxRecDepth 100000
open Go.RowKit

theorem Inner.setRow {w w' : World} {B : Nat} {rs : List RowRef} (h : Inner w B rs) (t : Nat) (ht : t < rs.length) (xs : List Int) (hg : w.grownBy w' (some rs[t].1)) (ho : Own w' B rs[t].1 rs[t].2.1 xs) :
    Inner w' B (rs.set t (rs[t].1, rs[t].2.1, xs)) := by
  have hnd := h.2
  refine ⟨fun r hr => ?_, ?_⟩
  · obtain ⟨u, hu, rfl⟩ := List.getElem_of_mem hr
    rw [List.length_set] at hu
    by_cases e : u = t
    · subst e; simpa using ho
    · rw [List.getElem_set_ne (by omega)]
      refine (h.1 rs[u] (List.getElem_mem hu)).grown hg ?_
      intro he
      have he' : rs[u].1 = rs[t].1 := Option.some.inj he
      have h1 : (rs.map (·.1))[u]'(by simpa using hu) = (rs.map (·.1))[t]'(by simpa using ht) := by simpa using he'
      have hp := List.pairwise_iff_getElem.1 hnd
      rcases Nat.lt_or_gt_of_ne e with h2 | h2
      · exact hp u t (by simpa using hu) (by simpa using ht) h2 h1
      · exact hp t u (by simpa using ht) (by simpa using hu) h2 h1.symm
  · have : (rs.set t (rs[t].1, rs[t].2.1, xs)).map (·.1) = rs.map (·.1) := by
      rw [List.map_set]
      apply List.ext_getElem (by simp)
      intro i h1 h2
      by_cases e : i = t
      · subst e; simp
      · rw [List.getElem_set_ne (by omega)]
    rw [this]; exact hnd
theorem rowVal_set {rs : List RowRef} (t : Nat) (ht : t < rs.length) (xs : List Int) (hl : xs.length = rs[t].2.2.length) : (rs.set t (rs[t].1, rs[t].2.1, xs)).map rowVal = rs.map rowVal := by
  rw [List.map_set]
  apply List.ext_getElem (by simp)
  intro i h1 h2
  by_cases e : i = t
  · subst e; simp [rowVal, hl]
  · rw [List.getElem_set_ne (by omega)]
theorem contents_setRow {rs : List RowRef} (t : Nat) (r : RowRef) : contents (rs.set t r) = (contents rs).set t r.2.2 := by simp [contents, List.map_set]

def marksR (k : Nat) (rows : List (List Int)) : List (List Int) := (List.range rows.length).map fun t => marks (k + sumLen rows t) (rows.getD t []).length
def cntR (rows : List (List Int)) : Nat := sumLen rows rows.length
theorem marksR_length (k : Nat) (rows : List (List Int)) : (marksR k rows).length = rows.length := by simp [marksR]
theorem marksR_getD (k : Nat) (rows : List (List Int)) (t : Nat) (ht : t < rows.length) : (marksR k rows).getD t [] = marks (k + sumLen rows t) (rows.getD t []).length := by simp [marksR, List.getD, ht]
theorem mix_set {a b : List (List Int)} {t : Nat} (hl : a.length = b.length) (ht : t < b.length) : (a.take t ++ b.drop t).set t (a.getD t []) = a.take (t + 1) ++ b.drop (t + 1) := by
  have ha : t < a.length := by omega
  rw [List.set_append_right _ _ (by rw [List.length_take]; omega)]
  have e : b.drop t = b[t] :: b.drop (t + 1) := List.drop_eq_getElem_cons ht
  have e2 : t - (a.take t).length = 0 := by rw [List.length_take]; omega
  rw [e2, e, List.set_cons_zero, List.take_succ_eq_append_getElem ha, List.append_assoc]
  simp [List.getD, ha]

theorem GotIntsB.held {w w' : World} {xs : List Int} {b : Bool} {e : Ending} (h : GotIntsB w xs b e w') :
    ∃ g cap, e = .returned (.tuple #[(Value.slice (some ⟨g, 0, none⟩) xs.length cap), .bool b]) ∧ HeldI w' w.heap.size w'.heap.size g cap xs ∧ Below w.heap.size w w' := by
  obtain ⟨g, cap, he, ho, hb⟩ := h
  exact ⟨g, cap, he, ⟨ho, ho.lt⟩, hb⟩
theorem GotInts.held {w w' : World} {xs : List Int} {e : Ending} (h : GotInts w xs e w') :
    ∃ g cap, e = .returned (Value.slice (some ⟨g, 0, none⟩) xs.length cap) ∧ HeldI w' w.heap.size w'.heap.size g cap xs ∧ Below w.heap.size w w' := by
  obtain ⟨g, cap, he, ho, hb⟩ := h
  exact ⟨g, cap, he, ⟨ho, ho.lt⟩, hb⟩
end Go.Proofs.YtmjneokgnnbekaaGreatDoor
namespace Go.Proofs.YtmjneokgnnbekaaGreatDoor
set_option maxRecDepth 100000
open Go.RowKit

end Go.Proofs.YtmjneokgnnbekaaGreatDoor
