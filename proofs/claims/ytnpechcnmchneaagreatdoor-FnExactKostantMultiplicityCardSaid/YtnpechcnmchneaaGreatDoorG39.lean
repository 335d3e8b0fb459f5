/- Small roots by the program: contract. -/
import Derived.Test.YtnpechcnmchneaaGreatDoorG35
import Derived.BigQuiet
import Derived.Deep.RegionHeld3
namespace Go.Proofs.YtnpechcnmchneaaGreatDoor
set_option maxRecDepth 100000
open Go.RowKit Game

def valsQ (ps : List PairRef) : List RPair := ps.map fun p => (p.1.2.2, p.2.2.2)
theorem valsQ_fst (ps : List PairRef) : (valsQ ps).map (·.1) = rootsQ ps := by simp [valsQ, rootsQ]
theorem valsQ_length (ps : List PairRef) : (valsQ ps).length = ps.length := by simp [valsQ]
theorem valsQ_push (ps : List PairRef) (p : PairRef) : valsQ (ps ++ [p]) = valsQ ps ++ [(p.1.2.2, p.2.2.2)] := by simp [valsQ]
theorem start_new {c : List (List Int)} {k : Nat} (hk : k < c.length) : simpL c.length k ∉ ((smStart c).take k).map (·.1) := by
  have h := (smStart_ok c).nodup
  have e : smStart c = (smStart c).take (k + 1) ++ (smStart c).drop (k + 1) := (List.take_append_drop _ _).symm
  rw [e, smStart_take c k hk, List.map_append, List.map_append] at h
  have h2 := (List.nodup_append.1 (List.nodup_append.1 h).1).2.2
  intro hm
  exact h2 _ hm _ (by simp) rfl
theorem run_makeFunc (fn : Fn) (first cap : Array Value) (w : World) : (Instr.makeFunc fn first cap).run Tryz.prog w = .ok (.func fn first cap) w := rfl
theorem smStep_getD {c t : List (List Int)} {Q : List RPair} {k i : Nat} (hk : k < Q.length) : (smStep c t Q k i).getD k ([], []) = Q.getD k ([], []) := by
  unfold smStep
  dsimp only
  split
  · simp [List.getD, List.getElem?_append_left hk]
  · rfl
theorem smRow_getD {c t : List (List Int)} {Q : List RPair} {k : Nat} (hk : k < Q.length) : ∀ i, (smRow c t Q k i).getD k ([], []) = Q.getD k ([], [])
  | 0 => rfl
  | i + 1 => by
    simp only [smRow]
    rw [smStep_getD (Nat.lt_of_lt_of_le hk (smRow_le i).1), smRow_getD hk i]
theorem valsQ_getD {ps : List PairRef} {k : Nat} (hk : k < ps.length) : (valsQ ps).getD k ([], []) = (ps[k].1.2.2, ps[k].2.2.2) := by simp [valsQ, List.getD, hk]
theorem SmSt.start (w3 : World) (B m : Nat) (hB : B ≤ w3.heap.size) :
    SmSt ((((w3.alloc (.cells #[] 136)).alloc (.cells #[(Value.slice (some ⟨w3.heap.size, 0, none⟩) 0 0)] 133)).alloc (.map #[] 0)).alloc (.cells #[.map (some (w3.heap.size + 1 + 1))] 131)) B (w3.heap.size + 1 + 1 + 1) (w3.heap.size + 1) (w3.heap.size + 1 + 1) w3.heap.size 0 0 0 m [] := by
  have hP := OwnPairs.empty (w := w3) hB
  have h1 := heap_alloc_new (w3.alloc (.cells #[] 136)) (.cells #[(Value.slice (some ⟨w3.heap.size, 0, none⟩) 0 0)] 133)
  have s1 : (w3.alloc (.cells #[] 136)).heap.size = w3.heap.size + 1 := by simp
  rw [s1] at h1
  generalize w3.alloc (.cells #[] 136) = wA at *
  have hP2 := hP.below ((Below.refl _ _).alloc (Nat.le_refl _) (.cells #[(Value.slice (some ⟨w3.heap.size, 0, none⟩) 0 0)] 133))
  have s2 : (wA.alloc (.cells #[(Value.slice (some ⟨w3.heap.size, 0, none⟩) 0 0)] 133)).heap.size = w3.heap.size + 1 + 1 := by simp [s1]
  generalize wA.alloc (.cells #[(Value.slice (some ⟨w3.heap.size, 0, none⟩) 0 0)] 133) = wB at *
  have hM := SeenM.start wB m
  rw [s2] at hM
  have hP3 := hP2.below ((Below.refl _ _).alloc (Nat.le_refl _) (.map #[] 0))
  have h2 := (Below.heap_alloc wB (.map #[] 0) (w3.heap.size + 1) (by omega)).trans h1
  have s3 : (wB.alloc (.map #[] 0)).heap.size = w3.heap.size + 1 + 1 + 1 := by simp [s2]
  generalize wB.alloc (.map #[] 0) = wC at *
  have h3 := heap_alloc_new wC (.cells #[.map (some (w3.heap.size + 1 + 1))] 131)
  rw [s3] at h3
  have hb := (Below.refl wC.heap.size wC).alloc (Nat.le_refl _) (.cells #[.map (some (w3.heap.size + 1 + 1))] 131)
  exact ⟨h3, (hb.block _ (by omega)).trans h2, hP3.below hb, rfl, hM.same (hb.block _ (by omega)), Nat.le_refl _, by simp, by simp, by omega, by omega⟩
theorem wfV_simp (n i : Nat) : WfV (simpL n i) := by
  intro j _
  have : (simpL n i).getD j 0 = 0 ∨ (simpL n i).getD j 0 = 1 := by
    unfold simpL
    simp only [List.getD, List.getElem?_set]
    split
    · split
      · exact .inr rfl
      · exact .inl rfl
    · left
      by_cases h : j < n
      · simp [h]
      · simp [h]
  rcases this with h | h <;> rw [h] <;> decide
theorem wfV_mir {c : List (List Int)} {i : Nat} {r : List Int} (h : WfV r) : WfV (mirL c i r) := by
  intro j hj
  have := h j hj
  unfold mirL
  simp only [List.getD, List.getElem?_set] at *
  split
  · split
    · exact wrap64_wf _
    · decide
  · exact this
/-- the state stays where a list of rows grows -/
theorem SmSt.rowsGrow {w w' : World} {B bS bL bM gP cP nP nM m : Nat} {ps : List PairRef} (st : SmSt w B bS bL bM gP cP nP nM m ps) {B2 g cap : Nat} {rs : List RowRef} (ho : OwnRows w B2 g cap rs) (hg : w.grownBy w' (some g)) : SmSt w' B bS bL bM gP cP nP nM m ps := by
  obtain ⟨h1, h2, h3, h4⟩ := st.neRows ho
  have hk : ∀ k, k < w.heap.size → k ≠ g → w'.heap[k]? = w.heap[k]? := fun k hk hne => hg.block k hk (fun e => hne (Option.some.inj e))
  exact ⟨(hk _ (box_lt st.hS) (Ne.symm h1)).trans st.hS, (hk _ (box_lt st.hL) (Ne.symm h2)).trans st.hL, OwnK.same st.hP (hk _ st.hP.lt (Ne.symm h4)), st.hn, st.hM.same (hk _ st.hM.lt (Ne.symm h3)), st.hnM, fun p hp => by
    have a := (st.rows p hp).1
    have b := (st.rows p hp).2
    exact ⟨a.same (hk _ a.lt (Ne.symm (ho.1.ne a.toV (by decide)))), b.same (hk _ b.lt (Ne.symm (ho.1.ne b.toV (by decide))))⟩, st.nodup, st.bL_ge, st.bM_ge⟩
theorem take_ne {ps : List PairRef} (h : (ps.map fun p => p.1.1).Nodup) {t : Nat} (ht : t < ps.length) : ∀ s ∈ (ps.take t).map (·.1), s.1 ≠ ps[t].1.1 := by
  intro s hs e
  obtain ⟨q, hq, rfl⟩ := List.mem_map.1 hs
  obtain ⟨u, hu, rfl⟩ := List.mem_iff_getElem.1 hq
  rw [List.length_take] at hu
  rw [List.getElem_take] at e
  have hu' : u < ps.length := by omega
  have h2 : (ps.map fun p => p.1.1)[u]'(by simpa using hu') = (ps.map fun p => p.1.1)[t]'(by simpa using ht) := by simpa using e
  have h3 := (List.getElem_inj h).1 h2
  omega
/-- nothing where there are too many -/
def SmPost (w : World) (c : List (List Int)) (e : Ending) (w' : World) : Prop :=
  (smR c = none ∧ e = .returned (.tuple #[.slice none 0 0, .bool false]) ∧ Below w.heap.size w w') ∨ (∃ Q, smR c = some Q ∧ GotRowsB w (smallL c) true e w')

/-- what a round of the inner loop leaves -/
def SmRnd (w0 : World) (bS bL bM bp bo co bd cd gT cT k i : Nat) (c T : List (List Int)) (x y : List Int) (rsT : List RowRef) (Q : List RPair) (w' : World) : Prop :=
  ∃ (gP cP nP nM : Nat) (ps : List PairRef), k < nP ∧ nP ≤ 40 + i ∧ SmSt w' w0.heap.size bS bL bM gP cP nP nM c.length ps ∧ SmOk c (valsQ ps) ∧ valsQ ps = smRow c T Q k i ∧ (∀ p ∈ ps, WfV p.1.2.2) ∧ OwnRows w' w0.heap.size gT cT rsT ∧ Below w0.heap.size w0 w' ∧ Own w' w0.heap.size bo co x ∧ Own w' w0.heap.size bd cd y ∧ w'.heap[bp]? = some (.cells #[(Value.slice (some ⟨bo, 0, none⟩) c.length co), (Value.slice (some ⟨bd, 0, none⟩) c.length cd)] 136 (0, 0)) ∧ bp ≠ gP
theorem cell2 {w : World} {B : Nat} {a b : Value} {t : TypeId} (h : w.heap[B]? = some (.cells #[a, b] t (0, 0))) : w.cell? ⟨B, 0, none⟩ = some a ∧ w.cell? ⟨B, 1, none⟩ = some b := by
  constructor <;> simp [World.cell?, h]
theorem SmRnd.cells {w0 : World} {bS bL bM bp bo co bd cd gT cT k i : Nat} {c T : List (List Int)} {x y : List Int} {rsT : List RowRef} {Q : List RPair} {w' : World} (h : SmRnd w0 bS bL bM bp bo co bd cd gT cT k i c T x y rsT Q w') :
    w'.cell? ⟨bp, 0, none⟩ = some (Value.slice (some ⟨bo, 0, none⟩) c.length co) ∧ w'.cell? ⟨bp, 1, none⟩ = some (Value.slice (some ⟨bd, 0, none⟩) c.length cd) := by
  obtain ⟨gP, cP, nP, nM, ps, h⟩ := h
  exact cell2 h.2.2.2.2.2.2.2.2.2.2.1
end Go.Proofs.YtnpechcnmchneaaGreatDoor
