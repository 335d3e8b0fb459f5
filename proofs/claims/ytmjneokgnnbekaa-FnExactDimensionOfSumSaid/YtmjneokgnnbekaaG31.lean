/- Pairs of roots and coroots of the call's own; 'add', that puts one into the list unless it is there: contract. 'add', that puts a pair into the list unless its root is there: contract. -/
import Derived.Test.YtmjneokgnnbekaaG20
import Derived.Test.YtmjneokgnnbekaaG21
import Derived.Test.YtmjneokgnnbekaaG30
namespace Go.Proofs.Ytmjneokgnnbekaa
set_option maxRecDepth 100000
open Go.RowKit Game

def OwnPairsP (w : World) (B g cap : Nat) (ps : List PairRef) : Prop := OwnK w B 94 2 g cap ps.length (flatQ ps)
theorem infoPairP : (Try.prog.info? 94).map (fun i => (i.zero, i.size, i.bytes)) = some (some (.agg #[.slice none 0 0, .slice none 0 0]), 2, 48) := by kernel_rfl
section
variable {w w' : World} {B g cap : Nat} {ps : List PairRef}
theorem OwnPairsP.lt (h : OwnPairsP w B g cap ps) : g < w.heap.size := OwnK.lt h
theorem OwnPairsP.base (h : OwnPairsP w B g cap ps) : B ≤ g := OwnK.base h
theorem OwnPairsP.mono {B' : Nat} (h : OwnPairsP w B g cap ps) (hB : B' ≤ B) : OwnPairsP w B' g cap ps := OwnK.mono h hB
theorem OwnPairsP.below (h : OwnPairsP w B g cap ps) (hb : Below w.heap.size w w') : OwnPairsP w' B g cap ps := OwnK.below h hb (OwnK.lt h)
theorem OwnPairsP.grown {row : Option Nat} (h : OwnPairsP w B g cap ps) (hg : w.grownBy w' row) (hne : some g ≠ row) : OwnPairsP w' B g cap ps := OwnK.grown h hg hne
theorem OwnPairsP.still (h : OwnPairsP w B g cap ps) (hs : ∃ n, w' = w.drewN n) : OwnPairsP w' B g cap ps := by obtain ⟨n, rfl⟩ := hs; exact h
theorem OwnPairsP.cell (h : OwnPairsP w B g cap ps) {j : Nat} (hj : j < ps.length) : w.cell? ⟨g, j * 2, none⟩ = some (rowVal ps[j].1) ∧ w.cell? ⟨g, j * 2 + 1, none⟩ = some (rowVal ps[j].2) := by
  have hl1 : j * 2 < (flatQ ps).length := by rw [flatQ_length]; omega
  have hl2 : j * 2 + 1 < (flatQ ps).length := by rw [flatQ_length]; omega
  obtain ⟨h1, h2⟩ := flatQ_at hj
  rw [OwnK.cell h _ hl1, OwnK.cell h _ hl2, ← h1, ← h2, List.getElem?_eq_getElem hl1, List.getElem?_eq_getElem hl2]
  exact ⟨rfl, rfl⟩
theorem OwnPairsP.empty (hB : B ≤ w.heap.size) : OwnPairsP (w.alloc (.cells #[] 94)) B w.heap.size 0 [] :=
  World.ownsRow_lit w #[] 0 hB (by decide) rfl
theorem OwnPairsP.one (p : PairRef) (hB : B ≤ w.heap.size) : OwnPairsP (w.alloc (.cells #[rowVal p.1, rowVal p.2] 94)) B w.heap.size 1 [p] :=
  World.ownsRow_lit w #[rowVal p.1, rowVal p.2] 1 hB (by decide) rfl
theorem wpList_append_pairP {ops : Array Oper} {rest : List Oper} {o : Oper} {a : Act} {Q : Exit → Act → World → Prop} (hgd : o.guard = none) (s x : Operand)
    (ho : o.op = .call { callee := .builtin .append, args := #[s, x], argTypes := #[90, 90] })
    (B g cap n H : Nat) (ps : List PairRef) (p : PairRef) (w W : World) (hn : ps.length = n) (hW : W = w.alloc (.cells #[rowVal p.1, rowVal p.2] 94)) (hH : w.heap.size = H) (hown : OwnPairsP w B g cap ps)
    (hs : a.eval s = (Value.slice (some ⟨g, 0, none⟩) n cap)) (hx : a.eval x = (Value.slice (some ⟨H, 0, none⟩) 1 1)) (hlen : n + 1 ≤ 1048576)
    (h : ∀ g' cap' w', OwnPairsP w' B g' cap' (ps ++ [p]) → w.grownBy w' (some g) → (g' = g ∨ w.heap.size < g') → wpList Try.prog ops Q rest (a.put o.dst (Value.slice (some ⟨g', 0, none⟩) (n + 1) cap')) w') :
    wpList Try.prog ops Q (o :: rest) a W := by
  subst hn; subst hW; subst hH
  have hnew := OwnPairsP.one (w := w) (B := w.heap.size) p (Nat.le_refl _)
  refine wpList_append_K infoPairP Try.underlying90 rfl (by decide) (by decide) hgd s x ho B g cap ps.length (flatQ ps) (OwnK.alloc hown _) w.heap.size 0 1 1 (pair2 p) rfl ?_ ?_ hs hx hlen ?_
  · intro j u hu
    have hj : j < 2 := by have := (List.getElem?_eq_some_iff.1 hu).1; simpa [pair2] using this
    have h1 := hnew.cell (j := 0) (by simp)
    rw [Nat.zero_mul] at h1
    have : j = 0 ∨ j = 1 := by omega
    rcases this with rfl | rfl
    · rw [Nat.zero_add, h1.1, ← hu]; rfl
    · rw [h1.2, ← hu]; rfl
  · intro u hu
    simp [pair2] at hu
    rcases hu with rfl | rfl <;> rfl
  · intro g' cap' w' h2 h3 h4
    refine h g' cap' w' ?_ ⟨h3.os, h3.tape, h3.output, Nat.le_trans (by simp) h3.size, fun k hk hne => (h3.block k (by simp; omega) hne).trans (Below.heap_alloc _ _ _ hk)⟩ (h4.imp id (by simp; omega))
    unfold OwnPairsP
    rw [flatQ_append, List.length_append]
    have e : flatQ [p] = pair2 p := by simp [flatQ]
    rw [e]
    exact h2
end

/-- what 'add' works on: the set of the roots and the list of pairs, in two boxes -/
structure SmStP (w : World) (B bS bL bM gP cP nP nM m : Nat) (ps : List PairRef) : Prop where
  hS : w.heap[bS]? = some (.cells #[.map (some bM)] 91 (0, 0))
  hL : w.heap[bL]? = some (.cells #[(Value.slice (some ⟨gP, 0, none⟩) nP cP)] 90 (0, 0))
  hP : OwnPairsP w B gP cP ps
  hn : ps.length = nP
  hM : SeenMP w bM nM m (ps.map fun p => p.1.2.2)
  hnM : nM ≤ nP
  rows : ∀ p ∈ ps, Own w B p.1.1 p.1.2.1 p.1.2.2 ∧ Own w B p.2.1 p.2.2.1 p.2.2.2
  nodup : (ps.map fun p => p.1.1).Nodup
  bL_ge : B ≤ bL
  bM_ge : B ≤ bM
section
variable {w w' : World} {B bS bL bM gP cP nP nM m : Nat} {ps : List PairRef}
theorem SeenMP.same {ks : List (List Int)} (h : SeenMP w bM nM m ks) (hs : w'.heap[bM]? = w.heap[bM]?) : SeenMP w' bM nM m ks := by
  obtain ⟨D, ⟨es, clock, hh, r⟩, h2⟩ := h
  exact ⟨D, ⟨es, clock, hs.trans hh, r⟩, h2⟩
theorem SmStP.keep (h : SmStP w B bS bL bM gP cP nP nM m ps) (hk : ∀ k, k < w.heap.size → w'.heap[k]? = w.heap[k]?) : SmStP w' B bS bL bM gP cP nP nM m ps :=
  ⟨(hk _ (box_lt h.hS)).trans h.hS, (hk _ (box_lt h.hL)).trans h.hL, OwnK.same h.hP (hk _ h.hP.lt), h.hn, h.hM.same (hk _ h.hM.lt), h.hnM, fun p hp => ⟨(h.rows p hp).1.same (hk _ (h.rows p hp).1.lt), (h.rows p hp).2.same (hk _ (h.rows p hp).2.lt)⟩, h.nodup, h.bL_ge, h.bM_ge⟩
theorem SmStP.below (h : SmStP w B bS bL bM gP cP nP nM m ps) (hb : Below w.heap.size w w') : SmStP w' B bS bL bM gP cP nP nM m ps := h.keep hb.block
theorem SmStP.still (h : SmStP w B bS bL bM gP cP nP nM m ps) (hs : ∃ n, w' = w.drewN n) : SmStP w' B bS bL bM gP cP nP nM m ps := by obtain ⟨n, rfl⟩ := hs; exact h.keep fun _ _ => rfl
/-- the blocks are different -/
theorem SmStP.ne (h : SmStP w B bS bL bM gP cP nP nM m ps) : bS ≠ bM ∧ bL ≠ bM ∧ gP ≠ bM ∧ bS ≠ gP ∧ bL ≠ gP ∧ bS ≠ bL := by
  obtain ⟨D, ⟨es, clock, hh, -⟩, -⟩ := h.hM
  obtain ⟨cur, h2, -⟩ := OwnK.row h.hP
  have h3 := h.hS
  have h4 := h.hL
  refine ⟨?_, ?_, ?_, ?_, ?_, ?_⟩ <;> intro e <;> subst e <;> simp_all
theorem SmStP.neOwn (h : SmStP w B bS bL bM gP cP nP nM m ps) {B2 g cap : Nat} {xs : List Int} (ho : Own w B2 g cap xs) : g ≠ bS ∧ g ≠ bL ∧ g ≠ bM ∧ g ≠ gP := by
  obtain ⟨D, ⟨es, clock, hh, -⟩, -⟩ := h.hM
  obtain ⟨cur, h2, -⟩ := OwnK.row h.hP
  obtain ⟨cur2, h5, -⟩ := ho.toV.row
  have h3 := h.hS
  have h4 := h.hL
  refine ⟨?_, ?_, ?_, ?_⟩ <;> intro e <;> subst e <;> simp_all
theorem SmStP.neRows (h : SmStP w B bS bL bM gP cP nP nM m ps) {B2 g cap : Nat} {rs : List RowRef} (ho : OwnRows w B2 g cap rs) : g ≠ bS ∧ g ≠ bL ∧ g ≠ bM ∧ g ≠ gP := by
  obtain ⟨D, ⟨es, clock, hh, -⟩, -⟩ := h.hM
  obtain ⟨cur, h2, -⟩ := OwnK.row h.hP
  obtain ⟨cur2, h5, -⟩ := ho.1.row
  have h3 := h.hS
  have h4 := h.hL
  refine ⟨?_, ?_, ?_, ?_⟩ <;> intro e <;> subst e <;> simp_all
/-- a list of rows besides stays as it was -/
theorem SmFr.rowsP (h : SmFr w w' bL gP bM) (st : SmStP w B bS bL bM gP cP nP nM m ps) {B2 g cap : Nat} {rs : List RowRef} (ho : OwnRows w B2 g cap rs) : OwnRows w' B2 g cap rs := by
  have h1 := st.neRows ho
  exact ⟨ho.1.same (h.block _ ho.lt h1.2.1 h1.2.2.2 h1.2.2.1), fun r hr => by
    have h2 := st.neOwn (ho.2.1 r hr)
    exact (ho.2.1 r hr).same (h.block _ (ho.2.1 r hr).lt h2.2.1 h2.2.2.2 h2.2.2.1), ho.2.2⟩
end
end Go.Proofs.Ytmjneokgnnbekaa
namespace Go.Proofs.Ytmjneokgnnbekaa
set_option maxRecDepth 100000
open Go.RowKit Game

/-- the list behind 'add' -/
def addQP (ps : List PairRef) (p : PairRef) : List PairRef := if posB p.1.2.2 = true ∧ heightL p.1.2.2 ≤ 12 ∧ p.1.2.2 ∉ rootsQ ps then ps ++ [p] else ps
def AddPostP (B bS bL bM gP m : Nat) (w : World) (ps' : List PairRef) (e : Ending) (w' : World) : Prop :=
  e = .returned (.tuple #[]) ∧ SmFr w w' bL gP bM ∧ ∃ gP' cP' nP' nM', SmStP w' B bS bL bM gP' cP' nP' nM' m ps' ∧ (gP' = gP ∨ w.heap.size ≤ gP')
end Go.Proofs.Ytmjneokgnnbekaa
