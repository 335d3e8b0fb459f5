/- Pairs of roots and coroots of the call's own; 'add', that puts one into the list unless it is there: contract. 'add', that puts a pair into the list unless its root is there: contract. -/
import Derived.Test.YtmjneokgnnbekaaG19
namespace Go.Proofs.Ytmjneokgnnbekaa
set_option maxRecDepth 100000
open Go.RowKit Game

abbrev PairRef := RowRef × RowRef
def pair2 (p : PairRef) : List Value := [rowVal p.1, rowVal p.2]
def flatQ (ps : List PairRef) : List Value := ps.flatMap pair2
def OwnPairs (w : World) (B g cap : Nat) (ps : List PairRef) : Prop := OwnK w B 94 2 g cap ps.length (flatQ ps)
theorem infoPair : (Try.prog.info? 94).map (fun i => (i.zero, i.size, i.bytes)) = some (some (.agg #[.slice none 0 0, .slice none 0 0]), 2, 48) := by kernel_rfl
theorem flatQ_length (ps : List PairRef) : (flatQ ps).length = ps.length * 2 := by
  induction ps with
  | nil => rfl
  | cons v vs ih => unfold flatQ at *; simp only [List.flatMap_cons, List.length_append, ih, List.length_cons]; simp [pair2]; omega
theorem flatQ_append (a b : List PairRef) : flatQ (a ++ b) = flatQ a ++ flatQ b := by simp [flatQ]
theorem flatQ_at {ps : List PairRef} {j : Nat} (hj : j < ps.length) : (flatQ ps)[j * 2]? = some (rowVal ps[j].1) ∧ (flatQ ps)[j * 2 + 1]? = some (rowVal ps[j].2) := by
  induction ps generalizing j with
  | nil => simp at hj
  | cons v vs ih =>
    unfold flatQ at *
    simp only [List.flatMap_cons]
    cases j with
    | zero => exact ⟨rfl, rfl⟩
    | succ j =>
      have := ih (j := j) (by simpa using hj)
      rw [List.getElem?_append_right (by simp [pair2]; omega), List.getElem?_append_right (by simp [pair2]; omega)]
      have e1 : (j + 1) * 2 - (pair2 v).length = j * 2 := by simp [pair2]; omega
      have e2 : (j + 1) * 2 + 1 - (pair2 v).length = j * 2 + 1 := by simp [pair2]; omega
      rw [e1, e2]
      exact this
section
variable {w w' : World} {B g cap : Nat} {ps : List PairRef}
theorem OwnPairs.lt (h : OwnPairs w B g cap ps) : g < w.heap.size := OwnK.lt h
theorem OwnPairs.base (h : OwnPairs w B g cap ps) : B ≤ g := OwnK.base h
theorem OwnPairs.mono {B' : Nat} (h : OwnPairs w B g cap ps) (hB : B' ≤ B) : OwnPairs w B' g cap ps := OwnK.mono h hB
theorem OwnPairs.below (h : OwnPairs w B g cap ps) (hb : Below w.heap.size w w') : OwnPairs w' B g cap ps := OwnK.below h hb (OwnK.lt h)
theorem OwnPairs.grown {row : Option Nat} (h : OwnPairs w B g cap ps) (hg : w.grownBy w' row) (hne : some g ≠ row) : OwnPairs w' B g cap ps := OwnK.grown h hg hne
theorem OwnPairs.still (h : OwnPairs w B g cap ps) (hs : ∃ n, w' = w.drewN n) : OwnPairs w' B g cap ps := by obtain ⟨n, rfl⟩ := hs; exact h
theorem OwnPairs.cell (h : OwnPairs w B g cap ps) {j : Nat} (hj : j < ps.length) : w.cell? ⟨g, j * 2, none⟩ = some (rowVal ps[j].1) ∧ w.cell? ⟨g, j * 2 + 1, none⟩ = some (rowVal ps[j].2) := by
  have hl1 : j * 2 < (flatQ ps).length := by rw [flatQ_length]; omega
  have hl2 : j * 2 + 1 < (flatQ ps).length := by rw [flatQ_length]; omega
  obtain ⟨h1, h2⟩ := flatQ_at hj
  rw [OwnK.cell h _ hl1, OwnK.cell h _ hl2, ← h1, ← h2, List.getElem?_eq_getElem hl1, List.getElem?_eq_getElem hl2]
  exact ⟨rfl, rfl⟩
theorem OwnPairs.empty (hB : B ≤ w.heap.size) : OwnPairs (w.alloc (.cells #[] 94)) B w.heap.size 0 [] :=
  World.ownsRow_lit w #[] 0 hB (by decide) rfl
theorem OwnPairs.one (p : PairRef) (hB : B ≤ w.heap.size) : OwnPairs (w.alloc (.cells #[rowVal p.1, rowVal p.2] 94)) B w.heap.size 1 [p] :=
  World.ownsRow_lit w #[rowVal p.1, rowVal p.2] 1 hB (by decide) rfl
theorem wpList_append_pair {ops : Array Oper} {rest : List Oper} {o : Oper} {a : Act} {Q : Exit → Act → World → Prop} (hgd : o.guard = none) (s x : Operand)
    (ho : o.op = .call { callee := .builtin .append, args := #[s, x], argTypes := #[90, 90] })
    (B g cap n H : Nat) (ps : List PairRef) (p : PairRef) (w W : World) (hn : ps.length = n) (hW : W = w.alloc (.cells #[rowVal p.1, rowVal p.2] 94)) (hH : w.heap.size = H) (hown : OwnPairs w B g cap ps)
    (hs : a.eval s = (Value.slice (some ⟨g, 0, none⟩) n cap)) (hx : a.eval x = (Value.slice (some ⟨H, 0, none⟩) 1 1)) (hlen : n + 1 ≤ 1048576)
    (h : ∀ g' cap' w', OwnPairs w' B g' cap' (ps ++ [p]) → w.grownBy w' (some g) → (g' = g ∨ w.heap.size < g') → wpList Try.prog ops Q rest (a.put o.dst (Value.slice (some ⟨g', 0, none⟩) (n + 1) cap')) w') :
    wpList Try.prog ops Q (o :: rest) a W := by
  subst hn; subst hW; subst hH
  have hnew := OwnPairs.one (w := w) (B := w.heap.size) p (Nat.le_refl _)
  refine wpList_append_K infoPair Try.underlying90 rfl (by decide) (by decide) hgd s x ho B g cap ps.length (flatQ ps) (OwnK.alloc hown _) w.heap.size 0 1 1 (pair2 p) rfl ?_ ?_ hs hx hlen ?_
  · intro j u hu
    have hj : j < 2 := by have := (List.getElem?_eq_some_iff.1 hu).1; simpa [pair2] using this
    have h1 := hnew.cell (j := 0) (by simp)
    rw [Nat.zero_mul] at h1
    have : j = 0 ∨ j = 1 := by omega
    rcases this with rfl | rfl
    · rw [Nat.zero_add, h1.1, ← hu]; rfl
    · rw [h1.2, ← hu]; rfl
  · intro u hu
    simp [pair2] at hu
    rcases hu with rfl | rfl <;> rfl
  · intro g' cap' w' h2 h3 h4
    refine h g' cap' w' ?_ ⟨h3.os, h3.tape, h3.output, Nat.le_trans (by simp) h3.size, fun k hk hne => (h3.block k (by simp; omega) hne).trans (Below.heap_alloc _ _ _ hk)⟩ (h4.imp id (by simp; omega))
    unfold OwnPairs
    rw [flatQ_append, List.length_append]
    have e : flatQ [p] = pair2 p := by simp [flatQ]
    rw [e]
    exact h2
end

/-- what 'add' leaves as it was -/
structure SmFr (w w' : World) (bL gP bM : Nat) : Prop where
  os : w'.os = w.os
  tape : w'.tape = w.tape
  output : w'.output = w.output
  size : w.heap.size ≤ w'.heap.size
  block : ∀ k, k < w.heap.size → k ≠ bL → k ≠ gP → k ≠ bM → w'.heap[k]? = w.heap[k]?
theorem box_cell {w : World} {b : Nat} {v : Value} {t : TypeId} (h : w.heap[b]? = some (.cells #[v] t (0, 0))) : w.cell? ⟨b, 0, none⟩ = some v ∧ w.frozen? ⟨b, 0, none⟩ = false := by
  constructor <;> simp [World.cell?, World.frozen?, h]
theorem box_lt {w : World} {b : Nat} {o : Obj} (h : w.heap[b]? = some o) : b < w.heap.size := (Array.getElem?_eq_some_iff.1 h).1
section
variable {w w' : World} {B bS bL bM gP cP nP nM m : Nat} {ps : List PairRef}
theorem SmFr.below (h : SmFr w w' bL gP bM) {b : Nat} (h1 : b ≤ bL) (h2 : b ≤ gP) (h3 : b ≤ bM) (hb : b ≤ w.heap.size) : Below b w w' :=
  ⟨h.os, h.tape, h.output, h.size, fun k hk => h.block k (by omega) (by omega) (by omega) (by omega)⟩
end
end Go.Proofs.Ytmjneokgnnbekaa
namespace Go.Proofs.Ytmjneokgnnbekaa
set_option maxRecDepth 100000
open Go.RowKit Game

theorem heap_setCell_ne {w : World} {b k : Nat} {v : Value} (h : k ≠ b) : (w.setCell ⟨b, 0, none⟩ v).heap[k]? = w.heap[k]? := by
  show (w.heap.modify b _)[k]? = _
  rw [Array.getElem?_modify]
  simp [Ne.symm h]
theorem heap_setCell_size {w : World} {b : Nat} {v : Value} : (w.setCell ⟨b, 0, none⟩ v).heap.size = w.heap.size := by
  show (w.heap.modify b _).size = _
  simp
/-- the roots of pairs -/
def rootsQ (ps : List PairRef) : List (List Int) := ps.map fun p => p.1.2.2
/-- the list behind 'add' -/
def addQ (ps : List PairRef) (p : PairRef) : List PairRef := if p.1.2.2 ∈ rootsQ ps then ps else ps ++ [p]
end Go.Proofs.Ytmjneokgnnbekaa
