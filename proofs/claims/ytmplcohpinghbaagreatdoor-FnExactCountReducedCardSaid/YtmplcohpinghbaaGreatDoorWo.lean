/- Lists of weights with counts of the call's own; what came in as one; toWeighted, szWeighted, eqWeighted. -/
import Derived.Test.YtmplcohpinghbaaGreatDoorArg
import Derived.Test.YtmplcohpinghbaaGreatDoorWt
import Derived.Laws.ResultCell
namespace Go.Proofs.YtmplcohpinghbaaGreatDoor
open Go.RowKit

/-- a slice of elements of k cells, at the head of block g, of the call's own -/
def OwnK (w : World) (B : Nat) (E : TypeId) (k g cap n : Nat) (cs : List Value) : Prop := w.ownsRow B E k (Value.slice (some ⟨g, 0, none⟩) n cap) n cs
section
variable {w w' : World} {B g cap n k : Nat} {E : TypeId} {cs : List Value}
theorem OwnK.base (h : OwnK w B E k g cap n cs) : B ≤ g := (World.ownsRow.lt h g rfl).1
theorem OwnK.lt (h : OwnK w B E k g cap n cs) : g < w.heap.size := (World.ownsRow.lt h g rfl).2
theorem OwnK.row (h : OwnK w B E k g cap n cs) : ∃ cur, w.heap[g]? = some (.cells cur E (0, 0)) ∧ n ≤ cap ∧ cap ≤ maxLen := by
  rcases h.2 with ⟨h', _⟩ | ⟨g', cap', cur, h', _, hh, hn, hm, _⟩
  · simp at h'
  · simp only [Value.slice.injEq, Option.some.injEq, Addr.mk.injEq] at h'
    obtain ⟨⟨rfl, _⟩, _, rfl⟩ := h'
    exact ⟨cur, hh, hn, hm⟩
theorem OwnK.capLe (h : OwnK w B E k g cap n cs) : n ≤ cap := by obtain ⟨_, _, h, _⟩ := h.row; exact h
theorem OwnK.len (h : OwnK w B E k g cap n cs) : cs.length = n * k := h.1
theorem OwnK.cell (h : OwnK w B E k g cap n cs) (j : Nat) (hj : j < cs.length) : w.cell? ⟨g, j, none⟩ = some cs[j] := by
  rw [World.ownsRow.cellAt h j (by have := h.len; omega)]; simp [hj]
theorem OwnK.frozen (h : OwnK w B E k g cap n cs) (j : Nat) : w.frozen? ⟨g, j, none⟩ = false := World.ownsRow.frozenAt h j
theorem OwnK.mono {B' : Nat} (h : OwnK w B E k g cap n cs) (hB : B' ≤ B) : OwnK w B' E k g cap n cs := by
  refine ⟨h.1, ?_⟩
  rcases h.2 with ⟨h', _⟩ | ⟨g', cap', cur, h', hb, r⟩
  · simp at h'
  · exact .inr ⟨g', cap', cur, h', by omega, r⟩
theorem OwnK.grown {row : Option Nat} (h : OwnK w B E k g cap n cs) (hg : w.grownBy w' row) (hne : some g ≠ row) : OwnK w' B E k g cap n cs := World.ownsRow.kept h hg (.inr hne)
theorem OwnK.below {B' : Nat} (h : OwnK w B E k g cap n cs) (hb : Below B' w w') (hg : g < B') : OwnK w' B E k g cap n cs := by
  refine ⟨h.1, ?_⟩
  rcases h.2 with ⟨h', _⟩ | ⟨g', cap', cur, h', hbb, hh, r⟩
  · simp at h'
  · refine .inr ⟨g', cap', cur, h', hbb, ?_, r⟩
    simp only [Value.slice.injEq, Option.some.injEq, Addr.mk.injEq] at h'
    obtain ⟨⟨rfl, _⟩, _⟩ := h'
    rw [hb.block _ hg]; exact hh
theorem OwnK.alloc (h : OwnK w B E k g cap n cs) (o : Obj) : OwnK (w.alloc o) B E k g cap n cs := World.ownsRow.alloc h o
theorem OwnK.set (h : OwnK w B E k g cap n cs) (j : Nat) (v : Value) : OwnK (w.setCell ⟨g, j, none⟩ v) B E k g cap n (cs.set j v) ∧ w.grownBy (w.setCell ⟨g, j, none⟩ v) (some g) := World.ownsRow.stored h j v
theorem OwnK.neV {B' g' cap' : Nat} {E' : TypeId} {vs' : List Value} (h : OwnK w B E k g cap n cs) (h' : OwnV w B' E' g' cap' vs') (hE : E ≠ E') : g ≠ g' := by
  rintro rfl
  obtain ⟨c1, e1, _⟩ := h.row
  obtain ⟨c2, e2, _⟩ := h'.row
  rw [e1] at e2
  simp at e2
  exact hE e2.2
end
theorem Own.setNe {w : World} {B g cap : Nat} {xs : List Int} (h : Own w B g cap xs) (p : Addr) (v : Value) (hp : g ≠ p.block) : Own (w.setCell p v) B g cap xs := by
  refine ⟨h.1, ?_⟩
  rcases h.2 with ⟨h', _⟩ | ⟨g', cap', cur, h', hbb, hh, r⟩
  · simp at h'
  · refine .inr ⟨g', cap', cur, h', hbb, ?_, r⟩
    simp only [Value.slice.injEq, Option.some.injEq, Addr.mk.injEq] at h'
    obtain ⟨⟨rfl, _⟩, _⟩ := h'
    rw [Below.heap_setCell _ _ _ _ hp]; exact hh

/-- a row with its count: its block, its capacity, its numbers; the count -/
abbrev WRef := RowRef × Int
def flatW (rs : List WRef) : List Value := rs.flatMap fun r => [rowVal r.1, .int .i64 r.2]
def contW (rs : List WRef) : List Wt := rs.map fun r => (r.1.2.2, r.2)
theorem contW_length (rs : List WRef) : (contW rs).length = rs.length := by simp [contW]
theorem flatW_length (rs : List WRef) : (flatW rs).length = rs.length * 2 := by
  induction rs with
  | nil => rfl
  | cons r rs ih => simp only [flatW, List.flatMap_cons, List.length_append, List.length_cons, List.length_nil] at *; rw [ih]; omega
theorem flatW_append (a b : List WRef) : flatW (a ++ b) = flatW a ++ flatW b := by simp [flatW]
theorem flatW_one (r : WRef) : flatW [r] = [rowVal r.1, .int .i64 r.2] := rfl
theorem flatW_at (rs : List WRef) (zs : List Value) (j : Nat) (hj : j < rs.length) : (flatW rs ++ zs)[j * 2]? = some (rowVal rs[j].1) ∧ (flatW rs ++ zs)[j * 2 + 1]? = some (.int .i64 rs[j].2) := by
  have e : rs = rs.take j ++ [rs[j]] ++ rs.drop (j + 1) := by
    have h1 : rs.drop j = rs[j] :: rs.drop (j + 1) := List.drop_eq_getElem_cons hj
    rw [List.append_assoc, List.singleton_append, ← h1, List.take_append_drop]
  have hl : (flatW (rs.take j)).length = j * 2 := by rw [flatW_length, List.length_take]; omega
  have e2 : flatW rs ++ zs = flatW (rs.take j) ++ (rowVal rs[j].1 :: .int .i64 rs[j].2 :: (flatW (rs.drop (j + 1)) ++ zs)) := by
    conv => lhs; rw [e, flatW_append, flatW_append, flatW_one]
    simp
  rw [e2]
  constructor
  · rw [List.getElem?_append_right (by omega), hl]; simp
  · rw [List.getElem?_append_right (by omega), hl, show j * 2 + 1 - j * 2 = 1 by omega]; simp
theorem flatW_put (rs : List WRef) (r : WRef) (zs : List Value) (j : Nat) (hj : rs.length = j) (hz : 2 ≤ zs.length) :
    ((flatW rs ++ zs).set (j * 2) (rowVal r.1)).set (j * 2 + 1) (.int .i64 r.2) = flatW (rs ++ [r]) ++ zs.drop 2 := by
  have hl : (flatW rs).length = j * 2 := by rw [flatW_length, hj]
  match zs, hz with
  | a :: b :: zs', _ =>
    rw [List.set_append_right _ _ (by omega), hl, Nat.sub_self, List.set_cons_zero, List.set_append_right _ _ (by omega), hl, show j * 2 + 1 - j * 2 = 1 by omega, flatW_append, flatW_one]
    simp

theorem wOf_cont (rs : List WRef) (j : Nat) (hj : j < rs.length) : wOf (contW rs) j = rs[j].1.2.2 ∧ ctOf (contW rs) j = rs[j].2 := by
  simp [wOf, ctOf, contW, List.getD, hj]
/-- what came in as a list of weights with counts -/
def ArgWts (w : World) (a : Option Addr) (l : List Wt) : Prop :=
  l = [] ∨ ∃ g o, a = some ⟨g, o, none⟩ ∧ g < w.heap.size ∧ ∀ j, j < l.length → ∃ aj cj, w.cell? ⟨g, o + j * 2, none⟩ = some (.slice aj (wOf l j).length cj) ∧ w.cell? ⟨g, o + j * 2 + 1, none⟩ = some (.int .i64 (ctOf l j)) ∧ ArgInts w aj (wOf l j)
theorem ArgWts.below {w w' : World} {a : Option Addr} {l : List Wt} (h : ArgWts w a l) (hb : Below w.heap.size w w') : ArgWts w' a l := by
  rcases h with h | ⟨g, o, ha, hg, hc⟩
  · exact .inl h
  · refine .inr ⟨g, o, ha, Nat.lt_of_lt_of_le hg hb.size, fun j hj => ?_⟩
    obtain ⟨aj, cj, h1, h2, h3⟩ := hc j hj
    exact ⟨aj, cj, (hb.cell (p := ⟨g, o + j * 2, none⟩) hg).trans h1, (hb.cell (p := ⟨g, o + j * 2 + 1, none⟩) hg).trans h2, h3.below hb⟩

/-- the size of a list: what is left, where it is not negative, tells that it is small -/
def szWPost (l : List Wt) (w : World) (e : Ending) (w' : World) : Prop := ∃ L : Int, e = .returned (.int .i64 L) ∧ (0 ≤ L → wFew l ∧ L ≤ 1048576) ∧ Below w.heap.size w w'

theorem szL_bound {n : Nat} {left : Int} (hl : left ≤ 1048576) (h : 0 ≤ szL n left) : n ≤ 1048576 ∧ szL n left ≤ 1048576 := by
  unfold szL at *
  split at h
  · omega
  · rename_i hh; rw [if_neg hh]; omega

end Go.Proofs.YtmplcohpinghbaaGreatDoor
