/- Lists of weights with counts ([]impl.Weighted): what they read as. -/
import Derived.Test.YtihfbbpkgmkbcaaWd
namespace Go.Proofs.Ytihfbbpkgmkbcaa
set_option maxRecDepth 100000
open Go.RowKit

/-- a weight with its count -/
abbrev Wt := List Int × Int
def wOf (l : List Wt) (j : Nat) : List Int := (l.getD j ([], 0)).1
def ctOf (l : List Wt) (j : Nat) : Int := (l.getD j ([], 0)).2
/-- cells that hold weights with counts, two a piece -/
def WRows (w : World) (g o : Nat) (l : List Wt) : Prop :=
  ∀ j, j < l.length → ∃ gj oj cj, w.cell? ⟨g, o + j * 2, none⟩ = some (Value.slice (some ⟨gj, oj, none⟩) ((wOf l j).length) cj) ∧ w.cell? ⟨g, o + j * 2 + 1, none⟩ = some (.int .i64 (ctOf l j)) ∧ (wOf l j).length ≤ cj ∧ gj < w.heap.size ∧ Cells w gj oj (wOf l j)
theorem WRows.below {w w' : World} {g o : Nat} {l : List Wt} (h : WRows w g o l) (hb : Below w.heap.size w w') (hg : g < w.heap.size) : WRows w' g o l := fun j hj => by
  obtain ⟨gj, oj, cj, h1, h2, h3, h4, h5⟩ := h j hj
  exact ⟨gj, oj, cj, (hb.cell (p := ⟨g, o + j * 2, none⟩) hg).trans h1, (hb.cell (p := ⟨g, o + j * 2 + 1, none⟩) hg).trans h2, h3, Nat.lt_of_lt_of_le h4 hb.size, h5.below hb h4⟩
def wFew (l : List Wt) : Prop := l.length ≤ 1048576 ∧ ∀ j, j < l.length → (wOf l j).length ≤ 1048576

/-- the count of a weight in a list: of the first that is equal -/
def countIn : List Wt → List Int → Int
  | [], _ => 0
  | x :: l, v => if x.1 = v then x.2 else countIn l v
theorem countIn_drop (l : List Wt) (v : List Int) (k : Nat) (hk : k < l.length) : countIn (l.drop k) v = if wOf l k = v then ctOf l k else countIn (l.drop (k + 1)) v := by
  have e : l.drop k = l[k] :: l.drop (k + 1) := List.drop_eq_getElem_cons hk
  rw [e]; simp [countIn, wOf, ctOf, List.getD, hk]

end Go.Proofs.Ytihfbbpkgmkbcaa
