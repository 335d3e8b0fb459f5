/- slices.Equal, CompareWords, EqualWords: contracts (parts of XPal and XEq, for seats that lack the rest). -/
import Derived.Test.YtlloeinpcnlgcaaCart
namespace Go.Proofs.Ytlloeinpcnlgcaa
open Go.RowKit

def lexCmp : List Int → List Int → Int
  | x :: a, y :: b => if x < y then -1 else if y < x then 1 else lexCmp a b
  | _, _ => 0
def wordCmp (a b : List Int) : Int := if a.length < b.length then -1 else if b.length < a.length then 1 else lexCmp a b
theorem lexCmp_eq {a b : List Int} (h : a.length = b.length) : lexCmp a b = 0 ↔ a = b := by
  induction a generalizing b with
  | nil => cases b with
    | nil => simp [lexCmp]
    | cons y b => simp at h
  | cons x a ih => cases b with
    | nil => simp at h
    | cons y b =>
      simp only [lexCmp]
      by_cases h1 : x < y
      · rw [if_pos h1]; simp; intro e; omega
      · rw [if_neg h1]
        by_cases h2 : y < x
        · rw [if_pos h2]; simp; intro e; omega
        · rw [if_neg h2, ih (by simpa using h)]
          have : x = y := by omega
          subst this; simp
theorem wordCmp_eq (a b : List Int) : (wordCmp a b == 0) = decide (a = b) := by
  unfold wordCmp
  by_cases h1 : a.length < b.length
  · rw [if_pos h1]; simp; intro e; subst e; omega
  · rw [if_neg h1]
    by_cases h2 : b.length < a.length
    · rw [if_pos h2]; simp; intro e; subst e; omega
    · rw [if_neg h2]
      have := lexCmp_eq (a := a) (b := b) (by omega)
      by_cases e : a = b
      · rw [this.2 e]; simp [e]
      · have h3 : lexCmp a b ≠ 0 := fun h => e (this.1 h)
        simp [e, h3]
theorem lexCmp_drop {a b : List Int} {k : Nat} (h1 : k < a.length) (h2 : k < b.length) : lexCmp (a.drop k) (b.drop k) = if a[k] < b[k] then -1 else if b[k] < a[k] then 1 else lexCmp (a.drop (k + 1)) (b.drop (k + 1)) := by
  have e1 : a.drop k = a[k] :: a.drop (k + 1) := List.drop_eq_getElem_cons h1
  have e2 : b.drop k = b[k] :: b.drop (k + 1) := List.drop_eq_getElem_cons h2
  rw [e1, e2]; rfl

end Go.Proofs.Ytlloeinpcnlgcaa
