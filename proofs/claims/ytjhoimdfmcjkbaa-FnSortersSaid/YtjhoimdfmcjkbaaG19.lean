/- determinants, the reference's: contracts. -/
import Derived.Test.YtjhoimdfmcjkbaaG18
namespace Go.Proofs.Ytjhoimdfmcjkbaa
set_option maxRecDepth 100000
open Go.RowKit

def cutTo (row : List Int) (j k : Nat) : List Int := ((List.range k).filter (· ≠ j)).map (fun t => row.getD t 0)
theorem cutTo_ne {row : List Int} {j k : Nat} (h : k ≠ j) : cutTo row j (k + 1) = cutTo row j k ++ [row.getD k 0] := by
  have := cutAt_range row j k
  rw [if_pos h] at this
  exact this.symm
theorem cutTo_eq {row : List Int} {j k : Nat} (h : k = j) : cutTo row j (k + 1) = cutTo row j k := by
  have := cutAt_range row j k
  rw [if_neg (by simpa using h)] at this
  exact this.symm
theorem cutTo_le (row : List Int) (j k : Nat) : (cutTo row j k).length ≤ k := by
  unfold cutTo
  rw [List.length_map]
  exact Nat.le_trans (List.length_filter_le _ _) (by simp)

attribute [local go_sem ↓] Go.wp_at_zero Go.wp_at_succ
end Go.Proofs.Ytjhoimdfmcjkbaa
