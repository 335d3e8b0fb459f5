/- determinants: contracts. determinants, the reference's: contracts. -/
import Derived.Test.YtihfbbpkgmkbcaaG22
import Derived.Test.YtihfbbpkgmkbcaaG23
namespace Go.Proofs.Ytihfbbpkgmkbcaa
set_option maxRecDepth 100000
open Go.RowKit

theorem minorOf_length (m : List (List Int)) (j : Nat) : (minorOf m j).length = m.length - 1 := by simp [minorOf]
theorem minor_take {m : List (List Int)} {j k : Nat} (hk : k + 1 < m.length) : (minorOf m j).take (k + 1) = (minorOf m j).take k ++ [cutAt (m.getD (k + 1) []) j] := by
  have hk' : k < (minorOf m j).length := by rw [minorOf_length]; omega
  rw [List.take_succ_eq_append_getElem hk']
  congr 2
  simp [minorOf, List.getD, hk]

theorem sgn_succ (t : Nat) : sgn (t + 1) = -(sgn t) := by
  unfold sgn
  by_cases h : t % 2 = 0
  · rw [if_pos h, if_neg (by omega)]
  · rw [if_neg h, if_pos (by omega)]; rfl
theorem sgn_cases (t : Nat) : sgn t = 1 ∨ sgn t = -1 := by unfold sgn; split <;> simp
theorem detB_le {n : Nat} (h : n ≤ 3) : 0 ≤ detB n ∧ detB n ≤ 162 := by
  have : n = 0 ∨ n = 1 ∨ n = 2 ∨ n = 3 := by omega
  rcases this with rfl | rfl | rfl | rfl <;> simp [detB]
theorem term_bound {G x d : Int} (hG : G = 1 ∨ G = -1) (hx : -3 ≤ x ∧ x ≤ 3) (hd : -162 ≤ d ∧ d ≤ 162) : -486 ≤ G * x * d ∧ G * x * d ≤ 486 ∧ -3 ≤ G * x ∧ G * x ≤ 3 := by
  have hx' : x = -3 ∨ x = -2 ∨ x = -1 ∨ x = 0 ∨ x = 1 ∨ x = 2 ∨ x = 3 := by omega
  rcases hG with rfl | rfl <;> rcases hx' with rfl | rfl | rfl | rfl | rfl | rfl | rfl <;> omega
theorem det_sum_bound {n : Nat} {m : List (List Int)} (hsq : Sq (n + 1) m) (hn : n ≤ 3) {t : Nat} (ht : t ≤ n + 1) :
    -1944 ≤ (sumTo t fun j => sgn j * ent m 0 j * det n (minorOf m j)) ∧ (sumTo t fun j => sgn j * ent m 0 j * det n (minorOf m j)) ≤ 1944 := by
  have := sumTo_bound (fun j => sgn j * ent m 0 j * det n (minorOf m j)) 486 t (fun j hj => by
    have h1 := det_bound n _ (minorOf_sq hsq (j := j) (by omega))
    have h2 := detB_le hn
    have h3 := term_bound (d := det n (minorOf m j)) (sgn_cases j) (hsq.2.2 0 j) ⟨by omega, by omega⟩
    exact ⟨h3.1, h3.2.1⟩)
  omega

attribute [local go_sem ↓] Go.wp_at_zero Go.wp_at_succ
theorem cutAt_range (row : List Int) (j k : Nat) :
    (if k ≠ j then ((List.range k).filter (· ≠ j)).map (fun t => row.getD t 0) ++ [row.getD k 0] else ((List.range k).filter (· ≠ j)).map (fun t => row.getD t 0)) = ((List.range (k + 1)).filter (· ≠ j)).map (fun t => row.getD t 0) := by
  rw [List.range_succ, List.filter_append]
  by_cases h : k = j
  · subst h; simp
  · simp [h]
theorem cutAt_all {row : List Int} {n j : Nat} (hl : row.length = n + 1) (hj : j ≤ n) : ((List.range (n + 1)).filter (· ≠ j)).map (fun t => row.getD t 0) = cutAt row j := by
  have e : List.range (n + 1) = List.range j ++ (j :: (List.range (n - j)).map (fun t => j + 1 + t)) := by
    apply List.ext_getElem
    · simp; omega
    · intro i h1 h2
      simp only [List.getElem_range]
      by_cases hi : i < j
      · rw [List.getElem_append_left (by simpa using hi)]; simp
      · rw [List.getElem_append_right (by simp; omega)]
        simp only [List.length_range]
        by_cases hij : i = j
        · subst hij; simp
        · obtain ⟨d, rfl⟩ : ∃ d, i = j + 1 + d := ⟨i - (j + 1), by omega⟩
          have : j + 1 + d - j = d + 1 := by omega
          simp [this]
  rw [e, List.filter_append, List.map_append]
  unfold cutAt
  congr 1
  · rw [List.filter_eq_self.2 (by intro a ha; have := List.mem_range.1 ha; simp; omega)]
    apply List.ext_getElem
    · simp; omega
    · intro i h1 h2
      simp at h1
      simp [List.getD]
      rw [List.getElem?_eq_getElem (by omega)]; rfl
  · rw [List.filter_cons_of_neg (by simp), List.filter_eq_self.2 (by intro a ha; obtain ⟨b, _, rfl⟩ := List.mem_map.1 ha; simp; omega)]
    apply List.ext_getElem
    · simp; omega
    · intro i h1 h2
      simp at h1
      simp [List.getD]
      rw [List.getElem?_eq_getElem (by omega)]; rfl
end Go.Proofs.Ytihfbbpkgmkbcaa
namespace Go.Proofs.Ytihfbbpkgmkbcaa
set_option maxRecDepth 100000
open Go.RowKit

def cutTo (row : List Int) (j k : Nat) : List Int := ((List.range k).filter (· ≠ j)).map (fun t => row.getD t 0)
theorem cutTo_ne {row : List Int} {j k : Nat} (h : k ≠ j) : cutTo row j (k + 1) = cutTo row j k ++ [row.getD k 0] := by
  have := cutAt_range row j k
  rw [if_pos h] at this
  exact this.symm
theorem cutTo_eq {row : List Int} {j k : Nat} (h : k = j) : cutTo row j (k + 1) = cutTo row j k := by
  have := cutAt_range row j k
  rw [if_neg (by simpa using h)] at this
  exact this.symm
theorem cutTo_le (row : List Int) (j k : Nat) : (cutTo row j k).length ≤ k := by
  unfold cutTo
  rw [List.length_map]
  exact Nat.le_trans (List.length_filter_le _ _) (by simp)

attribute [local go_sem ↓] Go.wp_at_zero Go.wp_at_succ
end Go.Proofs.Ytihfbbpkgmkbcaa
