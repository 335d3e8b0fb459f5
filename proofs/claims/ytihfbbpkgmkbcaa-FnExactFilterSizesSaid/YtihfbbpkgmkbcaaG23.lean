/- principal minors, witnesses, IsFinite: contracts. sets, sub-matrices, witnesses, IsFinite of the reference: contracts. SubCartan, WitnessOf, IsFinite of the reference: contracts. WitnessOf, IsFinite of the reference: contracts. -/
import Derived.Test.YtihfbbpkgmkbcaaG22
namespace Go.Proofs.Ytihfbbpkgmkbcaa
set_option maxRecDepth 100000
open Go.RowKit

theorem pow_le16 {M : Nat} (h : M ≤ 4) : 2 ^ M ≤ 16 := Nat.le_trans (Nat.pow_le_pow_right (by decide) h) (by decide)
theorem wrap_pow4 {M : Nat} (h : M ≤ 4) : wrap64 ((2 : Int) ^ M) = ((2 ^ M : Nat) : Int) := by
  have h1 := pow_le16 h
  have h2 : ((2 ^ M : Nat) : Int) = (2 : Int) ^ M := by simp
  have h3 : wrap64 ((2 ^ M : Nat) : Int) = ((2 ^ M : Nat) : Int) := by
    generalize 2 ^ M = q at h1
    exact IntWalk.wrap64_in _ ⟨by omega, by omega⟩
  rw [← h2]
  exact h3

def minorAt (c : List (List Int)) (m : Nat) : Int := det (setL m).length (pickL c (setL m))
theorem setNat_mem {m t i : Nat} (h : i ∈ setNat m t) : m / 2 ^ i % 2 = 1 ∧ i < t := by
  unfold setNat at h
  have := List.mem_filter.1 h
  exact ⟨by simpa using this.2, by simpa using this.1⟩
theorem setL_in {m n : Nat} (hm : m < 2 ^ n) (t : Nat) (ht : t < (setL m).length) : 0 ≤ (setL m).getD t 0 ∧ (setL m).getD t 0 < n := by
  have hmem : (setL m).getD t 0 ∈ setL m := by simp [List.getD, ht]
  obtain ⟨i, hi, he⟩ := List.mem_map.1 hmem
  rw [← he]
  have h1 := setNat_mem hi
  refine ⟨by omega, ?_⟩
  rcases Nat.lt_or_ge i n with h | h
  · omega
  · have : m / 2 ^ i = 0 := Nat.div_eq_of_lt (Nat.lt_of_lt_of_le hm (Nat.pow_le_pow_right (by decide) h))
    omega
theorem ent_bound {c : List (List Int)} (hC : IsC c) (i j : Nat) : -3 ≤ ent c i j ∧ ent c i j ≤ 3 := by
  by_cases hi : i < c.length
  · by_cases hj : j < c.length
    · have h := hC.2.2.2 i hi j hj
      unfold EntOk at h
      split at h <;> omega
    · have : ent c i j = 0 := by
        unfold ent
        have := hC.2.2.1 i hi
        simp only [List.getD] at *
        rw [List.getElem?_eq_none (by omega)]; rfl
      omega
  · have : ent c i j = 0 := by
      unfold ent
      simp only [List.getD]
      have hno : c[i]? = none := List.getElem?_eq_none (by omega)
      rw [hno]; rfl
    omega
theorem pick_sq {c : List (List Int)} (hC : IsC c) (s : List Int) : Sq s.length (pickL c s) := by
  refine ⟨by simp [pickL], fun i hi => ?_, fun i j => ?_⟩
  · simp [pickL, List.getD, hi, pickRow]
  · have h0 : ∀ i j, ent (pickL c s) i j = if i < s.length ∧ j < s.length then ent c (s.getD i 0).toNat (s.getD j 0).toNat else 0 := by
      intro i j
      unfold pickL
      by_cases hi : i < s.length
      · by_cases hj : j < s.length
        · rw [if_pos ⟨hi, hj⟩]
          conv => lhs; unfold ent
          simp [List.getD, hi, hj, pickRow]
        · rw [if_neg (by omega)]
          conv => lhs; unfold ent
          simp only [List.getD, List.getElem?_map]
          rw [List.getElem?_eq_getElem hi]
          simp [pickRow]
          rw [List.getElem?_eq_none (by omega)]; rfl
      · rw [if_neg (by omega)]
        conv => lhs; unfold ent
        simp only [List.getD, List.getElem?_map]
        have hno : s[i]? = none := List.getElem?_eq_none (by omega)
        rw [hno]; rfl
    rw [h0]
    split
    · exact ent_bound hC _ _
    · omega
theorem setL_len (m : Nat) : (setL m).length ≤ 4 := setTo_len m 4
theorem minorAt_bound {c : List (List Int)} (hC : IsC c) (m : Nat) : -1944 ≤ minorAt c m ∧ minorAt c m ≤ 1944 := by
  have h := det_bound _ _ (pick_sq hC (setL m))
  have hl := setL_len m
  have : (setL m).length = 4 ∨ (setL m).length ≤ 3 := by omega
  unfold minorAt
  rcases this with h4 | h3
  · rw [h4] at h ⊢; simp [detB] at h; omega
  · have := detB_le h3; omega

def minorsTo (c : List (List Int)) (t : Nat) : List Int := (List.range t).map fun k => minorAt c (k + 1)
def minorsL (c : List (List Int)) : List Int := if IsC c then minorsTo c (2 ^ c.length - 1) else []
theorem minorsTo_length (c : List (List Int)) (t : Nat) : (minorsTo c t).length = t := by simp [minorsTo]
theorem minorsTo_succ (c : List (List Int)) (t : Nat) : minorsTo c (t + 1) = minorsTo c t ++ [minorAt c (t + 1)] := by simp [minorsTo, List.range_succ]

/-- the first set from m on whose determinant is not positive -/
def witFrom (c : List (List Int)) : Nat → Nat → List Int
  | _, 0 => []
  | m, f + 1 => if minorAt c m ≤ 0 then setL m else witFrom c (m + 1) f
def witness (c : List (List Int)) : List Int := if IsC c then witFrom c 1 (2 ^ c.length - 1) else []
def finB (c : List (List Int)) : Bool := decide (IsC c) && ((witness c).length == 0)
theorem witFrom_len (c : List (List Int)) : ∀ (f m : Nat), (witFrom c m f).length ≤ 4 := by
  intro f
  induction f with
  | zero => intro m; simp [witFrom]
  | succ f ih =>
    intro m
    unfold witFrom
    split
    · exact setL_len m
    · exact ih _
theorem witness_len (c : List (List Int)) : (witness c).length ≤ 4 := by
  unfold witness
  split
  · exact witFrom_len _ _ _
  · simp

end Go.Proofs.Ytihfbbpkgmkbcaa
namespace Go.Proofs.Ytihfbbpkgmkbcaa
set_option maxRecDepth 100000
open Go.RowKit

def setsTo (n t : Nat) : List (List Int) := (List.range t).map fun k => setTo (k + 1) n
theorem setsTo_length (n t : Nat) : (setsTo n t).length = t := by simp [setsTo]
theorem setsTo_succ (n t : Nat) : setsTo n (t + 1) = setsTo n t ++ [setTo (t + 1) n] := by simp [setsTo, List.range_succ]

end Go.Proofs.Ytihfbbpkgmkbcaa
namespace Go.Proofs.Ytihfbbpkgmkbcaa
set_option maxRecDepth 100000
open Go.RowKit

attribute [local go_sem ↓] Go.wp_at_zero Go.wp_at_succ
end Go.Proofs.Ytihfbbpkgmkbcaa
namespace Go.Proofs.Ytihfbbpkgmkbcaa
set_option maxRecDepth 100000
open Go.RowKit

theorem setTo_eq_setL {m n : Nat} (hn : n ≤ 4) (hm : m < 2 ^ n) : setTo m n = setL m := by
  have h := setTo_stop (m := m) (t := n) (Nat.div_eq_of_lt hm) (4 - n)
  have h4 : n + (4 - n) = 4 := by omega
  rw [h4] at h
  exact h.symm
theorem setL_ne (m : Nat) (h1 : 1 ≤ m) (h2 : m ≤ 15) : 1 ≤ (setL m).length := by
  have : ∀ m, m < 16 → 1 ≤ m → 1 ≤ (setL m).length := by decide
  exact this m (by omega) h1
theorem setL_asc (m : Nat) (t : Nat) (ht : t + 1 < (setL m).length) : (setL m).getD t 0 < (setL m).getD (t + 1) 0 := by
  have hp : (setNat m 4).Pairwise (· < ·) := List.Pairwise.filter _ List.pairwise_lt_range
  have hl : (setL m).length = (setNat m 4).length := by simp [setL, setTo]
  have h1 : t < (setNat m 4).length := by omega
  have h2 : t + 1 < (setNat m 4).length := by omega
  have := List.pairwise_iff_getElem.1 hp t (t + 1) h1 h2 (by omega)
  simp only [setL, setTo, List.getD, List.getElem?_map]
  rw [List.getElem?_eq_getElem h1, List.getElem?_eq_getElem h2]
  simpa using this

end Go.Proofs.Ytihfbbpkgmkbcaa
