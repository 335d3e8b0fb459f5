/- Determinants of small matrices, sets of points, finite types: plain law. Sets of bits, picked matrices: contracts. -/
import Derived.Test.YtihfbbpkgmkbcaaCart
import Derived.Test.YtihfbbpkgmkbcaaAppRow
import Derived.Lib.RabinKarpLaws
namespace Go.Proofs.Ytihfbbpkgmkbcaa
set_option maxRecDepth 100000

def sumTo : Nat → (Nat → Int) → Int
  | 0, _ => 0
  | k + 1, g => sumTo k g + g k
def sgn (j : Nat) : Int := if j % 2 = 0 then 1 else -1
def cutAt (row : List Int) (j : Nat) : List Int := row.take j ++ row.drop (j + 1)
def minorOf (m : List (List Int)) (j : Nat) : List (List Int) := (m.drop 1).map fun row => cutAt row j
def det : Nat → List (List Int) → Int
  | 0, _ => 1
  | n + 1, m => sumTo (n + 1) fun j => sgn j * ent m 0 j * det n (minorOf m j)
/-- a square matrix of small numbers -/
def Sq (n : Nat) (m : List (List Int)) : Prop := m.length = n ∧ (∀ i, i < n → (m.getD i []).length = n) ∧ ∀ i j, -3 ≤ ent m i j ∧ ent m i j ≤ 3
def detB : Nat → Int
  | 0 => 1
  | n + 1 => (n + 1) * (3 * detB n)

theorem sumTo_bound (g : Nat → Int) (b : Int) (k : Nat) (h : ∀ j, j < k → -b ≤ g j ∧ g j ≤ b) : -(k * b) ≤ sumTo k g ∧ sumTo k g ≤ k * b := by
  induction k with
  | zero => simp [sumTo]
  | succ k ih =>
    have h1 := ih (fun j hj => h j (by omega))
    have h2 := h k (by omega)
    simp only [sumTo]
    have e : ((k + 1 : Nat) : Int) * b = k * b + b := by rw [Int.natCast_add, Int.add_mul]; simp
    rw [e]; omega
theorem cutAt_length {row : List Int} {j : Nat} (hj : j < row.length) : (cutAt row j).length = row.length - 1 := by
  simp [cutAt]; omega
theorem cutAt_getD (row : List Int) (j k : Nat) : (cutAt row j).getD k 0 = if k < j ∧ k < row.length then row.getD k 0 else row.getD (j + 1 + (k - min j row.length)) 0 := by
  unfold cutAt
  by_cases h : k < j ∧ k < row.length
  · rw [if_pos h]
    simp only [List.getD]
    rw [List.getElem?_append_left (by simp; omega), List.getElem?_take, if_pos h.1]
  · rw [if_neg h]
    simp only [List.getD]
    rw [List.getElem?_append_right (by simp; omega), List.getElem?_drop]
    simp only [List.length_take]
theorem minorOf_sq {n : Nat} {m : List (List Int)} {j : Nat} (h : Sq (n + 1) m) (hj : j < n + 1) : Sq n (minorOf m j) := by
  obtain ⟨h1, h2, h3⟩ := h
  have hg : ∀ i, (minorOf m j).getD i [] = cutAt (m.getD (i + 1) []) j := by
    intro i
    unfold minorOf
    simp only [List.getD, List.getElem?_map, List.getElem?_drop]
    rw [Nat.add_comm 1 i]
    cases m[i + 1]? with
    | none => simp [cutAt]
    | some r => simp
  refine ⟨by simp [minorOf, h1], fun i hi => ?_, fun i k => ?_⟩
  · rw [hg, cutAt_length (by rw [h2 _ (by omega)]; exact hj), h2 _ (by omega)]; omega
  · unfold ent
    rw [hg, cutAt_getD]
    split
    · exact h3 _ _
    · exact h3 _ _
theorem det_bound : ∀ (n : Nat) (m : List (List Int)), Sq n m → -(detB n) ≤ det n m ∧ det n m ≤ detB n := by
  intro n
  induction n with
  | zero => intro m _; simp [det, detB]
  | succ n ih =>
    intro m hm
    have hterm : ∀ j, j < n + 1 → -(3 * detB n) ≤ sgn j * ent m 0 j * det n (minorOf m j) ∧ sgn j * ent m 0 j * det n (minorOf m j) ≤ 3 * detB n := by
      intro j hj
      have h1 := ih _ (minorOf_sq hm hj)
      have h2 := hm.2.2 0 j
      generalize det n (minorOf m j) = d at *
      generalize ent m 0 j = x at *
      generalize detB n = D at *
      have hx : x = -3 ∨ x = -2 ∨ x = -1 ∨ x = 0 ∨ x = 1 ∨ x = 2 ∨ x = 3 := by omega
      unfold sgn
      split <;> rcases hx with rfl | rfl | rfl | rfl | rfl | rfl | rfl <;> omega
    have := sumTo_bound _ _ (n + 1) hterm
    simpa [det, detB] using this
end Go.Proofs.Ytihfbbpkgmkbcaa
namespace Go.Proofs.Ytihfbbpkgmkbcaa
set_option maxRecDepth 100000
open Go.RowKit

def setNat (m t : Nat) : List Nat := (List.range t).filter fun i => decide (m / 2 ^ i % 2 = 1)
def setTo (m t : Nat) : List Int := (setNat m t).map fun i : Nat => (i : Int)
def setL (m : Nat) : List Int := setTo m 4
theorem setNat_succ (m t : Nat) : setNat m (t + 1) = if m / 2 ^ t % 2 = 1 then setNat m t ++ [t] else setNat m t := by
  unfold setNat
  rw [List.range_succ, List.filter_append]
  split
  · rename_i h; simp [h]
  · rename_i h; simp [h]
theorem setTo_one {m t : Nat} (h : m / 2 ^ t % 2 = 1) : setTo m (t + 1) = setTo m t ++ [(t : Int)] := by
  unfold setTo; rw [setNat_succ, if_pos h]; simp
theorem setTo_zero {m t : Nat} (h : ¬ m / 2 ^ t % 2 = 1) : setTo m (t + 1) = setTo m t := by
  unfold setTo; rw [setNat_succ, if_neg h]
theorem setTo_len (m t : Nat) : (setTo m t).length ≤ t := by
  unfold setTo setNat
  rw [List.length_map]
  exact Nat.le_trans (List.length_filter_le _ _) (by simp)
theorem setTo_stop {m t : Nat} (h : m / 2 ^ t = 0) : ∀ k, setTo m (t + k) = setTo m t := by
  intro k
  induction k with
  | zero => rfl
  | succ k ih =>
    rw [← Nat.add_assoc, setTo_zero, ih]
    have : m / 2 ^ (t + k) = 0 := by
      rw [Nat.pow_add, ← Nat.div_div_eq_div_mul, h]; simp
    rw [this]; decide
theorem and1 {q : Nat} (hq : q ≤ 32) : bits BinOp.and IntKind.i64 (q : Int) 1 = ((q % 2 : Nat) : Int) := by
  rw [and_one _ (by omega)]
theorem and1_at (m t : Nat) (hm : m ≤ 15) : bits BinOp.and IntKind.i64 ((m : Int) / 2 ^ t) 1 = ((m / 2 ^ t % 2 : Nat) : Int) := by
  have e : ((m : Int) / 2 ^ t) = ((m / 2 ^ t : Nat) : Int) := by simp
  have h : m / 2 ^ t ≤ m := Nat.div_le_self _ _
  rw [e, and1 (by omega)]

def pickRow (c : List (List Int)) (i : Int) (s : List Int) : List Int := s.map fun j => ent c i.toNat j.toNat
def pickL (c : List (List Int)) (s : List Int) : List (List Int) := s.map fun i => pickRow c i s
theorem contents_push (rs : List RowRef) (r : RowRef) : contents (rs ++ [r]) = contents rs ++ [r.2.2] := by simp [contents]
theorem take_map_succ {α : Type} (f : Int → α) (s : List Int) (t : Nat) (ht : t < s.length) : (s.take (t + 1)).map f = (s.take t).map f ++ [f (s.getD t 0)] := by
  rw [List.take_succ_eq_append_getElem ht, List.map_append]; simp [List.getD, ht]

end Go.Proofs.Ytihfbbpkgmkbcaa
