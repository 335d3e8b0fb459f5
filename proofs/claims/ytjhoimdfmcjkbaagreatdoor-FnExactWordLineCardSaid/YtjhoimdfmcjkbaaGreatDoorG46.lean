/- Plain law: how words, weights, roots and matrices are written. -/
import Derived.Test.YtjhoimdfmcjkbaaGreatDoorG03
import Derived.Lib.Join
import Derived.Lib.ItoaLen
import Derived.Laws.Concat
namespace Go.Proofs.YtjhoimdfmcjkbaaGreatDoor
set_option maxRecDepth 100000
open Go.Lib (join decDigits itoa)

theorem u8_int (x : Int) (h0 : 0 ≤ x) (h1 : x < 256) : ((UInt8.ofNat x.toNat).toNat : Int) = x := by
  rw [UInt8.toNat_ofNat']
  omega

/-! ### the reference's FormatInt: digits from the right -/
def digSt (N m : Nat) (out : List UInt8) : Prop := (m = 0 ∧ out = decDigits N) ∨ (0 < m ∧ decDigits N = decDigits m ++ out)
theorem decDigits_big {m : Nat} (h : 10 ≤ m) : decDigits m = decDigits (m / 10) ++ [UInt8.ofNat (48 + m % 10)] := by
  conv => lhs; rw [decDigits]
  rw [dif_neg (by omega)]
theorem digSt_start {N : Nat} (h : 0 < N) : digSt N N [] := .inr ⟨h, by simp⟩
theorem digSt_step {N m : Nat} {out : List UInt8} (h : digSt N m out) (hm : 0 < m) : digSt N (m / 10) (UInt8.ofNat (48 + m % 10) :: out) := by
  rcases h with ⟨h, -⟩ | ⟨-, h⟩
  · omega
  · by_cases h10 : m < 10
    · refine .inl ⟨by omega, ?_⟩
      rw [h, Lib.decDigits_one h10, Nat.mod_eq_of_lt h10]
      rfl
    · refine .inr ⟨by omega, ?_⟩
      rw [h, decDigits_big (by omega)]
      simp
theorem digSt_end {N : Nat} {out : List UInt8} (h : digSt N 0 out) : out = decDigits N := by
  rcases h with ⟨-, h⟩ | ⟨h, -⟩
  · exact h
  · omega
theorem digSt_len {N m : Nat} {out : List UInt8} (hN : N < 18446744073709551616) (h : digSt N m out) : out.length ≤ 20 := by
  have hl : (decDigits N).length ≤ 20 := by rw [Lib.decDigits_length]; exact Lib.nDigits_le20 N hN
  rcases h with ⟨-, h⟩ | ⟨-, h⟩
  · rw [h]; exact hl
  · rw [h, List.length_append] at hl; omega

/-! ### join, element by element -/
theorem join_snoc {xs : List (List UInt8)} (h : xs ≠ []) (y sep : List UInt8) : join (xs ++ [y]) sep = join xs sep ++ sep ++ y := by
  cases xs with
  | nil => exact absurd rfl h
  | cons x r =>
    rw [List.cons_append, Lib.join_cons, Lib.join_cons]
    simp [Lib.joinTail, List.append_assoc]
theorem join_len_le (xs : List (List UInt8)) (sep : List UInt8) : (join xs sep).length ≤ sep.length * xs.length + Lib.lens xs := by
  cases xs with
  | nil => simp [Lib.join_nil]
  | cons x r =>
    rw [Lib.join_length, List.length_cons, Nat.mul_succ]
    omega

/-! ### a weight, a list of roots, a matrix, a word -/
def itoas (v : List Int) : List (List UInt8) := v.map itoa
def weightL (v : List Int) : List UInt8 := join (itoas v) [44]
def I64s (v : List Int) : Prop := ∀ x ∈ v, (Lit.int .i64 x).wf = true
theorem wf_bounds {x : Int} (h : (Lit.int .i64 x).wf = true) : -9223372036854775808 ≤ x ∧ x ≤ 9223372036854775807 := by
  simp [Lit.wf, IntKind.min, IntKind.max, IntKind.signed, IntKind.bits] at h
  omega
theorem itoas_lens {v : List Int} (h : I64s v) : Lib.lens (itoas v) ≤ 21 * v.length := by
  induction v with
  | nil => simp [itoas, Lib.lens]
  | cons x v ih =>
    have h1 := wf_bounds (h x (by simp))
    have h2 := Lib.itoa_length_le x h1.1 h1.2
    have h3 := ih fun y hy => h y (by simp [hy])
    simp only [itoas, Lib.lens, List.map_cons, List.sum_cons, List.length_cons] at h3 ⊢
    omega
theorem weightL_len {v : List Int} (h : I64s v) : (weightL v).length ≤ 22 * v.length := by
  have h1 := join_len_le (itoas v) [44]
  have h2 := itoas_lens h
  have h3 : (itoas v).length = v.length := by simp [itoas]
  unfold weightL
  rw [h3] at h1
  simp only [List.length_cons, List.length_nil] at h1
  omega
theorem I64s.take {v : List Int} (h : I64s v) (k : Nat) : I64s (v.take k) := fun x hx => h x (List.mem_of_mem_take hx)
theorem I64s.at {v : List Int} (h : I64s v) {k : Nat} (hk : k < v.length) : (Lit.int .i64 (v.getD k 0)).wf = true := by
  apply h
  simp [List.getD, hk]
theorem itoas_take {v : List Int} {k : Nat} (hk : k < v.length) : itoas (v.take (k + 1)) = itoas (v.take k) ++ [itoa (v.getD k 0)] := by
  unfold itoas
  rw [List.take_succ_eq_append_getElem hk, List.map_append]
  congr 1
  simp [List.getD, hk]
theorem weightL_zero (v : List Int) : weightL (v.take 0) = [] := by simp [weightL, itoas, Lib.join_nil]
theorem weightL_first {v : List Int} (h : 0 < v.length) : weightL (v.take 1) = itoa (v.getD 0 0) := by
  unfold weightL
  rw [itoas_take h]
  simp [itoas, Lib.join_one]
theorem weightL_next {v : List Int} {k : Nat} (hk : k < v.length) (h0 : 0 < k) : weightL (v.take (k + 1)) = weightL (v.take k) ++ [44] ++ itoa (v.getD k 0) := by
  unfold weightL
  rw [itoas_take hk, join_snoc]
  intro h
  have h2 : (itoas (v.take k)).length = 0 := by rw [h]; rfl
  rw [itoas, List.length_map, List.length_take] at h2
  omega

/-- lists of lists, each written, with a sign between -/
def rowsL (sep : List UInt8) (l : List (List Int)) : List UInt8 := join (l.map weightL) sep
def cellsOf (l : List (List Int)) : Nat := (l.map List.length).sum
theorem cellsOf_take_succ {l : List (List Int)} {k : Nat} (hk : k < l.length) : cellsOf (l.take (k + 1)) = cellsOf (l.take k) + (l.getD k []).length := by
  unfold cellsOf
  rw [List.take_succ_eq_append_getElem hk, List.map_append, List.sum_append]
  simp [List.getD, hk]
theorem rowsL_len {l : List (List Int)} {sep : List UInt8} (h : ∀ r ∈ l, I64s r) : (rowsL sep l).length ≤ sep.length * l.length + 22 * cellsOf l := by
  have h1 := join_len_le (l.map weightL) sep
  rw [List.length_map] at h1
  have h2 : Lib.lens (l.map weightL) ≤ 22 * cellsOf l := by
    clear h1
    induction l with
    | nil => simp [Lib.lens, cellsOf]
    | cons r l ih =>
      have a := weightL_len (h r (by simp))
      have b := ih fun y hy => h y (by simp [hy])
      simp only [Lib.lens, cellsOf, List.map_cons, List.sum_cons] at b ⊢
      omega
  unfold rowsL
  omega
theorem rowsL_take {l : List (List Int)} {k : Nat} (hk : k < l.length) : (l.take (k + 1)).map weightL = (l.take k).map weightL ++ [weightL (l.getD k [])] := by
  rw [List.take_succ_eq_append_getElem hk, List.map_append]
  congr 1
  simp [List.getD, hk]
theorem rowsL_zero (sep : List UInt8) (l : List (List Int)) : rowsL sep (l.take 0) = [] := by simp [rowsL, Lib.join_nil]
theorem rowsL_first {sep : List UInt8} {l : List (List Int)} (h : 0 < l.length) : rowsL sep (l.take 1) = weightL (l.getD 0 []) := by
  unfold rowsL
  rw [rowsL_take h]
  simp [Lib.join_one]
theorem rowsL_next {sep : List UInt8} {l : List (List Int)} {k : Nat} (hk : k < l.length) (h0 : 0 < k) : rowsL sep (l.take (k + 1)) = rowsL sep (l.take k) ++ sep ++ weightL (l.getD k []) := by
  unfold rowsL
  rw [rowsL_take hk, join_snoc]
  intro h
  have h2 : ((l.take k).map weightL).length = 0 := by rw [h]; rfl
  rw [List.length_map, List.length_take] at h2
  omega
def rootsL (l : List (List Int)) : List UInt8 := if l.length = 0 then [110, 111, 110, 101] else rowsL [32] l
def cartanL (c : List (List Int)) : List UInt8 := if IsC c then rowsL [59] c else []

def InW (w : List Int) : Prop := ∀ i ∈ w, 0 ≤ i ∧ i < 4
instance (w : List Int) : Decidable (InW w) := by unfold InW; infer_instance
def digs (w : List Int) : List UInt8 := w.map fun i => UInt8.ofNat (49 + i.toNat)
def wordL (w : List Int) : List UInt8 := if w.length = 0 then [101] else if InW w then digs w else []
theorem digs_take {v : List Int} {k : Nat} (hk : k < v.length) : digs (v.take (k + 1)) = digs (v.take k) ++ [UInt8.ofNat (49 + (v.getD k 0).toNat)] := by
  unfold digs
  rw [List.take_succ_eq_append_getElem hk, List.map_append]
  congr 1
  simp [List.getD, hk]
theorem itoa_letter {i : Int} (h0 : 0 ≤ i) (h1 : i < 4) : itoa (i + 1) = [UInt8.ofNat (49 + i.toNat)] := by
  have : i = 0 ∨ i = 1 ∨ i = 2 ∨ i = 3 := by omega
  rcases this with rfl | rfl | rfl | rfl
  all_goals
    unfold itoa
    rw [if_neg (by omega), Lib.decDigits_one (by decide)]
    rfl
theorem inW_of_take {w : List Int} (h : ∀ j, j < w.length → 0 ≤ w.getD j 0 ∧ w.getD j 0 < 4) : InW w := by
  intro i hi
  obtain ⟨j, hj, rfl⟩ := List.mem_iff_getElem.1 hi
  have := h j hj
  simpa [List.getD, hj] using this
theorem not_inW {w : List Int} {j : Nat} (hj : j < w.length) (h : ¬ (0 ≤ w.getD j 0 ∧ w.getD j 0 < 4)) : ¬ InW w := by
  intro hw
  apply h
  apply hw
  simp [List.getD, hj]
end Go.Proofs.YtjhoimdfmcjkbaaGreatDoor
