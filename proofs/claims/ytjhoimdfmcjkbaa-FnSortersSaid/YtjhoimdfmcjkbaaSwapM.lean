/- Plain: sorting a permutation by exchanging the least descent. -/
import Derived.Test.YtjhoimdfmcjkbaaSort
namespace Go.Proofs.Ytjhoimdfmcjkbaa
set_option maxRecDepth 100000

/-- the first k numbers are different ones from 0 to the length -/
def permUpto (p : List Int) : Nat → Bool
  | 0 => true
  | k + 1 => permUpto p k && (decide (0 ≤ p.getD k 0 ∧ p.getD k 0 < p.length) && !decide (p.getD k 0 ∈ p.take k))
def permB (p : List Int) : Bool := decide (1 ≤ p.length ∧ p.length ≤ 5) && permUpto p p.length
theorem permUpto_mono {p : List Int} {k n : Nat} (h : permUpto p n = true) (hk : k ≤ n) : permUpto p k = true := by
  induction n with
  | zero => obtain rfl : k = 0 := by omega
            exact h
  | succ n ih =>
    by_cases e : k = n + 1
    · subst e; exact h
    · simp only [permUpto, Bool.and_eq_true] at h
      exact ih h.1 (by omega)
theorem permUpto_false {p : List Int} {k n : Nat} (h : permUpto p k = false) (hk : k ≤ n) : permUpto p n = false := by
  cases e : permUpto p n with
  | false => rfl
  | true => rw [permUpto_mono e hk] at h; cases h
theorem permUpto_nodup {p : List Int} {k : Nat} (hk : k ≤ p.length) (h : permUpto p k = true) : (p.take k).Nodup := by
  induction k with
  | zero => simp
  | succ k ih =>
    simp only [permUpto, Bool.and_eq_true, Bool.not_eq_true', decide_eq_false_iff_not] at h
    have hlt : k < p.length := by omega
    rw [List.take_succ_eq_append_getElem hlt, List.nodup_append]
    refine ⟨ih (by omega) h.1, by simp, fun a ha b hb => ?_⟩
    rw [List.mem_singleton] at hb
    subst hb
    have h2 := h.2.2
    have e : p.getD k 0 = p[k] := by simp [List.getD, hlt]
    rw [e] at h2
    intro e2
    exact h2 (e2 ▸ ha)
theorem permB_nodup {p : List Int} (h : permB p = true) : p.Nodup := by
  unfold permB at h
  rw [Bool.and_eq_true] at h
  have := permUpto_nodup (Nat.le_refl _) h.2
  rwa [List.take_length] at this

def invs : List Int → Nat
  | [] => 0
  | x :: t => t.countP (fun y => decide (y < x)) + invs t
theorem invs_le (l : List Int) (h : l.length ≤ 5) : invs l ≤ 10 := by
  match l, h with
  | [], _ => simp [invs]
  | [a], _ => simp [invs]
  | [a, b], _ => simp only [invs]; have := List.countP_le_length (p := fun y => decide (y < a)) (l := [b]); simp at this ⊢; omega
  | [a, b, c], _ =>
    simp only [invs]
    have h1 := List.countP_le_length (p := fun y => decide (y < a)) (l := [b, c])
    have h2 := List.countP_le_length (p := fun y => decide (y < b)) (l := [c])
    simp only [List.length_cons, List.length_nil] at h1 h2
    simp only [List.countP_nil]; omega
  | [a, b, c, d], _ =>
    simp only [invs]
    have h1 := List.countP_le_length (p := fun y => decide (y < a)) (l := [b, c, d])
    have h2 := List.countP_le_length (p := fun y => decide (y < b)) (l := [c, d])
    have h3 := List.countP_le_length (p := fun y => decide (y < c)) (l := [d])
    simp only [List.length_cons, List.length_nil] at h1 h2 h3
    simp only [List.countP_nil]; omega
  | [a, b, c, d, e], _ =>
    simp only [invs]
    have h1 := List.countP_le_length (p := fun y => decide (y < a)) (l := [b, c, d, e])
    have h2 := List.countP_le_length (p := fun y => decide (y < b)) (l := [c, d, e])
    have h3 := List.countP_le_length (p := fun y => decide (y < c)) (l := [d, e])
    have h4 := List.countP_le_length (p := fun y => decide (y < d)) (l := [e])
    simp only [List.length_cons, List.length_nil] at h1 h2 h3 h4
    simp only [List.countP_nil]; omega
  | a :: b :: c :: d :: e :: f :: l, h => simp at h
theorem invs_swap (pre : List Int) (a b : Int) (post : List Int) (h : b < a) : invs (pre ++ b :: a :: post) + 1 = invs (pre ++ a :: b :: post) := by
  induction pre with
  | nil =>
    simp only [List.nil_append, invs, List.countP_cons]
    have h1 : decide (a < b) = false := by simp; omega
    have h2 : decide (b < a) = true := by simpa using h
    rw [h1, h2]; simp; omega
  | cons x pre ih =>
    simp only [List.cons_append, invs]
    have e : (pre ++ b :: a :: post).countP (fun y => decide (y < x)) = (pre ++ a :: b :: post).countP (fun y => decide (y < x)) := by
      simp only [List.countP_append, List.countP_cons]; omega
    rw [e]; omega
theorem swapAt_parts {l : List Int} {i : Nat} (h : i + 1 < l.length) : l = l.take i ++ l[i] :: l[i + 1] :: l.drop (i + 2) ∧ swapAt l i = l.take i ++ l[i + 1] :: l[i] :: l.drop (i + 2) := by
  have h0 : i < l.length := by omega
  have e1 : l = l.take i ++ l[i] :: l[i + 1] :: l.drop (i + 2) := by
    have a1 : l.drop i = l[i] :: l.drop (i + 1) := List.drop_eq_getElem_cons h0
    have a2 : l.drop (i + 1) = l[i + 1] :: l.drop (i + 2) := List.drop_eq_getElem_cons h
    rw [← a2, ← a1, List.take_append_drop]
  refine ⟨e1, ?_⟩
  have g0 : l.getD i 0 = l[i] := by simp [List.getD, h0]
  have g1 : l.getD (i + 1) 0 = l[i + 1] := by simp [List.getD, h]
  unfold swapAt
  rw [g0, g1]
  apply List.ext_getElem
  · simp; omega
  · intro t t1 t2
    rw [List.getElem_set, List.getElem_set]
    have lt : (l.take i).length = i := by rw [List.length_take]; omega
    by_cases c1 : t < i
    · rw [if_neg (by omega), if_neg (by omega), List.getElem_append_left (by rw [lt]; exact c1)]
      rw [List.getElem_take]
    · rw [List.getElem_append_right (by rw [lt]; omega)]
      by_cases c2 : t = i
      · subst c2
        rw [if_neg (by omega), if_pos rfl]
        simp [lt]
      · by_cases c3 : t = i + 1
        · subst c3
          rw [if_pos rfl]
          simp [lt]
        · rw [if_neg (by omega), if_neg (by omega)]
          obtain ⟨d, rfl⟩ : ∃ d, t = i + 2 + d := ⟨t - i - 2, by omega⟩
          have e : i + 2 + d - (l.take i).length = d + 2 := by omega
          simp only [e, List.getElem_cons_succ, List.getElem_drop]
theorem invs_swapAt {l : List Int} {i : Nat} (h : i + 1 < l.length) (hd : l[i + 1] < l[i]'(by omega)) : invs (swapAt l i) + 1 = invs l := by
  obtain ⟨e1, e2⟩ := swapAt_parts h
  have e3 := invs_swap (l.take i) l[i] l[i + 1] (l.drop (i + 2)) hd
  rw [← e2, ← e1] at e3
  exact e3
theorem swapAt_perm {l : List Int} {i : Nat} (h : i + 1 < l.length) : (swapAt l i).Perm l := by
  obtain ⟨e1, e2⟩ := swapAt_parts h
  rw [e2]
  have e3 : (l.take i ++ l[i + 1] :: l[i] :: l.drop (i + 2)).Perm (l.take i ++ l[i] :: l[i + 1] :: l.drop (i + 2)) := List.Perm.append_left _ (List.Perm.swap _ _ _)
  rw [← e1] at e3
  exact e3

/-- the least place whose number is greater than the next one -/
def descent (l : List Int) : Option Nat := (List.range (l.length - 1)).find? fun i => decide (l.getD (i + 1) 0 < l.getD i 0)
theorem descent_some {l : List Int} {i : Nat} (h : i + 1 < l.length) (hd : l[i + 1] < l[i]'(by omega)) (hl : ∀ j, j < i → l.getD j 0 ≤ l.getD (j + 1) 0) : descent l = some i := by
  unfold descent
  rw [List.find?_range_eq_some]
  refine ⟨by simp [List.getD, h, show i < l.length by omega, hd], by simp; omega, fun j hj => ?_⟩
  have := hl j hj
  simp only [Bool.not_eq_true', decide_eq_false_iff_not]
  omega
theorem descent_none {l : List Int} (hl : ∀ j, j + 1 < l.length → l.getD j 0 ≤ l.getD (j + 1) 0) : descent l = none := by
  unfold descent
  rw [List.find?_range_eq_none]
  intro j hj
  have := hl j (by omega)
  simp only [Bool.not_eq_true', decide_eq_false_iff_not]
  omega
def runSwap (p : List Int) : Nat → List Int × List Int
  | 0 => (p, [])
  | r + 1 => match descent (runSwap p r).1 with
    | none => runSwap p r
    | some i => (swapAt (runSwap p r).1 i, (runSwap p r).2 ++ [(i : Int)])
theorem runSwap_some {p : List Int} {r i : Nat} (h : descent (runSwap p r).1 = some i) : runSwap p (r + 1) = (swapAt (runSwap p r).1 i, (runSwap p r).2 ++ [(i : Int)]) := by
  simp [runSwap, h]
theorem runSwap_stay {p : List Int} {r : Nat} (h : descent (runSwap p r).1 = none) (d : Nat) : runSwap p (r + d) = runSwap p r := by
  induction d with
  | zero => rfl
  | succ d ih =>
    show runSwap p ((r + d) + 1) = _
    have : descent (runSwap p (r + d)).1 = none := by rw [ih]; exact h
    rw [show runSwap p ((r + d) + 1) = runSwap p (r + d) by simp [runSwap, this], ih]
theorem runSwap_end {p : List Int} {r : Nat} (h : descent (runSwap p r).1 = none) (hr : r ≤ 16) : runSwap p 16 = runSwap p r := by
  have := runSwap_stay h (16 - r)
  rwa [Nat.add_sub_cancel' hr] at this
/-- what holds behind r rounds that were all needed -/
structure Run (p : List Int) (r : Nat) : Prop where
  inv : invs (runSwap p r).1 + r = invs p
  perm : (runSwap p r).1.Perm p
  len : (runSwap p r).2.length = r
theorem Run.zero (p : List Int) : Run p 0 := ⟨rfl, List.Perm.refl _, rfl⟩
theorem Run.length {p : List Int} {r : Nat} (h : Run p r) : (runSwap p r).1.length = p.length := h.perm.length_eq
theorem Run.succ {p : List Int} {r i : Nat} (h : Run p r) (hi : i + 1 < (runSwap p r).1.length) (hd : (runSwap p r).1[i + 1] < (runSwap p r).1[i]'(by omega))
    (hl : ∀ j, j < i → (runSwap p r).1.getD j 0 ≤ (runSwap p r).1.getD (j + 1) 0) :
    Run p (r + 1) ∧ runSwap p (r + 1) = (swapAt (runSwap p r).1 i, (runSwap p r).2 ++ [(i : Int)]) := by
  have e := runSwap_some (descent_some hi hd hl)
  refine ⟨?_, e⟩
  have h1 := invs_swapAt hi hd
  refine ⟨?_, ?_, ?_⟩
  · rw [e]; have := h.inv; simp only; omega
  · rw [e]; exact (swapAt_perm hi).trans h.perm
  · rw [e]; simp [h.len]
theorem Run.bound {p : List Int} {r : Nat} (h : Run p r) (hp : p.length ≤ 5) : r ≤ 10 := by
  have := h.inv; have := invs_le p hp; omega
def swapWord (p : List Int) : List Int := if permB p then (runSwap p 16).2 else []
end Go.Proofs.Ytjhoimdfmcjkbaa
