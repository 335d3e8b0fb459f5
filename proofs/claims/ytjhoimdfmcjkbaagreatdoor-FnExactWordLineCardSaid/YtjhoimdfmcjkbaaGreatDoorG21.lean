/- Ranks of small matrices by elimination, in two ways: the same. Plain law. -/
import Derived.Test.YtjhoimdfmcjkbaaGreatDoorG20
namespace Go.Proofs.YtjhoimdfmcjkbaaGreatDoor
set_option maxRecDepth 100000
open Go.RowKit

abbrev Mx := List (List Int)
def enM (M : Mx) (i j : Nat) : Int := (M.getD i []).getD j 0
/-- the first row from r on that is not 0 at a column -/
def pivF (M : Mx) (col : Nat) : Nat → Nat → Nat
  | _, 0 => M.length
  | r, f + 1 => if enM M r col = 0 then pivF M col (r + 1) f else r
def pivM (M : Mx) (r col : Nat) : Nat := pivF M col r (M.length - r)
def swapM (M : Mx) (a b : Nat) : Mx := (M.set a (M.getD b [])).set b (M.getD a [])
/-- a row behind a step: the reference's, the program's -/
def rowS (M : Mx) (r col i : Nat) : List Int := (List.range M.length).map fun j => enM M i j * enM M r col - enM M i col * enM M r j
def rowI (M : Mx) (r col i : Nat) : List Int := if enM M i col = 0 then M.getD i [] else (List.range M.length).map fun j => enM M r col * enM M i j - enM M i col * enM M r j
/-- the rows behind r, the first k rows treated -/
def elim (row : Mx → Nat → Nat → Nat → List Int) (M : Mx) (r col k : Nat) : Mx := (List.range M.length).map fun i => if r < i ∧ i < k then row M r col i else M.getD i []
def rankGo (row : Mx → Nat → Nat → Nat → List Int) : Nat → Nat → Nat → Mx → Nat
  | 0, _, r, _ => r
  | f + 1, col, r, M => if pivM M r col = M.length then rankGo row f (col + 1) r M else rankGo row f (col + 1) (r + 1) (elim row (swapM M (pivM M r col) r) r col M.length)
def rankS (M : Mx) : Nat := rankGo rowS M.length 0 0 M
def rankI (M : Mx) : Nat := rankGo rowI M.length 0 0 M
/-- square -/
def SqM (M : Mx) : Prop := ∀ i, i < M.length → (M.getD i []).length = M.length
theorem swapM_length (M : Mx) (a b : Nat) : (swapM M a b).length = M.length := by simp [swapM]
theorem elim_length (row : Mx → Nat → Nat → Nat → List Int) (M : Mx) (r col k : Nat) : (elim row M r col k).length = M.length := by simp [elim]
theorem elim_at {row : Mx → Nat → Nat → Nat → List Int} {M : Mx} {r col k i : Nat} (hi : i < M.length) : (elim row M r col k).getD i [] = if r < i ∧ i < k then row M r col i else M.getD i [] := by
  unfold elim
  simp [List.getD, hi]
theorem swapM_at {M : Mx} {a b i : Nat} (ha : a < M.length) (hb : b < M.length) : (swapM M a b).getD i [] = if i = b then M.getD a [] else if i = a then M.getD b [] else M.getD i [] := by
  unfold swapM
  by_cases h1 : i = b
  · subst h1
    rw [if_pos rfl]
    simp [List.getD, hb]
  · rw [if_neg h1]
    by_cases h2 : i = a
    · subst h2
      rw [if_pos rfl]
      simp [List.getD, ha, Ne.symm h1]
    · rw [if_neg h2]
      simp [List.getD, Ne.symm h1, Ne.symm h2]
theorem pivF_spec (M : Mx) (col : Nat) : ∀ (f r : Nat), r + f = M.length → r ≤ pivF M col r f ∧ pivF M col r f ≤ M.length ∧ (pivF M col r f < M.length → enM M (pivF M col r f) col ≠ 0) ∧ ∀ i, r ≤ i → i < pivF M col r f → enM M i col = 0
  | 0, r, h => by unfold pivF; exact ⟨by omega, Nat.le_refl _, fun h => by omega, fun i h1 h2 => by omega⟩
  | f + 1, r, h => by
    unfold pivF
    split
    · rename_i hz
      obtain ⟨h1, h2, h3, h4⟩ := pivF_spec M col f (r + 1) (by omega)
      refine ⟨by omega, h2, h3, fun i q1 q2 => ?_⟩
      by_cases e : i = r
      · subst e; exact hz
      · exact h4 i (by omega) q2
    · rename_i hz
      exact ⟨Nat.le_refl _, by omega, fun _ => hz, fun i q1 q2 => by omega⟩
theorem pivM_spec {M : Mx} {r col : Nat} (hr : r ≤ M.length) : r ≤ pivM M r col ∧ pivM M r col ≤ M.length ∧ (pivM M r col < M.length → enM M (pivM M r col) col ≠ 0) ∧ ∀ i, r ≤ i → i < pivM M r col → enM M i col = 0 := pivF_spec M col (M.length - r) r (by omega)
theorem pivM_eq {M : Mx} {r col p : Nat} (hr : r ≤ M.length) (h1 : r ≤ p) (h2 : p ≤ M.length) (h3 : p < M.length → enM M p col ≠ 0) (h4 : ∀ i, r ≤ i → i < p → enM M i col = 0) : pivM M r col = p := by
  obtain ⟨q1, q2, q3, q4⟩ := pivM_spec (M := M) (r := r) (col := col) hr
  rcases Nat.lt_trichotomy (pivM M r col) p with h | h | h
  · exact absurd (h4 _ q1 h) (q3 (by omega))
  · exact h
  · exact absurd (q4 _ h1 h) (h3 (by omega))

/-- rows that are the other's times numbers that are not 0 -/
structure ScaleM (S I : Mx) : Prop where
  len : S.length = I.length
  sqS : SqM S
  sqI : SqM I
  row : ∀ i, i < S.length → ∃ t : Int, t ≠ 0 ∧ ∀ j, enM S i j = t * enM I i j
theorem ScaleM.zero {S I : Mx} (h : ScaleM S I) {i : Nat} (hi : i < S.length) (j : Nat) : enM S i j = 0 ↔ enM I i j = 0 := by
  obtain ⟨t, ht, e⟩ := h.row i hi
  rw [e j, Int.mul_eq_zero]
  constructor
  · rintro (g | g)
    · exact absurd g ht
    · exact g
  · exact .inr
theorem ScaleM.piv {S I : Mx} (h : ScaleM S I) {r col : Nat} (hr : r ≤ S.length) : pivM S r col = pivM I r col := by
  obtain ⟨q1, q2, q3, q4⟩ := pivM_spec (M := I) (r := r) (col := col) (by rw [← h.len]; exact hr)
  refine pivM_eq hr q1 (by rw [h.len]; exact q2) (fun hp hz => q3 (by rw [← h.len]; exact hp) ((h.zero hp col).1 hz)) fun i h1 h2 => ?_
  exact (h.zero (by rw [h.len]; omega) col).2 (q4 i h1 h2)
theorem enM_out {M : Mx} (h : SqM M) {i j : Nat} (hi : i < M.length) (hj : ¬ j < M.length) : enM M i j = 0 := by
  unfold enM
  have := h i hi
  simp [List.getD]
  rw [List.getElem?_eq_none]
  · rfl
  · have h2 := h i hi
    simp [List.getD, hi] at h2
    simp [hi]
    omega
theorem SqM.swap {M : Mx} (h : SqM M) {a b : Nat} (ha : a < M.length) (hb : b < M.length) : SqM (swapM M a b) := fun i hi => by
  rw [swapM_length] at hi ⊢
  rw [swapM_at ha hb]
  split
  · exact h a ha
  · split
    · exact h b hb
    · exact h i hi
theorem ScaleM.swap {S I : Mx} (h : ScaleM S I) {a b : Nat} (ha : a < S.length) (hb : b < S.length) : ScaleM (swapM S a b) (swapM I a b) := by
  have ha' : a < I.length := by rw [← h.len]; exact ha
  have hb' : b < I.length := by rw [← h.len]; exact hb
  refine ⟨by rw [swapM_length, swapM_length]; exact h.len, h.sqS.swap ha hb, h.sqI.swap ha' hb', fun i hi => ?_⟩
  rw [swapM_length] at hi
  have e : ∀ (M : Mx) (x y : Nat), enM M x y = (M.getD x []).getD y 0 := fun _ _ _ => rfl
  simp only [e, swapM_at ha hb, swapM_at ha' hb']
  by_cases h1 : i = b
  · rw [if_pos h1, if_pos h1]; exact h.row a ha
  · rw [if_neg h1, if_neg h1]
    by_cases h2 : i = a
    · rw [if_pos h2, if_pos h2]; exact h.row b hb
    · rw [if_neg h2, if_neg h2]; exact h.row i hi
theorem getD_rangeM {n j : Nat} {f : Nat → Int} (hj : j < n) : ((List.range n).map f).getD j 0 = f j := by simp [List.getD, hj]
theorem elim_sq {row : Mx → Nat → Nat → Nat → List Int} (hrow : ∀ M r col i, SqM M → i < M.length → (row M r col i).length = M.length) {M : Mx} (h : SqM M) (r col k : Nat) : SqM (elim row M r col k) := fun i hi => by
  rw [elim_length] at hi ⊢
  rw [elim_at hi]
  split
  · exact hrow M r col i h hi
  · exact h i hi
theorem rowS_len (M : Mx) (r col i : Nat) (_ : SqM M) (_ : i < M.length) : (rowS M r col i).length = M.length := by simp [rowS]
theorem rowI_len (M : Mx) (r col i : Nat) (h : SqM M) (hi : i < M.length) : (rowI M r col i).length = M.length := by
  unfold rowI
  split
  · exact h i hi
  · simp
theorem ScaleM.elim {S I : Mx} (h : ScaleM S I) {r col : Nat} (hr : r < S.length) (hp : enM I r col ≠ 0) : ScaleM (Go.Proofs.YtjhoimdfmcjkbaaGreatDoor.elim rowS S r col S.length) (Go.Proofs.YtjhoimdfmcjkbaaGreatDoor.elim rowI I r col I.length) := by
  have hr' : r < I.length := by rw [← h.len]; exact hr
  have hqS := elim_sq rowS_len h.sqS r col S.length
  have hqI := elim_sq rowI_len h.sqI r col I.length
  refine ⟨by rw [elim_length, elim_length]; exact h.len, hqS, hqI, fun i hi => ?_⟩
  rw [elim_length] at hi
  have hi' : i < I.length := by rw [← h.len]; exact hi
  obtain ⟨tp, htp, ep⟩ := h.row r hr
  obtain ⟨ti, hti, ei⟩ := h.row i hi
  have out : ∀ (t : Int) j, ¬ j < S.length → enM (Go.Proofs.YtjhoimdfmcjkbaaGreatDoor.elim rowS S r col S.length) i j = t * enM (Go.Proofs.YtjhoimdfmcjkbaaGreatDoor.elim rowI I r col I.length) i j := fun t j hj => by
    rw [enM_out hqS (by rw [elim_length]; exact hi) (by rw [elim_length]; exact hj), enM_out hqI (by rw [elim_length]; exact hi') (by rw [elim_length, ← h.len]; exact hj), Int.mul_zero]
  have e : ∀ (M : Mx) (x y : Nat), enM M x y = (M.getD x []).getD y 0 := fun _ _ _ => rfl
  by_cases hri : r < i
  · by_cases hz : enM I i col = 0
    · refine ⟨ti * tp * enM I r col, by
        intro e0
        rcases Int.mul_eq_zero.1 e0 with g | g
        · rcases Int.mul_eq_zero.1 g with g | g
          · exact hti g
          · exact htp g
        · exact hp g, fun j => ?_⟩
      by_cases hj : j < S.length
      · rw [e (Go.Proofs.YtjhoimdfmcjkbaaGreatDoor.elim rowS S r col S.length), e (Go.Proofs.YtjhoimdfmcjkbaaGreatDoor.elim rowI I r col I.length), elim_at hi, elim_at hi', if_pos ⟨hri, hi⟩, if_pos ⟨hri, hi'⟩]
        unfold rowS rowI
        rw [if_pos hz, getD_rangeM hj, ← e I, ei j, ei col, ep col, ep j, hz, Int.mul_zero, Int.zero_mul, Int.sub_zero]
        simp only [Int.mul_comm, Int.mul_left_comm, Int.mul_assoc]
      · exact out _ j hj
    · refine ⟨ti * tp, fun e0 => by rcases Int.mul_eq_zero.1 e0 with g | g; exact hti g; exact htp g, fun j => ?_⟩
      by_cases hj : j < S.length
      · have hj' : j < I.length := by rw [← h.len]; exact hj
        rw [e (Go.Proofs.YtjhoimdfmcjkbaaGreatDoor.elim rowS S r col S.length), e (Go.Proofs.YtjhoimdfmcjkbaaGreatDoor.elim rowI I r col I.length), elim_at hi, elim_at hi', if_pos ⟨hri, hi⟩, if_pos ⟨hri, hi'⟩]
        unfold rowS rowI
        rw [if_neg hz, getD_rangeM hj, getD_rangeM hj', ei j, ei col, ep col, ep j, Int.mul_sub]
        congr 1 <;> simp only [Int.mul_comm, Int.mul_left_comm, Int.mul_assoc]
      · exact out _ j hj
  · refine ⟨ti, hti, fun j => ?_⟩
    rw [e (Go.Proofs.YtjhoimdfmcjkbaaGreatDoor.elim rowS S r col S.length), e (Go.Proofs.YtjhoimdfmcjkbaaGreatDoor.elim rowI I r col I.length), elim_at hi, elim_at hi', if_neg (fun q => hri q.1), if_neg (fun q => hri q.1)]
    exact ei j
theorem rank_go : ∀ (f col r : Nat) (S I : Mx), ScaleM S I → r ≤ S.length → rankGo rowS f col r S = rankGo rowI f col r I
  | 0, _, _, _, _, _, _ => rfl
  | f + 1, col, r, S, I, h, hr => by
    unfold rankGo
    rw [h.piv hr, h.len]
    obtain ⟨q1, q2, q3, -⟩ := pivM_spec (M := I) (r := r) (col := col) (by rw [← h.len]; exact hr)
    split
    · exact rank_go f (col + 1) r S I h hr
    · rename_i hne
      have hlt : pivM I r col < I.length := by omega
      have hrl : r < S.length := by rw [h.len]; omega
      have hpl : pivM I r col < S.length := by rw [h.len]; exact hlt
      have hsw := h.swap hpl hrl
      have hp : enM (swapM I (pivM I r col) r) r col ≠ 0 := by
        have e : enM (swapM I (pivM I r col) r) r col = enM I (pivM I r col) col := by
          unfold enM
          rw [swapM_at hlt (by rw [← h.len]; exact hrl), if_pos rfl]
        rw [e]; exact q3 hlt
      have hel := hsw.elim (r := r) (col := col) (by rw [swapM_length]; exact hrl) hp
      rw [swapM_length, swapM_length, h.len] at hel
      exact rank_go f (col + 1) (r + 1) _ _ hel (by rw [elim_length, swapM_length]; omega)
theorem rank_eq {M : Mx} (h : SqM M) : rankS M = rankI M :=
  rank_go M.length 0 0 M M ⟨rfl, h, h, fun i _ => ⟨1, by decide, fun j => (Int.one_mul _).symm⟩⟩ (Nat.zero_le _)
end Go.Proofs.YtjhoimdfmcjkbaaGreatDoor
