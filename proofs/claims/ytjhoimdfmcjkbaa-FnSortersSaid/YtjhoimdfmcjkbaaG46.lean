/- Plain law: the places of braid moves of a word, and the search for a path of braid moves. -/
import Derived.Test.YtjhoimdfmcjkbaaG45
namespace Go.Proofs.Ytjhoimdfmcjkbaa
set_option maxRecDepth 100000
open Go.RowKit

/-- the places of braid moves ahead of a place -/
def placesTo (c : List (List Int)) (v : List Int) (k : Nat) : List Int := ((List.range k).filter fun t : Nat => (braidA c v (t : Int)).isSome).map fun t : Nat => (t : Int)
def placesL (c : List (List Int)) (v : List Int) : List Int := placesTo c v v.length
theorem placesTo_yes {c : List (List Int)} {v : List Int} {k : Nat} (h : (braidA c v (k : Int)).isSome = true) : placesTo c v (k + 1) = placesTo c v k ++ [(k : Int)] := by
  unfold placesTo
  rw [List.range_succ, List.filter_append, List.map_append]
  simp [h]
theorem placesTo_no {c : List (List Int)} {v : List Int} {k : Nat} (h : (braidA c v (k : Int)).isSome = false) : placesTo c v (k + 1) = placesTo c v k := by
  unfold placesTo
  rw [List.range_succ, List.filter_append, List.map_append]
  simp [h]
theorem placesTo_len (c : List (List Int)) (v : List Int) (k : Nat) : (placesTo c v k).length ≤ k := by
  unfold placesTo
  rw [List.length_map]
  exact Nat.le_trans (List.length_filter_le _ _) (by simp)
theorem placesL_mem {c : List (List Int)} {v : List Int} {x : Int} (h : x ∈ placesL c v) : (0 ≤ x ∧ x < (v.length : Int)) ∧ (braidA c v x).isSome = true := by
  unfold placesL placesTo at h
  obtain ⟨t, ht, rfl⟩ := List.mem_map.1 h
  obtain ⟨h1, h2⟩ := List.mem_filter.1 ht
  have := List.mem_range.1 h1
  exact ⟨⟨by omega, by omega⟩, h2⟩

theorem altL_mem {i j x : Int} {n : Nat} (h : x ∈ altL i j n) : x = i ∨ x = j := by
  unfold altL at h
  obtain ⟨k, -, rfl⟩ := List.mem_map.1 h
  split
  · exact .inl rfl
  · exact .inr rfl
theorem braidK_mem {c : List (List Int)} {v y : List Int} {k : Nat} (h : braidK c v k = some y) : ∀ x ∈ y, x ∈ v := by
  unfold braidK at h
  simp only at h
  split at h
  · rename_i hc
    injection h with h
    subst h
    have e1 : v.getD k 0 ∈ v := by simp [List.getD, show k < v.length by omega]
    have e2 : v.getD (k + 1) 0 ∈ v := by simp [List.getD, hc.1]
    intro x hx
    rcases List.mem_append.1 hx with g | g
    · rcases List.mem_append.1 g with g | g
      · exact List.mem_of_mem_take g
      · rcases altL_mem g with g | g
        · rw [g]; exact e2
        · rw [g]; exact e1
    · exact List.mem_of_mem_drop g
  · cases h
theorem braidA_mem {c : List (List Int)} {v y : List Int} {a : Int} (h : braidA c v a = some y) : ∀ x ∈ y, x ∈ v := by
  unfold braidA at h
  split at h
  · unfold braidM at h
    split at h
    · exact braidK_mem h
    · cases h
  · cases h
theorem braidA_ok {c : List (List Int)} {v y : List Int} {a : Int} (hW : WordOk c v) (h : braidA c v a = some y) : WordOk c y := by
  have h1 := braidA_length h
  have h2 := braidA_mem h
  refine ⟨hW.isC, by have := hW.few; omega, fun k hk => ?_⟩
  have hm : y.getD k 0 ∈ v := h2 _ (by simp [List.getD, hk])
  obtain ⟨t, ht, e⟩ := List.mem_iff_getElem.1 hm
  have := hW.inr t ht
  rw [← e]
  simpa [List.getD, ht] using this

/-! ### the search -/
abbrev BNode := List Int × List Int
def wordsB (Q : List BNode) : List (List Int) := Q.map (·.1)
def pathsB (Q : List BNode) : List (List Int) := Q.map (·.2)
def bpStep (c : List (List Int)) (N : BNode) (Q : List BNode) (a : Int) : List BNode :=
  if (braidA c N.1 a).getD N.1 ∈ wordsB Q ∨ 120 ≤ Q.length then Q else Q ++ [((braidA c N.1 a).getD N.1, N.2 ++ [a])]
def bpRow (c : List (List Int)) (N : BNode) (Q : List BNode) (t : Nat) : List BNode := ((placesL c N.1).take t).foldl (bpStep c N) Q
def bpGo (c : List (List Int)) (b : List Int) : Nat → Nat → List BNode → Option (List Int)
  | 0, _, _ => none
  | f + 1, k, Q => if k < Q.length then (if (Q.getD k ([], [])).1 = b then some (Q.getD k ([], [])).2 else bpGo c b f (k + 1) (bpRow c (Q.getD k ([], [])) Q (placesL c (Q.getD k ([], [])).1).length)) else none
def bpR (c : List (List Int)) (a b : List Int) : Option (List Int) := bpGo c b 121 0 [(a, [])]
theorem bpRow_zero (c : List (List Int)) (N : BNode) (Q : List BNode) : bpRow c N Q 0 = Q := rfl
theorem bpRow_succ {c : List (List Int)} {N : BNode} {Q : List BNode} {t : Nat} (ht : t < (placesL c N.1).length) : bpRow c N Q (t + 1) = bpStep c N (bpRow c N Q t) ((placesL c N.1).getD t 0) := by
  unfold bpRow
  rw [List.take_succ_eq_append_getElem ht, List.foldl_append]
  have e : (placesL c N.1).getD t 0 = (placesL c N.1)[t] := by simp [List.getD, ht]
  rw [e]
  rfl
/-- what the list of the search is -/
structure BpOk (c : List (List Int)) (l : Nat) (Q : List BNode) : Prop where
  few : Q.length ≤ 120
  word : ∀ N ∈ Q, WordOk c N.1 ∧ N.1.length = l
  path : ∀ k, k < Q.length → (Q.getD k ([], [])).2.length ≤ k
  places : ∀ N ∈ Q, ∀ x ∈ N.2, 0 ≤ x ∧ x < 16
theorem getD_memI {l : List Int} {t : Nat} (h : t < l.length) : l.getD t 0 ∈ l := by simp [List.getD, h]
theorem getD_mem {Q : List BNode} {k : Nat} (hk : k < Q.length) : Q.getD k ([], []) ∈ Q := by simp [List.getD, hk]
theorem bpStep_cases (c : List (List Int)) (N : BNode) (Q : List BNode) (a : Int) : (bpStep c N Q a = Q ∧ ((braidA c N.1 a).getD N.1 ∈ wordsB Q ∨ 120 ≤ Q.length)) ∨ (bpStep c N Q a = Q ++ [((braidA c N.1 a).getD N.1, N.2 ++ [a])] ∧ (braidA c N.1 a).getD N.1 ∉ wordsB Q ∧ Q.length < 120) := by
  unfold bpStep
  split
  · exact .inl ⟨rfl, by assumption⟩
  · rename_i h
    exact .inr ⟨rfl, fun g => h (.inl g), by have : ¬ 120 ≤ Q.length := fun g => h (.inr g); omega⟩
theorem BpOk.step {c : List (List Int)} {l : Nat} {Q : List BNode} (h : BpOk c l Q) {k : Nat} (hk : k < Q.length) {a : Int} (ha : a ∈ placesL c (Q.getD k ([], [])).1) : BpOk c l (bpStep c (Q.getD k ([], [])) Q a) := by
  have hN := h.word _ (getD_mem hk)
  have hP := h.path k hk
  have hPl := h.places _ (getD_mem hk)
  obtain ⟨ha1, ha2⟩ := placesL_mem ha
  rcases bpStep_cases c (Q.getD k ([], [])) Q a with ⟨e, -⟩ | ⟨e, h1, h2⟩
  · rw [e]; exact h
  · rw [e]
    obtain ⟨y, hy⟩ := Option.isSome_iff_exists.1 ha2
    rw [hy]
    refine ⟨by simp; omega, fun N hm => ?_, fun t ht => ?_, fun N hm => ?_⟩
    · rcases List.mem_append.1 hm with g | g
      · exact h.word N g
      · rw [List.mem_singleton] at g
        subst g
        exact ⟨braidA_ok hN.1 hy, by rw [← hN.2]; exact braidA_length hy⟩
    · by_cases e : t < Q.length
      · have := h.path t e
        simpa [List.getD, List.getElem?_append_left e] using this
      · have : t = Q.length := by simp at ht; omega
        subst this
        simp [List.getD] at hP ⊢
        omega
    · rcases List.mem_append.1 hm with g | g
      · exact h.places N g
      · rw [List.mem_singleton] at g
        subst g
        intro x hx
        rcases List.mem_append.1 hx with g | g
        · exact hPl x g
        · rw [List.mem_singleton] at g
          subst g
          have := hN.1.few
          omega
theorem bpStep_pre (c : List (List Int)) (N : BNode) (Q : List BNode) (a : Int) : ∃ L, bpStep c N Q a = Q ++ L := by
  rcases bpStep_cases c N Q a with ⟨e, -⟩ | ⟨e, -⟩
  · exact ⟨[], by rw [e]; simp⟩
  · exact ⟨_, e⟩
theorem getD_pre {Q L : List BNode} {k : Nat} (hk : k < Q.length) : (Q ++ L).getD k ([], []) = Q.getD k ([], []) := by
  simp [List.getD, List.getElem?_append_left hk]
/-- along a row of places -/
theorem BpOk.row {c : List (List Int)} {l : Nat} {Q : List BNode} (h : BpOk c l Q) {k : Nat} (hk : k < Q.length) : ∀ t, t ≤ (placesL c (Q.getD k ([], [])).1).length → BpOk c l (bpRow c (Q.getD k ([], [])) Q t) ∧ k < (bpRow c (Q.getD k ([], [])) Q t).length ∧ (bpRow c (Q.getD k ([], [])) Q t).getD k ([], []) = Q.getD k ([], [])
  | 0, _ => ⟨h, hk, rfl⟩
  | t + 1, ht => by
    obtain ⟨h1, h2, h3⟩ := h.row hk t (by omega)
    rw [bpRow_succ (by omega)]
    have hm : (placesL c (Q.getD k ([], [])).1).getD t 0 ∈ placesL c (Q.getD k ([], [])).1 := getD_memI (by omega)
    have h4 := h1.step h2 (a := (placesL c (Q.getD k ([], [])).1).getD t 0) (by rw [h3]; exact hm)
    rw [h3] at h4
    obtain ⟨L, hL⟩ := bpStep_pre c (Q.getD k ([], [])) (bpRow c (Q.getD k ([], [])) Q t) ((placesL c (Q.getD k ([], [])).1).getD t 0)
    refine ⟨h4, ?_, ?_⟩
    · rw [hL, List.length_append]; omega
    · rw [hL, getD_pre h2, h3]
theorem BpOk.start {c : List (List Int)} {a : List Int} (h : WordOk c a) : BpOk c a.length [(a, [])] :=
  ⟨by simp, fun N hm => by rw [List.mem_singleton] at hm; subst hm; exact ⟨h, rfl⟩, fun k hk => by simp at hk; subst hk; simp [List.getD], fun N hm => by rw [List.mem_singleton] at hm; subst hm; simp⟩
theorem bpGo_found {c : List (List Int)} {b : List Int} {f k : Nat} {Q : List BNode} (hk : k < Q.length) (h : (Q.getD k ([], [])).1 = b) : bpGo c b (f + 1) k Q = some (Q.getD k ([], [])).2 := by
  unfold bpGo; rw [if_pos hk, if_pos h]
theorem bpGo_next {c : List (List Int)} {b : List Int} {f k : Nat} {Q : List BNode} (hk : k < Q.length) (h : (Q.getD k ([], [])).1 ≠ b) : bpGo c b (f + 1) k Q = bpGo c b f (k + 1) (bpRow c (Q.getD k ([], [])) Q (placesL c (Q.getD k ([], [])).1).length) := by
  rw [bpGo, if_pos hk, if_neg h]
theorem bpGo_done {c : List (List Int)} {b : List Int} {f k : Nat} {Q : List BNode} (hk : Q.length ≤ k) : bpGo c b f k Q = none := by
  cases f with
  | zero => rfl
  | succ f => rw [bpGo, if_neg (by omega)]
theorem bpGo_len {c : List (List Int)} {b : List Int} {l : Nat} : ∀ (f k : Nat) (Q : List BNode) (p : List Int), BpOk c l Q → bpGo c b f k Q = some p → p.length ≤ 120 ∧ ∀ x ∈ p, 0 ≤ x ∧ x < 16
  | 0, _, _, _, _, h => by cases h
  | f + 1, k, Q, p, hok, h => by
    by_cases hk : k < Q.length
    · by_cases e : (Q.getD k ([], [])).1 = b
      · rw [bpGo_found hk e] at h
        injection h with h
        subst h
        have := hok.path k hk
        have := hok.few
        exact ⟨by omega, hok.places _ (getD_mem hk)⟩
      · rw [bpGo_next hk e] at h
        exact bpGo_len f (k + 1) _ p (hok.row hk _ (Nat.le_refl _)).1 h
    · rw [bpGo_done (by omega)] at h
      cases h

end Go.Proofs.Ytjhoimdfmcjkbaa
