/- BraidAt by the program, ApplyBraids of both: contracts. Plain law: the places of braid moves of a word, and the search for a path of braid moves. Normal forms of words as the machine has them; lengths change by one. Plain law. -/
import Derived.Test.YtjhoimdfmcjkbaaGreatDoorG33
import Derived.Test.YtjhoimdfmcjkbaaGreatDoorG31
import Derived.Test.YtjhoimdfmcjkbaaGreatDoorG20
namespace Go.Proofs.YtjhoimdfmcjkbaaGreatDoor
set_option maxRecDepth 100000
open Go.RowKit

/-- braid moves, one after the other -/
def applyA (c : List (List Int)) : List Int → List Int → Option (List Int)
  | v, [] => some v
  | v, a :: ps => match braidA c v a with
    | none => none
    | some y => applyA c y ps
def applyB (c : List (List Int)) (v ps : List Int) : Option (List Int) := if isWordB c v = true then applyA c v ps else none
theorem applyA_none {c : List (List Int)} {y ps : List Int} {k : Nat} (hk : k < ps.length) (h : braidA c y (ps.getD k 0) = none) : applyA c y (ps.drop k) = none := by
  rw [List.drop_eq_getElem_cons hk]
  have e : ps.getD k 0 = ps[k] := by simp [List.getD, hk]
  rw [e] at h
  simp only [applyA, h]
theorem applyA_some {c : List (List Int)} {y z ps : List Int} {k : Nat} (hk : k < ps.length) (h : braidA c y (ps.getD k 0) = some z) : applyA c y (ps.drop k) = applyA c z (ps.drop (k + 1)) := by
  rw [List.drop_eq_getElem_cons hk]
  have e : ps.getD k 0 = ps[k] := by simp [List.getD, hk]
  rw [e] at h
  simp only [applyA, h]
theorem applyA_end (c : List (List Int)) (y ps : List Int) : applyA c y (ps.drop ps.length) = some y := by rw [List.drop_length]; rfl
theorem applyB_true {c : List (List Int)} {v ps : List Int} (h : isWordB c v = true) : applyB c v ps = applyA c v ps := if_pos h
theorem applyB_false {c : List (List Int)} {v ps : List Int} (h : isWordB c v = false) : applyB c v ps = none := if_neg (by rw [h]; decide)

end Go.Proofs.YtjhoimdfmcjkbaaGreatDoor
namespace Go.Proofs.YtjhoimdfmcjkbaaGreatDoor
set_option maxRecDepth 100000
open Go.RowKit

/-- the places of braid moves ahead of a place -/
def placesTo (c : List (List Int)) (v : List Int) (k : Nat) : List Int := ((List.range k).filter fun t : Nat => (braidA c v (t : Int)).isSome).map fun t : Nat => (t : Int)
def placesL (c : List (List Int)) (v : List Int) : List Int := placesTo c v v.length
theorem placesTo_yes {c : List (List Int)} {v : List Int} {k : Nat} (h : (braidA c v (k : Int)).isSome = true) : placesTo c v (k + 1) = placesTo c v k ++ [(k : Int)] := by
  unfold placesTo
  rw [List.range_succ, List.filter_append, List.map_append]
  simp [h]
theorem placesTo_no {c : List (List Int)} {v : List Int} {k : Nat} (h : (braidA c v (k : Int)).isSome = false) : placesTo c v (k + 1) = placesTo c v k := by
  unfold placesTo
  rw [List.range_succ, List.filter_append, List.map_append]
  simp [h]
theorem placesTo_len (c : List (List Int)) (v : List Int) (k : Nat) : (placesTo c v k).length ≤ k := by
  unfold placesTo
  rw [List.length_map]
  exact Nat.le_trans (List.length_filter_le _ _) (by simp)
theorem placesL_mem {c : List (List Int)} {v : List Int} {x : Int} (h : x ∈ placesL c v) : (0 ≤ x ∧ x < (v.length : Int)) ∧ (braidA c v x).isSome = true := by
  unfold placesL placesTo at h
  obtain ⟨t, ht, rfl⟩ := List.mem_map.1 h
  obtain ⟨h1, h2⟩ := List.mem_filter.1 ht
  have := List.mem_range.1 h1
  exact ⟨⟨by omega, by omega⟩, h2⟩

theorem altL_mem {i j x : Int} {n : Nat} (h : x ∈ altL i j n) : x = i ∨ x = j := by
  unfold altL at h
  obtain ⟨k, -, rfl⟩ := List.mem_map.1 h
  split
  · exact .inl rfl
  · exact .inr rfl
theorem braidK_mem {c : List (List Int)} {v y : List Int} {k : Nat} (h : braidK c v k = some y) : ∀ x ∈ y, x ∈ v := by
  unfold braidK at h
  simp only at h
  split at h
  · rename_i hc
    injection h with h
    subst h
    have e1 : v.getD k 0 ∈ v := by simp [List.getD, show k < v.length by omega]
    have e2 : v.getD (k + 1) 0 ∈ v := by simp [List.getD, hc.1]
    intro x hx
    rcases List.mem_append.1 hx with g | g
    · rcases List.mem_append.1 g with g | g
      · exact List.mem_of_mem_take g
      · rcases altL_mem g with g | g
        · rw [g]; exact e2
        · rw [g]; exact e1
    · exact List.mem_of_mem_drop g
  · cases h
theorem braidA_mem {c : List (List Int)} {v y : List Int} {a : Int} (h : braidA c v a = some y) : ∀ x ∈ y, x ∈ v := by
  unfold braidA at h
  split at h
  · unfold braidM at h
    split at h
    · exact braidK_mem h
    · cases h
  · cases h
theorem braidA_ok {c : List (List Int)} {v y : List Int} {a : Int} (hW : WordOk c v) (h : braidA c v a = some y) : WordOk c y := by
  have h1 := braidA_length h
  have h2 := braidA_mem h
  refine ⟨hW.isC, by have := hW.few; omega, fun k hk => ?_⟩
  have hm : y.getD k 0 ∈ v := h2 _ (by simp [List.getD, hk])
  obtain ⟨t, ht, e⟩ := List.mem_iff_getElem.1 hm
  have := hW.inr t ht
  rw [← e]
  simpa [List.getD, ht] using this

/-! ### the search -/
abbrev BNode := List Int × List Int
def wordsB (Q : List BNode) : List (List Int) := Q.map (·.1)
def pathsB (Q : List BNode) : List (List Int) := Q.map (·.2)
def bpStep (c : List (List Int)) (N : BNode) (Q : List BNode) (a : Int) : List BNode :=
  if (braidA c N.1 a).getD N.1 ∈ wordsB Q ∨ 120 ≤ Q.length then Q else Q ++ [((braidA c N.1 a).getD N.1, N.2 ++ [a])]
def bpRow (c : List (List Int)) (N : BNode) (Q : List BNode) (t : Nat) : List BNode := ((placesL c N.1).take t).foldl (bpStep c N) Q
def bpGo (c : List (List Int)) (b : List Int) : Nat → Nat → List BNode → Option (List Int)
  | 0, _, _ => none
  | f + 1, k, Q => if k < Q.length then (if (Q.getD k ([], [])).1 = b then some (Q.getD k ([], [])).2 else bpGo c b f (k + 1) (bpRow c (Q.getD k ([], [])) Q (placesL c (Q.getD k ([], [])).1).length)) else none
def bpR (c : List (List Int)) (a b : List Int) : Option (List Int) := bpGo c b 121 0 [(a, [])]
theorem bpRow_zero (c : List (List Int)) (N : BNode) (Q : List BNode) : bpRow c N Q 0 = Q := rfl
theorem bpRow_succ {c : List (List Int)} {N : BNode} {Q : List BNode} {t : Nat} (ht : t < (placesL c N.1).length) : bpRow c N Q (t + 1) = bpStep c N (bpRow c N Q t) ((placesL c N.1).getD t 0) := by
  unfold bpRow
  rw [List.take_succ_eq_append_getElem ht, List.foldl_append]
  have e : (placesL c N.1).getD t 0 = (placesL c N.1)[t] := by simp [List.getD, ht]
  rw [e]
  rfl
/-- what the list of the search is -/
structure BpOk (c : List (List Int)) (l : Nat) (Q : List BNode) : Prop where
  few : Q.length ≤ 120
  word : ∀ N ∈ Q, WordOk c N.1 ∧ N.1.length = l
  path : ∀ k, k < Q.length → (Q.getD k ([], [])).2.length ≤ k
  places : ∀ N ∈ Q, ∀ x ∈ N.2, 0 ≤ x ∧ x < 16
theorem getD_memI {l : List Int} {t : Nat} (h : t < l.length) : l.getD t 0 ∈ l := by simp [List.getD, h]
theorem getD_mem {Q : List BNode} {k : Nat} (hk : k < Q.length) : Q.getD k ([], []) ∈ Q := by simp [List.getD, hk]
theorem bpStep_cases (c : List (List Int)) (N : BNode) (Q : List BNode) (a : Int) : (bpStep c N Q a = Q ∧ ((braidA c N.1 a).getD N.1 ∈ wordsB Q ∨ 120 ≤ Q.length)) ∨ (bpStep c N Q a = Q ++ [((braidA c N.1 a).getD N.1, N.2 ++ [a])] ∧ (braidA c N.1 a).getD N.1 ∉ wordsB Q ∧ Q.length < 120) := by
  unfold bpStep
  split
  · exact .inl ⟨rfl, by assumption⟩
  · rename_i h
    exact .inr ⟨rfl, fun g => h (.inl g), by have : ¬ 120 ≤ Q.length := fun g => h (.inr g); omega⟩
theorem BpOk.step {c : List (List Int)} {l : Nat} {Q : List BNode} (h : BpOk c l Q) {k : Nat} (hk : k < Q.length) {a : Int} (ha : a ∈ placesL c (Q.getD k ([], [])).1) : BpOk c l (bpStep c (Q.getD k ([], [])) Q a) := by
  have hN := h.word _ (getD_mem hk)
  have hP := h.path k hk
  have hPl := h.places _ (getD_mem hk)
  obtain ⟨ha1, ha2⟩ := placesL_mem ha
  rcases bpStep_cases c (Q.getD k ([], [])) Q a with ⟨e, -⟩ | ⟨e, h1, h2⟩
  · rw [e]; exact h
  · rw [e]
    obtain ⟨y, hy⟩ := Option.isSome_iff_exists.1 ha2
    rw [hy]
    refine ⟨by simp; omega, fun N hm => ?_, fun t ht => ?_, fun N hm => ?_⟩
    · rcases List.mem_append.1 hm with g | g
      · exact h.word N g
      · rw [List.mem_singleton] at g
        subst g
        exact ⟨braidA_ok hN.1 hy, by rw [← hN.2]; exact braidA_length hy⟩
    · by_cases e : t < Q.length
      · have := h.path t e
        simpa [List.getD, List.getElem?_append_left e] using this
      · have : t = Q.length := by simp at ht; omega
        subst this
        simp [List.getD] at hP ⊢
        omega
    · rcases List.mem_append.1 hm with g | g
      · exact h.places N g
      · rw [List.mem_singleton] at g
        subst g
        intro x hx
        rcases List.mem_append.1 hx with g | g
        · exact hPl x g
        · rw [List.mem_singleton] at g
          subst g
          have := hN.1.few
          omega
theorem bpStep_pre (c : List (List Int)) (N : BNode) (Q : List BNode) (a : Int) : ∃ L, bpStep c N Q a = Q ++ L := by
  rcases bpStep_cases c N Q a with ⟨e, -⟩ | ⟨e, -⟩
  · exact ⟨[], by rw [e]; simp⟩
  · exact ⟨_, e⟩
theorem getD_pre {Q L : List BNode} {k : Nat} (hk : k < Q.length) : (Q ++ L).getD k ([], []) = Q.getD k ([], []) := by
  simp [List.getD, List.getElem?_append_left hk]
/-- along a row of places -/
theorem BpOk.row {c : List (List Int)} {l : Nat} {Q : List BNode} (h : BpOk c l Q) {k : Nat} (hk : k < Q.length) : ∀ t, t ≤ (placesL c (Q.getD k ([], [])).1).length → BpOk c l (bpRow c (Q.getD k ([], [])) Q t) ∧ k < (bpRow c (Q.getD k ([], [])) Q t).length ∧ (bpRow c (Q.getD k ([], [])) Q t).getD k ([], []) = Q.getD k ([], [])
  | 0, _ => ⟨h, hk, rfl⟩
  | t + 1, ht => by
    obtain ⟨h1, h2, h3⟩ := h.row hk t (by omega)
    rw [bpRow_succ (by omega)]
    have hm : (placesL c (Q.getD k ([], [])).1).getD t 0 ∈ placesL c (Q.getD k ([], [])).1 := getD_memI (by omega)
    have h4 := h1.step h2 (a := (placesL c (Q.getD k ([], [])).1).getD t 0) (by rw [h3]; exact hm)
    rw [h3] at h4
    obtain ⟨L, hL⟩ := bpStep_pre c (Q.getD k ([], [])) (bpRow c (Q.getD k ([], [])) Q t) ((placesL c (Q.getD k ([], [])).1).getD t 0)
    refine ⟨h4, ?_, ?_⟩
    · rw [hL, List.length_append]; omega
    · rw [hL, getD_pre h2, h3]
theorem BpOk.start {c : List (List Int)} {a : List Int} (h : WordOk c a) : BpOk c a.length [(a, [])] :=
  ⟨by simp, fun N hm => by rw [List.mem_singleton] at hm; subst hm; exact ⟨h, rfl⟩, fun k hk => by simp at hk; subst hk; simp [List.getD], fun N hm => by rw [List.mem_singleton] at hm; subst hm; simp⟩
theorem bpGo_found {c : List (List Int)} {b : List Int} {f k : Nat} {Q : List BNode} (hk : k < Q.length) (h : (Q.getD k ([], [])).1 = b) : bpGo c b (f + 1) k Q = some (Q.getD k ([], [])).2 := by
  unfold bpGo; rw [if_pos hk, if_pos h]
theorem bpGo_next {c : List (List Int)} {b : List Int} {f k : Nat} {Q : List BNode} (hk : k < Q.length) (h : (Q.getD k ([], [])).1 ≠ b) : bpGo c b (f + 1) k Q = bpGo c b f (k + 1) (bpRow c (Q.getD k ([], [])) Q (placesL c (Q.getD k ([], [])).1).length) := by
  rw [bpGo, if_pos hk, if_neg h]
theorem bpGo_done {c : List (List Int)} {b : List Int} {f k : Nat} {Q : List BNode} (hk : Q.length ≤ k) : bpGo c b f k Q = none := by
  cases f with
  | zero => rfl
  | succ f => rw [bpGo, if_neg (by omega)]
theorem bpGo_len {c : List (List Int)} {b : List Int} {l : Nat} : ∀ (f k : Nat) (Q : List BNode) (p : List Int), BpOk c l Q → bpGo c b f k Q = some p → p.length ≤ 120 ∧ ∀ x ∈ p, 0 ≤ x ∧ x < 16
  | 0, _, _, _, _, h => by cases h
  | f + 1, k, Q, p, hok, h => by
    by_cases hk : k < Q.length
    · by_cases e : (Q.getD k ([], [])).1 = b
      · rw [bpGo_found hk e] at h
        injection h with h
        subst h
        have := hok.path k hk
        have := hok.few
        exact ⟨by omega, hok.places _ (getD_mem hk)⟩
      · rw [bpGo_next hk e] at h
        exact bpGo_len f (k + 1) _ p (hok.row hk _ (Nat.le_refl _)).1 h
    · rw [bpGo_done (by omega)] at h
      cases h

end Go.Proofs.YtjhoimdfmcjkbaaGreatDoor
namespace Go.Proofs.YtjhoimdfmcjkbaaGreatDoor
set_option maxRecDepth 100000
open Go.RowKit
namespace Game
variable {A : Mat} {n : Nat}

/-- a word and its play are of the same parity -/
theorem play_parity (hC : Car A n) {d : Vec} (hd : ∀ i, i < n → 0 < d i) : ∀ (w : List Nat), (∀ i ∈ w, i < n) → ∀ l, Plays A n l (act A w d) d → l.length % 2 = w.length % 2 := by
  have hd0 : Dom n d := fun i hi => by have := hd i hi; omega
  intro w
  induction w with
  | nil =>
    intro _ l h
    have := Dom.stuck hd0 h
    rw [this]
  | cons i w ih =>
    intro hw l h
    have hi := hw i (by simp)
    obtain ⟨l0, h1, h2⟩ := word_play hC hd0 w (fun j hj => hw j (List.mem_cons_of_mem _ hj))
    have hpar := ih (fun j hj => hw j (List.mem_cons_of_mem _ hj)) l0 h1
    simp only [act, List.length_cons] at h ⊢
    generalize act A w d = x at *
    rcases Int.lt_trichotomy (x i) 0 with g | g | g
    · obtain ⟨l', g1, g2, g3⟩ := h1.first hC hd0 hi g
      have := (Plays.unique hC hd0 (Plays.cons.1 g1).2.2 h).1
      omega
    · exact absurd g (h1.ne hC hd hi)
    · have hp : Plays A n (i :: l0) (s A i x) d := Plays.cons.2 ⟨hi, by simp only [s, hC.two i hi]; omega, by rw [s_s hC hi]; exact h1⟩
      have := (Plays.unique hC hd0 hp h).1
      rw [List.length_cons] at this
      omega
end Game
open Game

/-- letters of a matrix, at most m of them -/
structure Lets (c : List (List Int)) (m : Nat) (v : List Int) : Prop where
  isC : IsC c
  few : v.length ≤ m
  inr : ∀ k, k < v.length → 0 ≤ v.getD k 0 ∧ v.getD k 0 < (c.length : Int)
theorem WordOk.lets {c : List (List Int)} {v : List Int} (h : WordOk c v) : Lets c 15 v := ⟨h.isC, h.few, h.inr⟩
theorem Lets.word {c : List (List Int)} {v : List Int} (h : Lets c 15 v) : WordOk c v := ⟨h.isC, h.few, h.inr⟩
theorem Lets.mono {c : List (List Int)} {m m' : Nat} {v : List Int} (h : Lets c m v) (hm : m ≤ m') : Lets c m' v := ⟨h.isC, Nat.le_trans h.few hm, h.inr⟩
theorem Lets.mem {c : List (List Int)} {m : Nat} {v : List Int} (h : Lets c m v) : ∀ x ∈ v, 0 ≤ x ∧ x < (c.length : Int) := fun x hx => by
  obtain ⟨k, hk, rfl⟩ := List.mem_iff_getElem.1 hx
  have := h.inr k hk
  simpa [List.getD, hk] using this
theorem lets_of {c : List (List Int)} {m : Nat} {v : List Int} (hC : IsC c) (hl : v.length ≤ m) (h : ∀ x ∈ v, 0 ≤ x ∧ x < (c.length : Int)) : Lets c m v :=
  ⟨hC, hl, fun k hk => h _ (by simp [List.getD, hk])⟩
theorem Lets.app {c : List (List Int)} {m k : Nat} {v u : List Int} (h : Lets c m v) (h' : Lets c k u) : Lets c (m + k) (v ++ u) :=
  lets_of h.isC (by rw [List.length_append]; have := h.few; have := h'.few; omega) fun x hx => by
    rcases List.mem_append.1 hx with g | g
    · exact h.mem x g
    · exact h'.mem x g
theorem Lets.one {c : List (List Int)} (hC : IsC c) {i : Int} (h0 : 0 ≤ i) (h1 : i < (c.length : Int)) : Lets c 1 [i] :=
  lets_of hC (by simp) fun x hx => by rw [List.mem_singleton] at hx; subst hx; exact ⟨h0, h1⟩
theorem Lets.nats {c : List (List Int)} {m : Nat} {v : List Int} (h : Lets c m v) : intsOf (v.map Int.toNat) = v := by
  unfold intsOf
  rw [List.map_map]
  have : ∀ x ∈ v, ((fun (t : Nat) => (t : Int)) ∘ Int.toNat) x = id x := fun x hx => by
    have := (h.mem x hx).1
    simp; omega
  rw [List.map_congr_left this, List.map_id]
theorem Lets.nats_lt {c : List (List Int)} {m : Nat} {v : List Int} (h : Lets c m v) : ∀ i ∈ v.map Int.toNat, i < c.length := fun i hi => by
  obtain ⟨x, hx, rfl⟩ := List.mem_map.1 hi
  have := h.mem x hx
  omega
abbrev imI (c : List (List Int)) (v : List Int) : List Int := actW c v (onesL c.length)
theorem imI_length (c : List (List Int)) (v : List Int) : (imI c v).length = c.length := by unfold imI; rw [actW_length]; exact onesL_len _
theorem imI_cons (c : List (List Int)) (i : Nat) (v : List Int) : imI c ((i : Int) :: v) = refl c i (imI c v) := rfl
/-- what a normal form is -/
structure NfI (c : List (List Int)) (v y : List Int) : Prop where
  norm : normG c 30 (imI c v) = some y
  len : y.length ≤ v.length
  par : y.length % 2 = v.length % 2
  lets : Lets c v.length y
  img : imI c y = imI c v
theorem nfI_ex {c : List (List Int)} {v : List Int} (h : Lets c 30 v) : ∃ W, NfOf c (v.map Int.toNat) W ∧ nfI c v = intsOf W := by
  obtain ⟨W, hW⟩ := nf_of h.isC h.nats_lt (by rw [List.length_map]; exact h.few)
  refine ⟨W, hW, ?_⟩
  have := nfI_of hW
  rwa [h.nats] at this
theorem nfI_ok {c : List (List Int)} {v : List Int} (h : Lets c 30 v) : NfI c v (nfI c v) := by
  obtain ⟨W, hW, e⟩ := nfI_ex h
  have hn := hW.norm
  rw [h.nats] at hn
  have hi := hW.img
  rw [h.nats] at hi
  have hl := hW.len
  rw [List.length_map] at hl
  have hwl : (intsOf W).length = W.length := by simp [intsOf]
  rw [e]
  refine ⟨hn, by rw [hwl]; exact hl, ?_, lets_of h.isC (by rw [hwl]; exact hl) fun x hx => ?_, hi⟩
  · rw [hwl]
    have := play_parity (car_of h.isC) (ones_pos c.length) _ h.nats_lt W hW.plays
    rwa [List.length_map] at this
  · unfold intsOf at hx
    obtain ⟨i, hi', rfl⟩ := List.mem_map.1 hx
    have := hW.lt i hi'
    omega
/-- a normal form is its own -/
theorem nfI_self {c : List (List Int)} {v : List Int} (h : Lets c 30 v) : nfI c (nfI c v) = nfI c v := by
  have h1 := nfI_ok h
  unfold nfI
  rw [show actW c ((normG c 30 (actW c v (onesL c.length))).getD []) (onesL c.length) = actW c v (onesL c.length) from h1.img]
theorem nfI_img {c : List (List Int)} {v u : List Int} (h : imI c v = imI c u) : nfI c v = nfI c u := by
  unfold nfI
  rw [show actW c v (onesL c.length) = actW c u (onesL c.length) from h]
/-- no number of an image is 0 -/
theorem imI_ne {c : List (List Int)} {v : List Int} (h : Lets c 30 v) {i : Nat} (hi : i < c.length) : (imI c v).getD i 0 ≠ 0 :=
  normG_nz (nfI_ok h).norm i (by rw [imI_length]; exact hi)
/-- the element is shorter behind a letter at which its image is negative -/
theorem nfI_down {c : List (List Int)} {v : List Int} (h : Lets c 29 v) {i : Nat} (hi : i < c.length) (hneg : (imI c v).getD i 0 < 0) : (nfI c ((i : Int) :: v)).length + 1 = (nfI c v).length := by
  have hC := h.isC
  have hA := car_of hC
  have h30 := h.mono (show 29 ≤ 30 by omega)
  have h2 : Lets c 30 ((i : Int) :: v) := lets_of hC (by rw [List.length_cons]; have := h.few; omega) fun x hx => by
    rcases List.mem_cons.1 hx with g | g
    · subst g; omega
    · exact h.mem x g
  obtain ⟨W, hW, e⟩ := nfI_ex h30
  obtain ⟨X, hX, e2⟩ := nfI_ex h2
  have hwl : (intsOf W).length = W.length := by simp [intsOf]
  have hxl : (intsOf X).length = X.length := by simp [intsOf]
  rw [e, e2, hwl, hxl]
  have hv : toV (imI c v) = act (ent c) (v.map Int.toNat) (toV (onesL c.length)) := by
    have := toV_image hC h.nats_lt (by rw [List.length_map]; have := h.few; omega)
    rwa [h.nats] at this
  have hneg' : act (ent c) (v.map Int.toNat) (toV (onesL c.length)) i < 0 := by rw [← hv]; exact hneg
  obtain ⟨l', g1, g2, -⟩ := hW.plays.first hA (ones_dom _) hi hneg'
  have hp := (Plays.cons.1 g1).2.2
  have hm : (((i : Int) :: v).map Int.toNat) = i :: v.map Int.toNat := by rw [List.map_cons, Int.toNat_natCast]
  have hXp := hX.plays
  rw [hm] at hXp
  have := (Plays.unique hA (ones_dom _) hp hXp).1
  omega

/-! ### the star product -/
def starS (c : List (List Int)) (x : List Int) (i : Int) : List Int := if (nfI c (x ++ [i])).length < x.length then x else nfI c (x ++ [i])
def starTo (c : List (List Int)) (v : List Int) : Nat → List Int
  | 0 => []
  | k + 1 => starS c (starTo c v k) (v.getD k 0)
def starL (c : List (List Int)) (v : List Int) : List Int := starTo c v v.length
theorem starS_lets {c : List (List Int)} {m : Nat} {x : List Int} {i : Int} (h : Lets c m x) (hm : m ≤ 29) (h0 : 0 ≤ i) (h1 : i < (c.length : Int)) : Lets c (m + 1) (starS c x i) := by
  have hx := h.app (Lets.one h.isC h0 h1)
  unfold starS
  split
  · exact h.mono (by omega)
  · exact ((nfI_ok (hx.mono (by omega))).lets).mono (by have := hx.few; omega)
theorem starTo_lets {c : List (List Int)} {v : List Int} (h : WordOk c v) : ∀ k, k ≤ v.length → Lets c k (starTo c v k)
  | 0, _ => ⟨h.isC, Nat.le_refl _, fun k hk => by simp [starTo] at hk⟩
  | k + 1, hk => by
    have h1 := starTo_lets h k (by omega)
    have h2 := h.inr k (by omega)
    exact starS_lets h1 (by have := h.few; omega) h2.1 h2.2
/-- the lengths differ by one -/
theorem star_ne {c : List (List Int)} {m : Nat} {x : List Int} {i : Int} (h : Lets c m x) (hm : m ≤ 29) (h0 : 0 ≤ i) (h1 : i < (c.length : Int)) : (nfI c (x ++ [i])).length ≠ x.length := by
  have hx := (h.app (Lets.one h.isC h0 h1)).mono (show m + 1 ≤ 30 by omega)
  have := (nfI_ok hx).par
  rw [List.length_append, List.length_singleton] at this
  omega
end Go.Proofs.YtjhoimdfmcjkbaaGreatDoor
