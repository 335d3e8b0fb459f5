/- Plain law: the places of braid moves of a word, and the search for a path of braid moves. Plain law: subwords of normal forms (the Bruhat order); the letters that show that an element is not below another one. The laws' marks over values of an interval of blocks. The laws' marks over rows, read back. The reference's copy of a matrix: contract. (Split off Rdc.) -/
import Derived.Test.YtkjglfafphffiaaGreatT23
import Derived.Test.YtkjglfafphffiaaGreatT20
import Derived.Test.YtkjglfafphffiaaGreatT02
import Derived.Test.YtkjglfafphffiaaGreatT03
namespace Go.Proofs.YtkjglfafphffiaaGreat
set_option maxRecDepth 100000
open Go.RowKit
/-- the places of braid moves ahead of a place -/
def placesTo (c : List (List Int)) (v : List Int) (k : Nat) : List Int := ((List.range k).filter fun t : Nat => (braidA c v (t : Int)).isSome).map fun t : Nat => (t : Int)
def placesL (c : List (List Int)) (v : List Int) : List Int := placesTo c v v.length
theorem placesTo_yes {c : List (List Int)} {v : List Int} {k : Nat} (h : (braidA c v (k : Int)).isSome = true) : placesTo c v (k + 1) = placesTo c v k ++ [(k : Int)] := by
  unfold placesTo
  rw [List.range_succ, List.filter_append, List.map_append]
  simp [h]
theorem placesTo_no {c : List (List Int)} {v : List Int} {k : Nat} (h : (braidA c v (k : Int)).isSome = false) : placesTo c v (k + 1) = placesTo c v k := by
  unfold placesTo
  rw [List.range_succ, List.filter_append, List.map_append]
  simp [h]
theorem placesTo_len (c : List (List Int)) (v : List Int) (k : Nat) : (placesTo c v k).length ≤ k := by
  unfold placesTo
  rw [List.length_map]
  exact Nat.le_trans (List.length_filter_le _ _) (by simp)
theorem placesL_mem {c : List (List Int)} {v : List Int} {x : Int} (h : x ∈ placesL c v) : (0 ≤ x ∧ x < (v.length : Int)) ∧ (braidA c v x).isSome = true := by
  unfold placesL placesTo at h
  obtain ⟨t, ht, rfl⟩ := List.mem_map.1 h
  obtain ⟨h1, h2⟩ := List.mem_filter.1 ht
  have := List.mem_range.1 h1
  exact ⟨⟨by omega, by omega⟩, h2⟩
theorem altL_mem {i j x : Int} {n : Nat} (h : x ∈ altL i j n) : x = i ∨ x = j := by
  unfold altL at h
  obtain ⟨k, -, rfl⟩ := List.mem_map.1 h
  split
  · exact .inl rfl
  · exact .inr rfl
theorem braidK_mem {c : List (List Int)} {v y : List Int} {k : Nat} (h : braidK c v k = some y) : ∀ x ∈ y, x ∈ v := by
  unfold braidK at h
  simp only at h
  split at h
  · rename_i hc
    injection h with h
    subst h
    have e1 : v.getD k 0 ∈ v := by simp [List.getD, show k < v.length by omega]
    have e2 : v.getD (k + 1) 0 ∈ v := by simp [List.getD, hc.1]
    intro x hx
    rcases List.mem_append.1 hx with g | g
    · rcases List.mem_append.1 g with g | g
      · exact List.mem_of_mem_take g
      · rcases altL_mem g with g | g
        · rw [g]; exact e2
        · rw [g]; exact e1
    · exact List.mem_of_mem_drop g
  · cases h
theorem braidA_mem {c : List (List Int)} {v y : List Int} {a : Int} (h : braidA c v a = some y) : ∀ x ∈ y, x ∈ v := by
  unfold braidA at h
  split at h
  · unfold braidM at h
    split at h
    · exact braidK_mem h
    · cases h
  · cases h
theorem braidA_ok {c : List (List Int)} {v y : List Int} {a : Int} (hW : WordOk c v) (h : braidA c v a = some y) : WordOk c y := by
  have h1 := braidA_length h
  have h2 := braidA_mem h
  refine ⟨hW.isC, by have := hW.few; omega, fun k hk => ?_⟩
  have hm : y.getD k 0 ∈ v := h2 _ (by simp [List.getD, hk])
  obtain ⟨t, ht, e⟩ := List.mem_iff_getElem.1 hm
  have := hW.inr t ht
  rw [← e]
  simpa [List.getD, ht] using this
abbrev BNode := List Int × List Int
def wordsB (Q : List BNode) : List (List Int) := Q.map (·.1)
def bpStep (c : List (List Int)) (N : BNode) (Q : List BNode) (a : Int) : List BNode :=
  if (braidA c N.1 a).getD N.1 ∈ wordsB Q ∨ 120 ≤ Q.length then Q else Q ++ [((braidA c N.1 a).getD N.1, N.2 ++ [a])]
def bpRow (c : List (List Int)) (N : BNode) (Q : List BNode) (t : Nat) : List BNode := ((placesL c N.1).take t).foldl (bpStep c N) Q
def bpGo (c : List (List Int)) (b : List Int) : Nat → Nat → List BNode → Option (List Int)
  | 0, _, _ => none
  | f + 1, k, Q => if k < Q.length then (if (Q.getD k ([], [])).1 = b then some (Q.getD k ([], [])).2 else bpGo c b f (k + 1) (bpRow c (Q.getD k ([], [])) Q (placesL c (Q.getD k ([], [])).1).length)) else none
def bpR (c : List (List Int)) (a b : List Int) : Option (List Int) := bpGo c b 121 0 [(a, [])]
theorem bpRow_zero (c : List (List Int)) (N : BNode) (Q : List BNode) : bpRow c N Q 0 = Q := rfl
theorem bpRow_succ {c : List (List Int)} {N : BNode} {Q : List BNode} {t : Nat} (ht : t < (placesL c N.1).length) : bpRow c N Q (t + 1) = bpStep c N (bpRow c N Q t) ((placesL c N.1).getD t 0) := by
  unfold bpRow
  rw [List.take_succ_eq_append_getElem ht, List.foldl_append]
  have e : (placesL c N.1).getD t 0 = (placesL c N.1)[t] := by simp [List.getD, ht]
  rw [e]
  rfl
/-- what the list of the search is -/
structure BpOk (c : List (List Int)) (l : Nat) (Q : List BNode) : Prop where
  few : Q.length ≤ 120
  word : ∀ N ∈ Q, WordOk c N.1 ∧ N.1.length = l
  path : ∀ k, k < Q.length → (Q.getD k ([], [])).2.length ≤ k
  places : ∀ N ∈ Q, ∀ x ∈ N.2, 0 ≤ x ∧ x < 16
theorem getD_memI {l : List Int} {t : Nat} (h : t < l.length) : l.getD t 0 ∈ l := by simp [List.getD, h]
theorem getD_mem {Q : List BNode} {k : Nat} (hk : k < Q.length) : Q.getD k ([], []) ∈ Q := by simp [List.getD, hk]
theorem bpStep_cases (c : List (List Int)) (N : BNode) (Q : List BNode) (a : Int) : (bpStep c N Q a = Q ∧ ((braidA c N.1 a).getD N.1 ∈ wordsB Q ∨ 120 ≤ Q.length)) ∨ (bpStep c N Q a = Q ++ [((braidA c N.1 a).getD N.1, N.2 ++ [a])] ∧ (braidA c N.1 a).getD N.1 ∉ wordsB Q ∧ Q.length < 120) := by
  unfold bpStep
  split
  · exact .inl ⟨rfl, by assumption⟩
  · rename_i h
    exact .inr ⟨rfl, fun g => h (.inl g), by have : ¬ 120 ≤ Q.length := fun g => h (.inr g); omega⟩
theorem BpOk.step {c : List (List Int)} {l : Nat} {Q : List BNode} (h : BpOk c l Q) {k : Nat} (hk : k < Q.length) {a : Int} (ha : a ∈ placesL c (Q.getD k ([], [])).1) : BpOk c l (bpStep c (Q.getD k ([], [])) Q a) := by
  have hN := h.word _ (getD_mem hk)
  have hP := h.path k hk
  have hPl := h.places _ (getD_mem hk)
  obtain ⟨ha1, ha2⟩ := placesL_mem ha
  rcases bpStep_cases c (Q.getD k ([], [])) Q a with ⟨e, -⟩ | ⟨e, h1, h2⟩
  · rw [e]; exact h
  · rw [e]
    obtain ⟨y, hy⟩ := Option.isSome_iff_exists.1 ha2
    rw [hy]
    refine ⟨by simp; omega, fun N hm => ?_, fun t ht => ?_, fun N hm => ?_⟩
    · rcases List.mem_append.1 hm with g | g
      · exact h.word N g
      · rw [List.mem_singleton] at g
        subst g
        exact ⟨braidA_ok hN.1 hy, by rw [← hN.2]; exact braidA_length hy⟩
    · by_cases e : t < Q.length
      · have := h.path t e
        simpa [List.getD, List.getElem?_append_left e] using this
      · have : t = Q.length := by simp at ht; omega
        subst this
        simp [List.getD] at hP ⊢
        omega
    · rcases List.mem_append.1 hm with g | g
      · exact h.places N g
      · rw [List.mem_singleton] at g
        subst g
        intro x hx
        rcases List.mem_append.1 hx with g | g
        · exact hPl x g
        · rw [List.mem_singleton] at g
          subst g
          have := hN.1.few
          omega
theorem bpStep_pre (c : List (List Int)) (N : BNode) (Q : List BNode) (a : Int) : ∃ L, bpStep c N Q a = Q ++ L := by
  rcases bpStep_cases c N Q a with ⟨e, -⟩ | ⟨e, -⟩
  · exact ⟨[], by rw [e]; simp⟩
  · exact ⟨_, e⟩
theorem getD_pre {Q L : List BNode} {k : Nat} (hk : k < Q.length) : (Q ++ L).getD k ([], []) = Q.getD k ([], []) := by
  simp [List.getD, List.getElem?_append_left hk]
/-- along a row of places -/
theorem BpOk.row {c : List (List Int)} {l : Nat} {Q : List BNode} (h : BpOk c l Q) {k : Nat} (hk : k < Q.length) : ∀ t, t ≤ (placesL c (Q.getD k ([], [])).1).length → BpOk c l (bpRow c (Q.getD k ([], [])) Q t) ∧ k < (bpRow c (Q.getD k ([], [])) Q t).length ∧ (bpRow c (Q.getD k ([], [])) Q t).getD k ([], []) = Q.getD k ([], [])
  | 0, _ => ⟨h, hk, rfl⟩
  | t + 1, ht => by
    obtain ⟨h1, h2, h3⟩ := h.row hk t (by omega)
    rw [bpRow_succ (by omega)]
    have hm : (placesL c (Q.getD k ([], [])).1).getD t 0 ∈ placesL c (Q.getD k ([], [])).1 := getD_memI (by omega)
    have h4 := h1.step h2 (a := (placesL c (Q.getD k ([], [])).1).getD t 0) (by rw [h3]; exact hm)
    rw [h3] at h4
    obtain ⟨L, hL⟩ := bpStep_pre c (Q.getD k ([], [])) (bpRow c (Q.getD k ([], [])) Q t) ((placesL c (Q.getD k ([], [])).1).getD t 0)
    refine ⟨h4, ?_, ?_⟩
    · rw [hL, List.length_append]; omega
    · rw [hL, getD_pre h2, h3]
theorem BpOk.start {c : List (List Int)} {a : List Int} (h : WordOk c a) : BpOk c a.length [(a, [])] :=
  ⟨by simp, fun N hm => by rw [List.mem_singleton] at hm; subst hm; exact ⟨h, rfl⟩, fun k hk => by simp at hk; subst hk; simp [List.getD], fun N hm => by rw [List.mem_singleton] at hm; subst hm; simp⟩
theorem bpGo_found {c : List (List Int)} {b : List Int} {f k : Nat} {Q : List BNode} (hk : k < Q.length) (h : (Q.getD k ([], [])).1 = b) : bpGo c b (f + 1) k Q = some (Q.getD k ([], [])).2 := by
  unfold bpGo; rw [if_pos hk, if_pos h]
theorem bpGo_next {c : List (List Int)} {b : List Int} {f k : Nat} {Q : List BNode} (hk : k < Q.length) (h : (Q.getD k ([], [])).1 ≠ b) : bpGo c b (f + 1) k Q = bpGo c b f (k + 1) (bpRow c (Q.getD k ([], [])) Q (placesL c (Q.getD k ([], [])).1).length) := by
  rw [bpGo, if_pos hk, if_neg h]
theorem bpGo_done {c : List (List Int)} {b : List Int} {f k : Nat} {Q : List BNode} (hk : Q.length ≤ k) : bpGo c b f k Q = none := by
  cases f with
  | zero => rfl
  | succ f => rw [bpGo, if_neg (by omega)]
theorem bpGo_len {c : List (List Int)} {b : List Int} {l : Nat} : ∀ (f k : Nat) (Q : List BNode) (p : List Int), BpOk c l Q → bpGo c b f k Q = some p → p.length ≤ 120 ∧ ∀ x ∈ p, 0 ≤ x ∧ x < 16
  | 0, _, _, _, _, h => by cases h
  | f + 1, k, Q, p, hok, h => by
    by_cases hk : k < Q.length
    · by_cases e : (Q.getD k ([], [])).1 = b
      · rw [bpGo_found hk e] at h
        injection h with h
        subst h
        have := hok.path k hk
        have := hok.few
        exact ⟨by omega, hok.places _ (getD_mem hk)⟩
      · rw [bpGo_next hk e] at h
        exact bpGo_len f (k + 1) _ p (hok.row hk _ (Nat.le_refl _)).1 h
    · rw [bpGo_done (by omega)] at h
      cases h
end Go.Proofs.YtkjglfafphffiaaGreat
namespace Go.Proofs.YtkjglfafphffiaaGreat
set_option maxRecDepth 100000
open Go.RowKit Game
theorem normG_more {c : List (List Int)} : ∀ {f : Nat} {v x : List Int}, normG c f v = some x → normG c (f + 1) v = some x := by
  intro f
  induction f with
  | zero =>
    intro v x h
    simp only [normG] at h ⊢
    cases hz : nz v with
    | false => rw [hz] at h; simp at h
    | true =>
      cases hf : firstNeg v with
      | none => rw [hz, hf] at h; simpa using h
      | some i => rw [hz, hf] at h; simp at h
  | succ f ih =>
    intro v x h
    rw [normG] at h ⊢
    cases hz : nz v with
    | false => rw [hz] at h; simp at h
    | true =>
      rw [hz] at h
      cases hf : firstNeg v with
      | none => rw [hf] at h; simpa using h
      | some i =>
        rw [hf] at h
        simp only [if_true] at h ⊢
        cases hr : normG c f (refl c i v) with
        | none => rw [hr] at h; simp at h
        | some l => rw [hr] at h; rw [ih hr]; exact h
theorem normG_many {c : List (List Int)} {f : Nat} {v x : List Int} (h : normG c f v = some x) : ∀ k, normG c (f + k) v = some x
  | 0 => h
  | k + 1 => normG_more (normG_many h k)
/-- a letter twice is none -/
theorem imI_back {c : List (List Int)} {V : List Int} (h : Lets c 28 V) {i : Nat} (hi : i < c.length) : imI c ((i : Int) :: (i : Int) :: V) = imI c V := by
  have hC := h.isC
  have hf := h.few
  have hlt := h.nats_lt
  have h1 : ∀ k ∈ (i :: i :: V.map Int.toNat), k < c.length := fun k hk => by
    rcases List.mem_cons.1 hk with g | g
    · omega
    · rcases List.mem_cons.1 g with g | g
      · omega
      · exact hlt k g
  have := imgL_of_act hC h1 hlt (by simp; omega) (by simp; omega) (fun u => by
    show s (ent c) i (s (ent c) i (act (ent c) (V.map Int.toNat) u)) = _
    rw [s_s (car_of hC) hi])
  have e : intsOf (i :: i :: V.map Int.toNat) = (i : Int) :: (i : Int) :: V := by
    show (i : Int) :: (i : Int) :: intsOf (V.map Int.toNat) = _
    rw [h.nats]
  unfold imgL at this
  rw [e, h.nats] at this
  exact this
theorem Nw.norm {c : List (List Int)} {U : List Int} (h : Nw c U) : normG c 30 (imI c U) = some U := by
  have := (nfI_ok (h.lets.mono (show 15 ≤ 30 by omega))).norm
  rwa [h.self] at this
theorem Nw.head {c : List (List Int)} {i : Int} {V : List Int} (h : Nw c (i :: V)) : 0 ≤ i ∧ i < (c.length : Int) := h.lets.mem i (by simp)
/-- the first letter of a normal form, and what comes behind it -/
theorem Nw.tail {c : List (List Int)} {i : Int} {V : List Int} (h : Nw c (i :: V)) : firstNeg (imI c (i :: V)) = some i.toNat ∧ imI c V = refl c i.toNat (imI c (i :: V)) ∧ Nw c V := by
  have hi := h.head
  have hL : Lets c 14 V := lets_of h.lets.isC (by have := h.lets.few; rw [List.length_cons] at this; omega) fun x hx => h.lets.mem x (by simp [hx])
  obtain ⟨k, rfl⟩ : ∃ k : Nat, i = k := ⟨i.toNat, by omega⟩
  rw [Int.toNat_natCast]
  have hn := h.norm
  cases hf : firstNeg (imI c ((k : Int) :: V)) with
  | none => exact absurd (normG_none hn hf) (by simp)
  | some j =>
    obtain ⟨f', rest', e, h1, h2⟩ := normG_some hn hf
    injection h1 with h3 h4
    obtain rfl : k = j := by omega
    subst h4
    have hb : imI c V = refl c k (imI c ((k : Int) :: V)) := (imI_back (hL.mono (by omega)) (by omega)).symm
    refine ⟨rfl, hb, hL.mono (by omega), ?_⟩
    rw [← hb] at h2
    have h5 := normG_many h2 1
    rw [← e] at h5
    have h6 := (nfI_ok (hL.mono (show 14 ≤ 30 by omega))).norm
    rw [h6] at h5
    exact Option.some.inj h5
theorem Nw.none {c : List (List Int)} {U : List Int} (h : Nw c U) : firstNeg (imI c U) = none ↔ U = [] := by
  constructor
  · intro hf; exact normG_none h.norm hf
  · rintro rfl
    cases hf : firstNeg (imI c []) with
    | none => rfl
    | some j =>
      obtain ⟨f', rest', e, h1, h2⟩ := normG_some h.norm hf
      cases h1
def subN (c : List (List Int)) (U : List Int) (i : Int) : List Int := if (imI c U).getD i.toNat 0 < 0 then nfI c (i :: U) else U
def subU (c : List (List Int)) : List Int → List Int → List Int
  | [], U => U
  | i :: y, U => subU c y (subN c U i)
def subP (c : List (List Int)) : List Int → Nat → List Int → List Int
  | [], _, _ => []
  | i :: y, k, U => if (imI c U).getD i.toNat 0 < 0 then (k : Int) :: subP c y (k + 1) (subN c U i) else subP c y (k + 1) (subN c U i)
/-- whether an element is below another one -/
def bruB (c : List (List Int)) (a b : List Int) : Bool := decide (subU c (nfI c b) (nfI c a) = [])
/-- the places of letters of a normal form that make up an element -/
def subL (c : List (List Int)) (a b : List Int) : List Int := subP c (nfI c b) 0 (nfI c a)
theorem Nw.sub {c : List (List Int)} {U : List Int} (h : Nw c U) {i : Int} (h0 : 0 ≤ i) (h1 : i < (c.length : Int)) : Nw c (subN c U i) := by
  obtain ⟨k, rfl⟩ : ∃ k : Nat, i = k := ⟨i.toNat, by omega⟩
  unfold subN
  rw [Int.toNat_natCast]
  split
  · exact h.down (by omega) (by assumption)
  · exact h
theorem subN_img {c : List (List Int)} {U : List Int} (h : Nw c U) {i : Nat} (h1 : i < c.length) (hneg : (imI c U).getD i 0 < 0) : imI c (subN c U i) = refl c i (imI c U) := by
  unfold subN
  rw [Int.toNat_natCast, if_pos hneg]
  exact h.img h1
theorem subN_neg {c : List (List Int)} {U : List Int} {i : Nat} (hneg : (imI c U).getD i 0 < 0) : subN c U i = nfI c ((i : Int) :: U) := by
  unfold subN
  rw [Int.toNat_natCast, if_pos hneg]
theorem subN_pos {c : List (List Int)} {U : List Int} {i : Nat} (hneg : ¬ (imI c U).getD i 0 < 0) : subN c U i = U := by
  unfold subN
  rw [Int.toNat_natCast, if_neg hneg]
theorem subU_drop {c : List (List Int)} {y U : List Int} {k : Nat} (hk : k < y.length) : subU c (y.drop k) U = subU c (y.drop (k + 1)) (subN c U (y.getD k 0)) := by
  have e : y.getD k 0 = y[k] := by simp [List.getD, hk]
  rw [List.drop_eq_getElem_cons hk, e]
  rfl
theorem subP_drop {c : List (List Int)} {y U : List Int} {k : Nat} (hk : k < y.length) : subP c (y.drop k) k U = if (imI c U).getD (y.getD k 0).toNat 0 < 0 then (k : Int) :: subP c (y.drop (k + 1)) (k + 1) (subN c U (y.getD k 0)) else subP c (y.drop (k + 1)) (k + 1) (subN c U (y.getD k 0)) := by
  have e : y.getD k 0 = y[k] := by simp [List.getD, hk]
  rw [List.drop_eq_getElem_cons hk, e]
  rfl
theorem subP_len {c : List (List Int)} : ∀ (y : List Int) (k : Nat) (U : List Int), (subP c y k U).length ≤ y.length
  | [], k, U => by simp [subP]
  | i :: y, k, U => by
    have h := subP_len (c := c) y (k + 1) (subN c U i)
    unfold subP
    split
    · simp; omega
    · simp; omega
def dropL (c : List (List Int)) : List Int → List Int → List Int
  | [], _ => []
  | s :: V, U => if U.length ≤ V.length + 1 then s :: dropL c V (subN c U s) else []
theorem dropL_len {c : List (List Int)} : ∀ (V U : List Int), (dropL c V U).length ≤ V.length
  | [], U => by simp [dropL]
  | s :: V, U => by
    have := dropL_len (c := c) V (subN c U s)
    unfold dropL
    split
    · simp; omega
    · simp
end Go.Proofs.YtkjglfafphffiaaGreat
namespace Go.Proofs.YtkjglfafphffiaaGreat
set_option maxRecDepth 100000
open Go.RowKit
theorem Inner.setRow {w w' : World} {B : Nat} {rs : List RowRef} (h : Inner w B rs) (t : Nat) (ht : t < rs.length) (xs : List Int) (hg : w.grownBy w' (some rs[t].1)) (ho : Own w' B rs[t].1 rs[t].2.1 xs) :
    Inner w' B (rs.set t (rs[t].1, rs[t].2.1, xs)) := by
  have hnd := h.2
  refine ⟨fun r hr => ?_, ?_⟩
  · obtain ⟨u, hu, rfl⟩ := List.getElem_of_mem hr
    rw [List.length_set] at hu
    by_cases e : u = t
    · subst e; simpa using ho
    · rw [List.getElem_set_ne (by omega)]
      refine (h.1 rs[u] (List.getElem_mem hu)).grown hg ?_
      intro he
      have he' : rs[u].1 = rs[t].1 := Option.some.inj he
      have h1 : (rs.map (·.1))[u]'(by simpa using hu) = (rs.map (·.1))[t]'(by simpa using ht) := by simpa using he'
      have hp := List.pairwise_iff_getElem.1 hnd
      rcases Nat.lt_or_gt_of_ne e with h2 | h2
      · exact hp u t (by simpa using hu) (by simpa using ht) h2 h1
      · exact hp t u (by simpa using ht) (by simpa using hu) h2 h1.symm
  · have : (rs.set t (rs[t].1, rs[t].2.1, xs)).map (·.1) = rs.map (·.1) := by
      rw [List.map_set]
      apply List.ext_getElem (by simp)
      intro i h1 h2
      by_cases e : i = t
      · subst e; simp
      · rw [List.getElem_set_ne (by omega)]
    rw [this]; exact hnd
theorem rowVal_set {rs : List RowRef} (t : Nat) (ht : t < rs.length) (xs : List Int) (hl : xs.length = rs[t].2.2.length) : (rs.set t (rs[t].1, rs[t].2.1, xs)).map rowVal = rs.map rowVal := by
  rw [List.map_set]
  apply List.ext_getElem (by simp)
  intro i h1 h2
  by_cases e : i = t
  · subst e; simp [rowVal, hl]
  · rw [List.getElem_set_ne (by omega)]
theorem contents_setRow {rs : List RowRef} (t : Nat) (r : RowRef) : contents (rs.set t r) = (contents rs).set t r.2.2 := by simp [contents, List.map_set]
end Go.Proofs.YtkjglfafphffiaaGreat
namespace Go.Proofs.YtkjglfafphffiaaGreat
set_option maxRecDepth 100000
open Go.RowKit
end Go.Proofs.YtkjglfafphffiaaGreat
namespace Go.Proofs.YtkjglfafphffiaaGreat
set_option maxRecDepth 100000
open Go.RowKit
set_option maxHeartbeats 2000000 in
theorem spec_l2Copy_any (g o n cp : Nat) (rows : List (List Int)) (w : World) (hn : rows.length = n) (hx : rows.length ≤ 1048576) (hrl : ∀ j, j < rows.length → (rows.getD j []).length ≤ 1048576) (hg : g < w.heap.size) (hr : Rows2 w g o rows) :
    Calls Tryz.prog 149 #[(Value.slice (some ⟨g, o, none⟩) n cp)] w (GotRows w rows) := by
  subst hn
  go_enter Tryz.func149, Tryz.ntmps149
  go_wp2
  go_loopw [3, 4] (fun ov kv wr => ∃ (k g2 c2 : Nat) (rs : List RowRef), k ≤ rows.length ∧ kv = .int .i64 k ∧ ov = (Value.slice (some ⟨g2, 0, none⟩) k c2) ∧ Hid (rs.length = k) ∧ Hid (contents rs = rows.take k) ∧ OwnRows wr w.heap.size g2 c2 rs ∧ Below w.heap.size w wr) (fun _ kv _ => rows.length - (intOf kv).toNat)
  case atStart => exact ⟨0, w.heap.size, 0, [], Nat.zero_le _, rfl, rfl, rfl, rfl, OwnRows.empty (Nat.le_refl _), (Below.refl _ _).alloc (Nat.le_refl _) _⟩
  case round =>
    obtain ⟨k, g2, c2, rs, hk, rfl, rfl, hrk, hcon, hO, hb⟩ := hrel
    by_cases hlt : k < rows.length
    · obtain ⟨gj, oj, cj, q1, q2, q3, q4⟩ := (hr.below hb hg) k hlt
      have hlk := hrl k hlt
      have ht : rows.take (k + 1) = rows.take k ++ [rows.getD k []] := by
        rw [List.take_succ_eq_append_getElem hlt]; simp [List.getD, hlt]
      generalize rows.getD k [] = x at *
      obtain ⟨lx, hlx⟩ : ∃ lx, x.length = lx := ⟨_, rfl⟩
      rw [hlx] at q1 q2 hlk
      have Ht := Lib.hid ht; have Hlx := Lib.hid hlx; have Q4 := Lib.hid q4
      have hE := (Below.refl wr.heap.size wr).alloc (Nat.le_refl _) (.cells #[] 3)
      have q1' := (hE.cell (p := ⟨g, o + k, none⟩) (Nat.lt_of_lt_of_le hg hb.size)).trans q1
      clear ht hlx q4 hE
      go_wp2_with (at_builtin; refine wpList_clone rfl _ _ rfl gj oj lx cj x Hlx.out q3 Q4.out rfl rfl (by rw [Hlx.out]; omega) ?_)
      intro g3 c3 w3 ho3 hb3
      have hO3 := hO.below hb3
      have hB3 := hb.trans (hb3.mono hb.size)
      have hne : ∀ s ∈ rs, s.1 ≠ g3 := fun s hs e => by have h1 := (hO.2.1 s hs).lt; have h2 := ho3.base; omega
      have Hne := Lib.hid hne
      clear hO hne q1 q1' q3 hb3
      go_wp2_with (at_builtin; refine wpList_append_row (w := w3) rfl _ _ rfl w.heap.size g2 c2 k w3.heap.size rs (g3, c3, x) _ hrk.out (by unfold rowVal; rw [Hlx.out]) rfl hO3 (ho3.mono hb.size) Hne.out rfl rfl (by omega) ?_)
      intro g4 c4 w4 hO4 hg4 hor4
      have hB4 : Below w.heap.size w w4 := hB3.grown hg4 hB3.size (by intro t ht; cases ht; exact hO3.base)
      have hl4 : Hid ((rs ++ [(g3, c3, x)]).length = k + 1) := Lib.hid (by rw [List.length_append, hrk.out]; rfl)
      have hc4 : Hid (contents (rs ++ [(g3, c3, x)]) = rows.take (k + 1)) := Lib.hid (by rw [Ht.out, ← hcon.out]; simp [contents])
      clear hO3 hB3 hg4 hor4 hb
      go_wp2_with fail
      go_roundw
      case rel => exact ⟨k + 1, g4, c4, _, by omega, by go_num, rfl, hl4.out, hc4.out, hO4, hB4⟩
      case measure => simp [intOf]; omega
    · obtain rfl : k = rows.length := by omega
      have hc := hcon.out
      rw [List.take_length] at hc
      have Hc := Lib.hid hc
      clear hc
      go_wp2_with fail
      go_ret
      exact ⟨g2, c2, rs, rfl, Hc.out, hO, hb⟩
end Go.Proofs.YtkjglfafphffiaaGreat
