/- The automaton of small roots, as functions. Plain law. -/
import Derived.Test.YticnocoeldfiiaaGreatDoorG11
import Derived.Test.YticnocoeldfiiaaGreatDoorG10
namespace Go.Proofs.YticnocoeldfiiaaGreatDoor
open Go.RowKit

/-- where a list stands first; -1 where it does not -/
def idxFrom : List (List Int) → List Int → Nat → Int
  | [], _, _ => -1
  | x :: l, v, k => if x = v then (k : Int) else idxFrom l v (k + 1)
def idxL (L : List (List Int)) (v : List Int) : Int := idxFrom L v 0
theorem idxFrom_spec (v : List Int) : ∀ (L : List (List Int)) (k : Nat), (idxFrom L v k = -1 ∧ v ∉ L) ∨ ∃ j, j < L.length ∧ idxFrom L v k = ((k + j : Nat) : Int) ∧ L.getD j [] = v ∧ ∀ i, i < j → L.getD i [] ≠ v
  | [], k => .inl ⟨rfl, by simp⟩
  | x :: L, k => by
    unfold idxFrom
    by_cases h : x = v
    · rw [if_pos h]
      exact .inr ⟨0, by simp, by simp, by simpa using h, fun i hi => absurd hi (by omega)⟩
    · rw [if_neg h]
      rcases idxFrom_spec v L (k + 1) with ⟨h1, h2⟩ | ⟨j, hj, h1, h2, h3⟩
      · exact .inl ⟨h1, by simp [Ne.symm h, h2]⟩
      · refine .inr ⟨j + 1, by simpa using hj, by rw [h1]; congr 1; omega, by simpa using h2, fun i hi => ?_⟩
        cases i with
        | zero => simpa using h
        | succ i => simpa using h3 i (by omega)
section
variable {L : List (List Int)} {v u : List Int} {k : Nat}
theorem idx_found (hk : k < L.length) (h : inTo L v k) (he : L.getD k [] = v) : idxL L v = (k : Int) := by
  rcases idxFrom_spec v L 0 with ⟨-, h2⟩ | ⟨j, hj, h1, h2, h3⟩
  · exact absurd (by rw [← he]; simp [List.getD, hk]) h2
  · have : j = k := by
      rcases Nat.lt_trichotomy j k with g | g | g
      · exact absurd h2 (h j g)
      · exact g
      · exact absurd he (h3 k g)
    subst this
    unfold idxL
    rw [h1, Nat.zero_add]
theorem idx_none (h : inTo L v L.length) : idxL L v = -1 := by
  rcases idxFrom_spec v L 0 with ⟨h1, -⟩ | ⟨j, hj, h1, h2, h3⟩
  · exact h1
  · exact absurd h2 (h j hj)
theorem idx_ge : -1 ≤ idxL L v := by
  rcases idxFrom_spec v L 0 with ⟨h1, -⟩ | ⟨j, hj, h1, h2, h3⟩ <;> unfold idxL <;> omega
theorem idx_lt : idxL L v < (L.length : Int) := by
  rcases idxFrom_spec v L 0 with ⟨h1, -⟩ | ⟨j, hj, h1, h2, h3⟩ <;> unfold idxL <;> omega
theorem idx_nonneg : 0 ≤ idxL L v ↔ v ∈ L := by
  rcases idxFrom_spec v L 0 with ⟨h1, h2⟩ | ⟨j, hj, h1, h2, h3⟩
  · constructor
    · intro h; unfold idxL at h; omega
    · intro h; exact absurd h h2
  · constructor
    · intro _; rw [← h2]; simp [List.getD, hj]
    · intro _; unfold idxL; omega
theorem idx_neg (h : v ∉ L) : idxL L v = -1 := by
  have h1 := idx_ge (L := L) (v := v)
  have h2 := mt (idx_nonneg (L := L) (v := v)).1 h
  omega
theorem idx_get (h : v ∈ L) : L.getD (idxL L v).toNat [] = v := by
  rcases idxFrom_spec v L 0 with ⟨h1, h2⟩ | ⟨j, hj, h1, h2, h3⟩
  · exact absurd h h2
  · unfold idxL; rw [h1]; simpa using h2
theorem idx_at (hn : L.Nodup) (hk : k < L.length) : idxL L (L.getD k []) = (k : Int) := by
  refine idx_found hk (fun j hj e => ?_) rfl
  have hj' : j < L.length := by omega
  have h1 : L[j] = L[k] := by simpa [List.getD, hj', hk] using e
  have := (List.getElem_inj hn).1 h1
  omega
theorem idx_iff (hn : L.Nodup) (hk : k < L.length) (hv : v ∈ L) : L.getD k [] = v ↔ (k : Int) = idxL L v := by
  constructor
  · intro h; rw [← h, idx_at hn hk]
  · intro h
    have := idx_get hv
    rw [← h] at this
    simpa using this
end

/-- the reference's insertion: no number twice -/
def put5 : List Int → Int → List Int
  | [], x => [x]
  | y :: l, x => if y = x then y :: l else if x < y then x :: y :: l else y :: put5 l x
theorem mem_put5 {z x : Int} : ∀ {l : List Int}, z ∈ put5 l x ↔ z = x ∨ z ∈ l
  | [] => by simp [put5]
  | y :: l => by
    unfold put5
    split
    · rename_i h; subst h; simp
    · split
      · simp
      · simp only [List.mem_cons, mem_put5 (l := l)]
        constructor
        · rintro (h | h | h)
          · exact .inr (.inl h)
          · exact .inl h
          · exact .inr (.inr h)
        · rintro (h | h | h)
          · exact .inr (.inl h)
          · exact .inl h
          · exact .inr (.inr h)
def UpI (l : List Int) : Prop := l.Pairwise fun a b => a < b
theorem put5_up {x : Int} : ∀ {l : List Int}, UpI l → UpI (put5 l x)
  | [], _ => List.pairwise_singleton _ _
  | y :: l, h => by
    have h0 := List.pairwise_cons.1 h
    unfold put5
    split
    · exact h
    · split
      · rename_i h1 h2
        refine List.pairwise_cons.2 ⟨fun z hz => ?_, h⟩
        rcases List.mem_cons.1 hz with e | e
        · rw [e]; exact h2
        · have := h0.1 z e; omega
      · rename_i h1 h2
        refine List.pairwise_cons.2 ⟨fun z hz => ?_, put5_up h0.2⟩
        rcases mem_put5.1 hz with e | e
        · rw [e]; omega
        · exact h0.1 z e
theorem upI_uniq : ∀ {a b : List Int}, UpI a → UpI b → (∀ x, x ∈ a ↔ x ∈ b) → a = b
  | [], [], _, _, _ => rfl
  | [], y :: b, _, _, h => absurd ((h y).2 (by simp)) (by simp)
  | x :: a, [], _, _, h => absurd ((h x).1 (by simp)) (by simp)
  | x :: a, y :: b, ha, hb, h => by
    have ha0 := List.pairwise_cons.1 ha
    have hb0 := List.pairwise_cons.1 hb
    have e : x = y := by
      have h1 := (h x).1 (by simp)
      have h2 := (h y).2 (by simp)
      rcases List.mem_cons.1 h1 with e | e
      · exact e
      · rcases List.mem_cons.1 h2 with g | g
        · exact g.symm
        · have := hb0.1 x e
          have := ha0.1 y g
          omega
    subst e
    congr 1
    refine upI_uniq ha0.2 hb0.2 fun z => ?_
    constructor
    · intro hz
      rcases List.mem_cons.1 ((h z).1 (List.mem_cons_of_mem _ hz)) with g | g
      · have := ha0.1 z hz; omega
      · exact g
    · intro hz
      rcases List.mem_cons.1 ((h z).2 (List.mem_cons_of_mem _ hz)) with g | g
      · have := hb0.1 z hz; omega
      · exact g
theorem upI_len {l : List Int} {m : Nat} (h : UpI l) (hb : ∀ x ∈ l, 0 ≤ x ∧ x < (m : Int)) : l.length ≤ m := by
  have key : ∀ j (hj : j < l.length), (j : Int) ≤ l[j] := by
    intro j
    induction j with
    | zero => intro hj; have := hb _ (List.getElem_mem hj); omega
    | succ j ih =>
      intro hj
      have h1 := ih (by omega)
      have h2 := List.pairwise_iff_getElem.1 h j (j + 1) (by omega) hj (by omega)
      omega
  by_cases h0 : l.length = 0
  · omega
  · have h1 := key (l.length - 1) (by omega)
    have h2 := hb _ (List.getElem_mem (show l.length - 1 < l.length by omega))
    omega

/-- the place of a letter's own root; the place that a letter leads to -/
def ownI (c S : List (List Int)) (i : Nat) : Int := idxL S (simpL c.length i)
def toI (c S : List (List Int)) (i : Nat) (k : Int) : Int := idxL S (mirL c i (S.getD k.toNat []))
/-- the state behind a letter, as the reference makes it -/
def nextTo (c S : List (List Int)) (i : Nat) (st : List Int) : Nat → List Int
  | 0 => [ownI c S i]
  | k + 1 => if 0 ≤ toI c S i (st.getD k 0) then put5 (nextTo c S i st k) (toI c S i (st.getD k 0)) else nextTo c S i st k
def nextL (c S : List (List Int)) (i : Nat) (st : List Int) : List Int := nextTo c S i st st.length
/-- .. as the program collects it -/
def rawTo (c S : List (List Int)) (i : Nat) (st : List Int) : Nat → List Int
  | 0 => [ownI c S i]
  | k + 1 => if 0 ≤ toI c S i (st.getD k 0) then rawTo c S i st k ++ [toI c S i (st.getD k 0)] else rawTo c S i st k
section
variable {c S : List (List Int)} {i : Nat} {st : List Int}
theorem nextTo_up : ∀ k, UpI (nextTo c S i st k)
  | 0 => List.pairwise_singleton _ _
  | k + 1 => by
    simp only [nextTo]
    split
    · exact put5_up (nextTo_up k)
    · exact nextTo_up k
theorem nextTo_mem (x : Int) : ∀ k, x ∈ nextTo c S i st k ↔ x ∈ rawTo c S i st k
  | 0 => Iff.rfl
  | k + 1 => by
    simp only [nextTo, rawTo]
    split
    · rw [mem_put5, nextTo_mem x k, List.mem_append, List.mem_singleton, or_comm]
    · exact nextTo_mem x k
theorem rawTo_len : ∀ k, (rawTo c S i st k).length ≤ k + 1
  | 0 => by simp [rawTo]
  | k + 1 => by
    have := rawTo_len k
    simp only [rawTo]
    split
    · simp; omega
    · omega
theorem rawTo_in (hi : simpL c.length i ∈ S) {x : Int} : ∀ k, x ∈ rawTo c S i st k → 0 ≤ x ∧ x < (S.length : Int)
  | 0, h => by
    simp only [rawTo, List.mem_singleton] at h
    subst h
    exact ⟨idx_nonneg.2 hi, idx_lt⟩
  | k + 1, h => by
    simp only [rawTo] at h
    split at h
    · rename_i h0
      rcases List.mem_append.1 h with g | g
      · exact rawTo_in hi k g
      · rw [List.mem_singleton] at g
        subst g
        exact ⟨h0, idx_lt⟩
    · exact rawTo_in hi k h
end
/-- an ascending list of places -/
def FineS (m : Nat) (st : List Int) : Prop := UpI st ∧ ∀ x ∈ st, 0 ≤ x ∧ x < (m : Int)
theorem FineS.len {m : Nat} {st : List Int} (h : FineS m st) : st.length ≤ m := upI_len h.1 h.2
theorem FineS.nil (m : Nat) : FineS m [] := ⟨List.Pairwise.nil, by simp⟩
theorem FineS.at' {m : Nat} {st : List Int} (h : FineS m st) {k : Nat} (hk : k < st.length) : 0 ≤ st.getD k 0 ∧ st.getD k 0 < (m : Int) := h.2 _ (by simp [List.getD, hk])
theorem nextL_fine {c S : List (List Int)} {i : Nat} {st : List Int} (hi : simpL c.length i ∈ S) : FineS S.length (nextL c S i st) :=
  ⟨nextTo_up _, fun x hx => rawTo_in hi _ ((nextTo_mem x _).1 hx)⟩

/-- is a list an ascending one of places? -/
def fineB (m : Nat) : Int → List Int → Bool
  | _, [] => true
  | last, x :: l => decide (last < x) && (decide (x < (m : Int)) && fineB m x l)
def lastAt (st : List Int) : Nat → Int
  | 0 => -1
  | k + 1 => st.getD k 0
theorem fineB_iff {m : Nat} : ∀ {st : List Int} {last : Int}, -1 ≤ last → (fineB m last st = true ↔ UpI st ∧ ∀ x ∈ st, last < x ∧ x < (m : Int))
  | [], last, _ => by simp [fineB, UpI]
  | x :: st, last, h => by
    simp only [fineB, Bool.and_eq_true, decide_eq_true_eq]
    by_cases hx : last < x
    · rw [fineB_iff (by omega)]
      unfold UpI
      rw [List.pairwise_cons]
      constructor
      · rintro ⟨h1, h2, h3, h4⟩
        refine ⟨⟨fun y hy => (h4 y hy).1, h3⟩, fun y hy => ?_⟩
        rcases List.mem_cons.1 hy with e | e
        · rw [e]; exact ⟨h1, h2⟩
        · have := h4 y e; exact ⟨by omega, this.2⟩
      · rintro ⟨⟨h1, h2⟩, h3⟩
        exact ⟨hx, (h3 x (by simp)).2, h2, fun y hy => ⟨h1 y hy, (h3 y (List.mem_cons_of_mem _ hy)).2⟩⟩
    · constructor
      · rintro ⟨h1, -⟩; exact absurd h1 hx
      · rintro ⟨-, h3⟩; exact absurd (h3 x (by simp)).1 hx
theorem fineB_fine {m : Nat} {st : List Int} (h : fineB m (-1) st = true) : FineS m st := by
  obtain ⟨h1, h2⟩ := (fineB_iff (by omega)).1 h
  exact ⟨h1, fun x hx => by have := h2 x hx; omega⟩
theorem fineB_step {m : Nat} {st : List Int} {k : Nat} (hk : k < st.length) : fineB m (lastAt st k) (st.drop k) = (decide (lastAt st k < st.getD k 0) && (decide (st.getD k 0 < (m : Int)) && fineB m (lastAt st (k + 1)) (st.drop (k + 1)))) := by
  have e : st.getD k 0 = st[k] := by simp [List.getD, hk]
  have e2 : lastAt st (k + 1) = st[k] := e
  rw [List.drop_eq_getElem_cons hk, e, e2]
  rfl

/-- the state behind a word -/
def walkL (c S : List (List Int)) : List Int → List Int → Option (List Int)
  | st, [] => some st
  | st, i :: l => if ownI c S i.toNat ∈ st then none else walkL c S (nextL c S i.toNat st) l
/-- what the small roots hold -/
structure SmallOk (c S : List (List Int)) : Prop where
  nodup : S.Nodup
  len : S.length ≤ 40
  lens : ∀ x ∈ S, x.length = c.length
  simp' : ∀ i, i < c.length → simpL c.length i ∈ S
theorem SmallOk.lenAt {c S : List (List Int)} (h : SmallOk c S) {j : Nat} (hj : j < S.length) : (S.getD j []).length = c.length := h.lens _ (by simp [List.getD, hj])
theorem smStep_mem {c t : List (List Int)} {Q : List RPair} {k i : Nat} {p : RPair} (h : p ∈ Q) : p ∈ smStep c t Q k i := by
  unfold smStep
  dsimp only
  split
  · exact List.mem_append_left _ h
  · exact h
theorem smRow_mem {c t : List (List Int)} {Q : List RPair} {k : Nat} {p : RPair} (h : p ∈ Q) : ∀ i, p ∈ smRow c t Q k i
  | 0 => h
  | i + 1 => smStep_mem (smRow_mem h i)
theorem smGo_mem {c t : List (List Int)} {p : RPair} : ∀ (f k : Nat) (Q R : List RPair), p ∈ Q → smGo c t f k Q = some R → p ∈ R
  | 0, k, Q, R, h, e => by
    simp only [smGo] at e
    split at e
    · cases e; exact h
    · cases e
  | f + 1, k, Q, R, h, e => by
    simp only [smGo] at e
    split at e
    · cases e; exact h
    · split at e
      · cases e
      · exact smGo_mem f (k + 1) _ R (smRow_mem h _) e
theorem smallOk_of {c : List (List Int)} {Q : List RPair} (hn : c.length ≤ 4) (h : smR c = some Q) : SmallOk c (smallL c) := by
  obtain ⟨h1, h2⟩ := smR_ok (by omega) h
  have he : smallL c = putsR (Q.map (·.1)) := by unfold smallL; rw [h]
  have hp := putsR_aux (Q.map (·.1)) [] h1.nodup (by simp) List.Pairwise.nil
  have hmem : ∀ x, x ∈ putsR (Q.map (·.1)) ↔ x ∈ Q.map (·.1) := fun x => by
    have := hp.2 x
    simpa [putsR] using this
  obtain ⟨k1, k2⟩ := smallL_few (c := c) hn
  refine ⟨?_, k1, k2, fun i hi => ?_⟩
  · rw [he]
    have hu : Up (putsR (Q.map (·.1))) := hp.1
    refine List.Pairwise.imp (fun {a b} hab e => ?_) hu
    rw [e, rootCmp_self] at hab
    omega
  · rw [he, hmem]
    refine List.mem_map.2 ⟨(simpL c.length i, simpL c.length i), ?_, rfl⟩
    refine smGo_mem 41 0 (smStart c) Q ?_ h
    exact List.mem_map.2 ⟨i, List.mem_range.2 hi, rfl⟩
end Go.Proofs.YticnocoeldfiiaaGreatDoor
