/- Elements by length: the reference's levels are the elements of each length; lists in strict order are told by their members. Plain law. -/
import Derived.Test.YtdedkfbiookofaaGreatDoorM12
import Derived.Test.YtdedkfbiookofaaGreatDoorM02
namespace Go.Proofs.YtdedkfbiookofaaGreatDoor
set_option maxRecDepth 100000
open Go.RowKit
namespace Game
set_option linter.unusedSimpArgs false
variable {c : List (List Int)}
abbrev imgL (c : List (List Int)) (w : List Nat) : List Int := actW c (intsOf w) (onesL c.length)
theorem intsOf_inj {a b : List Nat} (h : intsOf a = intsOf b) : a = b := by
  unfold intsOf at h
  exact (List.map_inj_right (fun x y e => by omega)).1 h
theorem intsOf_append (a b : List Nat) : intsOf (a ++ b) = intsOf a ++ intsOf b := by simp [intsOf]
theorem NfOf.self {w W : List Nat} (h : NfOf c w W) : NfOf c W W :=
  ⟨by rw [h.img]; exact h.norm, by rw [← h.act]; exact h.plays, Nat.le_refl _, fun _ => rfl, h.lt, rfl⟩
theorem NfOf.uniq {w W w' W' : List Nat} (h : NfOf c w W) (h' : NfOf c w' W') (e : imgL c w = imgL c w') : W = W' := by
  have h1 := h.norm
  have h2 := h'.norm
  unfold imgL at e
  rw [e, h2] at h1
  exact (intsOf_inj (Option.some.inj h1)).symm
theorem imgL_of_act (hC : IsC c) {w w' : List Nat} (hw : ∀ i ∈ w, i < c.length) (hw' : ∀ i ∈ w', i < c.length) (hl : w.length ≤ 30) (hl' : w'.length ≤ 30) (h : ∀ u, act (ent c) w u = act (ent c) w' u) : imgL c w = imgL c w' := by
  apply toV_inj
  · unfold imgL; rw [actW_length, actW_length]
  · unfold imgL; rw [toV_image hC hw hl, toV_image hC hw' hl', h]
theorem imgL_length (c : List (List Int)) (w : List Nat) : (imgL c w).length = c.length := by unfold imgL; rw [actW_length]; exact onesL_len _
theorem imgL_cons (c : List (List Int)) (i : Nat) (w : List Nat) : imgL c (i :: w) = refl c i (imgL c w) := rfl
/-- an element of this length, by its normal form -/
structure Elt (c : List (List Int)) (n : Nat) (W : List Nat) : Prop where
  nf : NfOf c W W
  len : W.length = n
theorem Elt.zero (hC : IsC c) : Elt c 0 [] := by
  obtain ⟨W, h⟩ := nf_of hC (w := []) (by simp) (by simp)
  have h0 : W.length = 0 := by have := h.len; simpa using this
  have h1 : W = [] := List.length_eq_zero_iff.1 h0
  subst h1
  exact ⟨h, rfl⟩
theorem Elt.ne {n : Nat} {W : List Nat} (h : Elt c n W) {i : Nat} (hi : i < c.length) : (imgL c W).getD i 0 ≠ 0 := normG_nz h.nf.norm i (by rw [imgL_length]; exact hi)
theorem right_back (hC : IsC c) {n : Nat} {X : List Nat} (hX : Elt c (n + 1) X) (hn : n ≤ 29) : ∃ W i, Elt c n W ∧ i < c.length ∧ NfOf c (W ++ [i]) X := by
  have hne : X ≠ [] := by intro e; have := hX.len; rw [e] at this; simp at this
  have hsp := List.dropLast_concat_getLast hne
  generalize X.getLast hne = i at hsp
  generalize X.dropLast = P at hsp
  subst hsp
  have hlt := hX.nf.lt
  have hP : ∀ j ∈ P, j < c.length := fun j hj => hlt j (by simp [hj])
  have hi : i < c.length := hlt i (by simp)
  have hPl : P.length = n := by have := hX.len; simpa using this
  obtain ⟨W, hW⟩ := nf_of hC hP (by omega)
  have hWl := hW.len
  have hlw : ∀ j ∈ W ++ [i], j < c.length := by
    intro j hj
    rcases List.mem_append.1 hj with h | h
    · exact hW.lt j h
    · simp at h; subst h; exact hi
  obtain ⟨X', hX'⟩ := nf_of hC hlw (by simp; omega)
  have e : imgL c (W ++ [i]) = imgL c (P ++ [i]) :=
    imgL_of_act hC hlw hlt (by simp; omega) (by simp; omega) (fun u => by rw [act_append, act_append]; exact (hW.act _).symm)
  have e2 := hX'.uniq hX.nf e
  subst e2
  have hl := hX'.len
  have hx := hX.len
  simp at hl hx
  exact ⟨W, i, ⟨hW.self, by omega⟩, hi, hX'⟩
theorem left_step (hC : IsC c) {n : Nat} {W X : List Nat} (h : Elt c n W) (hn : n ≤ 29) {i : Nat} (hi : i < c.length) (hpos : 0 < (imgL c W).getD i 0) (hX : NfOf c (i :: W) X) : X.length = n + 1 := by
  have hA := car_of hC
  have hp : Plays (ent c) c.length (i :: W) (act (ent c) (i :: W) (toV (onesL c.length))) (toV (onesL c.length)) := by
    refine Plays.cons.2 ⟨hi, ?_, ?_⟩
    · have e : toV (imgL c W) i = act (ent c) W (toV (onesL c.length)) i := by unfold imgL; rw [toV_image hC h.nf.lt (by have := h.len; omega)]
      have e2 : toV (imgL c W) i = (imgL c W).getD i 0 := rfl
      simp only [Game.act, Game.s, hA.two i hi]
      omega
    · simp only [Game.act]
      rw [s_s hA hi]
      exact h.nf.plays
  have := (Plays.unique hA (ones_dom _) hp hX.plays).1
  simp [h.len] at this
  exact this
theorem left_back (hC : IsC c) {n : Nat} {X : List Nat} (hX : Elt c (n + 1) X) (hn : n ≤ 29) : ∃ W i, Elt c n W ∧ i < c.length ∧ 0 < (imgL c W).getD i 0 ∧ imgL c X = refl c i (imgL c W) := by
  have hA := car_of hC
  match X, hX with
  | [], hX => have := hX.len; simp at this
  | i :: P, hX =>
    have hlt := hX.nf.lt
    have hP : ∀ j ∈ P, j < c.length := fun j hj => hlt j (by simp [hj])
    have hi : i < c.length := hlt i (by simp)
    have hPl : P.length = n := by have := hX.len; simpa using this
    have hp := hX.nf.plays
    obtain ⟨_, hneg, hp2⟩ := Plays.cons.1 hp
    simp only [Game.act] at hneg hp2
    rw [s_s hA hi] at hp2
    obtain ⟨W, hW⟩ := nf_of hC hP (by omega)
    have hu := (Plays.unique hA (ones_dom _) hp2 hW.plays).1
    refine ⟨W, i, ⟨hW.self, by omega⟩, hi, ?_, ?_⟩
    · have e : toV (imgL c P) i = act (ent c) P (toV (onesL c.length)) i := by unfold imgL; rw [toV_image hC hP (by omega)]
      have e2 : imgL c W = imgL c P := hW.img
      have e3 : toV (imgL c P) i = (imgL c P).getD i 0 := rfl
      simp only [Game.s, hA.two i hi] at hneg
      rw [e2]
      omega
    · rw [imgL_cons]; exact congrArg (refl c i) (show imgL c P = imgL c W from hW.img.symm)
theorem lexCmp_anti : ∀ (a b : List Int), lexCmp b a = - lexCmp a b
  | [], [] => rfl
  | [], _ :: _ => rfl
  | _ :: _, [] => rfl
  | x :: a, y :: b => by
    simp only [lexCmp]
    by_cases h1 : x < y
    · rw [if_pos h1, if_neg (by omega), if_pos h1]; rfl
    · by_cases h2 : y < x
      · rw [if_pos h2, if_neg h1, if_pos h2]
      · rw [if_neg h2, if_neg h1, if_neg h1, if_neg h2]; exact lexCmp_anti a b
theorem lexCmp_trans : ∀ (a b d : List Int), a.length = b.length → b.length = d.length → lexCmp a b < 0 → lexCmp b d < 0 → lexCmp a d < 0
  | [], [], _, _, _, h, _ => by simp [lexCmp] at h
  | x :: a, y :: b, [], _, h, _, _ => by simp at h
  | x :: a, y :: b, z :: d, hl, hl', h1, h2 => by
    have ih := lexCmp_trans a b d (by simpa using hl) (by simpa using hl')
    simp only [lexCmp] at *
    split at h1 <;> split at h2 <;> (try split at h1) <;> (try split at h2) <;> (try split) <;> (try split) <;> first | omega | (exact ih h1 h2)
theorem wordCmp_self (a : List Int) : wordCmp a a = 0 := by have := wordCmp_eq a a; simpa using this
theorem wordCmp_zero {a b : List Int} (h : wordCmp a b = 0) : a = b := by
  have h2 := wordCmp_eq a b
  rw [h] at h2
  simpa using h2
theorem wordCmp_anti (a b : List Int) : wordCmp b a = - wordCmp a b := by
  unfold wordCmp
  by_cases h1 : a.length < b.length
  · rw [if_pos h1, if_neg (by omega), if_pos h1]; rfl
  · by_cases h2 : b.length < a.length
    · rw [if_pos h2, if_neg h1, if_pos h2]
    · rw [if_neg h2, if_neg h1, if_neg h1, if_neg h2]; exact lexCmp_anti a b
theorem wordCmp_trans {a b d : List Int} (h1 : wordCmp a b < 0) (h2 : wordCmp b d < 0) : wordCmp a d < 0 := by
  have h3 := lexCmp_trans a b d
  unfold wordCmp at *
  split at h1
  · split at h2
    · rw [if_pos (by omega)]; omega
    · split at h2
      · omega
      · rw [if_pos (by omega)]; omega
  · split at h1
    · omega
    · split at h2
      · rw [if_pos (by omega)]; omega
      · split at h2
        · omega
        · rw [if_neg (by omega), if_neg (by omega)]; exact h3 (by omega) (by omega) h1 h2
/-- strictly ascending -/
def Asc (L : List (List Int)) : Prop := L.Pairwise fun a b => wordCmp a b < 0
theorem Asc.nodup {L : List (List Int)} (h : Asc L) : L.Nodup := by
  refine List.Pairwise.imp ?_ h
  intro a b hab e
  subst e
  rw [wordCmp_self] at hab
  omega
theorem Asc.uniq : ∀ {L M : List (List Int)}, Asc L → Asc M → (∀ x, x ∈ L ↔ x ∈ M) → L = M
  | [], [], _, _, _ => rfl
  | [], y :: M, _, _, h => by have := (h y).2 (by simp); simp at this
  | x :: L, [], _, _, h => by have := (h x).1 (by simp); simp at this
  | x :: L, y :: M, hL, hM, h => by
    have hL' := List.pairwise_cons.1 hL
    have hM' := List.pairwise_cons.1 hM
    have e : x = y := by
      rcases List.mem_cons.1 ((h x).1 (by simp)) with e | e
      · exact e
      · rcases List.mem_cons.1 ((h y).2 (by simp)) with e2 | e2
        · exact e2.symm
        · have h1 := hM'.1 x e
          have h2 := hL'.1 y e2
          have := wordCmp_anti x y
          omega
    subst e
    refine congrArg (x :: ·) (Asc.uniq hL'.2 hM'.2 fun z => ?_)
    have hx : x ∉ L := fun hm => by have := hL'.1 x hm; rw [wordCmp_self] at this; omega
    have hy : x ∉ M := fun hm => by have := hM'.1 x hm; rw [wordCmp_self] at this; omega
    have hz := h z
    simp only [List.mem_cons] at hz
    constructor
    · intro hm
      rcases hz.1 (.inr hm) with e | e
      · subst e; exact absurd hm hx
      · exact e
    · intro hm
      rcases hz.2 (.inr hm) with e | e
      · subst e; exact absurd hm hy
      · exact e
/-- a list that is sorted, and in which nothing stands twice, is strictly ascending -/
theorem asc_of_sorted {L : List (List Int)} (h : L.Pairwise fun a b => ¬ wordCmp b a < 0) (hn : L.Nodup) : Asc L := by
  refine List.Pairwise.imp ?_ (List.Pairwise.and h hn)
  intro a b ⟨h1, h2⟩
  have h3 := wordCmp_anti a b
  rcases Int.lt_trichotomy (wordCmp a b) 0 with h | h | h
  · exact h
  · exact absurd (wordCmp_zero h) h2
  · omega
/-- the reference's insertion -/
def putL : List (List Int) → List Int → List (List Int)
  | [], w => [w]
  | x :: l, w => if w = x then x :: l else if wordCmp w x < 0 then w :: x :: l else x :: putL l w
theorem mem_putL {x : List Int} : ∀ {l : List (List Int)} {w : List Int}, x ∈ putL l w ↔ x = w ∨ x ∈ l
  | [], w => by simp [putL]
  | y :: l, w => by
    simp only [putL]
    split
    · rename_i h; subst h
      constructor
      · intro h; exact .inr h
      · rintro (rfl | h); · simp
        exact h
    · split
      · simp
      · rw [List.mem_cons, mem_putL, List.mem_cons]
        constructor
        · rintro (h | h | h)
          · exact .inr (.inl h)
          · exact .inl h
          · exact .inr (.inr h)
        · rintro (h | h | h)
          · exact .inr (.inl h)
          · exact .inl h
          · exact .inr (.inr h)
theorem putL_asc : ∀ {l : List (List Int)} {w : List Int}, Asc l → Asc (putL l w)
  | [], w, _ => by simp [putL, Asc]
  | y :: l, w, h => by
    have h' := List.pairwise_cons.1 h
    simp only [putL]
    split
    · exact h
    · rename_i hne
      split
      · rename_i hlt
        refine List.pairwise_cons.2 ⟨fun z hz => ?_, h⟩
        rcases List.mem_cons.1 hz with e | e
        · subst e; exact hlt
        · exact wordCmp_trans hlt (h'.1 z e)
      · rename_i hge
        refine List.pairwise_cons.2 ⟨fun z hz => ?_, putL_asc h'.2⟩
        rcases mem_putL.1 hz with e | e
        · subst e
          have := wordCmp_anti z y
          have h0 : wordCmp z y ≠ 0 := fun e0 => hne (wordCmp_zero e0)
          omega
        · exact h'.1 z e
/-- the normal form, as a list of integers -/
def nfI (c : List (List Int)) (w : List Int) : List Int := (normG c 30 (actW c w (onesL c.length))).getD []
theorem nfI_of {w W : List Nat} (h : NfOf c w W) : nfI c (intsOf w) = intsOf W := by unfold nfI; rw [h.norm]; rfl
def stepL (c : List (List Int)) (n : Nat) (W : List Int) (nx : List (List Int)) (i : Nat) : List (List Int) :=
  if (nfI c (W ++ [(i : Int)])).length = n ∧ nfI c (W ++ [(i : Int)]) ∉ nx then putL nx (nfI c (W ++ [(i : Int)])) else nx
def rowTo (c : List (List Int)) (n : Nat) (W : List Int) (nx : List (List Int)) (k : Nat) : List (List Int) := (List.range k).foldl (stepL c n W) nx
def nextTo (c : List (List Int)) (n : Nat) (prev : List (List Int)) (k : Nat) : List (List Int) := (prev.take k).foldl (fun nx W => rowTo c n W nx c.length) []
def levS (c : List (List Int)) : Nat → List (List Int)
  | 0 => [[]]
  | n + 1 => nextTo c (n + 1) (levS c n) (levS c n).length
theorem rowTo_succ (c : List (List Int)) (n : Nat) (W : List Int) (nx : List (List Int)) (k : Nat) : rowTo c n W nx (k + 1) = stepL c n W (rowTo c n W nx k) k := by
  unfold rowTo; rw [List.range_succ, List.foldl_append]; rfl
theorem nextTo_succ (c : List (List Int)) (n : Nat) (prev : List (List Int)) (k : Nat) (hk : k < prev.length) : nextTo c n prev (k + 1) = rowTo c n (prev.getD k []) (nextTo c n prev k) c.length := by
  unfold nextTo
  rw [List.take_succ_eq_append_getElem hk, List.foldl_append]
  simp [List.getD, hk]
theorem stepL_asc {n : Nat} {W : List Int} {nx : List (List Int)} {i : Nat} (h : Asc nx) : Asc (stepL c n W nx i) := by
  unfold stepL; split
  · exact putL_asc h
  · exact h
theorem mem_stepL {x W : List Int} {n : Nat} {nx : List (List Int)} {i : Nat} : x ∈ stepL c n W nx i ↔ x ∈ nx ∨ (x = nfI c (W ++ [(i : Int)]) ∧ x.length = n) := by
  unfold stepL; split
  · rename_i h
    rw [mem_putL]
    constructor
    · rintro (e | e)
      · exact .inr ⟨e, by rw [e]; exact h.1⟩
      · exact .inl e
    · rintro (e | ⟨e, -⟩)
      · exact .inr e
      · exact .inl e
  · rename_i h
    constructor
    · exact .inl
    · rintro (e | ⟨e, hl⟩)
      · exact e
      · subst e
        exact Classical.byContradiction fun hm => h ⟨hl, hm⟩
theorem rowTo_asc {n : Nat} {W : List Int} {nx : List (List Int)} (h : Asc nx) : ∀ k, Asc (rowTo c n W nx k)
  | 0 => h
  | k + 1 => by rw [rowTo_succ]; exact stepL_asc (rowTo_asc h k)
theorem mem_rowTo {x W : List Int} {n : Nat} {nx : List (List Int)} : ∀ k, x ∈ rowTo c n W nx k ↔ x ∈ nx ∨ ∃ i, i < k ∧ x = nfI c (W ++ [(i : Int)]) ∧ x.length = n
  | 0 => by simp [rowTo]
  | k + 1 => by
    rw [rowTo_succ, mem_stepL, mem_rowTo k]
    constructor
    · rintro ((h | ⟨i, h1, h2⟩) | h)
      · exact .inl h
      · exact .inr ⟨i, by omega, h2⟩
      · exact .inr ⟨k, by omega, h⟩
    · rintro (h | ⟨i, h1, h2⟩)
      · exact .inl (.inl h)
      · by_cases e : i = k
        · subst e; exact .inr h2
        · exact .inl (.inr ⟨i, by omega, h2⟩)
theorem nextTo_asc {n : Nat} {prev : List (List Int)} : ∀ k, k ≤ prev.length → Asc (nextTo c n prev k)
  | 0, _ => by simp [nextTo, Asc]
  | k + 1, hk => by rw [nextTo_succ _ _ _ _ (by omega)]; exact rowTo_asc (nextTo_asc k (by omega)) _
theorem mem_nextTo {x : List Int} {n : Nat} {prev : List (List Int)} : ∀ k, k ≤ prev.length → (x ∈ nextTo c n prev k ↔ ∃ t, t < k ∧ ∃ i, i < c.length ∧ x = nfI c (prev.getD t [] ++ [(i : Int)]) ∧ x.length = n)
  | 0, _ => by simp [nextTo]
  | k + 1, hk => by
    rw [nextTo_succ _ _ _ _ (by omega), mem_rowTo, mem_nextTo k (by omega)]
    constructor
    · rintro (⟨t, h1, h2⟩ | h)
      · exact ⟨t, by omega, h2⟩
      · exact ⟨k, by omega, h⟩
    · rintro ⟨t, h1, h2⟩
      by_cases e : t = k
      · subst e; exact .inr h2
      · exact .inl ⟨t, by omega, h2⟩
/-- the elements of one length, in order -/
def Lev (c : List (List Int)) (n : Nat) (L : List (List Int)) : Prop := Asc L ∧ ∀ x, x ∈ L ↔ ∃ W, Elt c n W ∧ x = intsOf W
theorem Lev.uniq {n : Nat} {L M : List (List Int)} (h : Lev c n L) (h' : Lev c n M) : L = M := Asc.uniq h.1 h'.1 fun x => (h.2 x).trans (h'.2 x).symm
theorem levS_ok (hC : IsC c) : ∀ n, n ≤ 29 → Lev c n (levS c n)
  | 0, _ => by
    refine ⟨by simp [levS, Asc], fun x => ?_⟩
    constructor
    · intro h
      have e : x = [] := by simpa [levS] using h
      exact ⟨[], Elt.zero hC, by rw [e]; rfl⟩
    · rintro ⟨W, hW, rfl⟩
      have h1 : W = [] := List.length_eq_zero_iff.1 hW.len
      subst h1
      simp [levS, intsOf]
  | n + 1, hn => by
    have ih := levS_ok hC n (by omega)
    refine ⟨nextTo_asc _ (Nat.le_refl _), fun x => ?_⟩
    show x ∈ nextTo c (n + 1) (levS c n) (levS c n).length ↔ _
    rw [mem_nextTo _ (Nat.le_refl _)]
    constructor
    · rintro ⟨t, ht, i, hi, hx, hl⟩
      obtain ⟨W, hW, hWe⟩ := (ih.2 ((levS c n).getD t [])).1 (by simp [List.getD, ht])
      have hlt : ∀ j ∈ W ++ [i], j < c.length := by
        intro j hj
        rcases List.mem_append.1 hj with h | h
        · exact hW.nf.lt j h
        · simp at h; subst h; exact hi
      obtain ⟨X, hX⟩ := nf_of hC hlt (by have := hW.len; simp; omega)
      have e : nfI c ((levS c n).getD t [] ++ [(i : Int)]) = intsOf X := by rw [hWe, ← nfI_of hX, intsOf_append]; rfl
      rw [e] at hx
      subst hx
      exact ⟨X, ⟨hX.self, by simpa [intsOf] using hl⟩, rfl⟩
    · rintro ⟨X, hX, rfl⟩
      obtain ⟨W, i, hW, hi, hnf⟩ := right_back hC hX (by omega)
      obtain ⟨t, ht, hte⟩ := List.mem_iff_getElem.1 ((ih.2 (intsOf W)).2 ⟨W, hW, rfl⟩)
      refine ⟨t, ht, i, hi, ?_, by simp [intsOf, hX.len]⟩
      have e : (levS c n).getD t [] = intsOf W := by simp [List.getD, ht, hte]
      rw [e, ← nfI_of hnf, intsOf_append]; rfl
/-- the images of the elements of one length, in whatever order -/
def Shell (c : List (List Int)) (n : Nat) (V : List (List Int)) : Prop := V.Nodup ∧ ∀ v, v ∈ V ↔ ∃ W, Elt c n W ∧ v = imgL c W
def addV (c : List (List Int)) (x : List Int) (nx : List (List Int)) (i : Nat) : List (List Int) := if x.getD i 0 < 0 then nx else if refl c i x ∈ nx then nx else nx ++ [refl c i x]
def addTo (c : List (List Int)) (x : List Int) (nx : List (List Int)) (k : Nat) : List (List Int) := (List.range k).foldl (addV c x) nx
def shTo (c : List (List Int)) (sh : List (List Int)) (k : Nat) : List (List Int) := (sh.take k).foldl (fun nx x => addTo c x nx c.length) []
theorem addTo_succ (c : List (List Int)) (x : List Int) (nx : List (List Int)) (k : Nat) : addTo c x nx (k + 1) = addV c x (addTo c x nx k) k := by
  unfold addTo; rw [List.range_succ, List.foldl_append]; rfl
theorem shTo_succ (c : List (List Int)) (sh : List (List Int)) (k : Nat) (hk : k < sh.length) : shTo c sh (k + 1) = addTo c (sh.getD k []) (shTo c sh k) c.length := by
  unfold shTo
  rw [List.take_succ_eq_append_getElem hk, List.foldl_append]
  simp [List.getD, hk]
theorem addV_nodup {x : List Int} {nx : List (List Int)} {i : Nat} (h : nx.Nodup) : (addV c x nx i).Nodup := by
  unfold addV; split
  · exact h
  · split
    · exact h
    · rename_i hm
      rw [List.nodup_append]
      exact ⟨h, by simp, fun a ha b hb => by simp at hb; subst hb; intro e; subst e; exact hm ha⟩
theorem mem_addV {x v : List Int} {nx : List (List Int)} {i : Nat} : v ∈ addV c x nx i ↔ v ∈ nx ∨ (0 ≤ x.getD i 0 ∧ v = refl c i x) := by
  unfold addV; split
  · rename_i h
    constructor
    · exact .inl
    · rintro (e | e)
      · exact e
      · omega
  · rename_i h
    split
    · rename_i hm
      constructor
      · exact .inl
      · rintro (e | ⟨-, e⟩)
        · exact e
        · rw [e]; exact hm
    · rw [List.mem_append, List.mem_singleton]
      constructor
      · rintro (e | e)
        · exact .inl e
        · exact .inr ⟨by omega, e⟩
      · rintro (e | e)
        · exact .inl e
        · exact .inr e.2
theorem addTo_nodup {x : List Int} {nx : List (List Int)} (h : nx.Nodup) : ∀ k, (addTo c x nx k).Nodup
  | 0 => h
  | k + 1 => by rw [addTo_succ]; exact addV_nodup (addTo_nodup h k)
theorem mem_addTo {x v : List Int} {nx : List (List Int)} : ∀ k, v ∈ addTo c x nx k ↔ v ∈ nx ∨ ∃ i, i < k ∧ 0 ≤ x.getD i 0 ∧ v = refl c i x
  | 0 => by simp [addTo]
  | k + 1 => by
    rw [addTo_succ, mem_addV, mem_addTo k]
    constructor
    · rintro ((h | ⟨i, h1, h2⟩) | h)
      · exact .inl h
      · exact .inr ⟨i, by omega, h2⟩
      · exact .inr ⟨k, by omega, h⟩
    · rintro (h | ⟨i, h1, h2⟩)
      · exact .inl (.inl h)
      · by_cases e : i = k
        · subst e; exact .inr h2
        · exact .inl (.inr ⟨i, by omega, h2⟩)
theorem shTo_nodup {sh : List (List Int)} : ∀ k, k ≤ sh.length → (shTo c sh k).Nodup
  | 0, _ => by simp [shTo]
  | k + 1, hk => by rw [shTo_succ _ _ _ (by omega)]; exact addTo_nodup (shTo_nodup k (by omega)) _
theorem mem_shTo {v : List Int} {sh : List (List Int)} : ∀ k, k ≤ sh.length → (v ∈ shTo c sh k ↔ ∃ t, t < k ∧ ∃ i, i < c.length ∧ 0 ≤ (sh.getD t []).getD i 0 ∧ v = refl c i (sh.getD t []))
  | 0, _ => by simp [shTo]
  | k + 1, hk => by
    rw [shTo_succ _ _ _ (by omega), mem_addTo, mem_shTo k (by omega)]
    constructor
    · rintro (⟨t, h1, h2⟩ | h)
      · exact ⟨t, by omega, h2⟩
      · exact ⟨k, by omega, h⟩
    · rintro ⟨t, h1, h2⟩
      by_cases e : t = k
      · subst e; exact .inr h2
      · exact .inl ⟨t, by omega, h2⟩
theorem Shell.zero (hC : IsC c) : Shell c 0 [onesL c.length] := by
  refine ⟨by simp, fun v => ?_⟩
  constructor
  · intro h
    have e : v = onesL c.length := by simpa using h
    exact ⟨[], Elt.zero hC, by rw [e]; rfl⟩
  · rintro ⟨W, hW, rfl⟩
    have h1 : W = [] := List.length_eq_zero_iff.1 hW.len
    subst h1
    simp [imgL, intsOf, actW]
theorem Shell.next (hC : IsC c) {n : Nat} {sh : List (List Int)} (h : Shell c n sh) (hn : n ≤ 29) : Shell c (n + 1) (shTo c sh sh.length) := by
  refine ⟨shTo_nodup _ (Nat.le_refl _), fun v => ?_⟩
  rw [mem_shTo _ (Nat.le_refl _)]
  constructor
  · rintro ⟨t, ht, i, hi, h0, rfl⟩
    obtain ⟨W, hW, e⟩ := (h.2 (sh.getD t [])).1 (by simp [List.getD, ht])
    rw [e] at h0 ⊢
    have hne := hW.ne hi
    have hlt : ∀ j ∈ i :: W, j < c.length := by
      intro j hj
      rcases List.mem_cons.1 hj with h | h
      · subst h; exact hi
      · exact hW.nf.lt j h
    obtain ⟨X, hX⟩ := nf_of hC hlt (by have := hW.len; simp; omega)
    exact ⟨X, ⟨hX.self, left_step hC hW hn hi (by omega) hX⟩, by rw [← imgL_cons]; exact hX.img.symm⟩
  · rintro ⟨X, hX, rfl⟩
    obtain ⟨W, i, hW, hi, hpos, e⟩ := left_back hC hX hn
    obtain ⟨t, ht, hte⟩ := List.mem_iff_getElem.1 ((h.2 (imgL c W)).2 ⟨W, hW, rfl⟩)
    have e2 : sh.getD t [] = imgL c W := by simp [List.getD, ht, hte]
    exact ⟨t, ht, i, hi, by rw [e2]; omega, by rw [e2]; exact e⟩
/-- the normal form that an image tells -/
def nfV (c : List (List Int)) (v : List Int) : List Int := (normG c 30 v).getD []
theorem nfV_img {n : Nat} {W : List Nat} (h : Elt c n W) : normG c 30 (imgL c W) = some (intsOf W) ∧ nfV c (imgL c W) = intsOf W := by
  refine ⟨h.nf.norm, ?_⟩
  unfold nfV; unfold imgL; rw [h.nf.norm]; rfl
theorem Shell.words (hC : IsC c) {n : Nat} {V : List (List Int)} (h : Shell c n V) {S : List (List Int)} (hp : S.Perm (V.map (nfV c))) (hs : S.Pairwise fun a b => ¬ wordCmp b a < 0) (hn : n ≤ 29) : S = levS c n := by
  have hinj : ∀ v ∈ V, ∀ u ∈ V, nfV c v = nfV c u → v = u := by
    intro v hv u hu e
    obtain ⟨W, hW, rfl⟩ := (h.2 v).1 hv
    obtain ⟨U, hU, rfl⟩ := (h.2 u).1 hu
    rw [(nfV_img hW).2, (nfV_img hU).2] at e
    rw [intsOf_inj e]
  have hnd : (V.map (nfV c)).Nodup := by
    have hV := h.1
    unfold List.Nodup at hV ⊢
    rw [List.pairwise_map]
    refine List.Pairwise.imp_of_mem ?_ hV
    intro a b ha hb hab e
    exact hab (hinj a ha b hb e)
  have hasc : Asc S := asc_of_sorted hs (hp.nodup_iff.2 hnd)
  refine Lev.uniq (n := n) ⟨hasc, fun x => ?_⟩ (levS_ok hC n hn)
  rw [hp.mem_iff, List.mem_map]
  constructor
  · rintro ⟨v, hv, rfl⟩
    obtain ⟨W, hW, rfl⟩ := (h.2 v).1 hv
    exact ⟨W, hW, (nfV_img hW).2⟩
  · rintro ⟨W, hW, rfl⟩
    exact ⟨imgL c W, (h.2 _).2 ⟨W, hW, rfl⟩, (nfV_img hW).2⟩
theorem Shell.len (hC : IsC c) {n : Nat} {V : List (List Int)} (h : Shell c n V) (hn : n ≤ 29) : V.length = (levS c n).length := by
  have hL := levS_ok hC n hn
  have e : ∀ x, x ∈ V.map (nfV c) ↔ x ∈ levS c n := by
    intro x
    rw [List.mem_map, hL.2]
    constructor
    · rintro ⟨v, hv, rfl⟩
      obtain ⟨W, hW, rfl⟩ := (h.2 v).1 hv
      exact ⟨W, hW, (nfV_img hW).2⟩
    · rintro ⟨W, hW, rfl⟩
      exact ⟨imgL c W, (h.2 _).2 ⟨W, hW, rfl⟩, (nfV_img hW).2⟩
  have hinj : ∀ v ∈ V, ∀ u ∈ V, nfV c v = nfV c u → v = u := by
    intro v hv u hu e
    obtain ⟨W, hW, rfl⟩ := (h.2 v).1 hv
    obtain ⟨U, hU, rfl⟩ := (h.2 u).1 hu
    rw [(nfV_img hW).2, (nfV_img hU).2] at e
    rw [intsOf_inj e]
  have hnd : (V.map (nfV c)).Nodup := by
    have hV := h.1
    unfold List.Nodup at hV ⊢
    rw [List.pairwise_map]
    refine List.Pairwise.imp_of_mem ?_ hV
    intro a b ha hb hab e
    exact hab (hinj a ha b hb e)
  have hp := (List.perm_ext_iff_of_nodup hnd hL.1.nodup).2 e
  have := hp.length_eq
  simpa using this
end Game
end Go.Proofs.YtdedkfbiookofaaGreatDoor
