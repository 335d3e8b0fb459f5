/- The elements of a finite group, in order; the reference's search for them. Plain law. Counting lengths. Plain law. (Split off Sph.) Elements of any group of at most 200 elements, or none; how many there are of each length. Plain law. Where a list stands first in a list of lists. Plain law. -/
import Derived.Test.YtobeigdjhepedaaGreatDoorG25
import Derived.Test.YtobeigdjhepedaaGreatDoorG29
import Derived.Test.YtobeigdjhepedaaGreatDoorG21
namespace Go.Proofs.YtobeigdjhepedaaGreatDoor
set_option maxRecDepth 100000
open Go.RowKit Game
set_option linter.unusedSimpArgs false

theorem in30_of {V : List (List Int)} (h : in30 V = true) {v : List Int} (hv : v ∈ V) (i : Nat) : -30 ≤ v.getD i 0 ∧ v.getD i 0 ≤ 30 := by
  unfold in30 at h
  have h1 := List.all_eq_true.1 h v hv
  by_cases hi : i < v.length
  · have h2 := List.all_eq_true.1 h1 v[i] (List.getElem_mem _)
    rw [Bool.and_eq_true] at h2
    have h3 := of_decide_eq_true h2.1
    have h4 := of_decide_eq_true h2.2
    simp [List.getD, hi]; omega
  · simp [List.getD, Nat.not_lt.1 hi]
theorem shN_ok {c : List (List Int)} (hC : IsC c) : ∀ (f n t r : Nat) (sh : List (List Int)), Shell c n sh → n + f ≤ 29 → t + (levS c n).length = tot c n → shN c f sh t = r → r ≠ 0 →
    ∃ m, n ≤ m ∧ m < n + f ∧ levS c m = [] ∧ (∀ k, n ≤ k → k < m → levS c k ≠ []) ∧ tot c m = r ∧ ∀ k W, n ≤ k → k < m → Elt c k W → ∀ i, -30 ≤ (imgL c W).getD i 0 ∧ (imgL c W).getD i 0 ≤ 30
  | 0, _, _, _, _, _, _, _, hr, h0 => absurd hr.symm h0
  | f + 1, n, t, r, [], hS, hf, ht, hr, h0 => by
    have hl := hS.len hC (by omega)
    have hz : levS c n = [] := List.length_eq_zero_iff.1 hl.symm
    rw [hz] at ht
    have hr' : t = r := hr
    exact ⟨n, Nat.le_refl _, by omega, hz, fun k h1 h2 => by omega, by rw [← ht, ← hr']; rfl, fun k W h1 h2 => by omega⟩
  | f + 1, n, t, r, x :: s, hS, hf, ht, hr, h0 => by
    have hl := hS.len hC (by omega)
    have hr' : (if in30 (x :: s) = true then shN c f (shTo c (x :: s) (x :: s).length) (t + (x :: s).length) else 0) = r := hr
    by_cases h30 : in30 (x :: s) = true
    · rw [if_pos h30] at hr'
      have hnx := hS.next hC (by omega)
      obtain ⟨m, h1, h2, h3, h4, h5, h6⟩ := shN_ok hC f (n + 1) (t + (x :: s).length) r _ hnx (by omega) (by rw [hl, ht]; rfl) hr' h0
      refine ⟨m, by omega, by omega, h3, fun k k1 k2 => ?_, h5, fun k W k1 k2 hW => ?_⟩
      · by_cases e : k = n
        · subst e
          intro e2
          rw [e2] at hl
          simp at hl
        · exact h4 k (by omega) k2
      · by_cases e : k = n
        · subst e
          exact in30_of h30 ((hS.2 _).2 ⟨W, hW, rfl⟩)
        · exact h6 k W (by omega) k2 hW
    · rw [if_neg h30] at hr'
      exact absurd hr'.symm h0

/-- all elements' normal forms, in order -/
def elemL (c : List (List Int)) : List (List Int) := (levsTo c (depthG c 60 0)).flatten
theorem lev_stop {c : List (List Int)} {m : Nat} (h : levS c m = []) : ∀ k, levS c (m + k) = []
  | 0 => h
  | k + 1 => by
    have ih := lev_stop h k
    show nextTo c (m + k + 1) (levS c (m + k)) (levS c (m + k)).length = []
    rw [ih]; rfl
theorem tot_mono (c : List (List Int)) (n : Nat) : ∀ k, tot c n ≤ tot c (n + k)
  | 0 => Nat.le_refl _
  | k + 1 => by have := tot_mono c n k; show _ ≤ tot c (n + k) + _; omega
theorem depth_at {c : List (List Int)} {m : Nat} (hz : levS c m = []) (hne : ∀ k, k < m → levS c k ≠ []) (ht : tot c m ≤ 200) : ∀ f n, n < m → m - 1 - n ≤ f → depthG c f n + 1 = m
  | 0, n, h1, h2 => by show n + 1 = m; omega
  | f + 1, n, h1, h2 => by
    simp only [depthG]
    by_cases e : n + 1 = m
    · rw [if_pos (.inl (by rw [e]; exact hz))]; exact e
    · have hm := tot_mono c (n + 1) (m - (n + 1))
      rw [show n + 1 + (m - (n + 1)) = m by omega] at hm
      rw [if_neg (by intro h; rcases h with h | h; · exact hne (n + 1) (by omega) h
                     omega)]
      exact depth_at hz hne ht f (n + 1) (by omega) (by omega)
theorem flat_asc {c : List (List Int)} (hC : IsC c) : ∀ m, m ≤ 29 → Asc (levsTo c m).flatten ∧ ∀ x ∈ (levsTo c m).flatten, x.length ≤ m
  | 0, _ => by
    have e : (levsTo c 0).flatten = [[]] := rfl
    rw [e]
    exact ⟨by simp [Asc], by simp⟩
  | m + 1, hm => by
    obtain ⟨h1, h2⟩ := flat_asc hC m (by omega)
    have h3 := levS_ok hC (m + 1) hm
    have hl : ∀ x ∈ levS c (m + 1), x.length = m + 1 := fun x hx => by
      obtain ⟨W, hW, rfl⟩ := (h3.2 x).1 hx
      rw [intsOf_length]; exact hW.len
    rw [levs_flat_succ]
    refine ⟨List.pairwise_append.2 ⟨h1, h3.1, fun a ha b hb => ?_⟩, fun x hx => ?_⟩
    · have e1 := h2 a ha
      have e2 := hl b hb
      unfold wordCmp
      rw [if_pos (by omega)]; omega
    · rcases List.mem_append.1 hx with h | h
      · have := h2 x h; omega
      · have := hl x h; omega
theorem mem_flat {c : List (List Int)} {x : List Int} : ∀ m, x ∈ (levsTo c m).flatten ↔ ∃ k, k ≤ m ∧ x ∈ levS c k
  | 0 => by
    have e : (levsTo c 0).flatten = levS c 0 := by simp [levsTo]
    rw [e]
    refine ⟨fun h => ⟨0, Nat.le_refl _, h⟩, ?_⟩
    rintro ⟨k, h1, h2⟩
    obtain rfl : k = 0 := by omega
    exact h2
  | m + 1 => by
    rw [levs_flat_succ, List.mem_append, mem_flat m]
    constructor
    · rintro (⟨k, h1, h2⟩ | h)
      · exact ⟨k, by omega, h2⟩
      · exact ⟨m + 1, Nat.le_refl _, h⟩
    · rintro ⟨k, h1, h2⟩
      by_cases e : k = m + 1
      · subst e; exact .inr h2
      · exact .inl ⟨k, by omega, h2⟩
/-- a finite group of at most 200 elements -/
structure Grp (c : List (List Int)) : Prop where
  hC : IsC c
  fin : finB c = true
  mem : ∀ x, x ∈ elemL c ↔ ∃ n W, Elt c n W ∧ x = intsOf W
  asc : Asc (elemL c)
  len : ((elemL c).length : Int) = szO c
  few : (elemL c).length ≤ 200
  whole : ballOk c 60 = true
  short : szO c ≤ 48 → ∀ n W, Elt c n W → n ≤ 9
  bd : ∀ n W, Elt c n W → ∀ i, -30 ≤ (imgL c W).getD i 0 ∧ (imgL c W).getD i 0 ≤ 30
theorem grp_of {c : List (List Int)} (hf : finB c = true) (hz : szB c = true) (h200 : szO c ≤ 200) : Grp c := by
  have hC := fin_isC hf
  have hs : szO c = prodT (nameL c) := if_pos hf
  unfold szB szC at hz
  rw [← hs, Bool.and_eq_true, Bool.or_eq_true] at hz
  obtain ⟨hz1, hz2⟩ := hz
  have hz1 := of_decide_eq_true hz1
  have hz2 : (shN c (if szO c ≤ 48 then 11 else 28) [onesL c.length] 0 : Int) = szO c := by
    rcases hz2 with h | h
    · have := of_decide_eq_true h; omega
    · exact of_decide_eq_true h
  have hF : (if szO c ≤ 48 then 11 else 28) ≤ 28 ∧ (szO c ≤ 48 → (if szO c ≤ 48 then 11 else 28) = 11) := by
    refine ⟨by split <;> omega, fun h => by rw [if_pos h]⟩
  generalize (if szO c ≤ 48 then 11 else 28) = F at *
  obtain ⟨m, -, hm, hm0, hne, htot, hbd⟩ := shN_ok hC F 0 0 (shN c F [onesL c.length] 0) _ (Shell.zero hC) (by omega) (by simp [levS, tot]) rfl (by omega)
  have hm1 : 0 < m := by
    rcases Nat.eq_zero_or_pos m with h | h
    · rw [h] at hm0; simp [levS] at hm0
    · exact h
  have htl : (tot c m : Int) = szO c := by rw [htot]; exact hz2
  have hd := depth_at hm0 (fun k hk => hne k (Nat.zero_le _) hk) (by omega) 60 0 hm1 (by omega)
  have hE : ∀ n W, Elt c n W → n < m := fun n W hW => by
    have h24 := elt24 hC hf hW
    have hin := ((levS_ok hC n (by omega)).2 (intsOf W)).2 ⟨W, hW, rfl⟩
    rcases Nat.lt_or_ge n m with h | h
    · exact h
    · have := lev_stop hm0 (n - m)
      rw [show m + (n - m) = n by omega] at this
      rw [this] at hin
      simp at hin
  have hlen : (elemL c).length = tot c m := by
    unfold elemL
    rw [tot_flat]
    have e : tot c m = tot c (depthG c 60 0) + (levS c (depthG c 60 0 + 1)).length := by rw [← hd]; rfl
    rw [e, hd, hm0]; rfl
  refine ⟨hC, hf, fun x => ?_, (flat_asc hC _ (by omega)).1, by rw [hlen]; exact htl, by omega, ?_, fun h48 n W hW => by have := hE n W hW; have := hF.2 h48; omega, fun n W hW => hbd n W (Nat.zero_le _) (hE n W hW) hW⟩
  · unfold elemL
    rw [mem_flat]
    constructor
    · rintro ⟨k, hk, hx⟩
      obtain ⟨W, hW, rfl⟩ := ((levS_ok hC k (by omega)).2 x).1 hx
      exact ⟨k, W, hW, rfl⟩
    · rintro ⟨n, W, hW, rfl⟩
      have := hE n W hW
      exact ⟨n, by omega, ((levS_ok hC n (by omega)).2 _).2 ⟨W, hW, rfl⟩⟩
  · unfold ballOk
    exact decide_eq_true (.inr (by rw [hd]; exact hm0))

/-! ### the reference's search -/
def reach (c : List (List Int)) (Q : List (List Int)) (j t : Nat) : Prop :=
  (Q.getD j []).length < (nfI c (Q.getD j [] ++ [(t : Int)])).length → nfI c (Q.getD j [] ++ [(t : Int)]) ∈ Q
structure AllSt (c : List (List Int)) (Q : List (List Int)) (k i : Nat) : Prop where
  asc : Asc Q
  mem : ∀ x ∈ Q, ∃ n W, Elt c n W ∧ x = intsOf W
  nil : [] ∈ Q
  done : ∀ j, j < k → ∀ t, t < c.length → reach c Q j t
  row : ∀ t, t < i → reach c Q k t
theorem AllSt.start {c : List (List Int)} (hC : IsC c) : AllSt c [[]] 0 0 :=
  ⟨by simp [Asc], fun x hx => ⟨0, [], Elt.zero hC, by simp at hx; rw [hx]; rfl⟩, by simp, fun j hj => by omega, fun t ht => by omega⟩
theorem AllSt.skip {c Q : List (List Int)} {k i : Nat} (h : AllSt c Q k i) (hr : reach c Q k i) : AllSt c Q k (i + 1) :=
  ⟨h.asc, h.mem, h.nil, h.done, fun t ht => by
    by_cases e : t = i
    · subst e; exact hr
    · exact h.row t (by omega)⟩
theorem AllSt.next {c Q : List (List Int)} {k : Nat} (h : AllSt c Q k c.length) : AllSt c Q (k + 1) 0 :=
  ⟨h.asc, h.mem, h.nil, fun j hj => by
    by_cases e : j = k
    · subst e; exact h.row
    · exact h.done j (by omega), fun t ht => by omega⟩
theorem putL_keep {x : List Int} : ∀ {Q : List (List Int)} {k : Nat}, Asc Q → k < Q.length → wordCmp (Q.getD k []) x < 0 → ∀ j, j ≤ k → (putL Q x).getD j [] = Q.getD j []
  | [], k, _, hk, _, _, _ => by simp at hk
  | y :: Q, k, hA, hk, hx, j, hj => by
    have hA' := List.pairwise_cons.1 hA
    have hy : wordCmp y x < 0 := by
      match k, hk, hx with
      | 0, _, hx => exact hx
      | k + 1, hk, hx =>
        have hk' : k < Q.length := by simpa using hk
        have h1 := hA'.1 (Q.getD k []) (by simp [List.getD, hk'])
        exact wordCmp_trans h1 hx
    have han := wordCmp_anti y x
    have hne : ¬ x = y := by rintro rfl; rw [wordCmp_self] at hy; omega
    simp only [putL]
    rw [if_neg hne, if_neg (by omega)]
    match j, k, hj, hk, hx with
    | 0, _, _, _, _ => rfl
    | j + 1, k + 1, hj, hk, hx => exact putL_keep hA'.2 (by simpa using hk) hx j (by omega)
theorem putL_len : ∀ (l : List (List Int)) (w : List Int), l.length ≤ (putL l w).length
  | [], w => by simp
  | x :: l, w => by
    have ih := putL_len l w
    simp only [putL]
    split
    · exact Nat.le_refl _
    · split
      · simp
      · simp; omega
theorem word_push {c : List (List Int)} (hC : IsC c) (hf : finB c = true) {n : Nat} {W : List Nat} (hW : Elt c n W) {i : Nat} (hi : i < c.length) :
    ∃ X, NfOf c (W ++ [i]) X ∧ nfI c (intsOf W ++ [(i : Int)]) = intsOf X ∧ Elt c X.length X ∧ X.length ≤ n + 1 := by
  have h24 := elt24 hC hf hW
  have hlt : ∀ j ∈ W ++ [i], j < c.length := by
    intro j hj
    rcases List.mem_append.1 hj with h | h
    · exact hW.nf.lt j h
    · simp at h; subst h; exact hi
  obtain ⟨X, hX⟩ := nf_of hC hlt (by have := hW.len; simp; omega)
  have e : intsOf W ++ [(i : Int)] = intsOf (W ++ [i]) := by rw [intsOf_append]; rfl
  exact ⟨X, hX, by rw [e, nfI_of hX], ⟨hX.self, rfl⟩, by have := hX.len; have := hW.len; simp at *; omega⟩
theorem AllSt.add {c Q : List (List Int)} {k i : Nat} (h : AllSt c Q k i) (hG : Grp c) (hk : k < Q.length) (hi : i < c.length) (hl : (Q.getD k []).length < (nfI c (Q.getD k [] ++ [(i : Int)])).length) :
    AllSt c (putL Q (nfI c (Q.getD k [] ++ [(i : Int)]))) k (i + 1) := by
  obtain ⟨n, W, hW, hWe⟩ := h.mem (Q.getD k []) (by simp [List.getD, hk])
  obtain ⟨X, hX, hXe, hEX, -⟩ := word_push hG.hC hG.fin hW hi
  have hcmp : wordCmp (Q.getD k []) (nfI c (Q.getD k [] ++ [(i : Int)])) < 0 := by unfold wordCmp; rw [if_pos hl]; omega
  have hkeep := putL_keep h.asc hk hcmp
  have hmono : ∀ j t, j ≤ k → reach c Q j t → reach c (putL Q (nfI c (Q.getD k [] ++ [(i : Int)]))) j t := fun j t hj hr hlt => by
    rw [hkeep j hj] at hlt ⊢
    exact mem_putL.2 (.inr (hr hlt))
  refine ⟨putL_asc h.asc, fun x hx => ?_, mem_putL.2 (.inr h.nil), fun j hj t ht => hmono j t (by omega) (h.done j hj t ht), fun t ht => ?_⟩
  · rcases mem_putL.1 hx with e | e
    · exact ⟨_, X, hEX, by rw [e, hWe]; exact hXe⟩
    · exact h.mem x e
  · by_cases e : t = i
    · subst e
      intro _
      rw [hkeep k (Nat.le_refl _)]
      exact mem_putL.2 (.inl rfl)
    · exact hmono k t (Nat.le_refl _) (h.row t (by omega))
theorem AllSt.sub {c Q : List (List Int)} {k i : Nat} (h : AllSt c Q k i) (hG : Grp c) : Q.length ≤ 200 := by
  have := nodup_le h.asc.nodup hG.asc.nodup (fun x hx => (hG.mem x).2 (h.mem x hx))
  have := hG.few
  omega
theorem AllSt.all {c Q : List (List Int)} (h : AllSt c Q Q.length 0) (hG : Grp c) : Q = elemL c := by
  have key : ∀ n W, Elt c n W → intsOf W ∈ Q := by
    intro n
    induction n with
    | zero =>
      intro W hW
      have e : W = [] := List.length_eq_zero_iff.1 hW.len
      rw [e]; exact h.nil
    | succ n ih =>
      intro X hX
      have h24 := elt24 hG.hC hG.fin hX
      obtain ⟨W, i, hW, hi, hnf⟩ := right_back hG.hC hX (by omega)
      obtain ⟨j, hj, hje⟩ := List.mem_iff_getElem.1 (ih W hW)
      have e : Q.getD j [] = intsOf W := by simp [List.getD, hj, hje]
      have e2 : nfI c (intsOf W ++ [(i : Int)]) = intsOf X := by
        have e3 : intsOf W ++ [(i : Int)] = intsOf (W ++ [i]) := by rw [intsOf_append]; rfl
        rw [e3, nfI_of hnf]
      have hd := h.done j hj i hi
      unfold reach at hd
      rw [e, e2, intsOf_length, intsOf_length, hW.len, hX.len] at hd
      exact hd (by omega)
  refine Asc.uniq h.asc hG.asc fun x => ?_
  rw [hG.mem]
  exact ⟨h.mem x, fun ⟨n, W, hW, e⟩ => by rw [e]; exact key n W hW⟩
end Go.Proofs.YtobeigdjhepedaaGreatDoor
namespace Go.Proofs.YtobeigdjhepedaaGreatDoor
set_option maxRecDepth 100000
open Go.RowKit Game

def padTo (out : List Int) (k : Nat) : List Int := out ++ List.replicate (k + 1 - out.length) 0
def bump (out : List Int) (k : Nat) : List Int := (padTo out k).set k ((padTo out k).getD k 0 + 1)
def cntTo (L : List (List Int)) (j : Nat) : List Int := (L.take j).foldl (fun o w => bump o w.length) []
theorem cntTo_succ {L : List (List Int)} {j : Nat} (hj : j < L.length) : cntTo L (j + 1) = bump (cntTo L j) (L.getD j []).length := by
  unfold cntTo
  rw [List.take_succ_eq_append_getElem hj, List.foldl_append]
  simp [List.getD, hj]
theorem padTo_length (out : List Int) (k : Nat) : k < (padTo out k).length := by simp [padTo]; omega
theorem bump_length (out : List Int) (k : Nat) : (bump out k).length = max out.length (k + 1) := by simp [bump, padTo]; omega
theorem bump_last (out : List Int) (i : Int) : bump (out ++ [i]) out.length = out ++ [i + 1] := by
  have e : padTo (out ++ [i]) out.length = out ++ [i] := by simp [padTo]
  unfold bump
  rw [e]
  simp [List.getD]
theorem bump_new (out : List Int) : bump out out.length = out ++ [1] := by
  have e : padTo out out.length = out ++ [0] := by simp [padTo]
  unfold bump
  rw [e]
  simp [List.getD]
theorem fold_bump (out : List Int) : ∀ (l : List (List Int)) (i : Int), (∀ x ∈ l, x.length = out.length) → l.foldl (fun o w => bump o w.length) (out ++ [i]) = out ++ [i + l.length]
  | [], i, _ => by simp
  | x :: l, i, h => by
    rw [List.foldl_cons, h x (by simp), bump_last, fold_bump out l (i + 1) (fun y hy => h y (by simp [hy]))]
    simp; omega
theorem fold_level (out : List Int) (l : List (List Int)) (hl : l ≠ []) (h : ∀ x ∈ l, x.length = out.length) : l.foldl (fun o w => bump o w.length) out = out ++ [(l.length : Int)] := by
  cases l with
  | nil => exact absurd rfl hl
  | cons x l =>
    rw [List.foldl_cons, h x (by simp), bump_new, fold_bump out l 1 (fun y hy => h y (by simp [hy]))]
    simp; omega
theorem lev_len {c : List (List Int)} (hC : IsC c) {n : Nat} (hn : n ≤ 29) : ∀ x ∈ levS c n, x.length = n := by
  intro x hx
  obtain ⟨W, hW, rfl⟩ := ((levS_ok hC n hn).2 x).1 hx
  rw [intsOf_length]; exact hW.len
theorem depth_ne {c : List (List Int)} : ∀ (f n : Nat), levS c n ≠ [] → ∀ k, n ≤ k → k ≤ depthG c f n → levS c k ≠ []
  | 0, n, h, k, h1, h2 => by
    have : depthG c 0 n = n := rfl
    have e : k = n := by omega
    rw [e]; exact h
  | f + 1, n, h, k, h1, h2 => by
    simp only [depthG] at h2
    split at h2
    · have e : k = n := by omega
      rw [e]; exact h
    · rename_i hz
      by_cases e : k = n
      · rw [e]; exact h
      · exact depth_ne f (n + 1) (fun e => hz (.inl e)) k (by omega) h2
theorem depth_le (c : List (List Int)) : ∀ (f n : Nat), depthG c f n ≤ n + f
  | 0, n => by simp [depthG]
  | f + 1, n => by
    simp only [depthG]; split
    · omega
    · have := depth_le c f (n + 1); omega
theorem depth_tot {c : List (List Int)} : ∀ (f n : Nat), tot c n ≤ 200 → tot c (depthG c f n) ≤ 200
  | 0, n, h => h
  | f + 1, n, h => by
    simp only [depthG]; split
    · exact h
    · rename_i hz
      exact depth_tot f (n + 1) (by omega)
theorem cnt_levels {c : List (List Int)} (hC : IsC c) : ∀ m, m ≤ 29 → (∀ k, k ≤ m → levS c k ≠ []) → (levsTo c m).flatten.foldl (fun o w => bump o w.length) [] = (levsTo c m).map (fun l => (l.length : Int))
  | 0, _, _ => by simp [levsTo, levS]; exact bump_new []
  | m + 1, hm, h => by
    rw [levs_flat_succ, List.foldl_append, cnt_levels hC m (by omega) (fun k hk => h k (by omega)), levsTo_succ, List.map_append]
    refine fold_level _ _ (h (m + 1) (Nat.le_refl _)) ?_
    intro x hx
    rw [lev_len hC hm x hx, List.length_map, levsTo_length]

theorem bump_bound (out : List Int) (k : Nat) (M : Int) (h : ∀ j, j < out.length → 0 ≤ out.getD j 0 ∧ out.getD j 0 ≤ M) (hM : 0 ≤ M) : ∀ j, j < (bump out k).length → 0 ≤ (bump out k).getD j 0 ∧ (bump out k).getD j 0 ≤ M + 1 := by
  have hp : ∀ j, j < (padTo out k).length → 0 ≤ (padTo out k).getD j 0 ∧ (padTo out k).getD j 0 ≤ M := by
    intro j hj
    unfold padTo at *
    by_cases e : j < out.length
    · have := h j e
      simp only [List.getD, List.getElem?_append_left e]
      exact this
    · simp only [List.getD, List.getElem?_append_right (show out.length ≤ j by omega)]
      simp at hj
      simp [List.getElem?_replicate]
      split <;> simp <;> omega
  intro j hj
  unfold bump at *
  rw [List.length_set] at hj
  by_cases e : k = j
  · subst e
    have := hp k hj
    simp [List.getD, hj] at this ⊢; omega
  · have := hp j hj
    simp only [List.getD, List.getElem?_set_ne e]
    simp only [List.getD] at this; omega
theorem cntTo_bound (L : List (List Int)) : ∀ j, j ≤ L.length → ∀ i, i < (cntTo L j).length → 0 ≤ (cntTo L j).getD i 0 ∧ (cntTo L j).getD i 0 ≤ j
  | 0, _ => by simp [cntTo]
  | j + 1, hj => by
    rw [cntTo_succ (by omega)]
    intro i hi
    have := bump_bound (cntTo L j) (L.getD j []).length j (cntTo_bound L j (by omega)) (by omega) i hi
    omega
theorem cntTo_len (L : List (List Int)) (m : Nat) (h : ∀ x ∈ L, x.length ≤ m) : ∀ j, j ≤ L.length → (cntTo L j).length ≤ m + 1
  | 0, _ => by simp [cntTo]
  | j + 1, hj => by
    rw [cntTo_succ (by omega), bump_length]
    have h1 := cntTo_len L m h j (by omega)
    have h2 := h (L.getD j []) (by simp [List.getD, show j < L.length by omega])
    omega

end Go.Proofs.YtobeigdjhepedaaGreatDoor
namespace Go.Proofs.YtobeigdjhepedaaGreatDoor
set_option maxRecDepth 100000
open Go.RowKit Game

theorem sizeA_fin {c : List (List Int)} (hf : finB c = true) : szB c = true := (Bool.and_eq_true_iff.1 (szK_fin (fin_isC hf) hf)).2
theorem sizeA_pos {c : List (List Int)} (hf : finB c = true) : 1 ≤ szO c := by
  have h := sizeA_fin hf
  have hs : szO c = prodT (nameL c) := if_pos hf
  unfold szB szC at h
  rw [hs]
  exact of_decide_eq_true (Bool.and_eq_true_iff.1 h).1
/-- a finite group of at most 200 elements -/
def grpB (c : List (List Int)) : Bool := finB c && decide (szO c ≤ 200)
def elA (c : List (List Int)) : List (List Int) := if grpB c = true then elemL c else []
theorem grpB_fin {c : List (List Int)} (h : grpB c = true) : finB c = true := (Bool.and_eq_true_iff.1 h).1
theorem grp_B {c : List (List Int)} (h : grpB c = true) : Grp c := grp_of (grpB_fin h) (sizeA_fin (grpB_fin h)) (of_decide_eq_true (Bool.and_eq_true_iff.1 h).2)
theorem grp_iff (c : List (List Int)) : grpB c = true ↔ 1 ≤ szO c ∧ szO c ≤ 200 := by
  constructor
  · intro h; exact ⟨sizeA_pos (grpB_fin h), of_decide_eq_true (Bool.and_eq_true_iff.1 h).2⟩
  · intro ⟨h1, h2⟩
    have hf : finB c = true := by
      by_cases hf : finB c = true
      · exact hf
      · have : szO c = 0 := if_neg hf
        omega
    unfold grpB
    rw [hf, decide_eq_true h2]; rfl
theorem elem_len {c : List (List Int)} (hG : Grp c) : ∀ x ∈ elemL c, x.length ≤ 24 := fun x hx => by
  obtain ⟨n, W, hW, rfl⟩ := (hG.mem x).1 hx
  rw [intsOf_length, hW.len]
  exact elt24 hG.hC hG.fin hW
/-- the numbers of elements of each length -/
def lenC (c : List (List Int)) : List Int := if grpB c = true then cntTo (elemL c) (elemL c).length else []
theorem lenC_len (c : List (List Int)) : (lenC c).length ≤ 25 := by
  unfold lenC
  split
  · rename_i h
    exact cntTo_len _ 24 (elem_len (grp_B h)) _ (Nat.le_refl _)
  · simp
/-- the last word is the longest -/
theorem elem_last {c : List (List Int)} (hG : Grp c) : 0 < (elemL c).length ∧ ∀ x ∈ elemL c, x.length ≤ ((elemL c).getD ((elemL c).length - 1) []).length := by
  have h0 : [] ∈ elemL c := (hG.mem []).2 ⟨0, [], Elt.zero hG.hC, rfl⟩
  have hp : 0 < (elemL c).length := List.length_pos_of_mem h0
  refine ⟨hp, fun x hx => ?_⟩
  obtain ⟨k, hk, rfl⟩ := List.mem_iff_getElem.1 hx
  have hl : (elemL c).length - 1 < (elemL c).length := by omega
  have e : (elemL c).getD ((elemL c).length - 1) [] = (elemL c)[(elemL c).length - 1] := by simp [List.getD, hl]
  rw [e]
  by_cases h : k = (elemL c).length - 1
  · simp only [h]; exact Nat.le_refl _
  · have := List.pairwise_iff_getElem.1 hG.asc k ((elemL c).length - 1) hk hl (by omega)
    unfold wordCmp at this
    split at this
    · omega
    · split at this
      · omega
      · omega
def padR (out : List Int) (m : Nat) : List Int := out ++ List.replicate (m - out.length) 0
theorem padR_length {out : List Int} {m : Nat} (h : out.length ≤ m) : (padR out m).length = m := by simp [padR]; omega
theorem padR_getD (out : List Int) (m k : Nat) : (padR out m).getD k 0 = out.getD k 0 := by
  unfold padR
  by_cases h : k < out.length
  · simp [List.getD, List.getElem?_append_left h]
  · simp only [List.getD]
    rw [List.getElem?_append_right (by omega), List.getElem?_eq_none (l := out) (by omega), List.getElem?_replicate]
    split <;> rfl
theorem padTo_getD (out : List Int) (j k : Nat) : (padTo out j).getD k 0 = out.getD k 0 := by
  unfold padTo
  by_cases h : k < out.length
  · simp [List.getD, List.getElem?_append_left h]
  · simp only [List.getD]
    rw [List.getElem?_append_right (by omega), List.getElem?_eq_none (l := out) (by omega), List.getElem?_replicate]
    split <;> rfl
theorem getD_ext {a b : List Int} (hl : a.length = b.length) (h : ∀ k, k < a.length → a.getD k 0 = b.getD k 0) : a = b := by
  apply List.ext_getElem hl
  intro i h1 h2
  have := h i h1
  simpa [List.getD, h1, h2] using this
theorem set_getD (l : List Int) (k : Nat) (x : Int) (j : Nat) (hk : k < l.length) : (l.set k x).getD j 0 = if j = k then x else l.getD j 0 := by
  by_cases e : j = k
  · subst e; simp [List.getD, hk]
  · rw [if_neg e]
    simp only [List.getD]
    rw [List.getElem?_set_ne (Ne.symm e)]
theorem padR_bump {out : List Int} {m k : Nat} (hk : k < m) (ho : out.length ≤ m) : (padR out m).set k (out.getD k 0 + 1) = padR (bump out k) m := by
  have hb : (bump out k).length ≤ m := by rw [bump_length]; omega
  apply getD_ext
  · rw [List.length_set, padR_length ho, padR_length hb]
  · intro j hj
    rw [List.length_set, padR_length ho] at hj
    rw [set_getD _ _ _ _ (by rw [padR_length ho]; exact hk), padR_getD, padR_getD]
    unfold bump
    rw [set_getD _ _ _ _ (padTo_length _ _), padTo_getD, padTo_getD]
theorem padR_self (out : List Int) : padR out out.length = out := by simp [padR]
theorem cnt_full {L : List (List Int)} {D : Nat} (h0 : 0 < L.length) (hD : (L.getD (L.length - 1) []).length = D) (h : ∀ x ∈ L, x.length ≤ D) : (cntTo L L.length).length = D + 1 := by
  have h1 := cntTo_len L D h L.length (Nat.le_refl _)
  have e : L.length = (L.length - 1) + 1 := by omega
  have h2 : cntTo L L.length = bump (cntTo L (L.length - 1)) (L.getD (L.length - 1) []).length := by
    rw [← cntTo_succ (by omega)]
    congr 1
  rw [h2, bump_length, hD]
  have h3 := cntTo_len L D h (L.length - 1) (by omega)
  omega
end Go.Proofs.YtobeigdjhepedaaGreatDoor
namespace Go.Proofs.YtobeigdjhepedaaGreatDoor
set_option maxRecDepth 100000
open Go.RowKit

/-- where a list stands first; -1 where it does not -/
def idxFrom : List (List Int) → List Int → Nat → Int
  | [], _, _ => -1
  | x :: l, v, k => if x = v then (k : Int) else idxFrom l v (k + 1)
def idxL (L : List (List Int)) (v : List Int) : Int := idxFrom L v 0
theorem idxFrom_spec (v : List Int) : ∀ (L : List (List Int)) (k : Nat), (idxFrom L v k = -1 ∧ v ∉ L) ∨ ∃ j, j < L.length ∧ idxFrom L v k = ((k + j : Nat) : Int) ∧ L.getD j [] = v ∧ ∀ i, i < j → L.getD i [] ≠ v
  | [], k => .inl ⟨rfl, by simp⟩
  | x :: L, k => by
    unfold idxFrom
    by_cases h : x = v
    · rw [if_pos h]
      exact .inr ⟨0, by simp, by simp, by simpa using h, fun i hi => absurd hi (by omega)⟩
    · rw [if_neg h]
      rcases idxFrom_spec v L (k + 1) with ⟨h1, h2⟩ | ⟨j, hj, h1, h2, h3⟩
      · exact .inl ⟨h1, by simp [Ne.symm h, h2]⟩
      · refine .inr ⟨j + 1, by simpa using hj, by rw [h1]; congr 1; omega, by simpa using h2, fun i hi => ?_⟩
        cases i with
        | zero => simpa using h
        | succ i => simpa using h3 i (by omega)
section
variable {L : List (List Int)} {v u : List Int} {k : Nat}
theorem idx_found (hk : k < L.length) (h : inTo L v k) (he : L.getD k [] = v) : idxL L v = (k : Int) := by
  rcases idxFrom_spec v L 0 with ⟨-, h2⟩ | ⟨j, hj, h1, h2, h3⟩
  · exact absurd (by rw [← he]; simp [List.getD, hk]) h2
  · have : j = k := by
      rcases Nat.lt_trichotomy j k with g | g | g
      · exact absurd h2 (h j g)
      · exact g
      · exact absurd he (h3 k g)
    subst this
    unfold idxL
    rw [h1, Nat.zero_add]
theorem idx_none (h : inTo L v L.length) : idxL L v = -1 := by
  rcases idxFrom_spec v L 0 with ⟨h1, -⟩ | ⟨j, hj, h1, h2, h3⟩
  · exact h1
  · exact absurd h2 (h j hj)
theorem idx_ge : -1 ≤ idxL L v := by
  rcases idxFrom_spec v L 0 with ⟨h1, -⟩ | ⟨j, hj, h1, h2, h3⟩ <;> unfold idxL <;> omega
theorem idx_lt : idxL L v < (L.length : Int) := by
  rcases idxFrom_spec v L 0 with ⟨h1, -⟩ | ⟨j, hj, h1, h2, h3⟩ <;> unfold idxL <;> omega
theorem idx_nonneg : 0 ≤ idxL L v ↔ v ∈ L := by
  rcases idxFrom_spec v L 0 with ⟨h1, h2⟩ | ⟨j, hj, h1, h2, h3⟩
  · constructor
    · intro h; unfold idxL at h; omega
    · intro h; exact absurd h h2
  · constructor
    · intro _; rw [← h2]; simp [List.getD, hj]
    · intro _; unfold idxL; omega
theorem idx_neg (h : v ∉ L) : idxL L v = -1 := by
  have h1 := idx_ge (L := L) (v := v)
  have h2 := mt (idx_nonneg (L := L) (v := v)).1 h
  omega
theorem idx_get (h : v ∈ L) : L.getD (idxL L v).toNat [] = v := by
  rcases idxFrom_spec v L 0 with ⟨h1, h2⟩ | ⟨j, hj, h1, h2, h3⟩
  · exact absurd h h2
  · unfold idxL; rw [h1]; simpa using h2
theorem idx_at (hn : L.Nodup) (hk : k < L.length) : idxL L (L.getD k []) = (k : Int) := by
  refine idx_found hk (fun j hj e => ?_) rfl
  have hj' : j < L.length := by omega
  have h1 : L[j] = L[k] := by simpa [List.getD, hj', hk] using e
  have := (List.getElem_inj hn).1 h1
  omega
end
end Go.Proofs.YtobeigdjhepedaaGreatDoor
