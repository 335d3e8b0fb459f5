/- What shows that a matrix is not of finite type. Plain law. Claims: what is made is accepted, what is accepted is true. Plain law. The search for all reduced words: what it holds. Plain law. -/
import Derived.Test.YtkjglfafphffiaaGreatT20
import Derived.Test.YtkjglfafphffiaaGreatT25
import Derived.Test.YtkjglfafphffiaaGreatT32
import Derived.Test.YtkjglfafphffiaaGreatT35
import Derived.Test.YtkjglfafphffiaaGreatT34
import Derived.Test.YtkjglfafphffiaaGreatT33
namespace Go.Proofs.YtkjglfafphffiaaGreat
set_option maxRecDepth 100000
open Go.RowKit
theorem sets_fit : ∀ n, n < 5 → ∀ m, m < 16 → m < 2 ^ n → takeB n (setL m) = true := by decide +kernel
theorem setL_some : ∀ m, m < 16 → 1 ≤ m → setL m ≠ [] := by decide +kernel
theorem witFrom_get {c : List (List Int)} : ∀ (f k : Nat), witFrom c k f = [] ∨ ∃ q, k ≤ q ∧ q < k + f ∧ minorAt c q ≤ 0 ∧ witFrom c k f = setL q
  | 0, k => .inl rfl
  | f + 1, k => by
    unfold witFrom
    split
    · exact .inr ⟨k, Nat.le_refl _, by omega, by assumption, rfl⟩
    · rcases witFrom_get f (k + 1) with e | ⟨q, a1, a2, a3, a4⟩
      · exact .inl e
      · exact .inr ⟨q, by omega, by omega, a3, a4⟩
theorem wit_made {c : List (List Int)} (hC : IsC c) (h : finB c = false) : setBB c (witness c) = true ∧ det (witness c).length (pickL c (witness c)) ≤ 0 := by
  unfold finB at h
  rw [decide_eq_true hC, Bool.true_and] at h
  have h4 := hC.2.1
  have hp : 2 ^ c.length ≤ 16 := pow_le16 h4
  have hw : witness c = witFrom c 1 (2 ^ c.length - 1) := if_pos hC
  rcases witFrom_get (c := c) (2 ^ c.length - 1) 1 with e | ⟨q, a1, a2, a3, a4⟩
  · rw [hw, e] at h; cases h
  · rw [hw, a4]
    refine ⟨?_, a3⟩
    unfold setBB
    rw [sets_fit c.length (by omega) q (by omega) (by omega), Bool.true_and]
    have := setL_some q (by omega) a1
    cases he : setL q with
    | nil => exact absurd he this
    | cons x l => simp
end Go.Proofs.YtkjglfafphffiaaGreat
namespace Go.Proofs.YtkjglfafphffiaaGreat
set_option maxRecDepth 100000
open Go.RowKit Game
theorem seqA_ok {c : List (List Int)} {a : List Int} (h : isWordB c a = true) : seqA c a = seqL c a := if_pos h
theorem red_made {c : List (List Int)} {a : List Int} (hw : isWordB c a = true) (h : redW c a = true) : redB c a (seqA c a) = true := by
  unfold redB
  rw [seqA_ok hw, red_diff h]
  simp
theorem path_red {c : List (List Int)} {a b : List Int} (h : (pathA c a b).isSome = true) : redW c a = true ∧ redW c b = true ∧ bpR c a b = some ((pathA c a b).getD []) := by
  unfold pathA at h ⊢
  by_cases ha : redW c a = true
  · by_cases hb : redW c b = true
    · rw [if_pos ha, if_pos hb] at h ⊢
      obtain ⟨p, hp⟩ := Option.isSome_iff_exists.1 h
      exact ⟨ha, hb, by rw [hp]; rfl⟩
    · rw [if_pos ha, if_neg hb] at h; cases h
  · rw [if_neg ha] at h; cases h
theorem eq_made {c : List (List Int)} {a b : List Int} (hw : isWordB c a = true) (h : (pathA c a b).isSome = true) : eqB c a b ((pathA c a b).getD []) = true := by
  have h1 := bpR_led (path_red h).2.2
  unfold eqB
  rw [applyB_true hw, h1]
  simp
theorem take_asc {n : Nat} {ps : List Int} (h1 : ∀ p ∈ ps, 0 ≤ p ∧ p < (n : Int)) (h2 : ps.Pairwise (· < ·)) : takeB n ps = true := takeB_yes fun k hk => by
  have e : ps.getD k 0 = ps[k] := by simp [List.getD, hk]
  refine ⟨by rw [e]; exact (h1 _ (List.getElem_mem hk)).1, by rw [e]; exact (h1 _ (List.getElem_mem hk)).2, fun h0 => ?_⟩
  have hk1 : k - 1 < ps.length := by omega
  have e1 : ps.getD (k - 1) 0 = ps[k - 1] := by simp [List.getD, hk1]
  rw [e, e1]
  exact List.pairwise_iff_getElem.1 h2 (k - 1) k hk1 hk (by omega)
theorem below_made {c : List (List Int)} {a b : List Int} (hA : WordOk c a) (hB : WordOk c b) (h : bruB c a b = true) : belowB c a b (subL c a b) = true := by
  have hU := nw_nf hA
  have hV := nw_nf hB
  have h0 : subU c (nfI c b) (nfI c a) = [] := of_decide_eq_true h
  have h1 := subP_img (nfI c b) 0 (nfI c a) hU hV.lets h0
  obtain ⟨h2, h3⟩ := subP_asc (c := c) (nfI c b) 0 (nfI c a)
  unfold belowB subL
  rw [take_asc (fun p hp => by have := h2 p hp; omega) h3, Bool.true_and]
  refine decide_eq_true ?_
  have e : takeL (nfI c b) (subP c (nfI c b) 0 (nfI c a)) = (subP c (nfI c b) 0 (nfI c a)).map fun p => (nfI c b).getD (p.toNat - 0) 0 := rfl
  rw [e, h1]
  exact (nfI_ok (hA.lets.mono (by decide))).img
theorem not_made {c : List (List Int)} {a b : List Int} (hA : WordOk c a) (hB : WordOk c b) (h : bruB c a b = false) : notB c a b (dropL c (nfI c b) (nfI c a)) = true :=
  nb_made _ _ (nw_nf hB) (nw_nf hA) (of_decide_eq_false h)
/-- every claim that is made is accepted -/
theorem made_fine {kd : Int} {c : List (List Int)} {a b : List Int} (h : okM kd c a b = true) : checkL (makeC kd c a b) = true := by
  unfold makeC
  rw [if_pos h]
  unfold okM at h
  rw [Bool.and_eq_true, Bool.and_eq_true] at h
  obtain ⟨⟨wa, wb⟩, hk⟩ := h
  have hA := wordOk_of wa
  have hB := wordOk_of wb
  show ((isWordB c a && isWordB c b) && kindB kd c a b (proofC kd c a b) (rootsC kd c a)) = true
  rw [wa, wb, Bool.true_and, Bool.true_and]
  unfold okC at hk
  unfold kindB proofC rootsC
  by_cases k1 : kd = 1
  · subst k1; exact red_made wa hk
  rw [if_neg k1] at hk ⊢
  by_cases k2 : kd = 2
  · subst k2; exact eq_made wa hk
  rw [if_neg k2] at hk ⊢
  by_cases k3 : kd = 3
  · subst k3
    have hk : bruB c a b = true := hk
    have := below_made hA hB hk
    simpa [hk] using this
  rw [if_neg k3] at hk ⊢
  by_cases k4 : kd = 4
  · subst k4
    have hk : (!bruB c a b) = true := hk
    exact not_made hA hB (by simpa using hk)
  rw [if_neg k4] at hk ⊢
  by_cases k5 : kd = 5
  · subst k5
    have hk : (!finB c) = true := hk
    obtain ⟨h1, h2⟩ := wit_made hA.isC (by simpa using hk)
    show infB c (witness c) = true
    unfold infB
    rw [h1, decide_eq_true h2]; rfl
  rw [if_neg k5] at hk ⊢
  by_cases k6 : kd = 6
  · subst k6; exact hk
  rw [if_neg k6] at hk
  cases hk
end Go.Proofs.YtkjglfafphffiaaGreat
namespace Go.Proofs.YtkjglfafphffiaaGreat
set_option maxRecDepth 100000
open Go.RowKit Game
theorem nodup_len {α : Type} [DecidableEq α] : ∀ {L M : List α}, L.Nodup → (∀ x ∈ L, x ∈ M) → L.length ≤ M.length
  | [], M, _, _ => Nat.zero_le _
  | x :: L, M, hL, h => by
    obtain ⟨h1, h2⟩ := List.nodup_cons.1 hL
    have hx := h x (by simp)
    have h3 := nodup_len (L := L) (M := M.erase x) h2 fun y hy => by
      have hne : y ≠ x := fun e => h1 (e ▸ hy)
      exact (List.mem_erase_of_ne hne).2 (h y (List.mem_cons_of_mem _ hy))
    rw [List.length_erase_of_mem hx] at h3
    have : 0 < M.length := List.length_pos_of_mem hx
    rw [List.length_cons]
    omega
/-- what the search holds -/
structure RwOk (c : List (List Int)) (U : List Int) (Q : List (List Int)) : Prop where
  nodup : Q.Nodup
  red : ∀ y ∈ Q, RedOf c U y
  start : U ∈ Q
/-- the first k words are searched -/
def RwDone (c : List (List Int)) (Q : List (List Int)) (k : Nat) : Prop := ∀ j, j < k → ∀ a ∈ placesL c (Q.getD j []), (braidA c (Q.getD j []) a).getD (Q.getD j []) ∈ Q
/-- the first s places of a word are searched -/
def RwRow (c : List (List Int)) (Q : List (List Int)) (v : List Int) (s : Nat) : Prop := ∀ t, t < s → (braidA c v ((placesL c v).getD t 0)).getD v ∈ Q
theorem RwOk.one {c : List (List Int)} {U : List Int} (h : Nw c U) : RwOk c U [U] :=
  ⟨by simp, fun y hy => by rw [List.mem_singleton] at hy; subst hy; exact ⟨h.lets.word, h.self, rfl⟩, by simp⟩
theorem RwOk.new {c : List (List Int)} {U y : List Int} {Q : List (List Int)} (h : RwOk c U Q) (hy : RedOf c U y) (hn : y ∉ Q) : RwOk c U (Q ++ [y]) :=
  ⟨List.nodup_append.2 ⟨h.nodup, by simp, fun a ha b hb => by rw [List.mem_singleton] at hb; subst hb; intro e; exact hn (e ▸ ha)⟩,
   fun z hz => by
    rcases List.mem_append.1 hz with g | g
    · exact h.red z g
    · rw [List.mem_singleton] at g; subst g; exact hy,
   List.mem_append_left _ h.start⟩
theorem RwDone.new {c : List (List Int)} {Q : List (List Int)} {k : Nat} (h : RwDone c Q k) (hk : k ≤ Q.length) (y : List Int) : RwDone c (Q ++ [y]) k := fun j hj a ha => by
  have e : (Q ++ [y]).getD j [] = Q.getD j [] := by simp only [List.getD]; rw [List.getElem?_append_left (show j < Q.length by omega)]
  rw [e] at ha ⊢
  exact List.mem_append_left _ (h j hj a ha)
theorem RwRow.new {c : List (List Int)} {Q : List (List Int)} {v : List Int} {s : Nat} (h : RwRow c Q v s) (y : List Int) : RwRow c (Q ++ [y]) v s := fun t ht => List.mem_append_left _ (h t ht)
theorem RwRow.next {c : List (List Int)} {Q : List (List Int)} {v : List Int} {s : Nat} (h : RwRow c Q v s) (hm : (braidA c v ((placesL c v).getD s 0)).getD v ∈ Q) : RwRow c Q v (s + 1) := fun t ht => by
  by_cases e : t = s
  · subst e; exact hm
  · exact h t (by omega)
theorem RwDone.next {c : List (List Int)} {Q : List (List Int)} {k : Nat} (h : RwDone c Q k) (hr : RwRow c Q (Q.getD k []) (placesL c (Q.getD k [])).length) : RwDone c Q (k + 1) := fun j hj a ha => by
  by_cases e : j = k
  · subst e
    obtain ⟨t, ht, rfl⟩ := List.mem_iff_getElem.1 ha
    have := hr t ht
    have e : (placesL c (Q.getD j [])).getD t 0 = (placesL c (Q.getD j []))[t] := by
      generalize placesL c (Q.getD j []) = P at *
      simp [List.getD, ht]
    rw [e] at this
    exact this
  · exact h j (by omega) a ha
theorem placesL_yes {c : List (List Int)} {v : List Int} {k : Nat} (hk : k < v.length) (h : (braidA c v (k : Int)).isSome = true) : (k : Int) ∈ placesL c v := by
  unfold placesL placesTo
  exact List.mem_map.2 ⟨k, List.mem_filter.2 ⟨List.mem_range.2 hk, h⟩, rfl⟩
/-- the whole element is found -/
theorem RwOk.all {c : List (List Int)} {U : List Int} {Q : List (List Int)} (h : RwOk c U Q) (hd : RwDone c Q Q.length) (y : List Int) : y ∈ Q ↔ RedOf c U y := by
  refine ⟨h.red y, fun hy => ?_⟩
  have h0 : RedOf c U U := h.red U h.start
  refine h0.joined hy (· ∈ Q) h.start fun a b k ha hk hb => ?_
  obtain ⟨j, hj, rfl⟩ := List.mem_iff_getElem.1 ha
  have e : Q.getD j [] = Q[j] := by simp [List.getD, hj]
  have := hd j hj (k : Int) (by rw [e]; exact placesL_yes hk (by rw [hb]; rfl))
  rw [e, hb] at this
  exact this
/-- all reduced words of an element -/
def wordsL (c : List (List Int)) (U : List Int) : List (List Int) := allW c 15 (imI c U)
theorem mem_wordsL {c : List (List Int)} {U : List Int} (hU : Nw c U) (y : List Int) : y ∈ wordsL c U ↔ RedOf c U y := mem_allW 15 U hU hU.lets.few y
theorem wordsL_asc {c : List (List Int)} {U : List Int} (hU : Nw c U) : Asc (wordsL c U) := allW_asc 15 U hU hU.lets.few
theorem RwOk.full {c : List (List Int)} {U : List Int} {Q : List (List Int)} (h : RwOk c U Q) (hU : Nw c U) (hd : RwDone c Q Q.length) : (wordsL c U).length = Q.length := by
  have h1 := nodup_len (wordsL_asc hU).nodup fun y hy => (h.all hd y).2 ((mem_wordsL hU y).1 hy)
  have h2 := nodup_len h.nodup fun y hy => (mem_wordsL hU y).2 (h.red y hy)
  omega
theorem RwOk.over {c : List (List Int)} {U y : List Int} {Q : List (List Int)} (h : RwOk c U Q) (hU : Nw c U) (hy : RedOf c U y) (hn : y ∉ Q) : Q.length < (wordsL c U).length := by
  have h2 := nodup_len (h.new hy hn).nodup fun z hz => (mem_wordsL hU z).2 ((h.new hy hn).red z hz)
  rw [List.length_append, List.length_singleton] at h2
  omega
/-- put in order -/
def putAll (Q : List (List Int)) (k : Nat) : List (List Int) := (Q.take k).foldl putL []
theorem putAll_succ {Q : List (List Int)} {k : Nat} (hk : k < Q.length) : putAll Q (k + 1) = putL (putAll Q k) (Q.getD k []) := by
  unfold putAll
  rw [List.take_succ_eq_append_getElem hk, List.foldl_append]
  simp [List.getD, hk]
theorem putAll_asc (Q : List (List Int)) : ∀ k, k ≤ Q.length → Asc (putAll Q k) ∧ ∀ x, x ∈ putAll Q k ↔ x ∈ Q.take k
  | 0, _ => ⟨List.Pairwise.nil, fun x => by simp [putAll]⟩
  | k + 1, hk => by
    obtain ⟨h1, h2⟩ := putAll_asc Q k (by omega)
    rw [putAll_succ (by omega)]
    refine ⟨putL_asc h1, fun x => ?_⟩
    rw [mem_putL, h2, List.take_succ_eq_append_getElem (by omega), List.mem_append, List.mem_singleton]
    have e : Q.getD k [] = Q[k] := by simp [List.getD, show k < Q.length by omega]
    rw [e]
    exact or_comm
theorem putAll_len (Q : List (List Int)) : ∀ k, k ≤ Q.length → (putAll Q k).length ≤ k
  | 0, _ => by simp [putAll]
  | k + 1, hk => by
    rw [putAll_succ (by omega)]
    have h := putAll_len Q k (by omega)
    have : ∀ (l : List (List Int)) (w : List Int), (putL l w).length ≤ l.length + 1 := fun l w => by
      induction l with
      | nil => simp [putL]
      | cons x l ih =>
        simp only [putL]
        split
        · simp
        · split
          · simp
          · simp only [List.length_cons]; omega
    have := this (putAll Q k) (Q.getD k [])
    omega
theorem RwOk.put {c : List (List Int)} {U : List Int} {Q : List (List Int)} (h : RwOk c U Q) (hU : Nw c U) (hd : RwDone c Q Q.length) : putAll Q Q.length = wordsL c U := by
  obtain ⟨h1, h2⟩ := putAll_asc Q Q.length (Nat.le_refl _)
  refine Asc.uniq h1 (wordsL_asc hU) fun x => ?_
  rw [h2, List.take_length, h.all hd, mem_wordsL hU]
/-- what ReducedWords gives -/
def rwL (c : List (List Int)) (w : List Int) : List (List Int) := if isWordB c w = true then (if (wordsL c (nfI c w)).length ≤ 120 then wordsL c (nfI c w) else []) else []
def rwB (c : List (List Int)) (w : List Int) : Bool := isWordB c w && decide ((wordsL c (nfI c w)).length ≤ 120)
end Go.Proofs.YtkjglfafphffiaaGreat
