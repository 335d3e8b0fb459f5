/- The search for all reduced words: what it holds. Plain law. slices.Reverse, ReverseWord: contracts. -/
import Derived.Test.YtjhoimdfmcjkbaaGreatDoorG38
import Derived.Test.YtjhoimdfmcjkbaaGreatDoorBase
namespace Go.Proofs.YtjhoimdfmcjkbaaGreatDoor
set_option maxRecDepth 100000
open Go.RowKit Game

theorem nodup_len {α : Type} [DecidableEq α] : ∀ {L M : List α}, L.Nodup → (∀ x ∈ L, x ∈ M) → L.length ≤ M.length
  | [], M, _, _ => Nat.zero_le _
  | x :: L, M, hL, h => by
    obtain ⟨h1, h2⟩ := List.nodup_cons.1 hL
    have hx := h x (by simp)
    have h3 := nodup_len (L := L) (M := M.erase x) h2 fun y hy => by
      have hne : y ≠ x := fun e => h1 (e ▸ hy)
      exact (List.mem_erase_of_ne hne).2 (h y (List.mem_cons_of_mem _ hy))
    rw [List.length_erase_of_mem hx] at h3
    have : 0 < M.length := List.length_pos_of_mem hx
    rw [List.length_cons]
    omega

/-- what the search holds -/
structure RwOk (c : List (List Int)) (U : List Int) (Q : List (List Int)) : Prop where
  nodup : Q.Nodup
  red : ∀ y ∈ Q, RedOf c U y
  start : U ∈ Q
/-- the first k words are searched -/
def RwDone (c : List (List Int)) (Q : List (List Int)) (k : Nat) : Prop := ∀ j, j < k → ∀ a ∈ placesL c (Q.getD j []), (braidA c (Q.getD j []) a).getD (Q.getD j []) ∈ Q
/-- the first s places of a word are searched -/
def RwRow (c : List (List Int)) (Q : List (List Int)) (v : List Int) (s : Nat) : Prop := ∀ t, t < s → (braidA c v ((placesL c v).getD t 0)).getD v ∈ Q
theorem RwOk.one {c : List (List Int)} {U : List Int} (h : Nw c U) : RwOk c U [U] :=
  ⟨by simp, fun y hy => by rw [List.mem_singleton] at hy; subst hy; exact ⟨h.lets.word, h.self, rfl⟩, by simp⟩
theorem RwOk.new {c : List (List Int)} {U y : List Int} {Q : List (List Int)} (h : RwOk c U Q) (hy : RedOf c U y) (hn : y ∉ Q) : RwOk c U (Q ++ [y]) :=
  ⟨List.nodup_append.2 ⟨h.nodup, by simp, fun a ha b hb => by rw [List.mem_singleton] at hb; subst hb; intro e; exact hn (e ▸ ha)⟩,
   fun z hz => by
    rcases List.mem_append.1 hz with g | g
    · exact h.red z g
    · rw [List.mem_singleton] at g; subst g; exact hy,
   List.mem_append_left _ h.start⟩
theorem RwDone.new {c : List (List Int)} {Q : List (List Int)} {k : Nat} (h : RwDone c Q k) (hk : k ≤ Q.length) (y : List Int) : RwDone c (Q ++ [y]) k := fun j hj a ha => by
  have e : (Q ++ [y]).getD j [] = Q.getD j [] := by simp only [List.getD]; rw [List.getElem?_append_left (show j < Q.length by omega)]
  rw [e] at ha ⊢
  exact List.mem_append_left _ (h j hj a ha)
theorem RwRow.new {c : List (List Int)} {Q : List (List Int)} {v : List Int} {s : Nat} (h : RwRow c Q v s) (y : List Int) : RwRow c (Q ++ [y]) v s := fun t ht => List.mem_append_left _ (h t ht)
theorem RwRow.next {c : List (List Int)} {Q : List (List Int)} {v : List Int} {s : Nat} (h : RwRow c Q v s) (hm : (braidA c v ((placesL c v).getD s 0)).getD v ∈ Q) : RwRow c Q v (s + 1) := fun t ht => by
  by_cases e : t = s
  · subst e; exact hm
  · exact h t (by omega)
theorem RwDone.next {c : List (List Int)} {Q : List (List Int)} {k : Nat} (h : RwDone c Q k) (hr : RwRow c Q (Q.getD k []) (placesL c (Q.getD k [])).length) : RwDone c Q (k + 1) := fun j hj a ha => by
  by_cases e : j = k
  · subst e
    obtain ⟨t, ht, rfl⟩ := List.mem_iff_getElem.1 ha
    have := hr t ht
    have e : (placesL c (Q.getD j [])).getD t 0 = (placesL c (Q.getD j []))[t] := by
      generalize placesL c (Q.getD j []) = P at *
      simp [List.getD, ht]
    rw [e] at this
    exact this
  · exact h j (by omega) a ha
theorem placesL_yes {c : List (List Int)} {v : List Int} {k : Nat} (hk : k < v.length) (h : (braidA c v (k : Int)).isSome = true) : (k : Int) ∈ placesL c v := by
  unfold placesL placesTo
  exact List.mem_map.2 ⟨k, List.mem_filter.2 ⟨List.mem_range.2 hk, h⟩, rfl⟩
/-- the whole element is found -/
theorem RwOk.all {c : List (List Int)} {U : List Int} {Q : List (List Int)} (h : RwOk c U Q) (hd : RwDone c Q Q.length) (y : List Int) : y ∈ Q ↔ RedOf c U y := by
  refine ⟨h.red y, fun hy => ?_⟩
  have h0 : RedOf c U U := h.red U h.start
  refine h0.joined hy (· ∈ Q) h.start fun a b k ha hk hb => ?_
  obtain ⟨j, hj, rfl⟩ := List.mem_iff_getElem.1 ha
  have e : Q.getD j [] = Q[j] := by simp [List.getD, hj]
  have := hd j hj (k : Int) (by rw [e]; exact placesL_yes hk (by rw [hb]; rfl))
  rw [e, hb] at this
  exact this
/-- all reduced words of an element -/
def wordsL (c : List (List Int)) (U : List Int) : List (List Int) := allW c 15 (imI c U)
theorem mem_wordsL {c : List (List Int)} {U : List Int} (hU : Nw c U) (y : List Int) : y ∈ wordsL c U ↔ RedOf c U y := mem_allW 15 U hU hU.lets.few y
theorem wordsL_asc {c : List (List Int)} {U : List Int} (hU : Nw c U) : Asc (wordsL c U) := allW_asc 15 U hU hU.lets.few
theorem RwOk.full {c : List (List Int)} {U : List Int} {Q : List (List Int)} (h : RwOk c U Q) (hU : Nw c U) (hd : RwDone c Q Q.length) : (wordsL c U).length = Q.length := by
  have h1 := nodup_len (wordsL_asc hU).nodup fun y hy => (h.all hd y).2 ((mem_wordsL hU y).1 hy)
  have h2 := nodup_len h.nodup fun y hy => (mem_wordsL hU y).2 (h.red y hy)
  omega
theorem RwOk.over {c : List (List Int)} {U y : List Int} {Q : List (List Int)} (h : RwOk c U Q) (hU : Nw c U) (hy : RedOf c U y) (hn : y ∉ Q) : Q.length < (wordsL c U).length := by
  have h2 := nodup_len (h.new hy hn).nodup fun z hz => (mem_wordsL hU z).2 ((h.new hy hn).red z hz)
  rw [List.length_append, List.length_singleton] at h2
  omega
/-- put in order -/
def putAll (Q : List (List Int)) (k : Nat) : List (List Int) := (Q.take k).foldl putL []
theorem putAll_succ {Q : List (List Int)} {k : Nat} (hk : k < Q.length) : putAll Q (k + 1) = putL (putAll Q k) (Q.getD k []) := by
  unfold putAll
  rw [List.take_succ_eq_append_getElem hk, List.foldl_append]
  simp [List.getD, hk]
theorem putAll_asc (Q : List (List Int)) : ∀ k, k ≤ Q.length → Asc (putAll Q k) ∧ ∀ x, x ∈ putAll Q k ↔ x ∈ Q.take k
  | 0, _ => ⟨List.Pairwise.nil, fun x => by simp [putAll]⟩
  | k + 1, hk => by
    obtain ⟨h1, h2⟩ := putAll_asc Q k (by omega)
    rw [putAll_succ (by omega)]
    refine ⟨putL_asc h1, fun x => ?_⟩
    rw [mem_putL, h2, List.take_succ_eq_append_getElem (by omega), List.mem_append, List.mem_singleton]
    have e : Q.getD k [] = Q[k] := by simp [List.getD, show k < Q.length by omega]
    rw [e]
    exact or_comm
theorem putAll_len (Q : List (List Int)) : ∀ k, k ≤ Q.length → (putAll Q k).length ≤ k
  | 0, _ => by simp [putAll]
  | k + 1, hk => by
    rw [putAll_succ (by omega)]
    have h := putAll_len Q k (by omega)
    have : ∀ (l : List (List Int)) (w : List Int), (putL l w).length ≤ l.length + 1 := fun l w => by
      induction l with
      | nil => simp [putL]
      | cons x l ih =>
        simp only [putL]
        split
        · simp
        · split
          · simp
          · simp only [List.length_cons]; omega
    have := this (putAll Q k) (Q.getD k [])
    omega
theorem RwOk.put {c : List (List Int)} {U : List Int} {Q : List (List Int)} (h : RwOk c U Q) (hU : Nw c U) (hd : RwDone c Q Q.length) : putAll Q Q.length = wordsL c U := by
  obtain ⟨h1, h2⟩ := putAll_asc Q Q.length (Nat.le_refl _)
  refine Asc.uniq h1 (wordsL_asc hU) fun x => ?_
  rw [h2, List.take_length, h.all hd, mem_wordsL hU]
/-- what ReducedWords gives -/
def rwL (c : List (List Int)) (w : List Int) : List (List Int) := if isWordB c w = true then (if (wordsL c (nfI c w)).length ≤ 120 then wordsL c (nfI c w) else []) else []
def rwB (c : List (List Int)) (w : List Int) : Bool := isWordB c w && decide ((wordsL c (nfI c w)).length ≤ 120)
end Go.Proofs.YtjhoimdfmcjkbaaGreatDoor
namespace Go.Proofs.YtjhoimdfmcjkbaaGreatDoor
set_option maxRecDepth 100000
open Go.RowKit

/-- the first k and the last k exchanged -/
def revAt (xs : List Int) (k : Nat) : List Int := (List.range xs.length).map fun t => if t < k ∨ xs.length - k ≤ t then xs.getD (xs.length - 1 - t) 0 else xs.getD t 0
theorem revAt_length (xs : List Int) (k : Nat) : (revAt xs k).length = xs.length := by simp [revAt]
theorem revAt_getD (xs : List Int) (k t : Nat) (ht : t < xs.length) : (revAt xs k).getD t 0 = if t < k ∨ xs.length - k ≤ t then xs.getD (xs.length - 1 - t) 0 else xs.getD t 0 := by
  simp [revAt, List.getD, ht]
theorem revAt_zero (xs : List Int) : revAt xs 0 = xs := by
  apply List.ext_getElem (revAt_length _ _)
  intro t h1 h2
  have := revAt_getD xs 0 t h2
  rw [if_neg (by omega)] at this
  simpa [List.getD, h1, h2] using this
theorem revAt_done (xs : List Int) (k : Nat) (h : xs.length ≤ 2 * k + 1) : revAt xs k = xs.reverse := by
  apply List.ext_getElem (by simp [revAt_length])
  intro t h1 h2
  have ht : t < xs.length := by rw [revAt_length] at h1; exact h1
  have e := revAt_getD xs k t ht
  have h3 : (revAt xs k)[t] = (revAt xs k).getD t 0 := by simp [List.getD, h1]
  rw [h3, e, List.getElem_reverse]
  split
  · simp [List.getD, show xs.length - 1 - t < xs.length by omega]
  · have : xs.length - 1 - t = t := by omega
    simp [List.getD, ht, this]
theorem revAt_succ (xs : List Int) (k : Nat) (h : 2 * k + 1 < xs.length) :
    ((revAt xs k).set k ((revAt xs k).getD (xs.length - 1 - k) 0)).set (xs.length - 1 - k) ((revAt xs k).getD k 0) = revAt xs (k + 1) := by
  rw [revAt_getD _ _ _ (by omega), revAt_getD _ _ _ (by omega)]
  apply List.ext_getElem (by simp [revAt_length])
  intro t h1 h2
  have ht : t < xs.length := by rw [revAt_length] at h2; exact h2
  have h3 : (revAt xs (k + 1))[t] = (revAt xs (k + 1)).getD t 0 := by simp [List.getD, h2]
  rw [h3, revAt_getD _ _ _ ht, List.getElem_set, List.getElem_set]
  have h4 : t < (revAt xs k).length := by rw [revAt_length]; exact ht
  have h5 : (revAt xs k)[t] = (revAt xs k).getD t 0 := by simp [List.getD, h4]
  rw [h5, revAt_getD _ _ _ ht]
  by_cases a : xs.length - 1 - k = t
  · rw [if_pos a, if_neg (by omega), if_pos (by omega), show xs.length - 1 - t = k by omega]
  · rw [if_neg a]
    by_cases b : k = t
    · subst b
      rw [if_pos rfl, if_neg (by omega), if_pos (by omega)]
    · rw [if_neg b]
      by_cases c : t < k ∨ xs.length - k ≤ t
      · rw [if_pos c, if_pos (by omega)]
      · rw [if_neg c, if_neg (by omega)]

theorem rev_set {xs : List Int} {k : Nat} (h : 2 * k + 1 < xs.length) :
    ((revAt xs k).set k ((revAt xs k)[xs.length - 1 - k]'(by rw [revAt_length]; omega))).set (xs.length - 1 - k) ((revAt xs k)[k]'(by rw [revAt_length]; omega)) = revAt xs (k + 1) := by
  rw [← revAt_succ xs k h]
  have l1 : k < (revAt xs k).length := by rw [revAt_length]; omega
  have l2 : xs.length - 1 - k < (revAt xs k).length := by rw [revAt_length]; omega
  have e1 : (revAt xs k).getD k 0 = (revAt xs k)[k] := by simp [List.getD, l1]
  have e2 : (revAt xs k).getD (xs.length - 1 - k) 0 = (revAt xs k)[xs.length - 1 - k] := by simp [List.getD, l2]
  rw [e1, e2]

set_option maxHeartbeats 400000 in
theorem slices_Reverse_any (B g n c : Nat) (xs : List Int) (w : World) (hn : xs.length = n) (hx : xs.length ≤ 1099511627776) (hown : Own w B g c xs) :
    Calls Tryz.prog 71 #[(Value.slice (some ⟨g, 0, none⟩) n c)] w fun e w' => e = .returned (.tuple #[]) ∧ Own w' B g c xs.reverse ∧ w.grownBy w' (some g) := by
  subst hn
  have e0 : IntKind.i64.wrap ((xs.length : Int) - 1) = (xs.length : Int) - 1 := IntWalk.i64_in _ (by omega)
  go_enter Tryz.func71, Tryz.ntmps71
  go_wp2
  go_loopw [2, 3] (fun i j wr => ∃ k : Nat, 2 * k ≤ xs.length ∧ i = .int .i64 k ∧ j = .int .i64 ((xs.length : Int) - 1 - k) ∧ Own wr B g c (revAt xs k) ∧ w.grownBy wr (some g)) (fun i _ _ => xs.length - (intOf i).toNat)
  case atStart => exact ⟨0, Nat.zero_le _, rfl, by simp, by rw [revAt_zero]; exact hown, World.grownBy.refl _ _⟩
  case round =>
    obtain ⟨k, hk, rfl, rfl, ho, hg⟩ := hrel
    by_cases hlt : 2 * k + 1 < xs.length
    · have l1 : k < (revAt xs k).length := by rw [revAt_length]; omega
      have l2 : xs.length - 1 - k < (revAt xs k).length := by rw [revAt_length]; omega
      have h1 := ho.cell k l1
      have h2 := ho.cell (xs.length - 1 - k) l2
      have f1 := ho.frozen k
      have f2 := ho.frozen (xs.length - 1 - k)
      have i1 : ((xs.length : Int) - 1 - k).toNat = xs.length - 1 - k := by omega
      have i2 : (0 : Int) ≤ (xs.length : Int) - 1 - k := by omega
      have hne : k ≠ xs.length - 1 - k := by omega
      go_wp2
      go_region
      all_goals go_wp2
      all_goals
        go_roundw
        case rel =>
          have hs := ho.set2 k (xs.length - 1 - k) ((revAt xs k)[xs.length - 1 - k]) ((revAt xs k)[k])
          rw [rev_set hlt] at hs
          exact ⟨k + 1, by omega, by go_num, by go_num, hs.1.drew, grown_drew (World.grownBy.trans' hg hs.2)⟩
        case measure => simp [intOf]; omega
    · go_wp2
      go_end0
      rw [revAt_done xs k (by omega)] at ho
      exact ⟨rfl, ho, hg⟩

set_option maxHeartbeats 400000 in
theorem impl_ReverseWord_any (g o n c : Nat) (xs : List Int) (w : World) (hn : xs.length = n) (hx : xs.length ≤ 1099511627776) (hg : g < w.heap.size) (hc : Cells w g o xs) :
    Calls Tryz.prog 47 #[(Value.slice (some ⟨g, o, none⟩) n c)] w (GotInts w xs.reverse) := by
  subst hn
  go_enter Tryz.func47, Tryz.ntmps47
  go_wp2_with (at_builtin; refine wpList_clone rfl _ _ rfl g o _ c xs rfl hg hc rfl rfl hx ?_)
  intro g1 c1 w1 ho hb
  go_wp2_with fail
  refine (slices_Reverse_any _ g1 _ c1 xs _ rfl hx ho).mono ?_
  rintro e w2 ⟨rfl, ho2, hg2⟩
  go_wp2
  go_ret
  exact GotInts.mk' g1 c1 (by simp) ho2 (hb.grown hg2 hb.size (by intro k hk; cases hk; exact ho.base))
end Go.Proofs.YtjhoimdfmcjkbaaGreatDoor
