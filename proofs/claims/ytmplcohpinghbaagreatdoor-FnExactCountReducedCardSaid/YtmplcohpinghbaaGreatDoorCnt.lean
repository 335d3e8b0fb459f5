/- CountReduced of both: contracts. -/
import Derived.Test.YtmplcohpinghbaaGreatDoorStI
namespace Go.Proofs.YtmplcohpinghbaaGreatDoor
open Go.RowKit Game

/-! ### the counts as functions -/
def addAt (N : List Int) (to v : Int) : List Int := if 0 ≤ to then N.set to.toNat (N.getD to.toNat 0 + v) else N
def cntRow (c S R : List (List Int)) (W : List Int) (s : Nat) (N : List Int) : Nat → List Int
  | 0 => N
  | i + 1 => addAt (cntRow c S R W s N i) (mvS c S R (R.getD s []) i) (W.getD s 0)
def cntAll (c S R : List (List Int)) (W : List Int) : Nat → List Int
  | 0 => List.replicate R.length 0
  | s + 1 => cntRow c S R W s (cntAll c S R W s) c.length
def cntN (c S R : List (List Int)) : Nat → List Int
  | 0 => (List.replicate R.length 0).set 0 1
  | k + 1 => cntAll c S R (cntN c S R k) R.length
theorem addAt_length (N : List Int) (to v : Int) : (addAt N to v).length = N.length := by unfold addAt; split <;> simp
theorem cntRow_length (c S R : List (List Int)) (W : List Int) (s : Nat) (N : List Int) : ∀ i, (cntRow c S R W s N i).length = N.length
  | 0 => rfl
  | i + 1 => by simp only [cntRow, addAt_length]; exact cntRow_length c S R W s N i
theorem cntAll_length (c S R : List (List Int)) (W : List Int) : ∀ s, (cntAll c S R W s).length = R.length
  | 0 => by simp [cntAll]
  | s + 1 => by simp only [cntAll, cntRow_length]; exact cntAll_length c S R W s
theorem cntN_length (c S R : List (List Int)) : ∀ k, (cntN c S R k).length = R.length
  | 0 => by simp [cntN]
  | k + 1 => by simp only [cntN, cntAll_length]
structure Good (N : List Int) (b : Int) : Prop where
  nn : ∀ x ∈ N, 0 ≤ x
  sum : N.sum ≤ b
theorem nn_getD {N : List Int} (h : ∀ x ∈ N, 0 ≤ x) (j : Nat) : 0 ≤ N.getD j 0 := by
  by_cases hj : j < N.length
  · exact h _ (by simp [List.getD, hj])
  · simp [List.getD, List.getElem?_eq_none (Nat.le_of_not_lt hj)]
theorem nn_sum : ∀ {N : List Int}, (∀ x ∈ N, 0 ≤ x) → 0 ≤ N.sum
  | [], _ => by simp
  | x :: N, h => by have := nn_sum (N := N) (fun y hy => h y (List.mem_cons_of_mem _ hy)); have := h x (by simp); simp; omega
theorem getD_le_sum : ∀ {N : List Int} (_ : ∀ x ∈ N, 0 ≤ x) (j : Nat), N.getD j 0 ≤ N.sum
  | [], _, j => by simp
  | x :: N, h, 0 => by have := nn_sum (N := N) (fun y hy => h y (List.mem_cons_of_mem _ hy)); simp; omega
  | x :: N, h, j + 1 => by
    have h1 := getD_le_sum (N := N) (fun y hy => h y (List.mem_cons_of_mem _ hy)) j
    have h2 := h x (by simp)
    have e : (x :: N).getD (j + 1) 0 = N.getD j 0 := by simp [List.getD]
    rw [e, List.sum_cons]; omega
theorem sum_set : ∀ (N : List Int) (k : Nat) (v : Int), 0 ≤ v → (N.set k (N.getD k 0 + v)).sum ≤ N.sum + v
  | [], k, v, h => by simp; omega
  | x :: N, 0, v, h => by simp; omega
  | x :: N, k + 1, v, h => by
    have := sum_set N k v h
    have e : (x :: N).getD (k + 1) 0 = N.getD k 0 := by simp [List.getD]
    rw [e, List.set_cons_succ, List.sum_cons, List.sum_cons]; omega
theorem addAt_good {N : List Int} {b v : Int} (h : Good N b) (hv : 0 ≤ v) (to : Int) : Good (addAt N to v) (b + v) := by
  unfold addAt
  split
  · refine ⟨fun x hx => ?_, ?_⟩
    · rcases List.mem_or_eq_of_mem_set hx with g | g
      · exact h.nn x g
      · have := nn_getD h.nn to.toNat; omega
    · have := sum_set N to.toNat v hv; have := h.sum; omega
  · exact ⟨h.nn, by have := h.sum; omega⟩
theorem cntRow_good {c S R : List (List Int)} {W N : List Int} {s : Nat} {b : Int} (h : Good N b) (hv : 0 ≤ W.getD s 0) : ∀ i, Good (cntRow c S R W s N i) (b + i * W.getD s 0)
  | 0 => by simpa [cntRow] using h
  | i + 1 => by
    have h1 := addAt_good (cntRow_good (c := c) (S := S) (R := R) h hv i) hv (mvS c S R (R.getD s []) i)
    have e : b + ((i + 1 : Nat) : Int) * W.getD s 0 = b + i * W.getD s 0 + W.getD s 0 := by
      rw [Int.natCast_add, Int.add_mul]; simp; omega
    rw [e]; exact h1
def sumTo' (W : List Int) : Nat → Int
  | 0 => 0
  | s + 1 => sumTo' W s + W.getD s 0
theorem sumTo'_le {W : List Int} (h : ∀ x ∈ W, 0 ≤ x) : ∀ s, sumTo' W s ≤ W.sum ∧ 0 ≤ sumTo' W s := by
  have key : ∀ s, sumTo' W s = (W.take s).sum := by
    intro s
    induction s with
    | zero => simp [sumTo']
    | succ s ih =>
      by_cases hs : s < W.length
      · rw [List.take_succ_eq_append_getElem hs, List.sum_append, ← ih]
        simp [sumTo', List.getD, hs]
      · have e : W.take s = W := List.take_of_length_le (by omega)
        have e0 : W.getD s 0 = 0 := by simp [List.getD, List.getElem?_eq_none (Nat.le_of_not_lt hs)]
        rw [e] at ih
        rw [List.take_of_length_le (show W.length ≤ s + 1 by omega)]
        show sumTo' W s + W.getD s 0 = _
        rw [ih, e0, Int.add_zero]
  intro s
  have h1 : W.sum = (W.take s).sum + (W.drop s).sum := by rw [← List.sum_append, List.take_append_drop]
  have h2 := nn_sum (N := W.drop s) (fun x hx => h x (List.mem_of_mem_drop hx))
  have h3 := nn_sum (N := W.take s) (fun x hx => h x (List.mem_of_mem_take hx))
  rw [key s]; omega
theorem cntAll_good {c S R : List (List Int)} {W : List Int} {wb : Int} (hW : Good W wb) : ∀ s, Good (cntAll c S R W s) (c.length * sumTo' W s)
  | 0 => by
    refine ⟨fun x hx => ?_, ?_⟩
    · simp only [cntAll, List.mem_replicate] at hx; omega
    · have : (List.replicate R.length (0 : Int)).sum = 0 := by
        induction R.length with
        | zero => rfl
        | succ n ih => rw [List.replicate_succ, List.sum_cons, ih]; rfl
      simp only [cntAll, this, sumTo']; omega
  | s + 1 => by
    have h := cntRow_good (c := c) (S := S) (R := R) (cntAll_good (c := c) (S := S) (R := R) hW s) (nn_getD hW.nn s) c.length
    simp only [cntAll, sumTo', Int.mul_add]
    exact h
theorem cnt_bound {n : Nat} {a b : Int} (hn : n ≤ 4) (h0 : 0 ≤ a) (h : a ≤ b) : (n : Int) * a ≤ 4 * b := by
  have : n = 0 ∨ n = 1 ∨ n = 2 ∨ n = 3 ∨ n = 4 := by omega
  rcases this with rfl | rfl | rfl | rfl | rfl <;> omega
theorem cntN_good {c S R : List (List Int)} (hn : c.length ≤ 4) : ∀ k, Good (cntN c S R k) (4 ^ k)
  | 0 => by
    refine ⟨fun x hx => ?_, ?_⟩
    · rcases List.mem_or_eq_of_mem_set hx with g | g
      · rw [List.mem_replicate] at g; omega
      · omega
    · have h0 : (List.replicate R.length (0 : Int)).sum = 0 := by
        induction R.length with
        | zero => rfl
        | succ n ih => rw [List.replicate_succ, List.sum_cons, ih]; rfl
      cases hR : R.length with
      | zero => simp [cntN, hR]
      | succ m =>
        rw [hR] at h0
        simp only [cntN, hR, List.replicate_succ, List.set_cons_zero, List.sum_cons] at *
        omega
  | k + 1 => by
    have h1 := cntN_good (c := c) (S := S) (R := R) hn k
    have h2 := cntAll_good (c := c) (S := S) (R := R) h1 R.length
    have h3 := sumTo'_le h1.nn R.length
    refine ⟨h2.nn, Int.le_trans h2.sum ?_⟩
    have := cnt_bound hn h3.2 h3.1
    have h4 := h1.sum
    have e : (4 : Int) ^ (k + 1) = 4 * 4 ^ k := by rw [Int.pow_succ]; omega
    rw [e]; omega
theorem pow4_le {k : Nat} (hk : k ≤ 12) : (4 : Int) ^ k ≤ 16777216 := by
  have : k = 0 ∨ k = 1 ∨ k = 2 ∨ k = 3 ∨ k = 4 ∨ k = 5 ∨ k = 6 ∨ k = 7 ∨ k = 8 ∨ k = 9 ∨ k = 10 ∨ k = 11 ∨ k = 12 := by omega
  rcases this with rfl | rfl | rfl | rfl | rfl | rfl | rfl | rfl | rfl | rfl | rfl | rfl | rfl <;> decide
/-- the counts stay small -/
theorem cnt_small {c S R : List (List Int)} {k s i : Nat} (hn : c.length ≤ 4) (hk : k ≤ 12) (hi : i ≤ c.length) (j : Nat) :
    (0 ≤ (cntN c S R k).getD s 0 ∧ (cntN c S R k).getD s 0 ≤ 16777216) ∧ 0 ≤ (cntRow c S R (cntN c S R k) s (cntAll c S R (cntN c S R k) s) i).getD j 0 ∧ (cntRow c S R (cntN c S R k) s (cntAll c S R (cntN c S R k) s) i).getD j 0 ≤ 134217728 := by
  have h1 := cntN_good (c := c) (S := S) (R := R) hn k
  have hp := pow4_le hk
  have g1 := nn_getD h1.nn s
  have g2 := getD_le_sum h1.nn s
  have g3 := h1.sum
  have h2 := cntAll_good (c := c) (S := S) (R := R) h1 s
  have h3 := cntRow_good (c := c) (S := S) (R := R) h2 g1 i
  have g4 := nn_getD h3.nn j
  have g5 := getD_le_sum h3.nn j
  have g6 := h3.sum
  have g7 := sumTo'_le h1.nn s
  have g8 := cnt_bound hn g7.2 g7.1
  have g9 := cnt_bound (n := i) (by omega) g1 g2
  refine ⟨⟨g1, by omega⟩, g4, by omega⟩
theorem addAt_zero (N : List Int) (to : Int) : addAt N to 0 = N := by
  unfold addAt
  split
  · by_cases h : to.toNat < N.length
    · rw [Int.add_zero]
      apply List.ext_getElem (by simp)
      intro j h1 h2
      by_cases e : to.toNat = j
      · subst e; simp [List.getD, h]
      · rw [List.getElem_set_ne e]
    · rw [List.set_eq_of_length_le (by omega)]
  · rfl
theorem cntRow_zero {c S R : List (List Int)} {W N : List Int} {s : Nat} (h : W.getD s 0 = 0) : ∀ i, cntRow c S R W s N i = N
  | 0 => rfl
  | i + 1 => by simp only [cntRow, h, addAt_zero]; exact cntRow_zero h i
/-- the search is closed -/
theorem stGo_closed {c S : List (List Int)} : ∀ (f k : Nat) (Q R : List (List Int)), stGo c S f k Q = some R → ∀ j, k ≤ j → j < R.length → ∀ i, i < c.length → ownI c S i ∉ R.getD j [] → nextL c S i (R.getD j []) ∈ R
  | 0, k, Q, R, e => by
    simp only [stGo] at e
    split at e
    · cases e; intro j h1 h2; omega
    · cases e
  | f + 1, k, Q, R, e => by
    intro j h1 h2 i hi hno
    by_cases hk : k < Q.length
    · by_cases hj : j = k
      · subst hj
        obtain ⟨L, hL⟩ := stGo_rowPre hk (i := i + 1) (by omega) e
        obtain ⟨M, hM⟩ := stGo_pre _ _ _ _ e
        have hR : R.getD j [] = Q.getD j [] := by rw [hM]; simp only [List.getD]; rw [List.getElem?_append_left hk]
        rw [hR] at hno ⊢
        have h3 := stStep_mem (c := c) (S := S) (Q := stRow c S Q j i) (k := j) (i := i) (by rw [stRow_getD hk]; exact hno)
        rw [stRow_getD hk] at h3
        rw [hL]
        exact List.mem_append_left _ h3
      · simp only [stGo] at e
        rw [if_neg (by omega)] at e
        split at e
        · cases e
        · exact stGo_closed f (k + 1) _ R e j (by omega) h2 i hi hno
    · rw [stGo_done (by omega)] at e
      cases e
      omega
theorem statesR_closed {c S R : List (List Int)} (e : statesR c S = some R) {j i : Nat} (hj : j < R.length) (hi : i < c.length) (hno : ownI c S i ∉ R.getD j []) : nextL c S i (R.getD j []) ∈ R :=
  stGo_closed 101 0 [[]] R e j (Nat.zero_le _) hj i hi hno
def countM (c : List (List Int)) (n : Int) : Int :=
  match stR c with
  | none => -1
  | some R => if 0 ≤ n ∧ n ≤ 12 then heightL (cntN c (smallA c) R n.toNat) else -1

theorem stR_some {c : List (List Int)} {R : List (List Int)} (h : stR c = some R) : IsC c ∧ smallAB c = true ∧ SmallOk c (smallA c) ∧ statesR c (smallA c) = some R := by
  unfold stR at h
  split at h
  · rename_i hAB
    rcases smallA_cases c with ⟨h1, -⟩ | ⟨hC, -, hok⟩
    · rw [h1] at hAB; exact absurd hAB (by simp)
    · exact ⟨hC, hAB, hok, h⟩
  · cases h
theorem start_own {w : World} {B g cap L : Nat} (h : Own w B g cap (List.replicate L 0)) : Own (w.setCell ⟨g, 0, none⟩ (.int .i64 1)) B g cap ((List.replicate L 0).set 0 1) ∧ w.grownBy (w.setCell ⟨g, 0, none⟩ (.int .i64 1)) (some g) := h.set 0 1

set_option maxRecDepth 100000 in
set_option maxHeartbeats 8000000 in
theorem spec_CountReduced_any (gc oc n cc : Nat) (c : List (List Int)) (x : Int) (w : World) (hn : c.length = n) (hl : c.length ≤ 1048576) (hrl : ∀ j, j < c.length → (c.getD j []).length ≤ 1048576) (hgc : gc < w.heap.size) (hr : Rows2 w gc oc c) :
    Calls Tryz.prog 12 #[(Value.slice (some ⟨gc, oc, none⟩) n cc), .int .i64 x] w (Gives w (.int .i64 (countM c x))) := by
  subst hn
  have hcall1 := spec_SmallRoots_any gc oc _ cc c w rfl hl hrl hgc hr
  have hcall2 := fun W (hW : Below w.heap.size w W) => spec_StatesOf_any gc oc _ cc c W rfl hl hrl (Nat.lt_of_lt_of_le hgc hW.size) (hr.below hW hgc)
  have Hcall1 := Lib.hid hcall1; have Hcall2 := Lib.hid hcall2; have Hr := Lib.hid hr
  clear hcall1 hcall2 hr hrl
  cases hR : stR c with
  | none =>
    have Hv : Hid (countM c x = -1) := by show _ = _; unfold countM; rw [hR]
    rw [hR] at Hcall2
    clear hR
    generalize countM c x = V at *
    go_enter Tryz.func12, Tryz.ntmps12
    go_wp2_with fail
    refine Hcall1.out.mono ?_
    rintro e w1 ⟨gS, cS, rsS, rfl, -, -, hb1⟩
    go_wp2_with fail
    refine (Hcall2.out w1 hb1).mono ?_
    rintro e w2 ⟨gL, cL, rsL, rfl, -, -, hb2⟩
    have hb := hb1.trans (hb2.mono hb1.size)
    go_wp2_with fail
    go_ret
    exact ⟨ret_int Hv.out.symm, hb⟩
  | some R =>
    obtain ⟨hC, hAB, hok, hst⟩ := stR_some hR
    obtain ⟨hsok, hL100, R', hR'⟩ := statesR_ok hok hst
    have hL0 : 0 < R.length := by rw [hR']; simp
    have hcl := fun (j i : Nat) (hj : j < R.length) (hi : i < c.length) (hno : ownI c (smallA c) i ∉ R.getD j []) => statesR_closed hst hj hi hno
    have hrowF : ∀ j, j < R.length → FineS (smallA c).length (R.getD j []) := fun j hj => hsok.fine _ (by simp [List.getD, hj])
    have hS40 := hok.len
    have hn4 := hC.2.1
    have Hv : Hid (countM c x = if 0 ≤ x ∧ x ≤ 12 then heightL (cntN c (smallA c) R x.toNat) else -1) := by show _ = _; unfold countM; rw [hR]
    rw [hAB] at Hcall1
    rw [hR] at Hcall2
    have hlen : ((some R : Option (List (List Int))).getD []).length = R.length := rfl
    have Hcl := Lib.hid hcl; have HrowF := Lib.hid hrowF
    clear hR hAB hst hR' hcl hrowF hsok
    generalize countM c x = V at *
    generalize smallA c = S at *
    have hone := fun W => spec_l1In x 0 12 W
    by_cases hx : 0 ≤ x ∧ x ≤ 12
    · have hT : (decide (0 ≤ x) && decide (x ≤ 12)) = true := by simpa using hx
      rw [hT] at hone
      have hv := Hv.out
      rw [if_pos hx] at hv
      obtain ⟨N, rfl⟩ : ∃ N : Nat, x = (N : Int) := ⟨_, (Int.toNat_of_nonneg hx.1).symm⟩
      rw [Int.toNat_natCast] at hv
      have hN : N ≤ 12 := by omega
      have Hone := Lib.hid hone; have Hv2 := Lib.hid hv
      clear hv hone hT hx Hv
      go_enter Tryz.func12, Tryz.ntmps12
      go_wp2_with fail
      refine Hcall1.out.mono ?_
      rintro e w1 ⟨gS, cS, rsS, rfl, hcS, hOS, hb1⟩
      go_wp2_with fail
      refine (Hcall2.out w1 hb1).mono ?_
      rintro e w2 ⟨gL, cL, rsL, rfl, hcL, hOL, hb2⟩
      rw [hlen]
      have hS2 : Rows2 w2 gS 0 S := by have := (hOS.below hb2).rows2; rw [hcS] at this; exact this
      have hgS2 : gS < w2.heap.size := Nat.lt_of_lt_of_le hOS.lt hb2.size
      have hL2 : Rows2 w2 gL 0 R := by have := hOL.rows2; rw [hcL] at this; exact this
      have hgL2 := hOL.lt
      have hb := hb1.trans (hb2.mono hb1.size)
      clear hOS hOL hcS hcL hb1 hb2 Hcall1 Hcall2 hlen
      go_wp2_with fail
      refine (Hone.out w2).mono ?_
      rintro e w3 ⟨rfl, hs3⟩
      have HS := Lib.hid (hS2.still hs3)
      have HL := Lib.hid (hL2.still hs3)
      have hgS : gS < w3.heap.size := by rw [size_still hs3]; exact hgS2
      have hgL : gL < w3.heap.size := by rw [size_still hs3]; exact hgL2
      have hB := below_still hb hs3
      have HC := Lib.hid (Hr.out.below hB hgc)
      have hgc3 := Nat.lt_of_lt_of_le hgc hB.size
      clear hS2 hL2 hgS2 hgL2 hb hs3 Hone
      obtain ⟨L, hLe⟩ : ∃ L, R.length = L := ⟨_, rfl⟩
      rw [hLe] at hL0 hL100
      rw [hLe]
      have HLe := Lib.hid hLe
      clear hLe
      go_wp2_with (at_make; refine wpList_make_ints rfl _ _ rfl w3.heap.size L _ rfl rfl rfl (by omega) (Nat.le_refl _) ?_)
      intro w4 ho4 hg4
      have hb4 : Below w3.heap.size w3 w4 := (Below.refl _ _).grown hg4 (Nat.le_refl _) (by simp)
      have c4 := ho4.cell 0 (by simpa using hL0)
      have f4 := ho4.frozen 0
      have hst := start_own ho4
      have hb5 : Below w3.heap.size w3 (w4.setCell ⟨w3.heap.size, 0, none⟩ (.int .i64 1)) := hb4.grown hst.2 hb4.size (by intro t ht; cases ht; exact Nat.le_refl _)
      have hst1 : Own (w4.setCell ⟨w3.heap.size, 0, none⟩ (.int .i64 1)) w3.heap.size w3.heap.size L (cntN c S R 0) := by have := hst.1; unfold cntN; rw [HLe.out]; exact this
      clear hst hb4 hg4 ho4
      have hLI : (0 : Int) < (L : Int) := by omega
      go_wp2_with fail
      go_loopw [9, 10] (fun wv kv wr => ∃ (k gW cW : Nat), k ≤ N ∧ kv = .int .i64 k ∧ wv = (Value.slice (some ⟨gW, 0, none⟩) L cW) ∧ Own wr w3.heap.size gW cW (cntN c S R k) ∧ Below w3.heap.size w3 wr) (fun _ kv _ => N - (intOf kv).toNat)
      case atStart => exact ⟨0, _, L, Nat.zero_le _, rfl, rfl, hst1, hb5⟩
      case round =>
        clear hst1 hb5 c4 f4
        obtain ⟨k, gW, cW, hk, rfl, rfl, hW, hb⟩ := hrel
        by_cases hkN : k < N
        · have hWl : (cntN c S R k).length = L := by rw [cntN_length]; exact HLe.out
          have hsmall := fun (s i j : Nat) (hi : i ≤ c.length) => cnt_small (c := c) (S := S) (R := R) (k := k) (s := s) hn4 (by omega) hi j
          have hstep : cntN c S R (k + 1) = cntAll c S R (cntN c S R k) R.length := rfl
          have Hstep := Lib.hid hstep; have Hsmall := Lib.hid hsmall
          clear hstep hsmall
          generalize cntN c S R k = W at *
          have HWl := Lib.hid hWl
          clear hWl
          obtain ⟨wo, rfl⟩ : ∃ wo : World, wo = wr := ⟨_, rfl⟩
          go_wp2_with (at_make; refine wpList_make_ints rfl _ _ rfl w3.heap.size L _ rfl rfl rfl (by omega) hb.size ?_)
          intro w5 hN5 hg5
          have hW5 := hW.grown hg5 (by simp)
          have hb5 : Below w3.heap.size w3 w5 := hb.grown hg5 hb.size (by simp)
          have hgWl := hW.lt
          have hne : wo.heap.size ≠ gW := by omega
          have hN5' : Own w5 w3.heap.size wo.heap.size L (cntAll c S R W 0) := by unfold cntAll; rw [HLe.out]; exact hN5
          clear hW hb hg5 hN5 hgWl
          generalize wo.heap.size = gN at *
          go_wp2_with fail
          go_loopw [12] (fun sv wi => ∃ (s : Nat), s ≤ L ∧ sv = .int .i64 s ∧ Own wi w3.heap.size gN L (cntAll c S R W s) ∧ Own wi w3.heap.size gW cW W ∧ Below w3.heap.size w3 wi) (fun sv _ => L - (intOf sv).toNat)
          case atStart => exact ⟨0, Nat.zero_le _, rfl, hN5', hW5, hb5⟩
          case round =>
            clear hN5' hW5 hb5
            obtain ⟨s, hs, rfl, hN', hW, hb⟩ := hrel
            by_cases hsL : s < L
            · have q1 := hW.cell s (by rw [HWl.out]; exact hsL)
              have hv := (Hsmall.out s 0 0 (Nat.zero_le _)).1
              have hrow : cntAll c S R W (s + 1) = cntRow c S R W s (cntAll c S R W s) c.length := rfl
              have hzero : W.getD s 0 = 0 → cntAll c S R W (s + 1) = cntAll c S R W s := fun h => by rw [hrow, cntRow_zero h]
              have hr0 : cntRow c S R W s (cntAll c S R W s) 0 = cntAll c S R W s := rfl
              have hrs : ∀ i, cntRow c S R W s (cntAll c S R W s) (i + 1) = addAt (cntRow c S R W s (cntAll c S R W s) i) (mvS c S R (R.getD s []) i) (W.getD s 0) := fun _ => rfl
              have hrsm : ∀ i j, i ≤ c.length → 0 ≤ (cntRow c S R W s (cntAll c S R W s) i).getD j 0 ∧ (cntRow c S R W s (cntAll c S R W s) i).getD j 0 ≤ 134217728 := fun i j hi => (Hsmall.out s i j hi).2
              have hrlen : ∀ i, (cntRow c S R W s (cntAll c S R W s) i).length = L := fun i => by rw [cntRow_length, cntAll_length]; exact HLe.out
              generalize hvv : W.getD s 0 = v at *
              have Hrow := Lib.hid hrow; have Hzero := Lib.hid hzero; have Hr0 := Lib.hid hr0; have Hrs := Lib.hid hrs; have Hrsm := Lib.hid hrsm; have Hrlen := Lib.hid hrlen; have Hvv := Lib.hid hvv
              clear hrow hzero hr0 hrs hrsm hrlen hvv
              by_cases hv0 : v = 0
              · have hz := Hzero.out hv0
                have Hz := Lib.hid hz
                have hvI : v ≤ 0 := by omega
                have hc1 : (0 : Int) < (c.length : Int) := by have := hC.1; omega
                clear hz hv0
                obtain ⟨wi, rfl⟩ : ∃ wi : World, wi = wr := ⟨_, rfl⟩
                go_wp2_with fail
                go_loopw [13] (fun iv wj => iv = .int .i64 0 ∧ wj = wi) (fun _ _ => 0)
                case atStart => exact ⟨rfl, rfl⟩
                case round =>
                  obtain ⟨rfl, rfl⟩ := hrel
                  go_wp2_with fail
                  go_roundw
                  case rel => exact ⟨s + 1, by omega, by go_num, by rw [Hz.out]; exact hN', hW, hb⟩
                  case measure => simp [intOf]; omega
              · have hvI : 0 < v := by omega
                obtain ⟨wi, rfl⟩ : ∃ wi : World, wi = wr := ⟨_, rfl⟩
                go_wp2_with fail
                go_loopw [13] (fun iv wj => ∃ i : Nat, i ≤ c.length ∧ iv = .int .i64 i ∧ Own wj w3.heap.size gN L (cntRow c S R W s (cntAll c S R W s) i) ∧ Own wj w3.heap.size gW cW W ∧ Below w3.heap.size w3 wj) (fun iv _ => c.length - (intOf iv).toNat)
                case atStart => exact ⟨0, Nat.zero_le _, rfl, by rw [Hr0.out]; exact hN', hW, hb⟩
                case round =>
                  clear hN' hW hb
                  obtain ⟨i, hi, rfl, hN', hW, hb⟩ := hrel
                  have q1 : wr.cell? ⟨gW, s, none⟩ = some (.int .i64 v) := by rw [← Hvv.out]; exact hW.cell s (by rw [HWl.out]; exact hsL)
                  by_cases hil : i < c.length
                  · have hsR : s < R.length := by rw [HLe.out]; exact hsL
                    have hfin := HrowF.out s hsR
                    obtain ⟨ga, oa, ca, p1, p2, p3, p4⟩ := HL.out s hsR
                    rw [Nat.zero_add] at p1
                    have hB2 := hB.trans (hb.mono hB.size)
                    replace p1 := (hb.cell (p := ⟨gL, s, none⟩) hgL).trans p1
                    have hc4 := p4.below hb p3
                    have hga := Nat.lt_of_lt_of_le p3 hb.size
                    have hmv : mvS c S R (R.getD s []) i = if ownI c S i ∈ R.getD s [] then -1 else idxL R (nextL c S i (R.getD s [])) := rfl
                    have hin : ownI c S i ∉ R.getD s [] → nextL c S i (R.getD s []) ∈ R := fun h => Hcl.out s i hsR hil h
                    have hrs := Hrs.out i
                    rw [hmv] at hrs
                    have hnf := nextL_fine (c := c) (S := S) (i := i) (st := R.getD s []) (hok.simp' i hil)
                    generalize R.getD s [] = st at *
                    obtain ⟨a, ha⟩ : ∃ a, st.length = a := ⟨_, rfl⟩
                    rw [ha] at p1
                    have ha40 : a ≤ 40 := by have := hfin.len; omega
                    have hsl := simpL_length c.length i
                    have hown : ownI c S i = idxL S (simpL c.length i) := rfl
                    have K1 : ∀ W', Below wr.heap.size wr W' → Calls Tryz.prog 18 #[(Value.slice (some ⟨gc, oc, none⟩) c.length cc), .int .i64 i] W' (GotInts W' (simpL c.length i)) := fun W' hW' => spec_SimpleRoot_any gc oc _ cc i c W' rfl hC hil (HC.out.below (hb.trans (hW'.mono hb.size)) hgc3)
                    have K2 : ∀ (W' : World) (B g1 c1 : Nat), Below wr.heap.size wr W' → Own W' B g1 c1 (simpL c.length i) → Calls Tryz.prog 17 #[(Value.slice (some ⟨gS, 0, none⟩) S.length cS), (Value.slice (some ⟨g1, 0, none⟩) c.length c1)] W' (Reads W' (.int .i64 (ownI c S i))) := fun W' B g1 c1 hW' ho1 => spec_IndexOf_any gS 0 _ cS g1 0 _ c1 S (simpL c.length i) W' rfl hsl (by omega) (fun j hj => by rw [hok.lenAt hj]; omega) (HS.out.below (hb.trans (hW'.mono hb.size)) hgS) ho1.cells
                    have K3 : ∀ (W' : World), Below wr.heap.size wr W' → Calls Tryz.prog 16 #[(Value.slice (some ⟨ga, oa, none⟩) a ca), .int .i64 (ownI c S i)] W' (Reads W' (.bool (decide (ownI c S i ∈ st)))) := fun W' hW' => aut_l3Has ga oa a ca st (ownI c S i) W' ha (by rw [ha]; omega) (hc4.below hW' hga)
                    generalize simpL c.length i = r0 at *
                    generalize ownI c S i = ow at *
                    have Ha := Lib.hid ha; have Hsl := Lib.hid hsl; have k1 := Lib.hid K1; have k2 := Lib.hid K2; have Hrs1 := Lib.hid hrs; have Hin := Lib.hid hin; have Hfin := Lib.hid hfin; have Hnf := Lib.hid hnf; have Hc4 := Lib.hid hc4
                    clear ha hsl hown K1 K2 hrs hin hfin hmv hnf p4 p2 hc4
                    have hX : Below wr.heap.size wr wr.drew := Below.drew (Below.refl _ _)
                    have x0 : wr.drew.cell? ⟨gL, s, none⟩ = some (Value.slice (some ⟨ga, oa, none⟩) a ca) := p1
                    by_cases hmem : ow ∈ st
                    · rw [decide_eq_true hmem] at K3
                      have hrs2 := Hrs1.out
                      rw [if_pos hmem] at hrs2
                      have hrs3 : cntRow c S R W s (cntAll c S R W s) (i + 1) = cntRow c S R W s (cntAll c S R W s) i := by rw [hrs2]; rfl
                      have k3 := Lib.hid K3; have Hrs3 := Lib.hid hrs3
                      clear K3 hrs2 hrs3 Hrs1 hmem
                      go_wp2_with fail
                      go_region_held3 (fun W' => W'.cell? ⟨gL, s, none⟩ = some (Value.slice (some ⟨ga, oa, none⟩) a ca))
                        (first | with_reducible exact x0 | with_reducible exact keepCell hbA x0 | exact (cell_still hsE _).trans ((cell_still hsD _).trans (keepCell hbA x0)) | exact (cell_still hsD _).trans (keepCell hbA x0))
                        (first
                          | (go_at_call 18; (with_reducible refine (k1.out _ hX).mono ?_); rintro e wA ⟨gA, cA, rfl, hoA, hbA⟩; rw [Hsl.out])
                          | (go_at_call 17; (with_reducible refine (k2.out _ _ gA cA (hX.trans (hbA.mono hX.size)) hoA).mono ?_); rintro e wD ⟨rfl, hsD⟩)
                          | (go_at_call 16; (with_reducible refine (k3.out _ (below_still (hX.trans (hbA.mono hX.size)) hsD)).mono ?_); rintro e wE ⟨rfl, hsE⟩))
                      have hBE : Below wr.heap.size wr wE := below_still (below_still (hX.trans (hbA.mono hX.size)) hsD) hsE
                      have hN2 := hN'.below hBE hN'.lt
                      have hW2 := hW.below hBE hW.lt
                      have hb2 := hb.trans (hBE.mono hb.size)
                      clear hX x0 hbA hsD hsE hoA hN' hW hb hBE k1 k2 k3 q1 p1 hB2
                      go_wp2_with fail
                      go_roundw
                      case rel => exact ⟨i + 1, by omega, by go_num, by rw [Hrs3.out]; exact hN2, hW2, hb2⟩
                      case measure => simp [intOf]; omega
                    · rw [decide_eq_false hmem] at K3
                      have hrs2 := Hrs1.out
                      rw [if_neg hmem] at hrs2
                      have hs2 := Hin.out hmem
                      have k3 := Lib.hid K3; have Hrs2 := Lib.hid hrs2; have Hs2 := Lib.hid hs2
                      clear K3 hrs2 Hrs1 hmem hs2 Hin
                      go_wp2_with fail
                      go_region_held3 (fun W' => W'.cell? ⟨gL, s, none⟩ = some (Value.slice (some ⟨ga, oa, none⟩) a ca))
                        (first | with_reducible exact x0 | with_reducible exact keepCell hbA x0 | exact (cell_still hsE _).trans ((cell_still hsD _).trans (keepCell hbA x0)) | exact (cell_still hsD _).trans (keepCell hbA x0))
                        (first
                          | (go_at_call 18; (with_reducible refine (k1.out _ hX).mono ?_); rintro e wA ⟨gA, cA, rfl, hoA, hbA⟩; rw [Hsl.out])
                          | (go_at_call 17; (with_reducible refine (k2.out _ _ gA cA (hX.trans (hbA.mono hX.size)) hoA).mono ?_); rintro e wD ⟨rfl, hsD⟩)
                          | (go_at_call 16; (with_reducible refine (k3.out _ (below_still (hX.trans (hbA.mono hX.size)) hsD)).mono ?_); rintro e wE ⟨rfl, hsE⟩))
                      have hBE : Below wr.heap.size wr wE := below_still (below_still (hX.trans (hbA.mono hX.size)) hsD) hsE
                      have hN2 := hN'.below hBE hN'.lt
                      have hW2 := hW.below hBE hW.lt
                      have hb2 := hb.trans (hBE.mono hb.size)
                      have hga2 := Nat.lt_of_lt_of_le hga hBE.size
                      have q2 := (hBE.cell (p := ⟨gL, s, none⟩) (Nat.lt_of_lt_of_le hgL hb.size)).trans p1
                      have hc5 := Hc4.out.below hBE hga
                      have hnx := spec_l32Next_any gc oc _ cc gS 0 _ cS ga oa a ca i c S st wE rfl rfl Ha.out hC hok Hfin.out hil (Nat.lt_of_lt_of_le hgc3 hb2.size) (Nat.lt_of_lt_of_le hgS hb2.size) hga2 (HC.out.below hb2 hgc3) (HS.out.below hb2 hgS) hc5
                      have Hnx := Lib.hid hnx
                      clear hX x0 hbA hsD hsE hoA hN' hW hb hBE k1 k2 k3 q1 p1 hB2 hnx hc5 Hc4
                      generalize nextL c S i st = s2 at *
                      go_wp2_with fail
                      refine Hnx.out.mono ?_
                      rintro e w8 ⟨g8, c8, rfl, ho8, hb8⟩
                      obtain ⟨b, hbl⟩ : ∃ b, s2.length = b := ⟨_, rfl⟩
                      rw [hbl]
                      have hb40 : b ≤ 40 := by have := Hnf.out.len; omega
                      have hN8 := hN2.below hb8 hN2.lt
                      have hW8 := hW2.below hb8 hW2.lt
                      have hB8 := hb2.trans (hb8.mono hb2.size)
                      have hidx := spec_IndexOf_any gL 0 L cL g8 0 b c8 R s2 w8 HLe.out hbl (by rw [HLe.out]; omega) (fun j hj => by have := (HrowF.out j hj).len; omega) (HL.out.below hB8 hgL) ho8.cells
                      obtain ⟨t, ht⟩ : ∃ t : Nat, idxL R s2 = (t : Int) := ⟨_, (Int.toNat_of_nonneg (idx_nonneg.2 Hs2.out)).symm⟩
                      have htL : t < L := by
                        have := idx_lt (L := R) (v := s2)
                        rw [ht, HLe.out] at this
                        omega
                      rw [ht] at hidx
                      have hrs3 := Hrs2.out
                      rw [ht] at hrs3
                      unfold addAt at hrs3
                      rw [if_pos (by omega), Int.toNat_natCast] at hrs3
                      have Hidx := Lib.hid hidx; have Hrs3 := Lib.hid hrs3
                      have hbd := Hrsm.out i t (by omega)
                      have hlen := Hrlen.out i
                      clear hidx hrs3 hN2 hW2 hb2 hb8 ho8 ht Hrs2 Hnx q2
                      generalize cntRow c S R W s (cntAll c S R W s) i = X at *
                      have Hlen := Lib.hid hlen
                      clear hlen
                      go_wp2_with fail
                      refine Hidx.out.mono ?_
                      rintro e w9 ⟨rfl, hs9⟩
                      have hN9 := hN8.still hs9
                      have hW9 := hW8.still hs9
                      have hB9 := below_still hB8 hs9
                      have qv : w9.cell? ⟨gW, s, none⟩ = some (.int .i64 v) := by rw [← Hvv.out]; exact hW9.cell s (by rw [HWl.out]; exact hsL)
                      have qx := hN9.cell t (by rw [Hlen.out]; exact htL)
                      have fx := hN9.frozen t
                      have hset := hN9.set t (X.getD t 0 + v)
                      have Hset := Lib.hid hset
                      clear hs9 hN8 hW8 hB8 Hidx hset
                      generalize X.getD t 0 = y at *
                      have ht0 : (0 : Int) ≤ (t : Int) := by omega
                      have htI : (t : Int) < (L : Int) := by omega
                      have hs0 : (0 : Int) ≤ (s : Int) := by omega
                      have hsI : (s : Int) < (L : Int) := by omega
                      go_wp2_with fail
                      go_region
                      all_goals go_wp2_with fail
                      all_goals
                        go_roundw
                        case rel =>
                          refine ⟨i + 1, by omega, by go_num, ?_, ?_, ?_⟩
                          · rw [Hrs3.out]; first | exact Hset.out.1 | exact Hset.out.1.drew
                          · first | exact (hW9.grown Hset.out.2 (fun e => hne (Option.some.inj e).symm)) | exact (hW9.grown Hset.out.2 (fun e => hne (Option.some.inj e).symm)).drew
                          · first | exact hB9.grown Hset.out.2 hB9.size (by intro t ht; cases ht; exact hN9.base) | exact (hB9.grown Hset.out.2 hB9.size (by intro t ht; cases ht; exact hN9.base)).drew
                        case measure => simp [intOf]; omega
                  · obtain rfl : i = c.length := by omega
                    rw [← Hrow.out] at hN'
                    go_wp2_with fail
                    go_roundw
                    case rel => exact ⟨s + 1, by omega, by go_num, hN', hW, hb⟩
                    case measure => simp [intOf]; omega
            · obtain rfl : s = L := by omega
              have hN2 : Own wr w3.heap.size gN s (cntN c S R (k + 1)) := by rw [Hstep.out, HLe.out]; exact hN'
              clear hN'
              go_wp2_with fail
              go_roundw
              case rel => exact ⟨k + 1, gN, s, by omega, by go_num, rfl, hN2, hb⟩
              case measure => simp [intOf]; omega
        · obtain rfl : k = N := by omega
          have hWl : (cntN c S R k).length = L := by rw [cntN_length]; exact HLe.out
          generalize cntN c S R k = W at *
          have HWl := Lib.hid hWl
          clear hWl
          obtain ⟨wo, rfl⟩ : ∃ wo : World, wo = wr := ⟨_, rfl⟩
          go_wp2_with fail
          go_loopw [15, 16] (fun tv iv wj => ∃ (t q : Nat), t ≤ L ∧ iv = .int .i64 t ∧ tv = .int .i64 (sumUp W t) ∧ wj = wo.drewN q) (fun _ iv _ => L - (intOf iv).toNat)
          case atStart => exact ⟨0, 0, Nat.zero_le _, rfl, rfl, rfl⟩
          case round =>
            obtain ⟨t, q, ht, rfl, rfl, rfl⟩ := hrel
            by_cases htl : t < L
            · have q2 := hW.cell t (by rw [HWl.out]; exact htl)
              have hd : sumUp W (t + 1) = wrap64 (sumUp W t + W.getD t 0) := rfl
              generalize W.getD t 0 = y at *
              have Hd := Lib.hid hd; clear hd
              generalize sumUp W t = z at *
              go_wp2
              go_roundw
              case rel => exact ⟨t + 1, _, by omega, by go_num, by rw [Hd.out], rfl⟩
              case measure => simp [intOf]; omega
            · obtain rfl : t = L := by omega
              have hh : heightL W = sumUp W t := by unfold heightL; rw [HWl.out]
              have Hh := Lib.hid hh
              have hB2 := hB.trans (hb.mono hB.size)
              clear hh
              go_wp2
              go_ret
              exact ⟨ret_int (by rw [Hv2.out, Hh.out]), below_drewN hB2 q⟩
    · have hT : (decide (0 ≤ x) && decide (x ≤ 12)) = false := by
        rw [← Bool.not_eq_true, Bool.and_eq_true, decide_eq_true_eq, decide_eq_true_eq]; exact hx
      rw [hT] at hone
      have hv := Hv.out
      rw [if_neg hx] at hv
      have Hone := Lib.hid hone; have Hv2 := Lib.hid hv
      clear hv hone hT hx Hv
      go_enter Tryz.func12, Tryz.ntmps12
      go_wp2_with fail
      refine Hcall1.out.mono ?_
      rintro e w1 ⟨gS, cS, rsS, rfl, hcS, hOS, hb1⟩
      go_wp2_with fail
      refine (Hcall2.out w1 hb1).mono ?_
      rintro e w2 ⟨gL, cL, rsL, rfl, hcL, hOL, hb2⟩
      have hb := hb1.trans (hb2.mono hb1.size)
      clear hOS hOL hcS hcL hb1 hb2 Hcall1 Hcall2
      go_wp2_with fail
      refine (Hone.out w2).mono ?_
      rintro e w3 ⟨rfl, hs3⟩
      have hB := below_still hb hs3
      go_wp2_with fail
      go_ret
      exact ⟨ret_int Hv2.out.symm, hB⟩

theorem mvT_row {c S R : List (List Int)} {s : Nat} (hs : s < R.length) : (mvT c S R).getD s [] = (List.range c.length).map fun i => mvS c S R (R.getD s []) i := by simp [mvT, List.getD, hs]
theorem mvT_at {c S R : List (List Int)} {s i : Nat} (hs : s < R.length) (hi : i < c.length) : ((mvT c S R).getD s []).getD i 0 = mvS c S R (R.getD s []) i := by rw [mvT_row hs]; simp [List.getD, hi]
theorem mvS_lt {c S R : List (List Int)} {st : List Int} {i : Nat} (hR : 0 < R.length) : mvS c S R st i < (R.length : Int) := by
  unfold mvS
  split
  · omega
  · exact idx_lt

set_option maxRecDepth 100000 in
set_option maxHeartbeats 8000000 in
theorem impl_CountReduced_any (gc oc n cc : Nat) (c : List (List Int)) (x : Int) (w : World) (hn : c.length = n) (hl : c.length ≤ 1048576) (hrl : ∀ j, j < c.length → (c.getD j []).length ≤ 1048576) (hgc : gc < w.heap.size) (hr : Rows2 w gc oc c) :
    Calls Tryz.prog 13 #[(Value.slice (some ⟨gc, oc, none⟩) n cc), .int .i64 x] w (Gives w (.int .i64 (countM c x))) := by
  subst hn
  have hcall := impl_states_any gc oc _ cc c w rfl hl hrl hgc hr
  have Hcall := Lib.hid hcall
  clear hcall hr hrl
  have HV : Hid (countM c x = match stR c with | none => -1 | some R => if 0 ≤ x ∧ x ≤ 12 then heightL (cntN c (smallA c) R x.toNat) else -1) := rfl
  generalize countM c x = V at *
  go_enter Tryz.func13, Tryz.ntmps13
  go_wp2_with fail
  refine Hcall.out.mono ?_
  intro e w1 hp
  rcases hp with ⟨hR, rfl, hb1⟩ | ⟨R, gL, cL, rsL, gV, cV, rsV, hR, rfl, hcL, hOL, hcV, hOV, hb1⟩
  · have hv := HV.out
    rw [hR] at hv
    have Hv : Hid (V = -1) := hv
    clear hv hR HV Hcall
    go_wp2_with fail
    go_ret
    exact ⟨ret_int Hv.out.symm, hb1⟩
  · have hv := HV.out
    rw [hR] at hv
    have Hv : Hid (V = if 0 ≤ x ∧ x ≤ 12 then heightL (cntN c (smallA c) R x.toNat) else -1) := hv
    obtain ⟨hC, hAB, hok, hst⟩ := stR_some hR
    obtain ⟨hsok, hL100, R', hR'⟩ := statesR_ok hok hst
    have hL0 : 0 < R.length := by rw [hR']; simp
    have hn4 := hC.2.1
    have hM1 : Rows2 w1 gV 0 (mvT c (smallA c) R) := by have := hOV.rows2; rw [hcV] at this; exact this
    have hgV := hOV.lt
    have HM := Lib.hid hM1
    clear hv hR HV Hcall hAB hst hR' hsok hcL hOL hcV hOV hM1 hok
    generalize smallA c = S at *
    obtain ⟨L, hLe⟩ : ∃ L, R.length = L := ⟨_, rfl⟩
    rw [hLe] at hL0 hL100
    rw [hLe]
    have HLe := Lib.hid hLe
    clear hLe
    by_cases hx0 : x < 0
    · have hv := Hv.out
      rw [if_neg (by omega)] at hv
      have Hv2 := Lib.hid hv
      clear hv Hv
      go_wp2_with fail
      go_ret
      exact ⟨ret_int Hv2.out.symm, hb1⟩
    · by_cases hx1 : 12 < x
      · have hv := Hv.out
        rw [if_neg (by omega)] at hv
        have Hv2 := Lib.hid hv
        have hx0' : 0 ≤ x := by omega
        clear hv Hv hx0
        go_wp2_with fail
        go_ret
        exact ⟨ret_int Hv2.out.symm, hb1⟩
      · have hv := Hv.out
        rw [if_pos (by omega)] at hv
        obtain ⟨N, rfl⟩ : ∃ N : Nat, x = (N : Int) := ⟨_, (Int.toNat_of_nonneg (by omega)).symm⟩
        rw [Int.toNat_natCast] at hv
        have hN : N ≤ 12 := by omega
        have hNI : (N : Int) ≤ 12 := by omega
        have Hv2 := Lib.hid hv
        clear hv Hv hx0 hx1
        go_wp2_with (at_make; refine wpList_make_ints rfl _ _ rfl w1.heap.size L _ rfl rfl rfl (by omega) (Nat.le_refl _) ?_)
        intro w4 ho4 hg4
        have hb4 : Below w1.heap.size w1 w4 := (Below.refl _ _).grown hg4 (Nat.le_refl _) (by simp)
        have c4 := ho4.cell 0 (by simpa using hL0)
        have f4 := ho4.frozen 0
        have hst := start_own ho4
        have hb5 : Below w1.heap.size w1 (w4.setCell ⟨w1.heap.size, 0, none⟩ (.int .i64 1)) := hb4.grown hst.2 hb4.size (by intro t ht; cases ht; exact Nat.le_refl _)
        have hst1 : Own (w4.setCell ⟨w1.heap.size, 0, none⟩ (.int .i64 1)) w1.heap.size w1.heap.size L (cntN c S R 0) := by have := hst.1; unfold cntN; rw [HLe.out]; exact this
        clear hst hb4 hg4 ho4
        have hLI : (0 : Int) < (L : Int) := by omega
        go_wp2_with fail
        go_loopw [8, 36] (fun wv kv wr => ∃ (k gW cW : Nat), k ≤ N ∧ kv = .int .i64 k ∧ wv = (Value.slice (some ⟨gW, 0, none⟩) L cW) ∧ Own wr w1.heap.size gW cW (cntN c S R k) ∧ Below w1.heap.size w1 wr) (fun _ kv _ => N - (intOf kv).toNat)
        case atStart => exact ⟨0, _, L, Nat.zero_le _, rfl, rfl, hst1, hb5⟩
        case round =>
          clear hst1 hb5 c4 f4
          obtain ⟨k, gW, cW, hk, rfl, rfl, hW, hb⟩ := hrel
          by_cases hkN : k < N
          · have hWl : (cntN c S R k).length = L := by rw [cntN_length]; exact HLe.out
            have hsmall := fun (s i j : Nat) (hi : i ≤ c.length) => cnt_small (c := c) (S := S) (R := R) (k := k) (s := s) hn4 (by omega) hi j
            have hstep : cntN c S R (k + 1) = cntAll c S R (cntN c S R k) R.length := rfl
            have Hstep := Lib.hid hstep; have Hsmall := Lib.hid hsmall
            clear hstep hsmall
            generalize cntN c S R k = W at *
            have HWl := Lib.hid hWl
            clear hWl
            obtain ⟨wo, rfl⟩ : ∃ wo : World, wo = wr := ⟨_, rfl⟩
            go_wp2_with (at_make; refine wpList_make_ints rfl _ _ rfl w1.heap.size L _ rfl rfl rfl (by omega) hb.size ?_)
            intro w5 hN5 hg5
            have hW5 := hW.grown hg5 (by simp)
            have hb5 : Below w1.heap.size w1 w5 := hb.grown hg5 hb.size (by simp)
            have hgWl := hW.lt
            have hne : wo.heap.size ≠ gW := by omega
            have hN5' : Own w5 w1.heap.size wo.heap.size L (cntAll c S R W 0) := by unfold cntAll; rw [HLe.out]; exact hN5
            clear hW hb hg5 hN5 hgWl
            generalize wo.heap.size = gN at *
            go_wp2_with fail
            go_loopw [43] (fun sv wi => ∃ (s : Nat), s ≤ L ∧ sv = .int .i64 s ∧ Own wi w1.heap.size gN L (cntAll c S R W s) ∧ Own wi w1.heap.size gW cW W ∧ Below w1.heap.size w1 wi) (fun sv _ => L - (intOf sv).toNat)
            case atStart => exact ⟨0, Nat.zero_le _, rfl, hN5', hW5, hb5⟩
            case round =>
              clear hN5' hW5 hb5
              obtain ⟨s, hs, rfl, hN', hW, hb⟩ := hrel
              by_cases hsL : s < L
              · have hsR : s < R.length := by rw [HLe.out]; exact hsL
                have hv := (Hsmall.out s 0 0 (Nat.zero_le _)).1
                have hrow : cntAll c S R W (s + 1) = cntRow c S R W s (cntAll c S R W s) c.length := rfl
                have hr0 : cntRow c S R W s (cntAll c S R W s) 0 = cntAll c S R W s := rfl
                have hrs : ∀ i, cntRow c S R W s (cntAll c S R W s) (i + 1) = addAt (cntRow c S R W s (cntAll c S R W s) i) (mvS c S R (R.getD s []) i) (W.getD s 0) := fun _ => rfl
                have hrsm : ∀ i j, i ≤ c.length → 0 ≤ (cntRow c S R W s (cntAll c S R W s) i).getD j 0 ∧ (cntRow c S R W s (cntAll c S R W s) i).getD j 0 ≤ 134217728 := fun i j hi => (Hsmall.out s i j hi).2
                have hrlen : ∀ i, (cntRow c S R W s (cntAll c S R W s) i).length = L := fun i => by rw [cntRow_length, cntAll_length]; exact HLe.out
                obtain ⟨ga, oa, ca, p1, p2, p3, p4⟩ := HM.out s (by rw [mvT_length]; exact hsR)
                have hal : ((mvT c S R).getD s []).length = c.length := by rw [mvT_row hsR]; simp
                rw [hal, Nat.zero_add] at p1
                replace p1 := (hb.cell (p := ⟨gV, s, none⟩) hgV).trans p1
                have hmc : ∀ i, i < c.length → w1.cell? ⟨ga, oa + i, none⟩ = some (.int .i64 (mvS c S R (R.getD s []) i)) := fun i hi => by
                  have := p4 i (by rw [hal]; exact hi)
                  rw [mvT_at hsR hi] at this
                  exact this
                have hmlt : ∀ i, mvS c S R (R.getD s []) i < (L : Int) := fun i => by rw [← HLe.out]; exact mvS_lt (by omega)
                generalize hvv : W.getD s 0 = v at *
                have Hrow := Lib.hid hrow; have Hr0 := Lib.hid hr0; have Hrs := Lib.hid hrs; have Hrsm := Lib.hid hrsm; have Hrlen := Lib.hid hrlen; have Hvv := Lib.hid hvv; have Hmc := Lib.hid hmc; have Hmlt := Lib.hid hmlt
                clear hrow hr0 hrs hrsm hrlen hvv hmc hmlt p4 hal p2
                obtain ⟨wi, rfl⟩ : ∃ wi : World, wi = wr := ⟨_, rfl⟩
                go_wp2_with fail
                go_loopw [50] (fun iv wj => ∃ i : Nat, i ≤ c.length ∧ iv = .int .i64 i ∧ Own wj w1.heap.size gN L (cntRow c S R W s (cntAll c S R W s) i) ∧ Own wj w1.heap.size gW cW W ∧ Below w1.heap.size w1 wj) (fun iv _ => c.length - (intOf iv).toNat)
                case atStart => exact ⟨0, Nat.zero_le _, rfl, by rw [Hr0.out]; exact hN', hW, hb⟩
                case round =>
                  clear hN' hW hb
                  obtain ⟨i, hi, rfl, hN', hW, hb⟩ := hrel
                  by_cases hil : i < c.length
                  · have q1 := (hb.cell (p := ⟨ga, oa + i, none⟩) p3).trans (Hmc.out i hil)
                    have hrs := Hrs.out i
                    have hml := Hmlt.out i
                    generalize mvS c S R (R.getD s []) i = m at *
                    unfold addAt at hrs
                    by_cases hm0 : 0 ≤ m
                    · obtain ⟨t, rfl⟩ : ∃ t : Nat, m = (t : Int) := ⟨_, (Int.toNat_of_nonneg hm0).symm⟩
                      rw [if_pos hm0, Int.toNat_natCast] at hrs
                      have htL : t < L := by omega
                      have Hrs3 := Lib.hid hrs
                      have hbd := Hrsm.out i t (by omega)
                      have hlen := Hrlen.out i
                      clear hrs
                      generalize cntRow c S R W s (cntAll c S R W s) i = X at *
                      have qv : wr.cell? ⟨gW, s, none⟩ = some (.int .i64 v) := by rw [← Hvv.out]; exact hW.cell s (by rw [HWl.out]; exact hsL)
                      have qx := hN'.cell t (by rw [hlen]; exact htL)
                      have fx := hN'.frozen t
                      have hset := hN'.set t (X.getD t 0 + v)
                      have Hset := Lib.hid hset; have Hlen := Lib.hid hlen
                      clear hset hlen
                      generalize X.getD t 0 = y at *
                      have ht0 : (0 : Int) ≤ (t : Int) := by omega
                      have htI : (t : Int) < (L : Int) := by omega
                      have hs0 : (0 : Int) ≤ (s : Int) := by omega
                      have hsI : (s : Int) < (L : Int) := by omega
                      go_wp2_with fail
                      go_region
                      all_goals go_wp2_with fail
                      all_goals
                        go_roundw
                        case rel =>
                          refine ⟨i + 1, by omega, by go_num, ?_, ?_, ?_⟩
                          · rw [Hrs3.out]; first | exact Hset.out.1 | exact Hset.out.1.drew
                          · first | exact (hW.grown Hset.out.2 (fun e => hne (Option.some.inj e).symm)) | exact (hW.grown Hset.out.2 (fun e => hne (Option.some.inj e).symm)).drew
                          · first | exact hb.grown Hset.out.2 hb.size (by intro t ht; cases ht; exact hN'.base) | exact (hb.grown Hset.out.2 hb.size (by intro t ht; cases ht; exact hN'.base)).drew
                        case measure => simp [intOf]; omega
                    · rw [if_neg hm0] at hrs
                      have Hrs3 := Lib.hid hrs
                      have hmn : m < 0 := by omega
                      clear hrs hm0
                      go_wp2_with fail
                      go_roundw
                      case rel => exact ⟨i + 1, by omega, by go_num, by rw [Hrs3.out]; exact hN', hW, hb⟩
                      case measure => simp [intOf]; omega
                  · obtain rfl : i = c.length := by omega
                    rw [← Hrow.out] at hN'
                    go_wp2_with fail
                    go_roundw
                    case rel => exact ⟨s + 1, by omega, by go_num, hN', hW, hb⟩
                    case measure => simp [intOf]; omega
              · obtain rfl : s = L := by omega
                have hN2 : Own wr w1.heap.size gN s (cntN c S R (k + 1)) := by rw [Hstep.out, HLe.out]; exact hN'
                clear hN'
                go_wp2_with fail
                go_roundw
                case rel => exact ⟨k + 1, gN, s, by omega, by go_num, rfl, hN2, hb⟩
                case measure => simp [intOf]; omega
          · obtain rfl : k = N := by omega
            have hWl : (cntN c S R k).length = L := by rw [cntN_length]; exact HLe.out
            have hh := impl_HeightOf_any gW 0 L cW (cntN c S R k) wr hWl (by rw [hWl]; omega) hW.cells
            have Hh := Lib.hid hh
            have hB2 := hb1.trans (hb.mono hb1.size)
            clear hh hWl
            go_wp2_with fail
            refine Hh.out.mono ?_
            rintro e w9 ⟨rfl, hs9⟩
            have hB3 := below_still hB2 hs9
            go_wp2_with fail
            go_ret
            exact ⟨ret_int Hv2.out.symm, hB3⟩
end Go.Proofs.YtmplcohpinghbaaGreatDoor
