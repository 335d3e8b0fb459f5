/- MulPoly, ProductCounts: contracts. Polynomials of Kazhdan and Lusztig by tables, arrows, cells: of both, as functions. Plain law. -/
import Derived.Test.YtdedkfbiookofaaGreatDoorM29
namespace Go.Proofs.YtdedkfbiookofaaGreatDoor
set_option maxRecDepth 100000
open Go.RowKit
def addAt (out : List Int) (t : Nat) (v : Int) : List Int := out.set t (wrap64 (out.getD t 0 + v))
def rowTo (out : List Int) (x : Int) (ys : List Int) (i : Nat) : Nat → List Int
  | 0 => out
  | k + 1 => addAt (rowTo out x ys i k) (i + k) (wrap64 (x * ys.getD k 0))
def mulTo (xs ys : List Int) : Nat → List Int
  | 0 => List.replicate (xs.length + ys.length - 1) 0
  | i + 1 => rowTo (mulTo xs ys i) (xs.getD i 0) ys i ys.length
def mul (xs ys : List Int) : List Int := if xs.length = 0 ∨ ys.length = 0 ∨ 62 < xs.length + ys.length then [] else trim (mulTo xs ys xs.length)
theorem rowTo_length (out : List Int) (x : Int) (ys : List Int) (i k : Nat) : (rowTo out x ys i k).length = out.length := by
  induction k with
  | zero => rfl
  | succ k ih => simp [rowTo, addAt, ih]
theorem mulTo_length (xs ys : List Int) (i : Nat) : (mulTo xs ys i).length = xs.length + ys.length - 1 := by
  induction i with
  | zero => simp [mulTo]
  | succ i ih => rw [mulTo, rowTo_length, ih]
theorem mul_length_le (xs ys : List Int) : (mul xs ys).length ≤ 61 := by
  unfold mul
  split
  · simp
  · have h1 := trimN_le (mulTo xs ys xs.length) (mulTo xs ys xs.length).length
    rw [trim_length]
    rw [mulTo_length] at h1 ⊢
    omega
theorem rowTo_succ {out : List Int} {x : Int} {ys : List Int} {i k : Nat} (hk : k < ys.length) (h : i + k < (rowTo out x ys i k).length) :
    (rowTo out x ys i k).set (i + k) (wrap64 ((rowTo out x ys i k)[i + k] + wrap64 (x * ys[k]))) = rowTo out x ys i (k + 1) := by
  simp [rowTo, addAt, List.getD, hk, h]
theorem row_step {xs ys R : List Int} {i k : Nat} (hi : i < xs.length) (hk : k < ys.length) (hl : i + k < R.length) (hR : rowTo (mulTo xs ys i) (xs.getD i 0) ys i k = R) :
    R.set (i + k) (wrap64 (R[i + k] + wrap64 (xs[i] * ys[k]))) = rowTo (mulTo xs ys i) (xs.getD i 0) ys i (k + 1) := by
  subst hR
  rw [← rowTo_succ hk hl]
  simp [List.getD, hi]
set_option maxHeartbeats 1000000 in
theorem spec_MulPoly_any (g1 o1 n1 c1 g2 o2 n2 c2 : Nat) (xs ys : List Int) (w : World) (hn1 : xs.length = n1) (hn2 : ys.length = n2) (hx : xs.length ≤ 1099511627776) (hy : ys.length ≤ 1099511627776)
    (hg1 : g1 < w.heap.size) (hg2 : g2 < w.heap.size) (hc1 : Cells w g1 o1 xs) (hc2 : Cells w g2 o2 ys) :
    Calls Tryz.prog 17 #[(Value.slice (some ⟨g1, o1, none⟩) n1 c1), (Value.slice (some ⟨g2, o2, none⟩) n2 c2)] w (GotInts w (mul xs ys)) := by
  subst hn1; subst hn2
  by_cases hbad : xs.length = 0 ∨ ys.length = 0 ∨ 62 < xs.length + ys.length
  · have e : mul xs ys = [] := by unfold mul; rw [if_pos hbad]
    rw [e]
    by_cases h1 : xs.length = 0
    · have d1 : ((xs.length : Int) == 0) = true := by simp [h1]
      have H1 := Lib.hid h1; clear h1 hbad
      go_enter Tryz.func17, Tryz.ntmps17
      go_wp2
      go_ret
      exact GotInts.mk' _ _ rfl (Own.empty (Nat.le_refl _)) ((Below.refl _ _).alloc (Nat.le_refl _) _)
    · have d1 : ((xs.length : Int) == 0) = false := by simp; intro h; simp [h] at h1
      by_cases h2 : ys.length = 0
      · have d2 : ((ys.length : Int) == 0) = true := by simp [h2]
        have H1 := Lib.hid h1; have H2 := Lib.hid h2; clear h1 h2 hbad
        go_enter Tryz.func17, Tryz.ntmps17
        go_wp2
        go_ret
        exact GotInts.mk' _ _ rfl (Own.empty (Nat.le_refl _)) ((Below.refl _ _).alloc (Nat.le_refl _) _)
      · have d2 : ((ys.length : Int) == 0) = false := by simp; intro h; simp [h] at h2
        have d3 : decide ((62 : Int) < (xs.length : Int) + (ys.length : Int)) = true := by simp; omega
        have H1 := Lib.hid h1; have H2 := Lib.hid h2; clear h1 h2 hbad
        go_enter Tryz.func17, Tryz.ntmps17
        go_wp2
        go_ret
        exact GotInts.mk' _ _ rfl (Own.empty (Nat.le_refl _)) ((Below.refl _ _).alloc (Nat.le_refl _) _)
  · have hp1 : 0 < xs.length := by omega
    have hp2 : 0 < ys.length := by omega
    have hsm : xs.length + ys.length ≤ 62 := by omega
    have e : mul xs ys = trim (mulTo xs ys xs.length) := by unfold mul; rw [if_neg hbad]
    rw [e]
    clear e hbad
    have d1 : ((xs.length : Int) == 0) = false := by simp; intro h; simp [h] at hp1
    have d2 : ((ys.length : Int) == 0) = false := by simp; intro h; simp [h] at hp2
    have d3 : decide ((62 : Int) < (xs.length : Int) + (ys.length : Int)) = false := by simp; omega
    go_enter Tryz.func17, Tryz.ntmps17
    go_wp2_with (at_make; refine wpList_make_ints rfl _ _ rfl w.heap.size (xs.length + ys.length - 1) _ (by omega) rfl rfl (by omega) (Nat.le_refl _) ?_)
    intro w1 hown0 hgr
    have hb0 := below_of_grown hgr
    clear hgr
    go_wp2
    go_loopw [6] (fun i wr => ∃ k : Nat, k ≤ xs.length ∧ i = .int .i64 k ∧ Own wr w.heap.size w.heap.size (xs.length + ys.length - 1) (mulTo xs ys k) ∧ Below w.heap.size w wr) (fun i _ => xs.length - (intOf i).toNat)
    case atStart => exact ⟨0, Nat.zero_le _, rfl, hown0, hb0⟩
    case round =>
      obtain ⟨i, hi, rfl, ho, hb⟩ := hrel
      by_cases hlt : i < xs.length
      · have h1 := hc1.below hb hg1 i hlt
        obtain ⟨wo, rfl⟩ : ∃ wo : World, wo = wr := ⟨_, rfl⟩
        go_wp2
        go_loopw [7] (fun j wr => ∃ k : Nat, k ≤ ys.length ∧ j = .int .i64 k ∧ Own wr w.heap.size w.heap.size (xs.length + ys.length - 1) (rowTo (mulTo xs ys i) (xs.getD i 0) ys i k) ∧ Below w.heap.size w wr) (fun j _ => ys.length - (intOf j).toNat)
        case atStart => exact ⟨0, Nat.zero_le _, rfl, ho, hb⟩
        case round =>
          obtain ⟨k, hk, rfl, ho2, hb2⟩ := hrel
          by_cases hlt2 : k < ys.length
          · have q1 := hc1.below hb2 hg1 i hlt
            have q2 := hc2.below hb2 hg2 k hlt2
            obtain ⟨R, hR⟩ : ∃ R, rowTo (mulTo xs ys i) (xs.getD i 0) ys i k = R := ⟨_, rfl⟩
            have hl : i + k < R.length := by rw [← hR, rowTo_length, mulTo_length]; omega
            rw [hR] at ho2
            have q3 := ho2.cell (i + k) hl
            have f3 := ho2.frozen (i + k)
            have HR := Lib.hid hR; clear hR
            go_wp2
            go_region
            all_goals go_wp2
            all_goals
              go_roundw
              case rel =>
                have hs := ho2.set (i + k) (wrap64 (R[i + k] + wrap64 (xs[i] * ys[k])))
                rw [row_step hlt hlt2 hl HR.out] at hs
                exact ⟨k + 1, by omega, by go_num, by first | exact hs.1.drew | exact hs.1, by first | exact (hb2.grown hs.2 hb2.size (by intro j hj; cases hj; exact ho2.base)).drew | exact hb2.grown hs.2 hb2.size (by intro j hj; cases hj; exact ho2.base)⟩
              case measure => simp [intOf]; omega
          · obtain rfl : k = ys.length := by omega
            go_wp2
            go_roundw
            case rel => exact ⟨i + 1, by omega, by go_num, ho2, hb2⟩
            case measure => simp [intOf]; omega
      · obtain rfl : i = xs.length := by omega
        go_wp2_with fail
        refine (spec_TrimPoly_any w.heap.size 0 _ _ (mulTo xs ys xs.length) _ (mulTo_length _ _ _) (by rw [mulTo_length]; omega) (Nat.le_refl _) ho.lt ho.cells).mono ?_
        rintro e w2 ⟨g3, c3, rfl, ho3, hb3⟩
        go_wp2_with fail
        go_ret
        exact GotInts.mk' g3 c3 rfl (ho3.mono hb.size) (hb.trans (hb3.mono hb.size))
set_option maxHeartbeats 1000000 in
theorem impl_MulPoly_any (g1 o1 n1 c1 g2 o2 n2 c2 : Nat) (xs ys : List Int) (w : World) (hn1 : xs.length = n1) (hn2 : ys.length = n2) (hx : xs.length ≤ 1099511627776) (hy : ys.length ≤ 1099511627776)
    (hg1 : g1 < w.heap.size) (hg2 : g2 < w.heap.size) (hc1 : Cells w g1 o1 xs) (hc2 : Cells w g2 o2 ys) :
    Calls Tryz.prog 129 #[(Value.slice (some ⟨g1, o1, none⟩) n1 c1), (Value.slice (some ⟨g2, o2, none⟩) n2 c2)] w (GotInts w (mul xs ys)) := by
  subst hn1; subst hn2
  by_cases hbad : xs.length = 0 ∨ ys.length = 0 ∨ 62 < xs.length + ys.length
  · have e : mul xs ys = [] := by unfold mul; rw [if_pos hbad]
    rw [e]
    by_cases h3 : 62 < xs.length + ys.length
    · have d3 : decide ((62 : Int) < (xs.length : Int) + (ys.length : Int)) = true := by simp; omega
      clear hbad
      go_enter Tryz.func129, Tryz.ntmps129
      go_wp2
      go_ret
      exact GotInts.mk' _ _ rfl (Own.empty (Nat.le_refl _)) ((Below.refl _ _).alloc (Nat.le_refl _) _)
    · have d3 : decide ((62 : Int) < (xs.length : Int) + (ys.length : Int)) = false := by simp; omega
      by_cases h1 : xs.length = 0
      · have d1 : ((xs.length : Int) == 0) = true := by simp [h1]
        have H1 := Lib.hid h1; clear h1 hbad
        go_enter Tryz.func129, Tryz.ntmps129
        go_wp2
        go_ret
        exact GotInts.mk' _ _ rfl (Own.empty (Nat.le_refl _)) ((Below.refl _ _).alloc (Nat.le_refl _) _)
      · have d1 : ((xs.length : Int) == 0) = false := by simp; intro h; simp [h] at h1
        have d2 : ((ys.length : Int) == 0) = true := by simp; have : ys.length = 0 := (by omega); simpa using this
        have H1 := Lib.hid h1; clear h1 hbad
        go_enter Tryz.func129, Tryz.ntmps129
        go_wp2
        go_ret
        exact GotInts.mk' _ _ rfl (Own.empty (Nat.le_refl _)) ((Below.refl _ _).alloc (Nat.le_refl _) _)
  · have hp1 : 0 < xs.length := by omega
    have hp2 : 0 < ys.length := by omega
    have hsm : xs.length + ys.length ≤ 62 := by omega
    have e : mul xs ys = trim (mulTo xs ys xs.length) := by unfold mul; rw [if_neg hbad]
    rw [e]
    clear e hbad
    have d1 : ((xs.length : Int) == 0) = false := by simp; intro h; simp [h] at hp1
    have d2 : ((ys.length : Int) == 0) = false := by simp; intro h; simp [h] at hp2
    have d3 : decide ((62 : Int) < (xs.length : Int) + (ys.length : Int)) = false := by simp; omega
    go_enter Tryz.func129, Tryz.ntmps129
    go_wp2_with (at_make; refine wpList_make_ints rfl _ _ rfl w.heap.size (xs.length + ys.length - 1) _ (by omega) rfl rfl (by omega) (Nat.le_refl _) ?_)
    intro w1 hown0 hgr
    have hb0 := below_of_grown hgr
    clear hgr
    go_wp2
    go_loopw [36] (fun i wr => ∃ k : Nat, k ≤ xs.length ∧ i = .int .i64 k ∧ Own wr w.heap.size w.heap.size (xs.length + ys.length - 1) (mulTo xs ys k) ∧ Below w.heap.size w wr) (fun i _ => xs.length - (intOf i).toNat)
    case atStart => exact ⟨0, Nat.zero_le _, rfl, hown0, hb0⟩
    case round =>
      obtain ⟨i, hi, rfl, ho, hb⟩ := hrel
      by_cases hlt : i < xs.length
      · have h1 := hc1.below hb hg1 i hlt
        obtain ⟨wo, rfl⟩ : ∃ wo : World, wo = wr := ⟨_, rfl⟩
        go_wp2
        go_loopw [43] (fun j wr => ∃ k : Nat, k ≤ ys.length ∧ j = .int .i64 k ∧ Own wr w.heap.size w.heap.size (xs.length + ys.length - 1) (rowTo (mulTo xs ys i) (xs.getD i 0) ys i k) ∧ Below w.heap.size w wr) (fun j _ => ys.length - (intOf j).toNat)
        case atStart => exact ⟨0, Nat.zero_le _, rfl, ho, hb⟩
        case round =>
          obtain ⟨k, hk, rfl, ho2, hb2⟩ := hrel
          by_cases hlt2 : k < ys.length
          · have q1 := hc1.below hb2 hg1 i hlt
            have q2 := hc2.below hb2 hg2 k hlt2
            obtain ⟨R, hR⟩ : ∃ R, rowTo (mulTo xs ys i) (xs.getD i 0) ys i k = R := ⟨_, rfl⟩
            have hl : i + k < R.length := by rw [← hR, rowTo_length, mulTo_length]; omega
            rw [hR] at ho2
            have q3 := ho2.cell (i + k) hl
            have f3 := ho2.frozen (i + k)
            have HR := Lib.hid hR; clear hR
            go_wp2
            all_goals
              go_roundw
              case rel =>
                have hs := ho2.set (i + k) (wrap64 (R[i + k] + wrap64 (xs[i] * ys[k])))
                rw [row_step hlt hlt2 hl HR.out] at hs
                exact ⟨k + 1, by omega, by go_num, by first | exact hs.1.drew | exact hs.1, by first | exact (hb2.grown hs.2 hb2.size (by intro j hj; cases hj; exact ho2.base)).drew | exact hb2.grown hs.2 hb2.size (by intro j hj; cases hj; exact ho2.base)⟩
              case measure => simp [intOf]; omega
          · obtain rfl : k = ys.length := by omega
            go_wp2
            go_roundw
            case rel => exact ⟨i + 1, by omega, by go_num, ho2, hb2⟩
            case measure => simp [intOf]; omega
      · obtain rfl : i = xs.length := by omega
        go_wp2_with fail
        refine (impl_TrimPoly_any w.heap.size 0 _ _ (mulTo xs ys xs.length) _ (mulTo_length _ _ _) (by rw [mulTo_length]; omega) (Nat.le_refl _) ho.lt ho.cells).mono ?_
        rintro e w2 ⟨g3, c3, rfl, ho3, hb3⟩
        go_wp2_with fail
        go_ret
        exact GotInts.mk' g3 c3 rfl (ho3.mono hb.size) (hb.trans (hb3.mono hb.size))
end Go.Proofs.YtdedkfbiookofaaGreatDoor
namespace Go.Proofs.YtdedkfbiookofaaGreatDoor
set_option maxRecDepth 100000
open Go.RowKit Game
def addP (a b : List Int) : List Int := trim ((List.range (max a.length b.length)).map fun i => if i < b.length then wrap64 (a.getD i 0 + b.getD i 0) else a.getD i 0)
def subP' (a b : List Int) : List Int := trim ((List.range (max a.length b.length)).map fun i => if i < b.length then wrap64 (a.getD i 0 - b.getD i 0) else a.getD i 0)
def negP (b : List Int) : List Int := b.map fun x => wrap64 (-x)
def shI (p : List Int) (k : Nat) : List Int := if trim p = [] then [] else List.replicate k 0 ++ trim p
def shS (p : List Int) (k : Nat) : List Int := if p.length = 0 then trim p else trim (List.replicate k 0 ++ p)
theorem trim_le (xs : List Int) : (trim xs).length ≤ xs.length := by rw [trim_length]; exact trimN_le _ _
theorem addP_le (a b : List Int) : (addP a b).length ≤ max a.length b.length := Nat.le_trans (trim_le _) (by simp)
theorem subP_le (a b : List Int) : (subP' a b).length ≤ max a.length b.length := Nat.le_trans (trim_le _) (by simp)
theorem negP_length (b : List Int) : (negP b).length = b.length := by simp [negP]
theorem shI_le (p : List Int) (k : Nat) : (shI p k).length ≤ k + p.length := by
  unfold shI
  split
  · simp
  · rw [List.length_append, List.length_replicate]; have := trim_le p; omega
theorem shS_le (p : List Int) (k : Nat) : (shS p k).length ≤ k + p.length := by
  unfold shS
  split
  · have := trim_le p; omega
  · refine Nat.le_trans (trim_le _) ?_
    rw [List.length_append, List.length_replicate]; exact Nat.le_refl _
def lenA (L : List (List Int)) (x : Nat) : Nat := (L.getD x []).length
def tabA (T : List (List Int)) (x s : Nat) : Nat := ((T.getD x []).getD s 0).toNat
def pol (P : List (List (List Int))) (u v : Nat) : List Int := (P.getD u []).getD v []
def shorter (L T : List (List Int)) (s x : Nat) : Bool := decide (lenA L (tabA T x s) < lenA L x)
def muI (L : List (List Int)) (p : List Int) (z v : Nat) : Int :=
  if lenA L v ≤ lenA L z ∨ (lenA L v - lenA L z) % 2 = 0 ∨ p.length ≤ (lenA L v - lenA L z - 1) / 2 then 0 else p.getD ((lenA L v - lenA L z - 1) / 2) 0
def zStep (L T : List (List Int)) (P : List (List (List Int))) (u v w s : Nat) (p : List Int) (z : Nat) : List Int :=
  if muI L (pol P z w) z w = 0 ∨ shorter L T s z = false then p else subP' p (mul [muI L (pol P z w) z w] (shI (pol P u z) ((lenA L v - lenA L z) / 2)))
def headA (L : List (List Int)) (v : Nat) : Nat := ((L.getD v []).getD 0 0).toNat
def madeS0 (L T : List (List Int)) (P : List (List (List Int))) (u v : Nat) : List Int :=
  if shorter L T (headA L v) u = true then addP (pol P (tabA T u (headA L v)) (tabA T v (headA L v))) (shI (pol P u (tabA T v (headA L v))) 1)
  else addP (shI (pol P (tabA T u (headA L v)) (tabA T v (headA L v))) 1) (pol P u (tabA T v (headA L v)))
def madeTo (L T : List (List Int)) (P : List (List (List Int))) (u v t : Nat) : List Int :=
  (List.range t).foldl (zStep L T P u v (tabA T v (headA L v)) (headA L v)) (madeS0 L T P u v)
def madeI (L T : List (List Int)) (P : List (List (List Int))) (u v : Nat) : List Int :=
  if u = v then [1] else if lenA L v ≤ lenA L u then [] else madeTo L T P u v L.length
theorem madeTo_succ (L T : List (List Int)) (P : List (List (List Int))) (u v t : Nat) : madeTo L T P u v (t + 1) = zStep L T P u v (tabA T v (headA L v)) (headA L v) (madeTo L T P u v t) t := by
  unfold madeTo; rw [List.range_succ, List.foldl_append]; rfl
def setP (P : List (List (List Int))) (u v : Nat) (p : List Int) : List (List (List Int)) := P.set u ((P.getD u []).set v p)
def tabU (L T : List (List Int)) (P : List (List (List Int))) (v t : Nat) : List (List (List Int)) := (List.range t).foldl (fun P u => setP P u v (madeI L T P u v)) P
def tabV (L T : List (List Int)) (t : Nat) : List (List (List Int)) := (List.range t).foldl (fun P v => tabU L T P v L.length) (List.replicate L.length (List.replicate L.length []))
def tabI (L T : List (List Int)) : List (List (List Int)) := tabV L T L.length
theorem tabU_succ (L T : List (List Int)) (P : List (List (List Int))) (v t : Nat) : tabU L T P v (t + 1) = setP (tabU L T P v t) t v (madeI L T (tabU L T P v t) t v) := by
  unfold tabU; rw [List.range_succ, List.foldl_append]; rfl
theorem tabV_succ (L T : List (List Int)) (t : Nat) : tabV L T (t + 1) = tabU L T (tabV L T t) t L.length := by
  unfold tabV; rw [List.range_succ, List.foldl_append]; rfl
def muS (p : List Int) (d : Int) : Int := if d % 2 = 0 ∨ (p.length : Int) ≤ (d - 1) / 2 ∨ d < 0 then 0 else p.getD ((d - 1) / 2).toNat 0
def zStepS (L T : List (List Int)) (R : List (List (List Int))) (u n k s : Nat) (p : List Int) (z : Nat) : List Int :=
  if muS (pol R k z) ((lenA L k : Int) - lenA L z) ≠ 0 ∧ shorter L T s z = true then addP p (negP (shS (mul (pol R z u) [muS (pol R k z) ((lenA L k : Int) - lenA L z)]) ((lenA L n - lenA L z) / 2))) else p
def nextS0 (L T : List (List Int)) (R : List (List (List Int))) (n u : Nat) : List Int :=
  if lenA L (tabA T u (headA L n)) < lenA L u then addP (pol R (tabA T n (headA L n)) (tabA T u (headA L n))) (shS (pol R (tabA T n (headA L n)) u) 1)
  else addP (shS (pol R (tabA T n (headA L n)) (tabA T u (headA L n))) 1) (pol R (tabA T n (headA L n)) u)
def nextZ (L T : List (List Int)) (R : List (List (List Int))) (n u t : Nat) : List Int := (List.range t).foldl (zStepS L T R u n (tabA T n (headA L n)) (headA L n)) (nextS0 L T R n u)
theorem nextZ_succ (L T : List (List Int)) (R : List (List (List Int))) (n u t : Nat) : nextZ L T R n u (t + 1) = zStepS L T R u n (tabA T n (headA L n)) (headA L n) (nextZ L T R n u t) t := by
  unfold nextZ; rw [List.range_succ, List.foldl_append]; rfl
def nextTo' (L T : List (List Int)) (R : List (List (List Int))) (n t : Nat) : List (List Int) := (List.range t).map fun u => nextZ L T R n u (tabA T n (headA L n))
def firstTo (t : Nat) : List (List Int) := (List.range t).map fun u => if u = 0 then [1] else []
theorem firstTo_succ (t : Nat) : firstTo (t + 1) = firstTo t ++ [if t = 0 then [1] else []] := by simp [firstTo, List.range_succ]
def rowsTo (L T : List (List Int)) (t : Nat) : List (List (List Int)) := (List.range t).foldl (fun R n => R ++ [nextTo' L T R (n + 1) L.length]) [firstTo L.length]
theorem rowsTo_succ (L T : List (List Int)) (t : Nat) : rowsTo L T (t + 1) = rowsTo L T t ++ [nextTo' L T (rowsTo L T t) (t + 1) L.length] := by unfold rowsTo; rw [List.range_succ, List.foldl_append]; rfl
theorem rowsTo_length (L T : List (List Int)) : ∀ t, (rowsTo L T t).length = t + 1
  | 0 => rfl
  | t + 1 => by rw [rowsTo_succ, List.length_append, rowsTo_length L T t]; rfl
def rowsS (L T : List (List Int)) : List (List (List Int)) := rowsTo L T (L.length - 1)
abbrev Arr := Nat × Nat × Int
def arrIm (L : List (List Int)) (P : List (List (List Int))) (i j : Nat) : Int := wrap64 (muI L (pol P i j) i j + muI L (pol P j i) j i)
def arrI1 (n : Nat) (L T : List (List Int)) (P : List (List (List Int))) (i j : Nat) : List Arr :=
  if arrIm L P i j = 0 then [] else if (List.range n).any (fun s => shorter L T s j && !shorter L T s i) then [(i, j, arrIm L P i j)] else []
def arrITo (n : Nat) (L T : List (List Int)) (P : List (List (List Int))) (i t : Nat) : List Arr := (List.range t).flatMap (arrI1 n L T P i)
def arrIRow (n : Nat) (L T : List (List Int)) (P : List (List (List Int))) (t : Nat) : List Arr := (List.range t).flatMap fun i => arrITo n L T P i L.length
def arrI (n : Nat) (L T : List (List Int)) (P : List (List (List Int))) : List Arr := arrIRow n L T P L.length
def musS (L : List (List Int)) (R : List (List (List Int))) (i k : Nat) : Int :=
  if lenA L k < lenA L i then muS (pol R i k) ((lenA L i : Int) - lenA L k) else muS (pol R k i) ((lenA L k : Int) - lenA L i)
def desK (c : List (List Int)) (v : List Int) : List Int := ((List.range c.length).filter fun i => decide ((actW c v (onesL c.length)).getD i 0 < 0)).map fun i : Nat => (i : Int)
def insB (a b : List Int) : Bool := a.all fun x => b.contains x
def arrS1 (c L : List (List Int)) (R : List (List (List Int))) (i k : Nat) : List Arr :=
  if musS L R i k ≠ 0 ∧ insB (desK c (L.getD k [])) (desK c (L.getD i [])) = false then [(i, k, musS L R i k)] else []
def arrSTo (c L : List (List Int)) (R : List (List (List Int))) (i t : Nat) : List Arr := (List.range t).flatMap (arrS1 c L R i)
def arrSRow (c L : List (List Int)) (R : List (List (List Int))) (t : Nat) : List Arr := (List.range t).flatMap fun i => arrSTo c L R i L.length
def arrS (c L : List (List Int)) (R : List (List (List Int))) : List Arr := arrSRow c L R L.length
def bfsStep (q : Nat) (st : List Bool × List Nat) (a : Arr) : List Bool × List Nat := if a.1 = q ∧ st.1.getD a.2.1 false = false then (st.1.set a.2.1 true, st.2 ++ [a.2.1]) else st
def bfsGo (A : List Arr) : Nat → Nat → List Bool × List Nat → List Bool × List Nat
  | 0, _, st => st
  | f + 1, k, st => if k < st.2.length then bfsGo A f (k + 1) (A.foldl (bfsStep (st.2.getD k 0)) st) else st
def bfs (A : List Arr) (N x : Nat) : List Bool := (bfsGo A (N + 1) 0 ((List.replicate N false).set x true, [x])).1
def cellL (M : List (List Bool)) (N i : Nat) : List Nat := (List.range N).filter fun k => (M.getD i []).getD k false && (M.getD k []).getD i false
def cellSTo (M : List (List Bool)) (N t : Nat) : List (List Nat) := (List.range t).foldl (fun out i => if (cellL M N i).headD N = i then out ++ [cellL M N i] else out) []
def cellIStep (M : List (List Bool)) (N : Nat) (st : List Bool × List (List Nat)) (i : Nat) : List Bool × List (List Nat) :=
  if st.1.getD i false = true then st else ((cellL M N i).foldl (fun sn j => sn.set j true) st.1, st.2 ++ [cellL M N i])
def cellITo (M : List (List Bool)) (N t : Nat) : List Bool × List (List Nat) := (List.range t).foldl (cellIStep M N) (List.replicate N false, [])
def matB (A : List Arr) (N : Nat) : List (List Bool) := (List.range N).map (bfs A N)
/-- the kernel's -/
def klFacts (n : Nat) (L T : List (List Int)) : Bool := (List.range L.length).all fun v => decide (v = 0) || (decide (0 < lenA L v) && (decide (headA L v < n) && (decide (tabA T v (headA L v) < v) && (List.range v).all fun z => decide (lenA L z ≤ lenA L v))))
def trP (N : Nat) (R : List (List (List Int))) : List (List (List Int)) := (List.range N).map fun u => (List.range N).map fun v => pol R v u
def klAll (c L T : List (List Int)) : Bool :=
  klFacts c.length L T && (decide (tabI L T = trP L.length (rowsS L T)) && (decide (arrI c.length L T (tabI L T) = arrS c L (rowsS L T)) && decide (cellSTo (matB (arrI c.length L T (tabI L T)) L.length) L.length L.length = (cellITo (matB (arrI c.length L T (tabI L T)) L.length) L.length L.length).2)))
def klC (c : List (List Int)) : Bool := klAll c (elemL c) (ltab c (elemL c) (elemL c).length)
def kl24 (c : List (List Int)) : Bool := decide (24 < prodT (nameL c)) || klC c
end Go.Proofs.YtdedkfbiookofaaGreatDoor
