/- MulPoly, ProductCounts: contracts. Polynomials of Kazhdan and Lusztig by tables, arrows, cells: of both, as functions. Plain law. Bruhat's order: what the reference's comparison says is 'a subword of the second word is the first element'. Plain law. What the polynomials of pairs hold, as the kernel checks it. Plain law. -/
import Derived.Test.YtdedkfbiookofaaGreatDoorK20
import Derived.Test.YtdedkfbiookofaaGreatDoorK11
namespace Go.Proofs.YtdedkfbiookofaaGreatDoor
set_option maxRecDepth 100000
open Go.RowKit
def addAt (out : List Int) (t : Nat) (v : Int) : List Int := out.set t (wrap64 (out.getD t 0 + v))
def rowTo (out : List Int) (x : Int) (ys : List Int) (i : Nat) : Nat → List Int
  | 0 => out
  | k + 1 => addAt (rowTo out x ys i k) (i + k) (wrap64 (x * ys.getD k 0))
def mulTo (xs ys : List Int) : Nat → List Int
  | 0 => List.replicate (xs.length + ys.length - 1) 0
  | i + 1 => rowTo (mulTo xs ys i) (xs.getD i 0) ys i ys.length
def mul (xs ys : List Int) : List Int := if xs.length = 0 ∨ ys.length = 0 ∨ 62 < xs.length + ys.length then [] else trim (mulTo xs ys xs.length)
theorem rowTo_length (out : List Int) (x : Int) (ys : List Int) (i k : Nat) : (rowTo out x ys i k).length = out.length := by
  induction k with
  | zero => rfl
  | succ k ih => simp [rowTo, addAt, ih]
theorem mulTo_length (xs ys : List Int) (i : Nat) : (mulTo xs ys i).length = xs.length + ys.length - 1 := by
  induction i with
  | zero => simp [mulTo]
  | succ i ih => rw [mulTo, rowTo_length, ih]
theorem mul_length_le (xs ys : List Int) : (mul xs ys).length ≤ 61 := by
  unfold mul
  split
  · simp
  · have h1 := trimN_le (mulTo xs ys xs.length) (mulTo xs ys xs.length).length
    rw [trim_length]
    rw [mulTo_length] at h1 ⊢
    omega
theorem rowTo_succ {out : List Int} {x : Int} {ys : List Int} {i k : Nat} (hk : k < ys.length) (h : i + k < (rowTo out x ys i k).length) :
    (rowTo out x ys i k).set (i + k) (wrap64 ((rowTo out x ys i k)[i + k] + wrap64 (x * ys[k]))) = rowTo out x ys i (k + 1) := by
  simp [rowTo, addAt, List.getD, hk, h]
theorem row_step {xs ys R : List Int} {i k : Nat} (hi : i < xs.length) (hk : k < ys.length) (hl : i + k < R.length) (hR : rowTo (mulTo xs ys i) (xs.getD i 0) ys i k = R) :
    R.set (i + k) (wrap64 (R[i + k] + wrap64 (xs[i] * ys[k]))) = rowTo (mulTo xs ys i) (xs.getD i 0) ys i (k + 1) := by
  subst hR
  rw [← rowTo_succ hk hl]
  simp [List.getD, hi]
set_option maxHeartbeats 1000000 in
theorem spec_MulPoly_any (g1 o1 n1 c1 g2 o2 n2 c2 : Nat) (xs ys : List Int) (w : World) (hn1 : xs.length = n1) (hn2 : ys.length = n2) (hx : xs.length ≤ 1099511627776) (hy : ys.length ≤ 1099511627776)
    (hg1 : g1 < w.heap.size) (hg2 : g2 < w.heap.size) (hc1 : Cells w g1 o1 xs) (hc2 : Cells w g2 o2 ys) :
    Calls Tryz.prog 17 #[(Value.slice (some ⟨g1, o1, none⟩) n1 c1), (Value.slice (some ⟨g2, o2, none⟩) n2 c2)] w (GotInts w (mul xs ys)) := by
  subst hn1; subst hn2
  by_cases hbad : xs.length = 0 ∨ ys.length = 0 ∨ 62 < xs.length + ys.length
  · have e : mul xs ys = [] := by unfold mul; rw [if_pos hbad]
    rw [e]
    by_cases h1 : xs.length = 0
    · have d1 : ((xs.length : Int) == 0) = true := by simp [h1]
      have H1 := Lib.hid h1; clear h1 hbad
      go_enter Tryz.func17, Tryz.ntmps17
      go_wp2
      go_ret
      exact GotInts.mk' _ _ rfl (Own.empty (Nat.le_refl _)) ((Below.refl _ _).alloc (Nat.le_refl _) _)
    · have d1 : ((xs.length : Int) == 0) = false := by simp; intro h; simp [h] at h1
      by_cases h2 : ys.length = 0
      · have d2 : ((ys.length : Int) == 0) = true := by simp [h2]
        have H1 := Lib.hid h1; have H2 := Lib.hid h2; clear h1 h2 hbad
        go_enter Tryz.func17, Tryz.ntmps17
        go_wp2
        go_ret
        exact GotInts.mk' _ _ rfl (Own.empty (Nat.le_refl _)) ((Below.refl _ _).alloc (Nat.le_refl _) _)
      · have d2 : ((ys.length : Int) == 0) = false := by simp; intro h; simp [h] at h2
        have d3 : decide ((62 : Int) < (xs.length : Int) + (ys.length : Int)) = true := by simp; omega
        have H1 := Lib.hid h1; have H2 := Lib.hid h2; clear h1 h2 hbad
        go_enter Tryz.func17, Tryz.ntmps17
        go_wp2
        go_ret
        exact GotInts.mk' _ _ rfl (Own.empty (Nat.le_refl _)) ((Below.refl _ _).alloc (Nat.le_refl _) _)
  · have hp1 : 0 < xs.length := by omega
    have hp2 : 0 < ys.length := by omega
    have hsm : xs.length + ys.length ≤ 62 := by omega
    have e : mul xs ys = trim (mulTo xs ys xs.length) := by unfold mul; rw [if_neg hbad]
    rw [e]
    clear e hbad
    have d1 : ((xs.length : Int) == 0) = false := by simp; intro h; simp [h] at hp1
    have d2 : ((ys.length : Int) == 0) = false := by simp; intro h; simp [h] at hp2
    have d3 : decide ((62 : Int) < (xs.length : Int) + (ys.length : Int)) = false := by simp; omega
    go_enter Tryz.func17, Tryz.ntmps17
    go_wp2_with (at_make; refine wpList_make_ints rfl _ _ rfl w.heap.size (xs.length + ys.length - 1) _ (by omega) rfl rfl (by omega) (Nat.le_refl _) ?_)
    intro w1 hown0 hgr
    have hb0 := below_of_grown hgr
    clear hgr
    go_wp2
    go_loopw [6] (fun i wr => ∃ k : Nat, k ≤ xs.length ∧ i = .int .i64 k ∧ Own wr w.heap.size w.heap.size (xs.length + ys.length - 1) (mulTo xs ys k) ∧ Below w.heap.size w wr) (fun i _ => xs.length - (intOf i).toNat)
    case atStart => exact ⟨0, Nat.zero_le _, rfl, hown0, hb0⟩
    case round =>
      obtain ⟨i, hi, rfl, ho, hb⟩ := hrel
      by_cases hlt : i < xs.length
      · have h1 := hc1.below hb hg1 i hlt
        obtain ⟨wo, rfl⟩ : ∃ wo : World, wo = wr := ⟨_, rfl⟩
        go_wp2
        go_loopw [7] (fun j wr => ∃ k : Nat, k ≤ ys.length ∧ j = .int .i64 k ∧ Own wr w.heap.size w.heap.size (xs.length + ys.length - 1) (rowTo (mulTo xs ys i) (xs.getD i 0) ys i k) ∧ Below w.heap.size w wr) (fun j _ => ys.length - (intOf j).toNat)
        case atStart => exact ⟨0, Nat.zero_le _, rfl, ho, hb⟩
        case round =>
          obtain ⟨k, hk, rfl, ho2, hb2⟩ := hrel
          by_cases hlt2 : k < ys.length
          · have q1 := hc1.below hb2 hg1 i hlt
            have q2 := hc2.below hb2 hg2 k hlt2
            obtain ⟨R, hR⟩ : ∃ R, rowTo (mulTo xs ys i) (xs.getD i 0) ys i k = R := ⟨_, rfl⟩
            have hl : i + k < R.length := by rw [← hR, rowTo_length, mulTo_length]; omega
            rw [hR] at ho2
            have q3 := ho2.cell (i + k) hl
            have f3 := ho2.frozen (i + k)
            have HR := Lib.hid hR; clear hR
            go_wp2
            go_region
            all_goals go_wp2
            all_goals
              go_roundw
              case rel =>
                have hs := ho2.set (i + k) (wrap64 (R[i + k] + wrap64 (xs[i] * ys[k])))
                rw [row_step hlt hlt2 hl HR.out] at hs
                exact ⟨k + 1, by omega, by go_num, by first | exact hs.1.drew | exact hs.1, by first | exact (hb2.grown hs.2 hb2.size (by intro j hj; cases hj; exact ho2.base)).drew | exact hb2.grown hs.2 hb2.size (by intro j hj; cases hj; exact ho2.base)⟩
              case measure => simp [intOf]; omega
          · obtain rfl : k = ys.length := by omega
            go_wp2
            go_roundw
            case rel => exact ⟨i + 1, by omega, by go_num, ho2, hb2⟩
            case measure => simp [intOf]; omega
      · obtain rfl : i = xs.length := by omega
        go_wp2_with fail
        refine (spec_TrimPoly_any w.heap.size 0 _ _ (mulTo xs ys xs.length) _ (mulTo_length _ _ _) (by rw [mulTo_length]; omega) (Nat.le_refl _) ho.lt ho.cells).mono ?_
        rintro e w2 ⟨g3, c3, rfl, ho3, hb3⟩
        go_wp2_with fail
        go_ret
        exact GotInts.mk' g3 c3 rfl (ho3.mono hb.size) (hb.trans (hb3.mono hb.size))
set_option maxHeartbeats 1000000 in
theorem impl_MulPoly_any (g1 o1 n1 c1 g2 o2 n2 c2 : Nat) (xs ys : List Int) (w : World) (hn1 : xs.length = n1) (hn2 : ys.length = n2) (hx : xs.length ≤ 1099511627776) (hy : ys.length ≤ 1099511627776)
    (hg1 : g1 < w.heap.size) (hg2 : g2 < w.heap.size) (hc1 : Cells w g1 o1 xs) (hc2 : Cells w g2 o2 ys) :
    Calls Tryz.prog 129 #[(Value.slice (some ⟨g1, o1, none⟩) n1 c1), (Value.slice (some ⟨g2, o2, none⟩) n2 c2)] w (GotInts w (mul xs ys)) := by
  subst hn1; subst hn2
  by_cases hbad : xs.length = 0 ∨ ys.length = 0 ∨ 62 < xs.length + ys.length
  · have e : mul xs ys = [] := by unfold mul; rw [if_pos hbad]
    rw [e]
    by_cases h3 : 62 < xs.length + ys.length
    · have d3 : decide ((62 : Int) < (xs.length : Int) + (ys.length : Int)) = true := by simp; omega
      clear hbad
      go_enter Tryz.func129, Tryz.ntmps129
      go_wp2
      go_ret
      exact GotInts.mk' _ _ rfl (Own.empty (Nat.le_refl _)) ((Below.refl _ _).alloc (Nat.le_refl _) _)
    · have d3 : decide ((62 : Int) < (xs.length : Int) + (ys.length : Int)) = false := by simp; omega
      by_cases h1 : xs.length = 0
      · have d1 : ((xs.length : Int) == 0) = true := by simp [h1]
        have H1 := Lib.hid h1; clear h1 hbad
        go_enter Tryz.func129, Tryz.ntmps129
        go_wp2
        go_ret
        exact GotInts.mk' _ _ rfl (Own.empty (Nat.le_refl _)) ((Below.refl _ _).alloc (Nat.le_refl _) _)
      · have d1 : ((xs.length : Int) == 0) = false := by simp; intro h; simp [h] at h1
        have d2 : ((ys.length : Int) == 0) = true := by simp; have : ys.length = 0 := (by omega); simpa using this
        have H1 := Lib.hid h1; clear h1 hbad
        go_enter Tryz.func129, Tryz.ntmps129
        go_wp2
        go_ret
        exact GotInts.mk' _ _ rfl (Own.empty (Nat.le_refl _)) ((Below.refl _ _).alloc (Nat.le_refl _) _)
  · have hp1 : 0 < xs.length := by omega
    have hp2 : 0 < ys.length := by omega
    have hsm : xs.length + ys.length ≤ 62 := by omega
    have e : mul xs ys = trim (mulTo xs ys xs.length) := by unfold mul; rw [if_neg hbad]
    rw [e]
    clear e hbad
    have d1 : ((xs.length : Int) == 0) = false := by simp; intro h; simp [h] at hp1
    have d2 : ((ys.length : Int) == 0) = false := by simp; intro h; simp [h] at hp2
    have d3 : decide ((62 : Int) < (xs.length : Int) + (ys.length : Int)) = false := by simp; omega
    go_enter Tryz.func129, Tryz.ntmps129
    go_wp2_with (at_make; refine wpList_make_ints rfl _ _ rfl w.heap.size (xs.length + ys.length - 1) _ (by omega) rfl rfl (by omega) (Nat.le_refl _) ?_)
    intro w1 hown0 hgr
    have hb0 := below_of_grown hgr
    clear hgr
    go_wp2
    go_loopw [36] (fun i wr => ∃ k : Nat, k ≤ xs.length ∧ i = .int .i64 k ∧ Own wr w.heap.size w.heap.size (xs.length + ys.length - 1) (mulTo xs ys k) ∧ Below w.heap.size w wr) (fun i _ => xs.length - (intOf i).toNat)
    case atStart => exact ⟨0, Nat.zero_le _, rfl, hown0, hb0⟩
    case round =>
      obtain ⟨i, hi, rfl, ho, hb⟩ := hrel
      by_cases hlt : i < xs.length
      · have h1 := hc1.below hb hg1 i hlt
        obtain ⟨wo, rfl⟩ : ∃ wo : World, wo = wr := ⟨_, rfl⟩
        go_wp2
        go_loopw [43] (fun j wr => ∃ k : Nat, k ≤ ys.length ∧ j = .int .i64 k ∧ Own wr w.heap.size w.heap.size (xs.length + ys.length - 1) (rowTo (mulTo xs ys i) (xs.getD i 0) ys i k) ∧ Below w.heap.size w wr) (fun j _ => ys.length - (intOf j).toNat)
        case atStart => exact ⟨0, Nat.zero_le _, rfl, ho, hb⟩
        case round =>
          obtain ⟨k, hk, rfl, ho2, hb2⟩ := hrel
          by_cases hlt2 : k < ys.length
          · have q1 := hc1.below hb2 hg1 i hlt
            have q2 := hc2.below hb2 hg2 k hlt2
            obtain ⟨R, hR⟩ : ∃ R, rowTo (mulTo xs ys i) (xs.getD i 0) ys i k = R := ⟨_, rfl⟩
            have hl : i + k < R.length := by rw [← hR, rowTo_length, mulTo_length]; omega
            rw [hR] at ho2
            have q3 := ho2.cell (i + k) hl
            have f3 := ho2.frozen (i + k)
            have HR := Lib.hid hR; clear hR
            go_wp2
            all_goals
              go_roundw
              case rel =>
                have hs := ho2.set (i + k) (wrap64 (R[i + k] + wrap64 (xs[i] * ys[k])))
                rw [row_step hlt hlt2 hl HR.out] at hs
                exact ⟨k + 1, by omega, by go_num, by first | exact hs.1.drew | exact hs.1, by first | exact (hb2.grown hs.2 hb2.size (by intro j hj; cases hj; exact ho2.base)).drew | exact hb2.grown hs.2 hb2.size (by intro j hj; cases hj; exact ho2.base)⟩
              case measure => simp [intOf]; omega
          · obtain rfl : k = ys.length := by omega
            go_wp2
            go_roundw
            case rel => exact ⟨i + 1, by omega, by go_num, ho2, hb2⟩
            case measure => simp [intOf]; omega
      · obtain rfl : i = xs.length := by omega
        go_wp2_with fail
        refine (impl_TrimPoly_any w.heap.size 0 _ _ (mulTo xs ys xs.length) _ (mulTo_length _ _ _) (by rw [mulTo_length]; omega) (Nat.le_refl _) ho.lt ho.cells).mono ?_
        rintro e w2 ⟨g3, c3, rfl, ho3, hb3⟩
        go_wp2_with fail
        go_ret
        exact GotInts.mk' g3 c3 rfl (ho3.mono hb.size) (hb.trans (hb3.mono hb.size))
end Go.Proofs.YtdedkfbiookofaaGreatDoor
namespace Go.Proofs.YtdedkfbiookofaaGreatDoor
set_option maxRecDepth 100000
open Go.RowKit Game
def addP (a b : List Int) : List Int := trim ((List.range (max a.length b.length)).map fun i => if i < b.length then wrap64 (a.getD i 0 + b.getD i 0) else a.getD i 0)
def subP' (a b : List Int) : List Int := trim ((List.range (max a.length b.length)).map fun i => if i < b.length then wrap64 (a.getD i 0 - b.getD i 0) else a.getD i 0)
def negP (b : List Int) : List Int := b.map fun x => wrap64 (-x)
def shI (p : List Int) (k : Nat) : List Int := if trim p = [] then [] else List.replicate k 0 ++ trim p
def shS (p : List Int) (k : Nat) : List Int := if p.length = 0 then trim p else trim (List.replicate k 0 ++ p)
theorem trim_le (xs : List Int) : (trim xs).length ≤ xs.length := by rw [trim_length]; exact trimN_le _ _
theorem addP_le (a b : List Int) : (addP a b).length ≤ max a.length b.length := Nat.le_trans (trim_le _) (by simp)
theorem subP_le (a b : List Int) : (subP' a b).length ≤ max a.length b.length := Nat.le_trans (trim_le _) (by simp)
theorem negP_length (b : List Int) : (negP b).length = b.length := by simp [negP]
theorem shI_le (p : List Int) (k : Nat) : (shI p k).length ≤ k + p.length := by
  unfold shI
  split
  · simp
  · rw [List.length_append, List.length_replicate]; have := trim_le p; omega
theorem shS_le (p : List Int) (k : Nat) : (shS p k).length ≤ k + p.length := by
  unfold shS
  split
  · have := trim_le p; omega
  · refine Nat.le_trans (trim_le _) ?_
    rw [List.length_append, List.length_replicate]; exact Nat.le_refl _
def lenA (L : List (List Int)) (x : Nat) : Nat := (L.getD x []).length
def tabA (T : List (List Int)) (x s : Nat) : Nat := ((T.getD x []).getD s 0).toNat
def pol (P : List (List (List Int))) (u v : Nat) : List Int := (P.getD u []).getD v []
def shorter (L T : List (List Int)) (s x : Nat) : Bool := decide (lenA L (tabA T x s) < lenA L x)
def muI (L : List (List Int)) (p : List Int) (z v : Nat) : Int :=
  if lenA L v ≤ lenA L z ∨ (lenA L v - lenA L z) % 2 = 0 ∨ p.length ≤ (lenA L v - lenA L z - 1) / 2 then 0 else p.getD ((lenA L v - lenA L z - 1) / 2) 0
def zStep (L T : List (List Int)) (P : List (List (List Int))) (u v w s : Nat) (p : List Int) (z : Nat) : List Int :=
  if muI L (pol P z w) z w = 0 ∨ shorter L T s z = false then p else subP' p (mul [muI L (pol P z w) z w] (shI (pol P u z) ((lenA L v - lenA L z) / 2)))
def headA (L : List (List Int)) (v : Nat) : Nat := ((L.getD v []).getD 0 0).toNat
def madeS0 (L T : List (List Int)) (P : List (List (List Int))) (u v : Nat) : List Int :=
  if shorter L T (headA L v) u = true then addP (pol P (tabA T u (headA L v)) (tabA T v (headA L v))) (shI (pol P u (tabA T v (headA L v))) 1)
  else addP (shI (pol P (tabA T u (headA L v)) (tabA T v (headA L v))) 1) (pol P u (tabA T v (headA L v)))
def madeTo (L T : List (List Int)) (P : List (List (List Int))) (u v t : Nat) : List Int :=
  (List.range t).foldl (zStep L T P u v (tabA T v (headA L v)) (headA L v)) (madeS0 L T P u v)
def madeI (L T : List (List Int)) (P : List (List (List Int))) (u v : Nat) : List Int :=
  if u = v then [1] else if lenA L v ≤ lenA L u then [] else madeTo L T P u v L.length
theorem madeTo_succ (L T : List (List Int)) (P : List (List (List Int))) (u v t : Nat) : madeTo L T P u v (t + 1) = zStep L T P u v (tabA T v (headA L v)) (headA L v) (madeTo L T P u v t) t := by
  unfold madeTo; rw [List.range_succ, List.foldl_append]; rfl
def setP (P : List (List (List Int))) (u v : Nat) (p : List Int) : List (List (List Int)) := P.set u ((P.getD u []).set v p)
def tabU (L T : List (List Int)) (P : List (List (List Int))) (v t : Nat) : List (List (List Int)) := (List.range t).foldl (fun P u => setP P u v (madeI L T P u v)) P
def tabV (L T : List (List Int)) (t : Nat) : List (List (List Int)) := (List.range t).foldl (fun P v => tabU L T P v L.length) (List.replicate L.length (List.replicate L.length []))
def tabI (L T : List (List Int)) : List (List (List Int)) := tabV L T L.length
theorem tabU_succ (L T : List (List Int)) (P : List (List (List Int))) (v t : Nat) : tabU L T P v (t + 1) = setP (tabU L T P v t) t v (madeI L T (tabU L T P v t) t v) := by
  unfold tabU; rw [List.range_succ, List.foldl_append]; rfl
theorem tabV_succ (L T : List (List Int)) (t : Nat) : tabV L T (t + 1) = tabU L T (tabV L T t) t L.length := by
  unfold tabV; rw [List.range_succ, List.foldl_append]; rfl
def muS (p : List Int) (d : Int) : Int := if d % 2 = 0 ∨ (p.length : Int) ≤ (d - 1) / 2 ∨ d < 0 then 0 else p.getD ((d - 1) / 2).toNat 0
def zStepS (L T : List (List Int)) (R : List (List (List Int))) (u n k s : Nat) (p : List Int) (z : Nat) : List Int :=
  if muS (pol R k z) ((lenA L k : Int) - lenA L z) ≠ 0 ∧ shorter L T s z = true then addP p (negP (shS (mul (pol R z u) [muS (pol R k z) ((lenA L k : Int) - lenA L z)]) ((lenA L n - lenA L z) / 2))) else p
def nextS0 (L T : List (List Int)) (R : List (List (List Int))) (n u : Nat) : List Int :=
  if lenA L (tabA T u (headA L n)) < lenA L u then addP (pol R (tabA T n (headA L n)) (tabA T u (headA L n))) (shS (pol R (tabA T n (headA L n)) u) 1)
  else addP (shS (pol R (tabA T n (headA L n)) (tabA T u (headA L n))) 1) (pol R (tabA T n (headA L n)) u)
def nextZ (L T : List (List Int)) (R : List (List (List Int))) (n u t : Nat) : List Int := (List.range t).foldl (zStepS L T R u n (tabA T n (headA L n)) (headA L n)) (nextS0 L T R n u)
theorem nextZ_succ (L T : List (List Int)) (R : List (List (List Int))) (n u t : Nat) : nextZ L T R n u (t + 1) = zStepS L T R u n (tabA T n (headA L n)) (headA L n) (nextZ L T R n u t) t := by
  unfold nextZ; rw [List.range_succ, List.foldl_append]; rfl
def nextTo' (L T : List (List Int)) (R : List (List (List Int))) (n t : Nat) : List (List Int) := (List.range t).map fun u => nextZ L T R n u (tabA T n (headA L n))
def firstTo (t : Nat) : List (List Int) := (List.range t).map fun u => if u = 0 then [1] else []
theorem firstTo_succ (t : Nat) : firstTo (t + 1) = firstTo t ++ [if t = 0 then [1] else []] := by simp [firstTo, List.range_succ]
def rowsTo (L T : List (List Int)) (t : Nat) : List (List (List Int)) := (List.range t).foldl (fun R n => R ++ [nextTo' L T R (n + 1) L.length]) [firstTo L.length]
theorem rowsTo_succ (L T : List (List Int)) (t : Nat) : rowsTo L T (t + 1) = rowsTo L T t ++ [nextTo' L T (rowsTo L T t) (t + 1) L.length] := by unfold rowsTo; rw [List.range_succ, List.foldl_append]; rfl
theorem rowsTo_length (L T : List (List Int)) : ∀ t, (rowsTo L T t).length = t + 1
  | 0 => rfl
  | t + 1 => by rw [rowsTo_succ, List.length_append, rowsTo_length L T t]; rfl
def rowsS (L T : List (List Int)) : List (List (List Int)) := rowsTo L T (L.length - 1)
abbrev Arr := Nat × Nat × Int
def arrIm (L : List (List Int)) (P : List (List (List Int))) (i j : Nat) : Int := wrap64 (muI L (pol P i j) i j + muI L (pol P j i) j i)
def arrI1 (n : Nat) (L T : List (List Int)) (P : List (List (List Int))) (i j : Nat) : List Arr :=
  if arrIm L P i j = 0 then [] else if (List.range n).any (fun s => shorter L T s j && !shorter L T s i) then [(i, j, arrIm L P i j)] else []
def arrITo (n : Nat) (L T : List (List Int)) (P : List (List (List Int))) (i t : Nat) : List Arr := (List.range t).flatMap (arrI1 n L T P i)
def arrIRow (n : Nat) (L T : List (List Int)) (P : List (List (List Int))) (t : Nat) : List Arr := (List.range t).flatMap fun i => arrITo n L T P i L.length
def arrI (n : Nat) (L T : List (List Int)) (P : List (List (List Int))) : List Arr := arrIRow n L T P L.length
def musS (L : List (List Int)) (R : List (List (List Int))) (i k : Nat) : Int :=
  if lenA L k < lenA L i then muS (pol R i k) ((lenA L i : Int) - lenA L k) else muS (pol R k i) ((lenA L k : Int) - lenA L i)
def desK (c : List (List Int)) (v : List Int) : List Int := ((List.range c.length).filter fun i => decide ((actW c v (onesL c.length)).getD i 0 < 0)).map fun i : Nat => (i : Int)
def insB (a b : List Int) : Bool := a.all fun x => b.contains x
def arrS1 (c L : List (List Int)) (R : List (List (List Int))) (i k : Nat) : List Arr :=
  if musS L R i k ≠ 0 ∧ insB (desK c (L.getD k [])) (desK c (L.getD i [])) = false then [(i, k, musS L R i k)] else []
def arrSTo (c L : List (List Int)) (R : List (List (List Int))) (i t : Nat) : List Arr := (List.range t).flatMap (arrS1 c L R i)
def arrSRow (c L : List (List Int)) (R : List (List (List Int))) (t : Nat) : List Arr := (List.range t).flatMap fun i => arrSTo c L R i L.length
def arrS (c L : List (List Int)) (R : List (List (List Int))) : List Arr := arrSRow c L R L.length
def bfsStep (q : Nat) (st : List Bool × List Nat) (a : Arr) : List Bool × List Nat := if a.1 = q ∧ st.1.getD a.2.1 false = false then (st.1.set a.2.1 true, st.2 ++ [a.2.1]) else st
def bfsGo (A : List Arr) : Nat → Nat → List Bool × List Nat → List Bool × List Nat
  | 0, _, st => st
  | f + 1, k, st => if k < st.2.length then bfsGo A f (k + 1) (A.foldl (bfsStep (st.2.getD k 0)) st) else st
def bfs (A : List Arr) (N x : Nat) : List Bool := (bfsGo A (N + 1) 0 ((List.replicate N false).set x true, [x])).1
def cellL (M : List (List Bool)) (N i : Nat) : List Nat := (List.range N).filter fun k => (M.getD i []).getD k false && (M.getD k []).getD i false
def cellSTo (M : List (List Bool)) (N t : Nat) : List (List Nat) := (List.range t).foldl (fun out i => if (cellL M N i).headD N = i then out ++ [cellL M N i] else out) []
def cellIStep (M : List (List Bool)) (N : Nat) (st : List Bool × List (List Nat)) (i : Nat) : List Bool × List (List Nat) :=
  if st.1.getD i false = true then st else ((cellL M N i).foldl (fun sn j => sn.set j true) st.1, st.2 ++ [cellL M N i])
def cellITo (M : List (List Bool)) (N t : Nat) : List Bool × List (List Nat) := (List.range t).foldl (cellIStep M N) (List.replicate N false, [])
def matB (A : List Arr) (N : Nat) : List (List Bool) := (List.range N).map (bfs A N)
/-- the kernel's -/
def klFacts (n : Nat) (L T : List (List Int)) : Bool := (List.range L.length).all fun v => decide (v = 0) || (decide (0 < lenA L v) && (decide (headA L v < n) && (decide (tabA T v (headA L v) < v) && (List.range v).all fun z => decide (lenA L z ≤ lenA L v))))
def trP (N : Nat) (R : List (List (List Int))) : List (List (List Int)) := (List.range N).map fun u => (List.range N).map fun v => pol R v u
def klAll (c L T : List (List Int)) : Bool :=
  klFacts c.length L T && (decide (tabI L T = trP L.length (rowsS L T)) && (decide (arrI c.length L T (tabI L T) = arrS c L (rowsS L T)) && decide (cellSTo (matB (arrI c.length L T (tabI L T)) L.length) L.length L.length = (cellITo (matB (arrI c.length L T (tabI L T)) L.length) L.length L.length).2)))
def klC (c : List (List Int)) : Bool := klAll c (elemL c) (ltab c (elemL c) (elemL c).length)
def kl24 (c : List (List Int)) : Bool := decide (24 < prodT (nameL c)) || klC c
end Go.Proofs.YtdedkfbiookofaaGreatDoor
namespace Go.Proofs.YtdedkfbiookofaaGreatDoor
set_option maxRecDepth 100000
open Go.RowKit Game
namespace Game
variable {A : Mat} {n : Nat} {d : Vec}
/-- some letters of y, in their order, play v -/
def BelW (A : Mat) (d : Vec) (v : Vec) (y : List Nat) : Prop := ∃ z : List Nat, z.Sublist y ∧ act A z d = v
theorem sub_red (hC : Car A n) (hd : Strict n d) : ∀ (k : Nat) (z : List Nat), z.length ≤ k → (∀ i ∈ z, i < n) → ∃ z', z'.Sublist z ∧ Red A n d z' ∧ act A z' d = act A z d
  | 0, z, hk, _ => by
    obtain rfl : z = [] := List.length_eq_zero_iff.1 (by omega)
    exact ⟨[], List.Sublist.refl _, Red.nil, rfl⟩
  | k + 1, z, hk, hz => by
    by_cases hr : Red A n d z
    · exact ⟨z, List.Sublist.refl _, hr, rfl⟩
    · obtain ⟨a, b, hab, hb, hact⟩ := deletion hC hd hz hr
      have hs : ((z.eraseIdx b).eraseIdx a).Sublist z := (List.eraseIdx_sublist _ _).trans (List.eraseIdx_sublist _ _)
      obtain ⟨z', h1, h2, h3⟩ := sub_red hC hd k ((z.eraseIdx b).eraseIdx a) (by rw [List.length_eraseIdx, List.length_eraseIdx]; split <;> split <;> omega) (fun i hi => hz i (hs.subset hi))
      exact ⟨z', h1.trans hs, h2, h3.trans (hact d)⟩
theorem BelW.red (hC : Car A n) (hd : Strict n d) {v : Vec} {y : List Nat} (hy : ∀ i ∈ y, i < n) (h : BelW A d v y) : ∃ z, z.Sublist y ∧ Red A n d z ∧ act A z d = v := by
  obtain ⟨z, h1, h2⟩ := h
  obtain ⟨z', k1, k2, k3⟩ := sub_red hC hd z.length z (Nat.le_refl _) (fun i hi => hy i (h1.subset hi))
  exact ⟨z', k1.trans h1, k2, k3.trans h2⟩
theorem BelW.down (hC : Car A n) (hd : Strict n d) {v : Vec} {y : List Nat} (hy : ∀ i ∈ y, i < n) (h : BelW A d v y) {i : Nat} (hi : i < n) (hneg : v i < 0) : BelW A d (s A i v) y := by
  obtain ⟨z, h1, h2, h3⟩ := h.red hC hd hy
  obtain ⟨k, -, hk⟩ := exchange hC hd h2 hi (by rw [h3]; exact hneg)
  refine ⟨z.eraseIdx k, (List.eraseIdx_sublist _ _).trans h1, ?_⟩
  rw [hk d]
  show s A i (act A z d) = _
  rw [h3]
theorem s_at (hC : Car A n) {i : Nat} (hi : i < n) (v : Vec) : s A i v i = - v i := by
  have h := hC.1 i hi
  unfold s
  rw [h]; omega
theorem bel_neg (hC : Car A n) (hd : Strict n d) {v : Vec} {t : Nat} {y : List Nat} (ht : t < n) (hy : ∀ i ∈ y, i < n) (hneg : v t < 0) : BelW A d v (t :: y) ↔ BelW A d (s A t v) y := by
  constructor
  · rintro ⟨z, h1, h2⟩
    cases h1 with
    | cons _ h => exact BelW.down hC hd hy ⟨z, h, h2⟩ ht hneg
    | cons_cons _ h =>
      refine ⟨_, h, ?_⟩
      rw [← h2]
      exact (s_s hC ht _).symm
  · rintro ⟨z, h1, h2⟩
    exact ⟨t :: z, h1.cons_cons t, by show s A t (act A z d) = v; rw [h2]; exact s_s hC ht v⟩
theorem bel_pos (hC : Car A n) (hd : Strict n d) {v : Vec} {t : Nat} {y : List Nat} (ht : t < n) (hy : ∀ i ∈ y, i < n) (hpos : 0 < v t) : BelW A d v (t :: y) ↔ BelW A d v y := by
  constructor
  · rintro ⟨z, h1, h2⟩
    cases h1 with
    | cons _ h => exact ⟨z, h, h2⟩
    | cons_cons _ h =>
      rename_i z1
      have h3 : act A z1 d = s A t v := by rw [← h2]; exact (s_s hC ht _).symm
      have h4 := BelW.down hC hd hy ⟨z1, h, h3⟩ ht (by rw [s_at hC ht]; omega)
      rw [s_s hC ht] at h4
      exact h4
  · rintro ⟨z, h1, h2⟩
    exact ⟨z, h1.cons t, h2⟩
end Game
theorem imI_act {c : List (List Int)} {m : Nat} {v : List Int} (h : Lets c m v) (hm : m ≤ 30) : toV (imI c v) = act (ent c) (v.map Int.toNat) (toV (onesL c.length)) := by
  have := toV_image h.isC h.nats_lt (by rw [List.length_map]; have := h.few; omega)
  rwa [h.nats] at this
theorem lets_cons {c : List (List Int)} {m : Nat} {v : List Int} (h : Lets c m v) {i : Nat} (hi : i < c.length) : Lets c (m + 1) ((i : Int) :: v) :=
  lets_of h.isC (by rw [List.length_cons]; have := h.few; omega) fun x hx => by
    rcases List.mem_cons.1 hx with g | g
    · subst g; omega
    · exact h.mem x g
theorem imI_s {c : List (List Int)} {m : Nat} {v : List Int} (h : Lets c m v) (hm : m ≤ 29) {i : Nat} (hi : i < c.length) : toV (imI c ((i : Int) :: v)) = s (ent c) i (toV (imI c v)) := by
  rw [imI_act (lets_cons h hi) (by omega), imI_act h (by omega), List.map_cons, Int.toNat_natCast]; rfl
theorem ones_strict (n : Nat) : Strict n (toV (onesL n)) := ones_pos n
/-- the element of U is below that of V -/
def BelV (c : List (List Int)) (U V : List Int) : Prop := BelW (ent c) (toV (onesL c.length)) (toV (imI c U)) (V.map Int.toNat)
theorem BelV.img {c : List (List Int)} {U U' V : List Int} (h : imI c U = imI c U') : BelV c U V ↔ BelV c U' V := by unfold BelV; rw [h]
theorem belV_neg {c : List (List Int)} {m : Nat} {U V : List Int} (hU : Lets c m U) (hm : m ≤ 29) (hV : Lets c 15 V) {t : Nat} (ht : t < c.length) (h : (imI c U).getD t 0 < 0) : BelV c U ((t : Int) :: V) ↔ BelV c ((t : Int) :: U) V := by
  unfold BelV
  rw [imI_s hU hm ht, List.map_cons, Int.toNat_natCast]
  exact bel_neg (car_of hU.isC) (ones_strict _) ht hV.nats_lt h
theorem belV_pos {c : List (List Int)} {m : Nat} {U V : List Int} (hU : Lets c m U) (hm : m ≤ 30) (hV : Lets c 15 V) {t : Nat} (ht : t < c.length) (h : ¬ (imI c U).getD t 0 < 0) : BelV c U ((t : Int) :: V) ↔ BelV c U V := by
  unfold BelV
  rw [List.map_cons, Int.toNat_natCast]
  have hn := imI_ne (hU.mono hm) ht
  exact bel_pos (car_of hU.isC) (ones_strict _) ht hV.nats_lt (show 0 < (imI c U).getD t 0 by omega)
/-- what is not above u is not above its longer neighbour -/
theorem belV_up {c : List (List Int)} {m : Nat} {U V : List Int} (hU : Lets c m U) (hm : m ≤ 29) (hV : Lets c 15 V) {t : Nat} (ht : t < c.length) (h : ¬ (imI c U).getD t 0 < 0) (hb : BelV c ((t : Int) :: U) V) : BelV c U V := by
  unfold BelV at hb ⊢
  rw [imI_s hU hm ht] at hb
  have hn := imI_ne (hU.mono (show m ≤ 30 by omega)) ht
  have hC := car_of hU.isC
  have hp : 0 < toV (imI c U) t := show 0 < (imI c U).getD t 0 by omega
  have := BelW.down hC (ones_strict _) hV.nats_lt hb ht (by rw [s_at hC ht]; omega)
  rwa [s_s hC ht] at this
theorem belV_nil {c : List (List Int)} {U : List Int} : BelV c U [] ↔ imI c U = onesL c.length := by
  constructor
  · rintro ⟨z, h1, h2⟩
    obtain rfl : z = [] := List.eq_nil_of_sublist_nil h1
    exact toV_inj (by rw [imI_length, onesL_len]) h2.symm
  · intro h
    exact ⟨[], List.Sublist.refl _, by rw [h]; rfl⟩
theorem none_ones {c : List (List Int)} {m : Nat} {U : List Int} (hU : Lets c m U) (hm : m ≤ 30) (h : firstNeg (imI c U) = none) : imI c U = onesL c.length := by
  have h1 := (nfI_ok (hU.mono hm)).norm
  have h2 : nfI c U = [] := normG_none h1 h
  have h3 := (nfI_ok (hU.mono hm)).img
  rw [h2] at h3
  exact h3.symm
theorem ones_none (n : Nat) : firstNeg (onesL n) = none := firstNeg_nil fun j hj => by
  rw [onesL_len] at hj
  have := ones_pos n j hj
  exact Int.le_of_lt this
theorem head_tail {c : List (List Int)} {t : Int} {V : List Int} {m : Nat} (hV : Lets c m (t :: V)) : ∃ k : Nat, t = (k : Int) ∧ k < c.length ∧ Lets c m V := by
  have h := hV.mem t (by simp)
  exact ⟨t.toNat, by omega, by omega, lets_of hV.isC (by have := hV.few; rw [List.length_cons] at this; omega) fun x hx => hV.mem x (by simp [hx])⟩
/-- what is left when letters are taken away: nothing exactly for elements below -/
theorem subU_bel {c : List (List Int)} : ∀ (V : List Int) {U : List Int}, Lets c 15 V → Nw c U → (subU c V U = [] ↔ BelV c U V)
  | [], U, _, hU => by
    rw [belV_nil]
    show U = [] ↔ _
    constructor
    · rintro rfl; rfl
    · intro h
      exact hU.none.1 (by rw [h]; exact ones_none _)
  | t :: V, U, hV, hU => by
    obtain ⟨k, rfl, hk, hV1⟩ := head_tail hV
    show subU c V (subN c U (k : Int)) = [] ↔ _
    by_cases hn : (imI c U).getD k 0 < 0
    · rw [subN_neg hn, belV_neg hU.lets (by decide) hV1 hk hn, subU_bel V hV1 (hU.down hk hn)]
      exact BelV.img (by rw [hU.img hk]; rfl)
    · rw [subN_pos hn, belV_pos hU.lets (by decide) hV1 hk hn, subU_bel V hV1 hU]
def rI (c : List (List Int)) : List Int → List Int → List Int
  | [], x => if firstNeg x = none then [1] else []
  | t :: V, x => if x.getD t.toNat 0 < 0 then rI c V (refl c t.toNat x) else addP (shI (rI c V (refl c t.toNat x)) 1) (subP' (shI (rI c V x) 1) (rI c V x))
def rS (c : List (List Int)) : List Int → List Int → List Int
  | [], U => if U = [] then [1] else []
  | t :: V, U => if subU c (t :: V) U = [] then (if (nfI c (t :: U)).length < U.length then rS c V (nfI c (t :: U)) else addP (shS (rS c V (nfI c (t :: U))) 1) (addP (shS (rS c V U) 1) (negP (rS c V U)))) else []
theorem rI_le (c : List (List Int)) : ∀ V x, (rI c V x).length ≤ V.length + 1
  | [], x => by unfold rI; split <;> simp
  | t :: V, x => by
    unfold rI
    split
    · exact Nat.le_trans (rI_le c V _) (by simp)
    · have h1 := rI_le c V (refl c t.toNat x)
      have h2 := rI_le c V x
      have h3 := shI_le (rI c V (refl c t.toNat x)) 1
      have h4 := shI_le (rI c V x) 1
      have h5 := subP_le (shI (rI c V x) 1) (rI c V x)
      have h6 := addP_le (shI (rI c V (refl c t.toNat x)) 1) (subP' (shI (rI c V x) 1) (rI c V x))
      rw [List.length_cons]; omega
theorem rS_le (c : List (List Int)) : ∀ V U, (rS c V U).length ≤ V.length + 1
  | [], x => by unfold rS; split <;> simp
  | t :: V, U => by
    unfold rS
    split
    · split
      · exact Nat.le_trans (rS_le c V _) (by simp)
      · have h1 := rS_le c V (nfI c (t :: U))
        have h2 := rS_le c V U
        have h3 := shS_le (rS c V (nfI c (t :: U))) 1
        have h4 := shS_le (rS c V U) 1
        have h5 := addP_le (shS (rS c V U) 1) (negP (rS c V U))
        have h6 := addP_le (shS (rS c V (nfI c (t :: U))) 1) (addP (shS (rS c V U) 1) (negP (rS c V U)))
        rw [negP_length] at h5
        rw [List.length_cons]; omega
    · simp
theorem wrap_neg (a b : Int) : wrap64 (a - b) = wrap64 (a + wrap64 (-b)) := by
  unfold wrap64; omega
theorem subP_eq (a b : List Int) : subP' a b = addP a (negP b) := by
  unfold subP' addP
  rw [negP_length]
  congr 1
  apply List.map_congr_left
  intro i _
  by_cases hi : i < b.length
  · rw [if_pos hi, if_pos hi]
    have e : (negP b).getD i 0 = wrap64 (- b.getD i 0) := by simp [negP, List.getD, hi]
    rw [e]; exact wrap_neg _ _
  · rw [if_neg hi, if_neg hi]
theorem trimN_sh (k : Nat) (p : List Int) : ∀ j, j ≤ p.length → trimN (List.replicate k 0 ++ p) (k + j) = if trimN p j = 0 then 0 else k + trimN p j
  | 0, _ => by
    have h : ∀ q, q ≤ k → trimN (List.replicate k (0 : Int) ++ p) q = 0 := by
      intro q
      induction q with
      | zero => intro _; rfl
      | succ q ih =>
        intro hq
        have e : (List.replicate k (0 : Int) ++ p).getD q 0 = 0 := by
          rw [List.getD, List.getElem?_append_left (by simp; omega)]; simp [show q < k by omega]
        rw [trimN, if_pos e]; exact ih (by omega)
    simp only [Nat.add_zero]
    rw [h k (Nat.le_refl _)]; simp [trimN]
  | j + 1, hj => by
    have e : (List.replicate k (0 : Int) ++ p).getD (k + j) 0 = p.getD j 0 := by
      rw [List.getD, List.getElem?_append_right (by simp), List.length_replicate, Nat.add_sub_cancel_left]; rfl
    rw [← Nat.add_assoc, trimN, trimN, e]
    by_cases h : p.getD j 0 = 0
    · rw [if_pos h, if_pos h]; exact trimN_sh k p j (by omega)
    · rw [if_neg h, if_neg h, if_neg (by omega)]; omega
theorem sh_eq (p : List Int) (k : Nat) : shI p k = shS p k := by
  unfold shI shS
  by_cases h0 : p.length = 0
  · rw [if_pos h0]
    obtain rfl := List.length_eq_zero_iff.1 h0
    rfl
  · rw [if_neg h0]
    have e : trim (List.replicate k 0 ++ p) = (List.replicate k 0 ++ p).take (if trimN p p.length = 0 then 0 else k + trimN p p.length) := by
      rw [← trimN_sh k p p.length (Nat.le_refl _)]
      unfold trim
      rw [List.length_append, List.length_replicate]
    rw [e]
    by_cases h : trimN p p.length = 0
    · have : trim p = [] := by unfold trim; rw [h]; rfl
      rw [if_pos this, if_pos h]; rfl
    · have : trim p ≠ [] := by
        intro hh
        have := trim_length p
        rw [hh] at this
        exact h this.symm
      rw [if_neg this, if_neg h, List.take_append, List.length_replicate, Nat.add_sub_cancel_left, List.take_of_length_le (l := List.replicate k (0 : Int)) (by simp)]
      rfl
theorem r_zero {c : List (List Int)} : ∀ (V : List Int) {U : List Int}, Lets c 15 V → Lets c (30 - V.length) U → ¬ BelV c U V → rI c V (imI c U) = []
  | [], U, _, hU, hb => by
    unfold rI
    rw [if_neg]
    intro h
    exact hb (belV_nil.2 (none_ones hU (by simp) h))
  | t :: V, U, hV, hU, hb => by
    obtain ⟨k, rfl, hk, hV1⟩ := head_tail hV
    have hl := hV.few
    rw [List.length_cons] at hl hU
    have hU1 := (lets_cons hU hk).mono (show 30 - (V.length + 1) + 1 ≤ 30 - V.length by omega)
    have hU2 := hU.mono (show 30 - (V.length + 1) ≤ 30 - V.length by omega)
    unfold rI
    rw [Int.toNat_natCast, ← imI_cons]
    by_cases hn : (imI c U).getD k 0 < 0
    · rw [if_pos hn]
      exact r_zero V hV1 hU1 fun h => hb ((belV_neg hU (by omega) hV1 hk hn).2 h)
    · rw [if_neg hn, r_zero V hV1 hU1 fun h => hb ((belV_pos hU (by omega) hV1 hk hn).2 (belV_up hU (by omega) hV1 hk hn h)), r_zero V hV1 hU2 fun h => hb ((belV_pos hU (by omega) hV1 hk hn).2 h)]
      rfl
theorem nfI_up {c : List (List Int)} {U : List Int} (hU : Nw c U) {k : Nat} (hk : k < c.length) (hn : ¬ (imI c U).getD k 0 < 0) : (nfI c ((k : Int) :: U)).length = U.length + 1 := by
  have h1 := hU.cons hk
  have hne := imI_ne (hU.lets.mono (show 15 ≤ 30 by omega)) hk
  have h2 : (imI c ((k : Int) :: U)).getD k 0 < 0 := by
    have e : toV (imI c ((k : Int) :: U)) k = - toV (imI c U) k := by rw [imI_s hU.lets (by decide) hk, s_at (car_of hU.lets.isC) hk]
    have e2 : (imI c ((k : Int) :: U)).getD k 0 = - (imI c U).getD k 0 := e
    omega
  have h3 := nfI_down (h1.mono (show 16 ≤ 29 by omega)) hk h2
  have h4 : nfI c ((k : Int) :: (k : Int) :: U) = nfI c U := nfI_img (imI_back (hU.lets.mono (by omega)) hk)
  rw [h4, hU.self] at h3
  omega
theorem r_eq {c : List (List Int)} : ∀ (V : List Int) {U : List Int}, Lets c 15 V → Nw c U → rI c V (imI c U) = rS c V U
  | [], U, _, hU => by
    unfold rI rS
    by_cases h : U = []
    · rw [if_pos h, if_pos (hU.none.2 h)]
    · rw [if_neg h, if_neg (fun hh => h (hU.none.1 hh))]
  | t :: V, U, hV, hU => by
    obtain ⟨k, rfl, hk, hV1⟩ := head_tail hV
    have hl := hV.few
    rw [List.length_cons] at hl
    unfold rS
    by_cases hs : subU c ((k : Int) :: V) U = []
    · rw [if_pos hs]
      have hb := (subU_bel _ hV hU).1 hs
      unfold rI
      rw [Int.toNat_natCast, ← imI_cons]
      by_cases hn : (imI c U).getD k 0 < 0
      · have hlen := nfI_down (hU.lets.mono (show 15 ≤ 29 by omega)) hk hn
        rw [hU.self] at hlen
        rw [if_pos hn, if_pos (by omega), ← r_eq V hV1 (hU.down hk hn), hU.img hk]
        rfl
      · have hlen := nfI_up hU hk hn
        have hb1 := (belV_pos hU.lets (by decide) hV1 hk hn).1 hb
        have hs1 := (subU_bel _ hV1 hU).2 hb1
        have h3 := subU_len V hV1.mem hU
        rw [hs1, List.length_nil] at h3
        have h4 := nfI_ok ((hU.cons hk).mono (show 16 ≤ 30 by omega))
        have hX : Nw c (nfI c ((k : Int) :: U)) := ⟨⟨h4.lets.isC, by omega, h4.lets.inr⟩, nfI_self ((hU.cons hk).mono (by omega))⟩
        rw [if_neg hn, if_neg (by omega), ← r_eq V hV1 hX, ← r_eq V hV1 hU, hU.img hk, ← imI_cons, ← sh_eq, ← sh_eq, subP_eq]
    · rw [if_neg hs]
      exact r_zero _ hV (hU.lets.mono (by rw [List.length_cons]; omega)) fun h => hs ((subU_bel _ hV hU).2 h)
end Go.Proofs.YtdedkfbiookofaaGreatDoor
namespace Go.Proofs.YtdedkfbiookofaaGreatDoor
set_option maxRecDepth 100000
open Go.RowKit Game
def barS (RT R : List (List (List Int))) (u v t : Nat) : List Int := (List.range t).foldl (fun s x => addP s (mul (pol RT u x) (pol R v x))) []
theorem barS_succ (RT R : List (List (List Int))) (u v t : Nat) : barS RT R u v (t + 1) = addP (barS RT R u v t) (mul (pol RT u t) (pol R v t)) := by
  unfold barS; rw [List.range_succ, List.foldl_append]; rfl
/-- a polynomial, turned about at a degree -/
def revL (p : List Int) (n : Nat) : List Int := trim ((List.range (n + 1)).map fun j => (trim p).getD (n - j) 0)
def bettiTo (L : List (List Int)) (R : List (List (List Int))) (v t : Nat) : List Int := (List.range t).foldl (fun s u => addP s (shS (pol R v u) (lenA L u))) []
def rTab (c L : List (List Int)) : List (List (List Int)) := L.map fun u => L.map fun x => rI c x (imI c u)
def invT (c L : List (List Int)) : List Nat := L.map fun w => (idxL L (nfI c w.reverse)).toNat
def khUV (c L : List (List Int)) (R RT : List (List (List Int))) (IV : List Nat) (N v u : Nat) : Bool :=
  decide (pol R v u = []) == !decide (subU c (L.getD v []) (L.getD u []) = []) && (decide (pol R (IV.getD v 0) (IV.getD u 0) = pol R v u) &&
    (decide (pol R v u = []) || (decide ((pol R v u).getD 0 0 = 1) && ((decide (lenA L v ≤ lenA L u) || decide (2 * ((pol R v u).length - 1) + 1 ≤ lenA L v - lenA L u)) && ((pol R v u).all (fun x => decide (0 ≤ x)) &&
      (decide ((pol R v u).length ≤ lenA L v - lenA L u + 1) && decide (barS RT R u v N = revL (pol R v u) (lenA L v - lenA L u))))))))
def khV (c L : List (List Int)) (R RT : List (List (List Int))) (IV : List Nat) (N v : Nat) : Bool :=
  decide (bettiTo L R v N = (bettiTo L R v N).reverse) && (List.range N).all fun u => khUV c L R RT IV N v u
def khAll (c L : List (List Int)) (R RT : List (List (List Int))) (IV : List Nat) : Bool := (List.range L.length).all fun v => khV c L R RT IV L.length v
def khC (c : List (List Int)) : Bool := khAll c (elemL c) (rowsS (elemL c) (ltab c (elemL c) (elemL c).length)) (rTab c (elemL c)) (invT c (elemL c))
def kh24 (c : List (List Int)) : Bool := decide (24 < prodT (nameL c)) || khC c
end Go.Proofs.YtdedkfbiookofaaGreatDoor
