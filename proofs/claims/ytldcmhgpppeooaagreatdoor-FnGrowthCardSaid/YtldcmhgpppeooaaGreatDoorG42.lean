/- TrimPoly, MulPoly, ProductCounts: contracts. MulPoly, ProductCounts: contracts. -/
import Derived.Test.YtldcmhgpppeooaaGreatDoorBase
namespace Go.Proofs.YtldcmhgpppeooaaGreatDoor
set_option maxRecDepth 100000
open Go.RowKit

/-- how many numbers are left when zeros at the end are removed, of the first k -/
def trimN (xs : List Int) : Nat → Nat
  | 0 => 0
  | k + 1 => if xs.getD k 0 = 0 then trimN xs k else k + 1
def trim (xs : List Int) : List Int := xs.take (trimN xs xs.length)
theorem trimN_le (xs : List Int) (k : Nat) : trimN xs k ≤ k := by
  induction k with
  | zero => exact Nat.le_refl _
  | succ k ih => simp only [trimN]; split <;> omega
theorem trimN_zero {xs : List Int} {k : Nat} (hk : k < xs.length) (h : xs[k] = 0) : trimN xs (k + 1) = trimN xs k := by
  simp [trimN, List.getD, hk, h]
theorem trimN_stay {xs : List Int} {k : Nat} (hk : k < xs.length) (h : ¬ xs[k] = 0) : trimN xs (k + 1) = k + 1 := by
  simp [trimN, List.getD, hk, h]
theorem trim_length (xs : List Int) : (trim xs).length = trimN xs xs.length := by
  unfold trim; rw [List.length_take]; have := trimN_le xs xs.length; omega

set_option maxHeartbeats 400000 in
theorem impl_TrimPoly_any (g o n c : Nat) (xs : List Int) (w : World) (hn : xs.length = n) (hx : xs.length ≤ 1099511627776) (hcap : n ≤ c) (hg : g < w.heap.size) (hc : Cells w g o xs) :
    Calls Tryz.prog 78 #[(Value.slice (some ⟨g, o, none⟩) n c)] w (GotInts w (trim xs)) := by
  subst hn
  go_enter Tryz.func78, Tryz.ntmps78
  go_wp2
  go_loopw [3] (fun i wr => ∃ k : Nat, k ≤ xs.length ∧ i = .int .i64 k ∧ trimN xs xs.length = trimN xs k ∧ ∃ m, wr = w.drewN m) (fun i _ => (intOf i).toNat)
  case atStart => exact ⟨xs.length, Nat.le_refl _, rfl, rfl, 0, rfl⟩
  case round =>
    obtain ⟨k, hk, rfl, he, m, rfl⟩ := hrel
    have He := Lib.hid he; clear he
    by_cases h0 : 0 < k
    · have d1 : decide ((0 : Int) < (k : Int)) = true := by simp; omega
      have l0 : k - 1 < xs.length := by omega
      have c0 := hc (k - 1) l0
      have i1 : ((k : Int) - 1).toNat = k - 1 := by omega
      have i2 : 1 ≤ k := h0
      by_cases hz : xs[k - 1] = 0
      · have d2 : (xs[k - 1] == 0) = true := by simpa using hz
        have hs := trimN_zero l0 hz
        have Hz := Lib.hid hz; clear hz
        have Hs := Lib.hid hs; clear hs
        go_wp2
        go_roundw
        case rel => exact ⟨k - 1, by omega, by go_num, by rw [He.out, ← Hs.out, Nat.sub_add_cancel i2], m, rfl⟩
        case measure => simp [intOf]; omega
      · have d2 : (xs[k - 1] == 0) = false := by simpa using hz
        have hs := trimN_stay l0 hz
        rw [Nat.sub_add_cancel i2] at hs
        have Hz := Lib.hid hz; clear hz
        have Hs := Lib.hid hs; clear hs
        have hlen : (xs.take k).length = k := by rw [List.length_take]; omega
        have Hlen := Lib.hid hlen; clear hlen
        go_wp2_with (at_builtin; refine wpList_clone rfl _ _ rfl g o k c (xs.take k) Hlen.out hg (hc.take k) rfl rfl (by rw [Hlen.out]; omega) ?_)
        intro g1 c1 w1 ho hb
        go_wp2
        go_ret
        have e : trim xs = xs.take k := by unfold trim; rw [He.out, Hs.out]
        rw [e]
        exact GotInts.mk' g1 c1 Hlen.out ho ((below_drewN' w m).trans hb)
    · obtain rfl : k = 0 := by omega
      go_wp2_with (at_builtin; refine wpList_clone rfl _ _ rfl g o 0 c [] rfl hg (hc.take 0) rfl rfl (by simp) ?_)
      intro g1 c1 w1 ho hb
      go_wp2
      go_ret
      have e : trim xs = [] := by unfold trim; rw [He.out]; rfl
      rw [e]
      exact GotInts.mk' g1 c1 rfl ho ((below_drewN' w m).trans hb)

set_option maxHeartbeats 400000 in
theorem spec_TrimPoly_any (g o n c : Nat) (xs : List Int) (w : World) (hn : xs.length = n) (hx : xs.length ≤ 1099511627776) (hcap : n ≤ c) (hg : g < w.heap.size) (hc : Cells w g o xs) :
    Calls Tryz.prog 83 #[(Value.slice (some ⟨g, o, none⟩) n c)] w (GotInts w (trim xs)) := by
  subst hn
  go_enter Tryz.func83, Tryz.ntmps83
  go_wp2
  go_loopw [3] (fun i wr => ∃ k : Nat, k ≤ xs.length ∧ i = .int .i64 k ∧ trimN xs xs.length = trimN xs k ∧ ∃ m, wr = w.drewN m) (fun i _ => (intOf i).toNat)
  case atStart => exact ⟨xs.length, Nat.le_refl _, rfl, rfl, 0, rfl⟩
  case round =>
    obtain ⟨k, hk, rfl, he, m, rfl⟩ := hrel
    have He := Lib.hid he; clear he
    by_cases h0 : 0 < k
    · have d1 : decide ((0 : Int) < (k : Int)) = true := by simp; omega
      have l0 : k - 1 < xs.length := by omega
      have c0 := hc (k - 1) l0
      have i1 : ((k : Int) - 1).toNat = k - 1 := by omega
      have i2 : 1 ≤ k := h0
      by_cases hz : xs[k - 1] = 0
      · have d2 : (xs[k - 1] == 0) = true := by simpa using hz
        have hs := trimN_zero l0 hz
        have Hz := Lib.hid hz; clear hz
        have Hs := Lib.hid hs; clear hs
        go_wp2
        go_roundw
        case rel => exact ⟨k - 1, by omega, by go_num, by rw [He.out, ← Hs.out, Nat.sub_add_cancel i2], m, rfl⟩
        case measure => simp [intOf]; omega
      · have d2 : (xs[k - 1] == 0) = false := by simpa using hz
        have hs := trimN_stay l0 hz
        rw [Nat.sub_add_cancel i2] at hs
        have Hz := Lib.hid hz; clear hz
        have Hs := Lib.hid hs; clear hs
        have hlen : (xs.take k).length = k := by rw [List.length_take]; omega
        have Hlen := Lib.hid hlen; clear hlen
        go_wp2_with (at_builtin; refine wpList_clone rfl _ _ rfl g o k c (xs.take k) Hlen.out hg (hc.take k) rfl rfl (by rw [Hlen.out]; omega) ?_)
        intro g1 c1 w1 ho hb
        go_wp2
        go_ret
        have e : trim xs = xs.take k := by unfold trim; rw [He.out, Hs.out]
        rw [e]
        exact GotInts.mk' g1 c1 Hlen.out ho ((below_drewN' w m).trans hb)
    · obtain rfl : k = 0 := by omega
      go_wp2_with (at_builtin; refine wpList_clone rfl _ _ rfl g o 0 c [] rfl hg (hc.take 0) rfl rfl (by simp) ?_)
      intro g1 c1 w1 ho hb
      go_wp2
      go_ret
      have e : trim xs = [] := by unfold trim; rw [He.out]; rfl
      rw [e]
      exact GotInts.mk' g1 c1 rfl ho ((below_drewN' w m).trans hb)

end Go.Proofs.YtldcmhgpppeooaaGreatDoor
namespace Go.Proofs.YtldcmhgpppeooaaGreatDoor
set_option maxRecDepth 100000
open Go.RowKit

def addAt (out : List Int) (t : Nat) (v : Int) : List Int := out.set t (wrap64 (out.getD t 0 + v))
def rowTo (out : List Int) (x : Int) (ys : List Int) (i : Nat) : Nat → List Int
  | 0 => out
  | k + 1 => addAt (rowTo out x ys i k) (i + k) (wrap64 (x * ys.getD k 0))
def mulTo (xs ys : List Int) : Nat → List Int
  | 0 => List.replicate (xs.length + ys.length - 1) 0
  | i + 1 => rowTo (mulTo xs ys i) (xs.getD i 0) ys i ys.length
def mul (xs ys : List Int) : List Int := if xs.length = 0 ∨ ys.length = 0 ∨ 62 < xs.length + ys.length then [] else trim (mulTo xs ys xs.length)
theorem rowTo_length (out : List Int) (x : Int) (ys : List Int) (i k : Nat) : (rowTo out x ys i k).length = out.length := by
  induction k with
  | zero => rfl
  | succ k ih => simp [rowTo, addAt, ih]
theorem mulTo_length (xs ys : List Int) (i : Nat) : (mulTo xs ys i).length = xs.length + ys.length - 1 := by
  induction i with
  | zero => simp [mulTo]
  | succ i ih => rw [mulTo, rowTo_length, ih]
theorem mul_length_le (xs ys : List Int) : (mul xs ys).length ≤ 61 := by
  unfold mul
  split
  · simp
  · have h1 := trimN_le (mulTo xs ys xs.length) (mulTo xs ys xs.length).length
    rw [trim_length]
    rw [mulTo_length] at h1 ⊢
    omega
theorem rowTo_succ {out : List Int} {x : Int} {ys : List Int} {i k : Nat} (hk : k < ys.length) (h : i + k < (rowTo out x ys i k).length) :
    (rowTo out x ys i k).set (i + k) (wrap64 ((rowTo out x ys i k)[i + k] + wrap64 (x * ys[k]))) = rowTo out x ys i (k + 1) := by
  simp [rowTo, addAt, List.getD, hk, h]

theorem row_step {xs ys R : List Int} {i k : Nat} (hi : i < xs.length) (hk : k < ys.length) (hl : i + k < R.length) (hR : rowTo (mulTo xs ys i) (xs.getD i 0) ys i k = R) :
    R.set (i + k) (wrap64 (R[i + k] + wrap64 (xs[i] * ys[k]))) = rowTo (mulTo xs ys i) (xs.getD i 0) ys i (k + 1) := by
  subst hR
  rw [← rowTo_succ hk hl]
  simp [List.getD, hi]

set_option maxHeartbeats 1000000 in
theorem spec_MulPoly_any (g1 o1 n1 c1 g2 o2 n2 c2 : Nat) (xs ys : List Int) (w : World) (hn1 : xs.length = n1) (hn2 : ys.length = n2) (hx : xs.length ≤ 1099511627776) (hy : ys.length ≤ 1099511627776)
    (hg1 : g1 < w.heap.size) (hg2 : g2 < w.heap.size) (hc1 : Cells w g1 o1 xs) (hc2 : Cells w g2 o2 ys) :
    Calls Tryz.prog 82 #[(Value.slice (some ⟨g1, o1, none⟩) n1 c1), (Value.slice (some ⟨g2, o2, none⟩) n2 c2)] w (GotInts w (mul xs ys)) := by
  subst hn1; subst hn2
  by_cases hbad : xs.length = 0 ∨ ys.length = 0 ∨ 62 < xs.length + ys.length
  · have e : mul xs ys = [] := by unfold mul; rw [if_pos hbad]
    rw [e]
    by_cases h1 : xs.length = 0
    · have d1 : ((xs.length : Int) == 0) = true := by simp [h1]
      have H1 := Lib.hid h1; clear h1 hbad
      go_enter Tryz.func82, Tryz.ntmps82
      go_wp2
      go_ret
      exact GotInts.mk' _ _ rfl (Own.empty (Nat.le_refl _)) ((Below.refl _ _).alloc (Nat.le_refl _) _)
    · have d1 : ((xs.length : Int) == 0) = false := by simp; intro h; simp [h] at h1
      by_cases h2 : ys.length = 0
      · have d2 : ((ys.length : Int) == 0) = true := by simp [h2]
        have H1 := Lib.hid h1; have H2 := Lib.hid h2; clear h1 h2 hbad
        go_enter Tryz.func82, Tryz.ntmps82
        go_wp2
        go_ret
        exact GotInts.mk' _ _ rfl (Own.empty (Nat.le_refl _)) ((Below.refl _ _).alloc (Nat.le_refl _) _)
      · have d2 : ((ys.length : Int) == 0) = false := by simp; intro h; simp [h] at h2
        have d3 : decide ((62 : Int) < (xs.length : Int) + (ys.length : Int)) = true := by simp; omega
        have H1 := Lib.hid h1; have H2 := Lib.hid h2; clear h1 h2 hbad
        go_enter Tryz.func82, Tryz.ntmps82
        go_wp2
        go_ret
        exact GotInts.mk' _ _ rfl (Own.empty (Nat.le_refl _)) ((Below.refl _ _).alloc (Nat.le_refl _) _)
  · have hp1 : 0 < xs.length := by omega
    have hp2 : 0 < ys.length := by omega
    have hsm : xs.length + ys.length ≤ 62 := by omega
    have e : mul xs ys = trim (mulTo xs ys xs.length) := by unfold mul; rw [if_neg hbad]
    rw [e]
    clear e hbad
    have d1 : ((xs.length : Int) == 0) = false := by simp; intro h; simp [h] at hp1
    have d2 : ((ys.length : Int) == 0) = false := by simp; intro h; simp [h] at hp2
    have d3 : decide ((62 : Int) < (xs.length : Int) + (ys.length : Int)) = false := by simp; omega
    go_enter Tryz.func82, Tryz.ntmps82
    go_wp2_with (at_make; refine wpList_make_ints rfl _ _ rfl w.heap.size (xs.length + ys.length - 1) _ (by omega) rfl rfl (by omega) (Nat.le_refl _) ?_)
    intro w1 hown0 hgr
    have hb0 := below_of_grown hgr
    clear hgr
    go_wp2
    go_loopw [6] (fun i wr => ∃ k : Nat, k ≤ xs.length ∧ i = .int .i64 k ∧ Own wr w.heap.size w.heap.size (xs.length + ys.length - 1) (mulTo xs ys k) ∧ Below w.heap.size w wr) (fun i _ => xs.length - (intOf i).toNat)
    case atStart => exact ⟨0, Nat.zero_le _, rfl, hown0, hb0⟩
    case round =>
      obtain ⟨i, hi, rfl, ho, hb⟩ := hrel
      by_cases hlt : i < xs.length
      · have h1 := hc1.below hb hg1 i hlt
        obtain ⟨wo, rfl⟩ : ∃ wo : World, wo = wr := ⟨_, rfl⟩
        go_wp2
        go_loopw [7] (fun j wr => ∃ k : Nat, k ≤ ys.length ∧ j = .int .i64 k ∧ Own wr w.heap.size w.heap.size (xs.length + ys.length - 1) (rowTo (mulTo xs ys i) (xs.getD i 0) ys i k) ∧ Below w.heap.size w wr) (fun j _ => ys.length - (intOf j).toNat)
        case atStart => exact ⟨0, Nat.zero_le _, rfl, ho, hb⟩
        case round =>
          obtain ⟨k, hk, rfl, ho2, hb2⟩ := hrel
          by_cases hlt2 : k < ys.length
          · have q1 := hc1.below hb2 hg1 i hlt
            have q2 := hc2.below hb2 hg2 k hlt2
            obtain ⟨R, hR⟩ : ∃ R, rowTo (mulTo xs ys i) (xs.getD i 0) ys i k = R := ⟨_, rfl⟩
            have hl : i + k < R.length := by rw [← hR, rowTo_length, mulTo_length]; omega
            rw [hR] at ho2
            have q3 := ho2.cell (i + k) hl
            have f3 := ho2.frozen (i + k)
            have HR := Lib.hid hR; clear hR
            go_wp2
            go_region
            all_goals go_wp2
            all_goals
              go_roundw
              case rel =>
                have hs := ho2.set (i + k) (wrap64 (R[i + k] + wrap64 (xs[i] * ys[k])))
                rw [row_step hlt hlt2 hl HR.out] at hs
                exact ⟨k + 1, by omega, by go_num, by first | exact hs.1.drew | exact hs.1, by first | exact (hb2.grown hs.2 hb2.size (by intro j hj; cases hj; exact ho2.base)).drew | exact hb2.grown hs.2 hb2.size (by intro j hj; cases hj; exact ho2.base)⟩
              case measure => simp [intOf]; omega
          · obtain rfl : k = ys.length := by omega
            go_wp2
            go_roundw
            case rel => exact ⟨i + 1, by omega, by go_num, ho2, hb2⟩
            case measure => simp [intOf]; omega
      · obtain rfl : i = xs.length := by omega
        go_wp2_with fail
        refine (spec_TrimPoly_any w.heap.size 0 _ _ (mulTo xs ys xs.length) _ (mulTo_length _ _ _) (by rw [mulTo_length]; omega) (Nat.le_refl _) ho.lt ho.cells).mono ?_
        rintro e w2 ⟨g3, c3, rfl, ho3, hb3⟩
        go_wp2_with fail
        go_ret
        exact GotInts.mk' g3 c3 rfl (ho3.mono hb.size) (hb.trans (hb3.mono hb.size))

set_option maxHeartbeats 1000000 in
theorem impl_MulPoly_any (g1 o1 n1 c1 g2 o2 n2 c2 : Nat) (xs ys : List Int) (w : World) (hn1 : xs.length = n1) (hn2 : ys.length = n2) (hx : xs.length ≤ 1099511627776) (hy : ys.length ≤ 1099511627776)
    (hg1 : g1 < w.heap.size) (hg2 : g2 < w.heap.size) (hc1 : Cells w g1 o1 xs) (hc2 : Cells w g2 o2 ys) :
    Calls Tryz.prog 77 #[(Value.slice (some ⟨g1, o1, none⟩) n1 c1), (Value.slice (some ⟨g2, o2, none⟩) n2 c2)] w (GotInts w (mul xs ys)) := by
  subst hn1; subst hn2
  by_cases hbad : xs.length = 0 ∨ ys.length = 0 ∨ 62 < xs.length + ys.length
  · have e : mul xs ys = [] := by unfold mul; rw [if_pos hbad]
    rw [e]
    by_cases h3 : 62 < xs.length + ys.length
    · have d3 : decide ((62 : Int) < (xs.length : Int) + (ys.length : Int)) = true := by simp; omega
      clear hbad
      go_enter Tryz.func77, Tryz.ntmps77
      go_wp2
      go_ret
      exact GotInts.mk' _ _ rfl (Own.empty (Nat.le_refl _)) ((Below.refl _ _).alloc (Nat.le_refl _) _)
    · have d3 : decide ((62 : Int) < (xs.length : Int) + (ys.length : Int)) = false := by simp; omega
      by_cases h1 : xs.length = 0
      · have d1 : ((xs.length : Int) == 0) = true := by simp [h1]
        have H1 := Lib.hid h1; clear h1 hbad
        go_enter Tryz.func77, Tryz.ntmps77
        go_wp2
        go_ret
        exact GotInts.mk' _ _ rfl (Own.empty (Nat.le_refl _)) ((Below.refl _ _).alloc (Nat.le_refl _) _)
      · have d1 : ((xs.length : Int) == 0) = false := by simp; intro h; simp [h] at h1
        have d2 : ((ys.length : Int) == 0) = true := by simp; have : ys.length = 0 := (by omega); simpa using this
        have H1 := Lib.hid h1; clear h1 hbad
        go_enter Tryz.func77, Tryz.ntmps77
        go_wp2
        go_ret
        exact GotInts.mk' _ _ rfl (Own.empty (Nat.le_refl _)) ((Below.refl _ _).alloc (Nat.le_refl _) _)
  · have hp1 : 0 < xs.length := by omega
    have hp2 : 0 < ys.length := by omega
    have hsm : xs.length + ys.length ≤ 62 := by omega
    have e : mul xs ys = trim (mulTo xs ys xs.length) := by unfold mul; rw [if_neg hbad]
    rw [e]
    clear e hbad
    have d1 : ((xs.length : Int) == 0) = false := by simp; intro h; simp [h] at hp1
    have d2 : ((ys.length : Int) == 0) = false := by simp; intro h; simp [h] at hp2
    have d3 : decide ((62 : Int) < (xs.length : Int) + (ys.length : Int)) = false := by simp; omega
    go_enter Tryz.func77, Tryz.ntmps77
    go_wp2_with (at_make; refine wpList_make_ints rfl _ _ rfl w.heap.size (xs.length + ys.length - 1) _ (by omega) rfl rfl (by omega) (Nat.le_refl _) ?_)
    intro w1 hown0 hgr
    have hb0 := below_of_grown hgr
    clear hgr
    go_wp2
    go_loopw [36] (fun i wr => ∃ k : Nat, k ≤ xs.length ∧ i = .int .i64 k ∧ Own wr w.heap.size w.heap.size (xs.length + ys.length - 1) (mulTo xs ys k) ∧ Below w.heap.size w wr) (fun i _ => xs.length - (intOf i).toNat)
    case atStart => exact ⟨0, Nat.zero_le _, rfl, hown0, hb0⟩
    case round =>
      obtain ⟨i, hi, rfl, ho, hb⟩ := hrel
      by_cases hlt : i < xs.length
      · have h1 := hc1.below hb hg1 i hlt
        obtain ⟨wo, rfl⟩ : ∃ wo : World, wo = wr := ⟨_, rfl⟩
        go_wp2
        go_loopw [43] (fun j wr => ∃ k : Nat, k ≤ ys.length ∧ j = .int .i64 k ∧ Own wr w.heap.size w.heap.size (xs.length + ys.length - 1) (rowTo (mulTo xs ys i) (xs.getD i 0) ys i k) ∧ Below w.heap.size w wr) (fun j _ => ys.length - (intOf j).toNat)
        case atStart => exact ⟨0, Nat.zero_le _, rfl, ho, hb⟩
        case round =>
          obtain ⟨k, hk, rfl, ho2, hb2⟩ := hrel
          by_cases hlt2 : k < ys.length
          · have q1 := hc1.below hb2 hg1 i hlt
            have q2 := hc2.below hb2 hg2 k hlt2
            obtain ⟨R, hR⟩ : ∃ R, rowTo (mulTo xs ys i) (xs.getD i 0) ys i k = R := ⟨_, rfl⟩
            have hl : i + k < R.length := by rw [← hR, rowTo_length, mulTo_length]; omega
            rw [hR] at ho2
            have q3 := ho2.cell (i + k) hl
            have f3 := ho2.frozen (i + k)
            have HR := Lib.hid hR; clear hR
            go_wp2
            all_goals
              go_roundw
              case rel =>
                have hs := ho2.set (i + k) (wrap64 (R[i + k] + wrap64 (xs[i] * ys[k])))
                rw [row_step hlt hlt2 hl HR.out] at hs
                exact ⟨k + 1, by omega, by go_num, by first | exact hs.1.drew | exact hs.1, by first | exact (hb2.grown hs.2 hb2.size (by intro j hj; cases hj; exact ho2.base)).drew | exact hb2.grown hs.2 hb2.size (by intro j hj; cases hj; exact ho2.base)⟩
              case measure => simp [intOf]; omega
          · obtain rfl : k = ys.length := by omega
            go_wp2
            go_roundw
            case rel => exact ⟨i + 1, by omega, by go_num, ho2, hb2⟩
            case measure => simp [intOf]; omega
      · obtain rfl : i = xs.length := by omega
        go_wp2_with fail
        refine (impl_TrimPoly_any w.heap.size 0 _ _ (mulTo xs ys xs.length) _ (mulTo_length _ _ _) (by rw [mulTo_length]; omega) (Nat.le_refl _) ho.lt ho.cells).mono ?_
        rintro e w2 ⟨g3, c3, rfl, ho3, hb3⟩
        go_wp2_with fail
        go_ret
        exact GotInts.mk' g3 c3 rfl (ho3.mono hb.size) (hb.trans (hb3.mono hb.size))


theorem impl_ProductCounts_any (g1 o1 n1 c1 g2 o2 n2 c2 : Nat) (xs ys : List Int) (w : World) (hn1 : xs.length = n1) (hn2 : ys.length = n2) (hx : xs.length ≤ 1099511627776) (hy : ys.length ≤ 1099511627776)
    (hk1 : n1 ≤ c1) (hk2 : n2 ≤ c2) (hg1 : g1 < w.heap.size) (hg2 : g2 < w.heap.size) (hc1 : Cells w g1 o1 xs) (hc2 : Cells w g2 o2 ys) :
    Calls Tryz.prog 22 #[(Value.slice (some ⟨g1, o1, none⟩) n1 c1), (Value.slice (some ⟨g2, o2, none⟩) n2 c2)] w (GotInts w (mul (trim xs) (trim ys))) := by
  have b1 : (trim xs).length ≤ 1099511627776 := by rw [trim_length]; have := trimN_le xs xs.length; omega
  have b2 : (trim ys).length ≤ 1099511627776 := by rw [trim_length]; have := trimN_le ys ys.length; omega
  go_enter Tryz.func22, Tryz.ntmps22
  go_wp2_with fail
  refine (impl_TrimPoly_any g1 o1 n1 c1 xs _ hn1 hx hk1 hg1 hc1).mono ?_
  rintro e w1 ⟨g3, c3, rfl, ho3, hb3⟩
  go_wp2_with fail
  refine (impl_TrimPoly_any g2 o2 n2 c2 ys _ hn2 hy hk2 (Nat.lt_of_lt_of_le hg2 hb3.size) (hc2.below hb3 hg2)).mono ?_
  rintro e w2 ⟨g4, c4, rfl, ho4, hb4⟩
  go_wp2_with fail
  refine (impl_MulPoly_any g3 0 _ c3 g4 0 _ c4 (trim xs) (trim ys) _ rfl rfl b1 b2 (ho3.below hb4 ho3.lt).lt ho4.lt (ho3.below hb4 ho3.lt).cells ho4.cells).mono ?_
  rintro e w3 ⟨g5, c5, rfl, ho5, hb5⟩
  go_wp2_with fail
  go_ret
  have hb34 := hb3.trans (hb4.mono hb3.size)
  exact GotInts.mk' g5 c5 rfl (ho5.mono hb34.size) (hb34.trans (hb5.mono hb34.size))

theorem spec_ProductCounts_any (g1 o1 n1 c1 g2 o2 n2 c2 : Nat) (xs ys : List Int) (w : World) (hn1 : xs.length = n1) (hn2 : ys.length = n2) (hx : xs.length ≤ 1099511627776) (hy : ys.length ≤ 1099511627776)
    (hk1 : n1 ≤ c1) (hk2 : n2 ≤ c2) (hg1 : g1 < w.heap.size) (hg2 : g2 < w.heap.size) (hc1 : Cells w g1 o1 xs) (hc2 : Cells w g2 o2 ys) :
    Calls Tryz.prog 26 #[(Value.slice (some ⟨g1, o1, none⟩) n1 c1), (Value.slice (some ⟨g2, o2, none⟩) n2 c2)] w (GotInts w (mul (trim xs) (trim ys))) := by
  have b1 : (trim xs).length ≤ 1099511627776 := by rw [trim_length]; have := trimN_le xs xs.length; omega
  have b2 : (trim ys).length ≤ 1099511627776 := by rw [trim_length]; have := trimN_le ys ys.length; omega
  go_enter Tryz.func26, Tryz.ntmps26
  go_wp2_with fail
  refine (spec_TrimPoly_any g1 o1 n1 c1 xs _ hn1 hx hk1 hg1 hc1).mono ?_
  rintro e w1 ⟨g3, c3, rfl, ho3, hb3⟩
  go_wp2_with fail
  refine (spec_TrimPoly_any g2 o2 n2 c2 ys _ hn2 hy hk2 (Nat.lt_of_lt_of_le hg2 hb3.size) (hc2.below hb3 hg2)).mono ?_
  rintro e w2 ⟨g4, c4, rfl, ho4, hb4⟩
  go_wp2_with fail
  refine (spec_MulPoly_any g3 0 _ c3 g4 0 _ c4 (trim xs) (trim ys) _ rfl rfl b1 b2 (ho3.below hb4 ho3.lt).lt ho4.lt (ho3.below hb4 ho3.lt).cells ho4.cells).mono ?_
  rintro e w3 ⟨g5, c5, rfl, ho5, hb5⟩
  go_wp2_with fail
  go_ret
  have hb34 := hb3.trans (hb4.mono hb3.size)
  exact GotInts.mk' g5 c5 rfl (ho5.mono hb34.size) (hb34.trans (hb5.mono hb34.size))
end Go.Proofs.YtldcmhgpppeooaaGreatDoor
