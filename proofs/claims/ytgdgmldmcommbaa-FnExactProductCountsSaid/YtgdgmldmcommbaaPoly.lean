/- TrimPoly, MulPoly, ProductCounts: contracts. -/
import Derived.Test.YtgdgmldmcommbaaBase2
namespace Go.Proofs.Ytgdgmldmcommbaa
open Go.RowKit

/-- how many numbers are left when zeros at the end are removed, of the first k -/
def trimN (xs : List Int) : Nat → Nat
  | 0 => 0
  | k + 1 => if xs.getD k 0 = 0 then trimN xs k else k + 1
def trim (xs : List Int) : List Int := xs.take (trimN xs xs.length)
theorem trimN_le (xs : List Int) (k : Nat) : trimN xs k ≤ k := by
  induction k with
  | zero => exact Nat.le_refl _
  | succ k ih => simp only [trimN]; split <;> omega
theorem trimN_zero {xs : List Int} {k : Nat} (hk : k < xs.length) (h : xs[k] = 0) : trimN xs (k + 1) = trimN xs k := by
  simp [trimN, List.getD, hk, h]
theorem trimN_stay {xs : List Int} {k : Nat} (hk : k < xs.length) (h : ¬ xs[k] = 0) : trimN xs (k + 1) = k + 1 := by
  simp [trimN, List.getD, hk, h]
theorem trim_length (xs : List Int) : (trim xs).length = trimN xs xs.length := by
  unfold trim; rw [List.length_take]; have := trimN_le xs xs.length; omega

set_option maxHeartbeats 400000 in
theorem impl_TrimPoly_any (g o n c : Nat) (xs : List Int) (w : World) (hn : xs.length = n) (hx : xs.length ≤ 1099511627776) (hcap : n ≤ c) (hg : g < w.heap.size) (hc : Cells w g o xs) :
    Calls Try.prog 52 #[(Value.slice (some ⟨g, o, none⟩) n c)] w (GotInts w (trim xs)) := by
  subst hn
  go_enter Try.func52, Try.ntmps52
  go_wp2
  go_loopw [3] (fun i wr => ∃ k : Nat, k ≤ xs.length ∧ i = .int .i64 k ∧ trimN xs xs.length = trimN xs k ∧ ∃ m, wr = w.drewN m) (fun i _ => (intOf i).toNat)
  case atStart => exact ⟨xs.length, Nat.le_refl _, rfl, rfl, 0, rfl⟩
  case round =>
    obtain ⟨k, hk, rfl, he, m, rfl⟩ := hrel
    have He := Lib.hid he; clear he
    by_cases h0 : 0 < k
    · have d1 : decide ((0 : Int) < (k : Int)) = true := by simp; omega
      have l0 : k - 1 < xs.length := by omega
      have c0 := hc (k - 1) l0
      have i1 : ((k : Int) - 1).toNat = k - 1 := by omega
      have i2 : 1 ≤ k := h0
      by_cases hz : xs[k - 1] = 0
      · have d2 : (xs[k - 1] == 0) = true := by simpa using hz
        have hs := trimN_zero l0 hz
        have Hz := Lib.hid hz; clear hz
        have Hs := Lib.hid hs; clear hs
        go_wp2
        go_roundw
        case rel => exact ⟨k - 1, by omega, by go_num, by rw [He.out, ← Hs.out, Nat.sub_add_cancel i2], m, rfl⟩
        case measure => simp [intOf]; omega
      · have d2 : (xs[k - 1] == 0) = false := by simpa using hz
        have hs := trimN_stay l0 hz
        rw [Nat.sub_add_cancel i2] at hs
        have Hz := Lib.hid hz; clear hz
        have Hs := Lib.hid hs; clear hs
        have hlen : (xs.take k).length = k := by rw [List.length_take]; omega
        have Hlen := Lib.hid hlen; clear hlen
        go_wp2_with (at_builtin; refine wpList_clone rfl _ _ rfl g o k c (xs.take k) Hlen.out hg (hc.take k) rfl rfl (by rw [Hlen.out]; omega) ?_)
        intro g1 c1 w1 ho hb
        go_wp2
        go_ret
        have e : trim xs = xs.take k := by unfold trim; rw [He.out, Hs.out]
        rw [e]
        exact GotInts.mk' g1 c1 Hlen.out ho ((below_drewN' w m).trans hb)
    · obtain rfl : k = 0 := by omega
      go_wp2_with (at_builtin; refine wpList_clone rfl _ _ rfl g o 0 c [] rfl hg (hc.take 0) rfl rfl (by simp) ?_)
      intro g1 c1 w1 ho hb
      go_wp2
      go_ret
      have e : trim xs = [] := by unfold trim; rw [He.out]; rfl
      rw [e]
      exact GotInts.mk' g1 c1 rfl ho ((below_drewN' w m).trans hb)

set_option maxHeartbeats 400000 in
theorem spec_TrimPoly_any (g o n c : Nat) (xs : List Int) (w : World) (hn : xs.length = n) (hx : xs.length ≤ 1099511627776) (hcap : n ≤ c) (hg : g < w.heap.size) (hc : Cells w g o xs) :
    Calls Try.prog 50 #[(Value.slice (some ⟨g, o, none⟩) n c)] w (GotInts w (trim xs)) := by
  subst hn
  go_enter Try.func50, Try.ntmps50
  go_wp2
  go_loopw [3] (fun i wr => ∃ k : Nat, k ≤ xs.length ∧ i = .int .i64 k ∧ trimN xs xs.length = trimN xs k ∧ ∃ m, wr = w.drewN m) (fun i _ => (intOf i).toNat)
  case atStart => exact ⟨xs.length, Nat.le_refl _, rfl, rfl, 0, rfl⟩
  case round =>
    obtain ⟨k, hk, rfl, he, m, rfl⟩ := hrel
    have He := Lib.hid he; clear he
    by_cases h0 : 0 < k
    · have d1 : decide ((0 : Int) < (k : Int)) = true := by simp; omega
      have l0 : k - 1 < xs.length := by omega
      have c0 := hc (k - 1) l0
      have i1 : ((k : Int) - 1).toNat = k - 1 := by omega
      have i2 : 1 ≤ k := h0
      by_cases hz : xs[k - 1] = 0
      · have d2 : (xs[k - 1] == 0) = true := by simpa using hz
        have hs := trimN_zero l0 hz
        have Hz := Lib.hid hz; clear hz
        have Hs := Lib.hid hs; clear hs
        go_wp2
        go_roundw
        case rel => exact ⟨k - 1, by omega, by go_num, by rw [He.out, ← Hs.out, Nat.sub_add_cancel i2], m, rfl⟩
        case measure => simp [intOf]; omega
      · have d2 : (xs[k - 1] == 0) = false := by simpa using hz
        have hs := trimN_stay l0 hz
        rw [Nat.sub_add_cancel i2] at hs
        have Hz := Lib.hid hz; clear hz
        have Hs := Lib.hid hs; clear hs
        have hlen : (xs.take k).length = k := by rw [List.length_take]; omega
        have Hlen := Lib.hid hlen; clear hlen
        go_wp2_with (at_builtin; refine wpList_clone rfl _ _ rfl g o k c (xs.take k) Hlen.out hg (hc.take k) rfl rfl (by rw [Hlen.out]; omega) ?_)
        intro g1 c1 w1 ho hb
        go_wp2
        go_ret
        have e : trim xs = xs.take k := by unfold trim; rw [He.out, Hs.out]
        rw [e]
        exact GotInts.mk' g1 c1 Hlen.out ho ((below_drewN' w m).trans hb)
    · obtain rfl : k = 0 := by omega
      go_wp2_with (at_builtin; refine wpList_clone rfl _ _ rfl g o 0 c [] rfl hg (hc.take 0) rfl rfl (by simp) ?_)
      intro g1 c1 w1 ho hb
      go_wp2
      go_ret
      have e : trim xs = [] := by unfold trim; rw [He.out]; rfl
      rw [e]
      exact GotInts.mk' g1 c1 rfl ho ((below_drewN' w m).trans hb)

end Go.Proofs.Ytgdgmldmcommbaa
