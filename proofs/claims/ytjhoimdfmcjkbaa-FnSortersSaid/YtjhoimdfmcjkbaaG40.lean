/- CountInversions, the program's and the reference's: contracts. -/
import Derived.Test.YtjhoimdfmcjkbaaBase
import Derived.Test.YtjhoimdfmcjkbaaG39
namespace Go.Proofs.Ytjhoimdfmcjkbaa
set_option maxRecDepth 100000
open Go.RowKit

theorem ahead_yes {xs : List Int} {j k : Nat} (hj : j < xs.length) (hk : k < xs.length) (h : xs[k] < xs[j]) : ahead xs k (j + 1) = ahead xs k j + 1 := by
  simp [ahead, sumToV, worse, List.getD, hj, hk, h]
theorem ahead_no {xs : List Int} {j k : Nat} (hj : j < xs.length) (hk : k < xs.length) (h : xs[j] ≤ xs[k]) : ahead xs k (j + 1) = ahead xs k j := by
  simp [ahead, sumToV, worse, List.getD, hj, hk]; omega

theorem behind_yes {xs : List Int} {j k : Nat} (hk : k < xs.length) (hj : k + 1 + j < xs.length) (h : xs[k + 1 + j] < xs[k]) : behind xs k (j + 1) = behind xs k j + 1 := by
  simp [behind, sumToV, worse, List.getD, hj, hk, h]
theorem behind_no {xs : List Int} {j k : Nat} (hk : k < xs.length) (hj : k + 1 + j < xs.length) (h : ¬ xs[k + 1 + j] < xs[k]) : behind xs k (j + 1) = behind xs k j := by
  simp [behind, sumToV, worse, List.getD, hj, hk]; omega
theorem invB_last (xs : List Int) (n k : Nat) (h : n = k + 1) : invB xs n (k + 1) = invB xs n k := by
  subst h
  show sumToV _ k + behind xs k (k + 1 - (k + 1)) = sumToV _ k
  rw [Nat.sub_self]; rfl

set_option maxHeartbeats 400000 in
theorem spec_CountInversions_any (g o n c : Nat) (xs : List Int) (w : World) (hn : xs.length = n) (hx : xs.length ≤ 1048576) (hc : Cells w g o xs) :
    Calls Try.prog 29 #[(Value.slice (some ⟨g, o, none⟩) n c)] w (Reads w (.int .i64 (invA xs xs.length))) := by
  subst hn
  go_enter Try.func29, Try.ntmps29
  go_wp2
  go_loopw [3, 4, 5] (fun v i _ wr => ∃ k : Nat, k ≤ xs.length ∧ i = .int .i64 k ∧ v = .int .i64 (invA xs k) ∧ ∃ m, wr = w.drewN m) (fun _ i _ _ => xs.length - (intOf i).toNat)
  case atStart => exact ⟨0, Nat.zero_le _, rfl, rfl, 0, rfl⟩
  case round =>
    obtain ⟨k, hk, rfl, rfl, m, rfl⟩ := hrel
    by_cases hlt : k < xs.length
    · go_wp2
      obtain ⟨wo, hwo⟩ : ∃ wo : World, wo = w.drewN m := ⟨_, rfl⟩
      go_loopw [3, 5] (fun v i wr => ∃ j : Nat, j ≤ k ∧ i = .int .i64 j ∧ v = .int .i64 ((invA xs k + ahead xs k j : Nat) : Int) ∧ ∃ m, wr = w.drewN m) (fun _ i _ => k - (intOf i).toNat)
      case atStart => exact ⟨0, Nat.zero_le _, rfl, rfl, m, rfl⟩
      case round =>
        obtain ⟨j, hj, rfl, rfl, m', rfl⟩ := hrel
        have b1 := invA_le xs k (by omega)
        have b2 := ahead_le xs k j
        by_cases hjk : j < k
        · have hjl : j < xs.length := by omega
          have h1 := hc j hjl
          have h2 := hc k hlt
          go_wp2
          go_quiet (fail)
          go_wp2
          · have ht : xs[k] < xs[j] := by assumption
            go_roundw
            case rel => exact ⟨j + 1, by omega, by go_num, by rw [ahead_yes hjl hlt ht]; go_num, (by first | exact ⟨_, rfl⟩ | exact ⟨0, rfl⟩ | exact still2 _ _ _ | exact still3 _ _ _ _)⟩
            case measure => simp [intOf]; omega
          · have ht : xs[j] ≤ xs[k] := by assumption
            go_roundw
            case rel => exact ⟨j + 1, by omega, by go_num, by rw [ahead_no hjl hlt ht], (by first | exact ⟨_, rfl⟩ | exact ⟨0, rfl⟩ | exact still2 _ _ _ | exact still3 _ _ _ _)⟩
            case measure => simp [intOf]; omega
        · obtain rfl : j = k := by omega
          go_wp2
          go_roundw
          case rel => exact ⟨j + 1, by omega, by go_num, rfl, (by first | exact ⟨_, rfl⟩ | exact ⟨0, rfl⟩ | exact still2 _ _ _ | exact still3 _ _ _ _)⟩
          case measure => simp [intOf]; omega
    · obtain rfl : k = xs.length := by omega
      go_wp2
      go_ret
      exact ⟨rfl, m, rfl⟩

set_option maxHeartbeats 400000 in
theorem impl_CountInversions_any (g o n c : Nat) (xs : List Int) (w : World) (hn : xs.length = n) (hx : xs.length ≤ 1048576) (hcap : n ≤ c) (hc : Cells w g o xs) :
    Calls Try.prog 19 #[(Value.slice (some ⟨g, o, none⟩) n c)] w (Reads w (.int .i64 (invB xs xs.length xs.length))) := by
  subst hn
  go_enter Try.func19, Try.ntmps19
  go_wp2
  go_loopw [3, 10] (fun v i wr => ∃ k : Nat, k ≤ xs.length ∧ i = .int .i64 k ∧ v = .int .i64 (invB xs xs.length k) ∧ ∃ m, wr = w.drewN m) (fun _ i _ => xs.length - (intOf i).toNat)
  case atStart => exact ⟨0, Nat.zero_le _, rfl, rfl, 0, rfl⟩
  case round =>
    obtain ⟨k, hk, rfl, rfl, m, rfl⟩ := hrel
    by_cases hlt : k < xs.length
    · have h1 := hc k hlt
      have b1 := invB_le xs xs.length k hk hx
      by_cases hck : c = k + 1
      · subst hck
        have hlast : xs.length = k + 1 := by omega
        have Hl := Lib.hid hlast
        have hz : xs.length - (k + 1) = 0 := by omega
        clear hlast
        go_wp2
        go_loopw [3, 20] (fun v i wr => i = .int .i64 0 ∧ v = .int .i64 (invB xs xs.length k) ∧ ∃ m, wr = w.drewN m) (fun _ _ _ => 0)
        case atStart => exact ⟨rfl, rfl, m, rfl⟩
        case round =>
          obtain ⟨rfl, rfl, m', rfl⟩ := hrel
          go_wp2
          go_roundw
          case rel => exact ⟨k + 1, by have := Hl.out; omega, by go_num, by rw [invB_last xs xs.length k (by have := Hl.out; omega)], (by first | exact ⟨_, rfl⟩ | exact ⟨0, rfl⟩ | exact still2 _ _ _ | exact still3 _ _ _ _)⟩
          case measure => have := Hl.out; simp [intOf]; omega
      · go_wp2
        go_loopw [3, 20] (fun v i wr => ∃ j : Nat, j ≤ xs.length - (k + 1) ∧ i = .int .i64 j ∧ v = .int .i64 ((invB xs xs.length k + behind xs k j : Nat) : Int) ∧ ∃ m, wr = w.drewN m) (fun _ i _ => xs.length - (intOf i).toNat)
        case atStart => exact ⟨0, Nat.zero_le _, rfl, rfl, m, rfl⟩
        case round =>
          obtain ⟨j, hj, rfl, rfl, m', rfl⟩ := hrel
          have b2 := behind_le xs k j
          by_cases hjk : j < xs.length - (k + 1)
          · have hjl : k + 1 + j < xs.length := by omega
            have h2 := hc (k + 1 + j) hjl
            rw [← Nat.add_assoc] at h2
            go_wp2
            · go_roundw
              case rel => exact ⟨j + 1, by omega, by go_num, by rw [behind_yes hlt hjl (by omega)]; go_num, (by first | exact ⟨_, rfl⟩ | exact ⟨0, rfl⟩ | exact still2 _ _ _ | exact still3 _ _ _ _)⟩
              case measure => simp [intOf]; omega
            · go_roundw
              case rel => exact ⟨j + 1, by omega, by go_num, by rw [behind_no hlt hjl (by omega)], (by first | exact ⟨_, rfl⟩ | exact ⟨0, rfl⟩ | exact still2 _ _ _ | exact still3 _ _ _ _)⟩
              case measure => simp [intOf]; omega
          · obtain rfl : j = xs.length - (k + 1) := by omega
            go_wp2
            go_roundw
            case rel => exact ⟨k + 1, by omega, by go_num, rfl, (by first | exact ⟨_, rfl⟩ | exact ⟨0, rfl⟩ | exact still2 _ _ _ | exact still3 _ _ _ _)⟩
            case measure => simp [intOf]; omega
    · obtain rfl : k = xs.length := by omega
      go_wp2
      go_ret
      exact ⟨rfl, m, rfl⟩
theorem impl_CountInversions_A (g o n c : Nat) (xs : List Int) (w : World) (hn : xs.length = n) (hx : xs.length ≤ 1048576) (hcap : n ≤ c) (hc : Cells w g o xs) :
    Calls Try.prog 19 #[(Value.slice (some ⟨g, o, none⟩) n c)] w (Reads w (.int .i64 (invA xs xs.length))) := by
  have := impl_CountInversions_any g o n c xs w hn hx hcap hc
  rwa [invB_eq] at this
end Go.Proofs.Ytjhoimdfmcjkbaa
