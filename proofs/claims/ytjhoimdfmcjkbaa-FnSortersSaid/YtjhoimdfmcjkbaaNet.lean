/- Networks: l1In, l33Fine, isNetwork: contracts. -/
import Derived.Test.YtjhoimdfmcjkbaaBase
namespace Go.Proofs.Ytjhoimdfmcjkbaa
set_option maxRecDepth 100000
open Go.RowKit

/-- the letters of a network on n elements -/
def net (n : Int) (ws : List Int) : Bool := decide (1 ≤ n ∧ n ≤ 5 ∧ ws.length ≤ 15 ∧ ∀ i ∈ ws, 0 ≤ i ∧ i ≤ n - 2)

set_option maxHeartbeats 400000 in
theorem spec_l1In_any (x lo hi : Int) (w : World) :
    Calls Try.prog 52 #[.int .i64 x, .int .i64 lo, .int .i64 hi] w (Reads w (.bool (decide (lo ≤ x ∧ x ≤ hi)))) := by
  by_cases h : lo ≤ x
  · have d : decide (lo ≤ x) = true := by simpa using h
    go_enter Try.func52, Try.ntmps52
    go_wp2
    go_ret
    exact ⟨ret_bool (by simp [h]), 0, rfl⟩
  · have d : decide (lo ≤ x) = false := by simpa using h
    go_enter Try.func52, Try.ntmps52
    go_wp2
    go_ret
    exact ⟨ret_bool (by simp), 0, rfl⟩

theorem net_long {n : Int} {ws : List Int} (h : 15 < ws.length) : net n ws = false := by
  unfold net
  rw [decide_eq_false_iff_not]
  rintro ⟨_, _, h3, _⟩
  omega
theorem net_bad {n : Int} {ws : List Int} {k : Nat} (hk : k < ws.length) (h : ws[k] < 0 ∨ n - 2 < ws[k]) : net n ws = false := by
  unfold net
  rw [decide_eq_false_iff_not]
  rintro ⟨_, _, _, h4⟩
  have := h4 ws[k] (List.getElem_mem hk)
  omega
theorem net_true {n : Int} {ws : List Int} (h1 : 1 ≤ n) (h2 : n ≤ 5) (h3 : ws.length ≤ 15) (h : ∀ j (hj : j < ws.length), 0 ≤ ws[j] ∧ ws[j] ≤ n - 2) : net n ws = true := by
  unfold net
  rw [decide_eq_true_eq]
  refine ⟨h1, h2, h3, fun i hi => ?_⟩
  obtain ⟨j, hj, rfl⟩ := List.getElem_of_mem hi
  exact h j hj

set_option maxHeartbeats 400000 in
theorem impl_isNetwork_any (N : Int) (g o n c : Nat) (ws : List Int) (w : World) (hn : ws.length = n) (hx : ws.length ≤ 1099511627776) (hc : Cells w g o ws) :
    Calls Try.prog 31 #[.int .i64 N, (Value.slice (some ⟨g, o, none⟩) n c)] w (Reads w (.bool (net N ws))) := by
  subst hn
  by_cases h1 : N < 1
  · have d : decide (N < 1) = true := by simpa using h1
    go_enter Try.func31, Try.ntmps31
    go_wp2
    go_ret
    exact ⟨ret_bool (by simp [net]; omega), 0, rfl⟩
  have d1 : decide (N < 1) = false := by simp; omega
  by_cases h2 : 5 < N
  · have d : decide (5 < N) = true := by simpa using h2
    go_enter Try.func31, Try.ntmps31
    go_wp2
    go_ret
    exact ⟨ret_bool (by simp [net]; omega), 0, rfl⟩
  have d2 : decide (5 < N) = false := by simp; omega
  by_cases h3 : (15 : Int) < (ws.length : Int)
  · have d : decide ((15 : Int) < (ws.length : Int)) = true := by simpa using h3
    go_enter Try.func31, Try.ntmps31
    go_wp2
    go_ret
    exact ⟨ret_bool (by simp [net]; omega), 0, rfl⟩
  have d3 : decide ((15 : Int) < (ws.length : Int)) = false := by simp; omega
  have e0 : IntKind.i64.wrap (N - 2) = N - 2 := IntWalk.i64_in _ (by omega)
  go_enter Try.func31, Try.ntmps31
  go_wp2
  go_loopw [20] (fun i wr => ∃ k : Nat, k ≤ ws.length ∧ i = .int .i64 k ∧ Hid (∀ j (hj : j < ws.length), j < k → 0 ≤ ws[j] ∧ ws[j] ≤ N - 2) ∧ ∃ m, wr = w.drewN m) (fun i _ => ws.length - (intOf i).toNat)
  case atStart => exact ⟨0, Nat.zero_le _, rfl, fun j _ h => absurd h (by omega), 0, rfl⟩
  case round =>
    obtain ⟨k, hk, rfl, hp, m, rfl⟩ := hrel
    by_cases hlt : k < ws.length
    · have c1 := hc k hlt
      by_cases a1 : ws[k] < 0
      · have d4 : decide (ws[k] < 0) = true := by simpa using a1
        go_wp2
        go_ret
        exact ⟨ret_bool (net_bad hlt (.inl a1)).symm, m, rfl⟩
      have d4 : decide (ws[k] < 0) = false := by simp; omega
      by_cases a2 : N - 2 < ws[k]
      · have d5 : decide (N - 2 < ws[k]) = true := by simpa using a2
        go_wp2
        go_ret
        exact ⟨ret_bool (net_bad hlt (.inr a2)).symm, m, rfl⟩
      have d5 : decide (N - 2 < ws[k]) = false := by simp; omega
      go_wp2
      go_roundw
      case rel => exact ⟨k + 1, by omega, by go_num, fun j hj hjk => if e : j = k then by subst e; omega else hp.out j hj (by omega), m, rfl⟩
      case measure => simp [intOf]; omega
    · obtain rfl : k = ws.length := by omega
      go_wp2
      go_ret
      exact ⟨ret_bool (net_true (by omega) (by omega) (by omega) fun j hj => hp.out j hj hj).symm, m, rfl⟩

set_option maxHeartbeats 400000 in
theorem spec_l33Fine_any (N : Int) (g o n c : Nat) (ws : List Int) (w : World) (hN : -9223372036854775808 ≤ N ∧ N ≤ 9223372036854775807) (hn : ws.length = n) (hx : ws.length ≤ 1099511627776) (hc : Cells w g o ws) :
    Calls Try.prog 33 #[.int .i64 N, (Value.slice (some ⟨g, o, none⟩) n c)] w (Reads w (.bool (net N ws))) := by
  subst hn
  obtain ⟨T, hT⟩ : ∃ T, IntKind.i64.wrap (N - 1) = T := ⟨_, rfl⟩
  have hT1 : 1 ≤ N → T = N - 1 := fun h => by rw [← hT]; exact IntWalk.i64_in _ (by omega)
  have HT := Lib.hid hT1; clear hT1
  go_enter Try.func33, Try.ntmps33
  go_wp2
  go_loopw [5] (fun i wr => ∃ k : Nat, k ≤ ws.length ∧ i = .int .i64 k ∧ Hid (∀ j (hj : j < ws.length), j < k → 0 ≤ ws[j] ∧ ws[j] < T) ∧ ∃ m, wr = w.drewN m) (fun i _ => ws.length - (intOf i).toNat)
  case atStart => exact ⟨0, Nat.zero_le _, rfl, fun j _ h => absurd h (by omega), 0, rfl⟩
  case round =>
    obtain ⟨k, hk, rfl, hp, m, rfl⟩ := hrel
    by_cases hlt : k < ws.length
    · have c1 := hc k hlt
      by_cases a1 : ws[k] < 0
      · have d4 : decide (ws[k] < 0) = true := by simpa using a1
        go_wp2
        go_ret
        exact ⟨ret_bool (net_bad hlt (.inl a1)).symm, m, rfl⟩
      have d4 : decide (ws[k] < 0) = false := by simp; omega
      by_cases a2 : T ≤ ws[k]
      · have d5 : decide (T ≤ ws[k]) = true := by simpa using a2
        go_wp2
        go_ret
        refine ⟨ret_bool ?_, m, rfl⟩
        by_cases hN1 : 1 ≤ N
        · have := HT.out hN1
          exact (net_bad hlt (.inr (by omega))).symm
        · simp [net, hN1]
      have d5 : decide (T ≤ ws[k]) = false := by simp; omega
      go_wp2
      go_roundw
      case rel => exact ⟨k + 1, by omega, by go_num, fun j hj hjk => if e : j = k then by subst e; omega else hp.out j hj (by omega), m, rfl⟩
      case measure => simp [intOf]; omega
    · obtain rfl : k = ws.length := by omega
      by_cases hr : 1 ≤ N ∧ N ≤ 5
      · have hl := spec_l1In_any N 1 5 (w.drewN m)
        rw [decide_eq_true hr] at hl
        go_wp2_with fail
        refine hl.mono ?_
        rintro e w' ⟨rfl, m', rfl⟩
        go_wp2
        go_ret
        refine ⟨ret_bool ?_, (by first | exact ⟨_, rfl⟩ | exact ⟨0, rfl⟩ | exact still2 _ _ _ | exact still3 _ _ _ _)⟩
        have hT := HT.out hr.1
        by_cases h15 : ws.length ≤ 15
        · rw [net_true hr.1 hr.2 h15 (fun j hj => by have := hp.out j hj hj; omega)]
          simp; omega
        · rw [net_long (by omega)]
          simp; omega
      · have hl := spec_l1In_any N 1 5 (w.drewN m)
        rw [decide_eq_false hr] at hl
        go_wp2_with fail
        refine hl.mono ?_
        rintro e w' ⟨rfl, m', rfl⟩
        go_wp2
        go_ret
        exact ⟨ret_bool (by simp [net]; omega), (by first | exact ⟨_, rfl⟩ | exact ⟨0, rfl⟩ | exact still2 _ _ _ | exact still3 _ _ _ _)⟩
end Go.Proofs.Ytjhoimdfmcjkbaa
