/- FirstUnsorted and IsSorter: contracts. -/
import Derived.Test.YtgdgmldmcommbaaNet
import Derived.Test.YtgdgmldmcommbaaSortBy
import Derived.WalkLawsBesides
namespace Go.Proofs.Ytgdgmldmcommbaa
open Go.RowKit

theorem cmp_isNaN_any (x : Int) (w : World) : Calls Try.prog 71 #[.int .i64 x] w (Reads w (.bool false)) := by
  have h : (x != x) = false := by simp
  go_enter Try.func71, Try.ntmps71
  go_wp2
  go_ret
  exact ⟨ret_bool (by simp), 0, rfl⟩

set_option maxHeartbeats 400000 in
theorem cmp_Less_any (x y : Int) (w : World) : Calls Try.prog 68 #[.int .i64 x, .int .i64 y] w (Reads w (.bool (decide (x < y)))) := by
  go_enter Try.func68, Try.ntmps68
  go_wp2_with fail
  refine (cmp_isNaN_any x _).mono ?_
  rintro e w1 ⟨rfl, m1, rfl⟩
  go_wp2_with fail
  go_ret
  exact ⟨rfl, m1, rfl⟩

def sortedB : List Int → Bool
  | [] => true
  | [_] => true
  | x :: y :: l => decide (x ≤ y) && sortedB (y :: l)
theorem sortedB_iff (xs : List Int) : sortedB xs = true ↔ ∀ i, i + 1 < xs.length → xs.getD i 0 ≤ xs.getD (i + 1) 0 := by
  induction xs with
  | nil => simp [sortedB]
  | cons x l ih =>
    cases l with
    | nil => simp [sortedB]
    | cons y l =>
      simp only [sortedB, Bool.and_eq_true, decide_eq_true_eq, ih]
      constructor
      · rintro ⟨h1, h2⟩ i hi
        cases i with
        | zero => simpa using h1
        | succ i => simpa using h2 i (by simpa using hi)
      · intro h
        refine ⟨by simpa using h 0 (by simp), fun i hi => ?_⟩
        simpa using h (i + 1) (by simpa using hi)
theorem sortedB_no {xs : List Int} {i : Nat} (hi : i + 1 < xs.length) (h : xs[i + 1] < xs[i]'(by omega)) : sortedB xs = false := by
  cases e : sortedB xs with
  | false => rfl
  | true =>
    have h1 := (sortedB_iff xs).1 e i hi
    simp [List.getD, hi, show i < xs.length by omega] at h1
    omega
theorem Reads.quiet {f : FuncId} {args : Array Value} {w : World} {n : Nat} {v : Value} (h : Calls Try.prog f args (w.drewN n) (Reads (w.drewN n) v)) :
    Calls Try.prog f args (w.drewN n) fun e w'' => e = .returned v ∧ ∃ m, w'' = w.drewN m := Calls.quiet_of h

theorem Reads.quiet2 {f : FuncId} {args : Array Value} {w : World} {m n : Nat} {v : Value} (h : Calls Try.prog f args (w.drewN (m + n)) (Reads (w.drewN (m + n)) v)) :
    Calls Try.prog f args (w.drewN (m + n)) fun e w'' => e = .returned v ∧ ∃ k, w'' = w.drewN (m + k) :=
  h.mono fun _ _ ⟨he, k, hk⟩ => ⟨he, n + k, by rw [hk, World.drewN_drewN, Nat.add_assoc]⟩

set_option maxHeartbeats 400000 in
theorem slices_IsSorted_any (g o n c : Nat) (xs : List Int) (w : World) (hn : xs.length = n) (hx : xs.length ≤ 1099511627776) (hc : Cells w g o xs) :
    Calls Try.prog 58 #[(Value.slice (some ⟨g, o, none⟩) n c)] w (Reads w (.bool (sortedB xs))) := by
  subst hn
  by_cases h0 : xs = []
  · subst h0
    go_enter Try.func58, Try.ntmps58
    go_wp2
    refine wp_loop_rounds 1 ?_
    rw [rounds_succ]
    go_wp2
    go_ret
    exact ⟨ret_bool rfl, 0, rfl⟩
  have hpos : 0 < xs.length := List.length_pos_iff.2 h0
  clear h0
  go_enter Try.func58, Try.ntmps58
  go_wp2
  go_loopw [3] (fun i wr => ∃ t : Nat, t < xs.length ∧ i = .int .i64 t ∧ Hid (∀ j, j + 1 < xs.length → t ≤ j → xs.getD j 0 ≤ xs.getD (j + 1) 0) ∧ ∃ m, wr = w.drewN m) (fun i _ => (intOf i).toNat)
  case atStart => exact ⟨xs.length - 1, by omega, by go_num, fun j h1 h2 => absurd h1 (by omega), 0, rfl⟩
  case round =>
    obtain ⟨t, ht, rfl, hp, m, rfl⟩ := hrel
    by_cases ht0 : 0 < t
    · have l0 : t - 1 < xs.length := by omega
      have c1 := hc t ht
      have c0 := hc (t - 1) l0
      have i1 : ((t : Int) - 1).toNat = t - 1 := by omega
      have i2 : 1 ≤ t := ht0
      go_wp2
      go_quiet ((go_at_call 68; exact Reads.quiet2 (cmp_Less_any _ _ _)))
      go_wp2
      · have hlt : xs[t] < xs[t - 1] := by assumption
        go_ret
        exact ⟨ret_bool (sortedB_no (i := t - 1) (by omega) (by simpa [Nat.sub_add_cancel i2] using hlt)).symm, (by first | exact ⟨_, rfl⟩ | exact ⟨0, rfl⟩ | exact still2 _ _ _ | exact still3 _ _ _ _)⟩
      · have hge : xs[t - 1] ≤ xs[t] := by assumption
        go_roundw
        case rel => exact ⟨t - 1, by omega, by go_num, fun j h1 h2 => if e : j = t - 1 then by subst e; simpa [List.getD, l0, ht, Nat.sub_add_cancel i2] using hge else hp.out j h1 (by omega), (by first | exact ⟨_, rfl⟩ | exact ⟨0, rfl⟩ | exact still2 _ _ _ | exact still3 _ _ _ _)⟩
        case measure => simp [intOf]; omega
    · obtain rfl : t = 0 := by omega
      go_wp2
      go_ret
      exact ⟨ret_bool ((sortedB_iff xs).2 fun j h1 => hp.out j h1 (Nat.zero_le _)).symm, (by first | exact ⟨_, rfl⟩ | exact ⟨0, rfl⟩ | exact still2 _ _ _ | exact still3 _ _ _ _)⟩

set_option maxHeartbeats 400000 in
theorem spec_l33Sorted_any (g o n c : Nat) (xs : List Int) (w : World) (hn : xs.length = n) (hx : xs.length ≤ 1099511627776) (hc : Cells w g o xs) :
    Calls Try.prog 57 #[(Value.slice (some ⟨g, o, none⟩) n c)] w (Reads w (.bool (sortedB xs))) := by
  subst hn
  go_enter Try.func57, Try.ntmps57
  go_wp2
  go_loopw [3] (fun i wr => ∃ t : Nat, i = .int .i64 (t + 1 : Nat) ∧ (t < xs.length ∨ t = 0) ∧ Hid (∀ j, j + 1 < xs.length → j < t → xs.getD j 0 ≤ xs.getD (j + 1) 0) ∧ ∃ m, wr = w.drewN m) (fun i _ => xs.length + 1 - (intOf i).toNat)
  case atStart => exact ⟨0, rfl, .inr rfl, fun j h1 h2 => absurd h2 (by omega), 0, rfl⟩
  case round =>
    obtain ⟨t, rfl, ht, hp, m, rfl⟩ := hrel
    by_cases hlt : t + 1 < xs.length
    · have l0 : t < xs.length := by omega
      have c1 := hc (t + 1) hlt
      have c0 := hc t l0
      have i1 : ((t + 1 : Nat) : Int).toNat = t + 1 := by omega
      have i2 : (((t + 1 : Nat) : Int) - 1).toNat = t := by omega
      go_wp2
      go_quiet (fail)
      go_wp2
      · have hlt2 : xs[t + 1] < xs[t] := by assumption
        go_ret
        exact ⟨ret_bool (sortedB_no hlt hlt2).symm, (by first | exact ⟨_, rfl⟩ | exact ⟨0, rfl⟩ | exact still2 _ _ _ | exact still3 _ _ _ _)⟩
      · have hge : xs[t] ≤ xs[t + 1] := by assumption
        go_roundw
        case rel => exact ⟨t + 1, by go_num, .inl hlt, fun j h1 h2 => if e : j = t then by subst e; simpa [List.getD, l0, hlt] using hge else hp.out j h1 (by omega), (by first | exact ⟨_, rfl⟩ | exact ⟨0, rfl⟩ | exact still2 _ _ _ | exact still3 _ _ _ _)⟩
        case measure => simp [intOf]; omega
    · go_wp2
      go_ret
      exact ⟨ret_bool ((sortedB_iff xs).2 fun j h1 => hp.out j h1 (by omega)).symm, (by first | exact ⟨_, rfl⟩ | exact ⟨0, rfl⟩ | exact still2 _ _ _ | exact still3 _ _ _ _)⟩
end Go.Proofs.Ytgdgmldmcommbaa
