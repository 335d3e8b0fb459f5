/- IsUnimodal, the program's and the reference's: contracts. -/
import Derived.Test.YtgdgmldmcommbaaHelp
namespace Go.Proofs.Ytgdgmldmcommbaa
open Go.RowKit

/-- some number before place k is less than the one before it -/
def fell (xs : List Int) : Nat → Bool
  | 0 => false
  | k + 1 => fell xs k || (decide (0 < k) && decide (xs.getD k 0 < xs.getD (k - 1) 0))
/-- some number before place k is greater than the one before it, behind a fall -/
def rose (xs : List Int) : Nat → Bool
  | 0 => false
  | k + 1 => rose xs k || (decide (0 < k) && fell xs k && decide (xs.getD (k - 1) 0 < xs.getD k 0))

theorem rose_mono (xs : List Int) (k : Nat) (h : rose xs k = true) : ∀ d, rose xs (k + d) = true := by
  intro d; induction d with
  | zero => exact h
  | succ d ih => show (rose xs (k + d) || _) = true; rw [ih]; rfl
theorem rose_le (xs : List Int) {k n : Nat} (h : rose xs k = true) (hk : k ≤ n) : rose xs n = true := by
  obtain ⟨d, rfl⟩ := Nat.exists_eq_add_of_le hk; exact rose_mono xs k h d

set_option maxHeartbeats 400000 in
theorem impl_IsUnimodal_any (g o n c : Nat) (xs : List Int) (w : World) (hn : xs.length = n) (hx : xs.length ≤ 1099511627776) (hc : Cells w g o xs) :
    Calls Try.prog 19 #[(Value.slice (some ⟨g, o, none⟩) n c)] w (Reads w (.bool (!rose xs xs.length))) := by
  subst hn
  go_enter Try.func19, Try.ntmps19
  go_wp2
  go_loopw [3, 4] (fun f i wr => ∃ k : Nat, 1 ≤ k ∧ i = .int .i64 k ∧ (k ≤ xs.length ∨ k = 1) ∧ f = .bool (fell xs k) ∧ rose xs k = false ∧ ∃ m, wr = w.drewN m) (fun _ i _ => xs.length + 1 - (intOf i).toNat)
  case atStart => exact ⟨1, Nat.le_refl _, rfl, .inr rfl, by simp [fell], by simp [rose], 0, rfl⟩
  case round =>
    obtain ⟨k, hk1, rfl, hk, rfl, hr, m, rfl⟩ := hrel
    by_cases hlt : k < xs.length
    · have h1 := hc k hlt
      have h2 := hc (k - 1) (by omega)
      have e1 : (((k : Int) - 1)).toNat = k - 1 := by omega
      have h0 : 0 < k := hk1
      have Hr := Lib.hid hr; clear hr
      obtain ⟨f, hf⟩ : ∃ f, fell xs k = f := ⟨_, rfl⟩
      rw [hf]
      have Hf := Lib.hid hf; clear hf
      cases f
      · go_wp2
        go_quiet (fail)
        go_wp2
        go_quiet (fail)
        go_wp2
        go_roundw
        case rel => exact ⟨k + 1, by omega, by go_num, .inl (by omega), congrArg _ (by simp [fell, Hf.out, h0, List.getD, hlt]), by simp [rose, Hf.out, Hr.out, h0, List.getD, hlt]; try omega, (by first | exact ⟨_, rfl⟩ | exact ⟨0, rfl⟩ | exact still2 _ _ _ | exact still3 _ _ _ _)⟩
        case measure => simp [intOf]; omega
      · go_wp2
        go_quiet (fail)
        go_wp2
        · have ht : xs[k - 1]?.getD 0 < xs[k] := by assumption
          go_ret
          exact ⟨ret_bool (by rw [rose_le xs (k := k + 1) (by simp [rose, Hf.out, h0, List.getD, hlt, ht]) (by omega)]; rfl), (by first | exact ⟨_, rfl⟩ | exact ⟨0, rfl⟩ | exact still2 _ _ _ | exact still3 _ _ _ _)⟩
        · have ht : xs[k] ≤ xs[k - 1]?.getD 0 := by assumption
          go_quiet (fail)
          go_wp2
          go_roundw
          case rel => exact ⟨k + 1, by omega, by go_num, .inl (by omega), congrArg _ (by simp [fell, Hf.out, h0, List.getD, hlt]), by simp [rose, Hf.out, Hr.out, h0, List.getD, hlt]; try omega, (by first | exact ⟨_, rfl⟩ | exact ⟨0, rfl⟩ | exact still2 _ _ _ | exact still3 _ _ _ _)⟩
          case measure => simp [intOf]; omega
    · go_wp2
      go_ret
      refine ⟨ret_bool ?_, m, rfl⟩
      rcases hk with hk | hk
      · obtain rfl : k = xs.length := by omega
        rw [hr]; rfl
      · subst hk
        have : xs.length = 0 ∨ xs.length = 1 := by omega
        rcases this with h | h <;> rw [h] <;> simp [rose]

set_option maxHeartbeats 400000 in
theorem spec_IsUnimodal_any (g o n c : Nat) (xs : List Int) (w : World) (hn : xs.length = n) (hx : xs.length ≤ 1099511627776) (hc : Cells w g o xs) :
    Calls Try.prog 17 #[(Value.slice (some ⟨g, o, none⟩) n c)] w (Reads w (.bool (!rose xs xs.length))) := by
  subst hn
  go_enter Try.func17, Try.ntmps17
  go_wp2
  go_loopw [3, 4] (fun f i wr => ∃ k : Nat, 1 ≤ k ∧ i = .int .i64 k ∧ (k ≤ xs.length ∨ k = 1) ∧ f = .bool (fell xs k) ∧ rose xs k = false ∧ ∃ m, wr = w.drewN m) (fun _ i _ => xs.length + 1 - (intOf i).toNat)
  case atStart => exact ⟨1, Nat.le_refl _, rfl, .inr rfl, by simp [fell], by simp [rose], 0, rfl⟩
  case round =>
    obtain ⟨k, hk1, rfl, hk, rfl, hr, m, rfl⟩ := hrel
    by_cases hlt : k < xs.length
    · have h1 := hc k hlt
      have h2 := hc (k - 1) (by omega)
      have e1 : (((k : Int) - 1)).toNat = k - 1 := by omega
      have h0 : 0 < k := hk1
      have Hr := Lib.hid hr; clear hr
      obtain ⟨f, hf⟩ : ∃ f, fell xs k = f := ⟨_, rfl⟩
      rw [hf]
      have Hf := Lib.hid hf; clear hf
      by_cases ht : xs[k - 1]?.getD 0 < xs[k]
      · cases f
        · go_wp2
          go_quiet (fail)
          go_wp2
          go_quiet (fail)
          go_wp2
          go_roundw
          case rel => exact ⟨k + 1, by omega, by go_num, .inl (by omega), congrArg _ (by simp [fell, Hf.out, h0, List.getD, hlt]), by simp [rose, Hf.out, Hr.out, h0, List.getD, hlt]; try omega, (by first | exact ⟨_, rfl⟩ | exact ⟨0, rfl⟩ | exact still2 _ _ _ | exact still3 _ _ _ _)⟩
          case measure => simp [intOf]; omega
        · go_wp2
          go_quiet (fail)
          go_wp2
          go_ret
          exact ⟨ret_bool (by rw [rose_le xs (k := k + 1) (by simp [rose, Hf.out, h0, List.getD, hlt, ht]) (by omega)]; rfl), (by first | exact ⟨_, rfl⟩ | exact ⟨0, rfl⟩ | exact still2 _ _ _ | exact still3 _ _ _ _)⟩
      · have hd : decide (xs[k - 1]?.getD 0 < xs[k]) = false := by simpa using ht
        cases f
        · go_wp2
          go_quiet (fail)
          go_wp2
          go_quiet (fail)
          go_wp2
          go_roundw
          case rel => exact ⟨k + 1, by omega, by go_num, .inl (by omega), congrArg _ (by simp [fell, Hf.out, h0, List.getD, hlt]), by simp [rose, Hf.out, Hr.out, h0, List.getD, hlt]; try omega, (by first | exact ⟨_, rfl⟩ | exact ⟨0, rfl⟩ | exact still2 _ _ _ | exact still3 _ _ _ _)⟩
          case measure => simp [intOf]; omega
        · go_wp2
          go_quiet (fail)
          go_wp2
          go_quiet (fail)
          go_wp2
          go_roundw
          case rel => exact ⟨k + 1, by omega, by go_num, .inl (by omega), congrArg _ (by simp [fell, Hf.out, h0, List.getD, hlt]), by simp [rose, Hf.out, Hr.out, h0, List.getD, hlt]; try omega, (by first | exact ⟨_, rfl⟩ | exact ⟨0, rfl⟩ | exact still2 _ _ _ | exact still3 _ _ _ _)⟩
          case measure => simp [intOf]; omega
    · go_wp2
      go_ret
      refine ⟨ret_bool ?_, m, rfl⟩
      rcases hk with hk | hk
      · obtain rfl : k = xs.length := by omega
        rw [hr]; rfl
      · subst hk
        have : xs.length = 0 ∨ xs.length = 1 := by omega
        rcases this with h | h <;> rw [h] <;> simp [rose]

end Go.Proofs.Ytgdgmldmcommbaa
