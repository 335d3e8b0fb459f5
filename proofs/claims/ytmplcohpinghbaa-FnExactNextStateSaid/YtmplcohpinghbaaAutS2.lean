/- The automaton by the reference: is a list a state? contract. -/
import Derived.Test.YtmplcohpinghbaaAutS
import Derived.BigQuiet
namespace Go.Proofs.Ytmplcohpinghbaa
open Go.RowKit Game

theorem last_ge {l : List Int} {k : Nat} (h : 0 < k → 0 ≤ lastAt l k) : -1 ≤ lastAt l k := by
  cases k with
  | zero => simp [lastAt]
  | succ k => have := h (by omega); omega
set_option maxHeartbeats 4000000 in
theorem spec_l32Fine_any (g o n cp m : Nat) (l : List Int) (w : World) (hn : l.length = n) (hl : l.length ≤ 1048576) (hm : m ≤ 1048576) (hc : Cells w g o l) :
    Calls Try.prog 38 #[.int .i64 m, (Value.slice (some ⟨g, o, none⟩) n cp)] w (Reads w (.bool (fineB m (-1) l))) := by
  subst hn
  go_enter Try.func38, Try.ntmps38
  go_wp2
  go_loopw [5] (fun i wr => ∃ k : Nat, k ≤ l.length ∧ i = .int .i64 k ∧ Hid (fineB m (-1) l = fineB m (lastAt l k) (l.drop k)) ∧ Hid (0 < k → 0 ≤ lastAt l k) ∧ ∃ q, wr = w.drewN q) (fun i _ => l.length - (intOf i).toNat)
  case atStart => exact ⟨0, Nat.zero_le _, rfl, rfl, fun h => absurd h (by omega), (by first | exact ⟨_, rfl⟩ | exact ⟨0, rfl⟩ | exact still2 _ _ _ | exact still3 _ _ _ _)⟩
  case round =>
    obtain ⟨k, hk, rfl, hf, hlast, q, rfl⟩ := hrel
    by_cases hlt : k < l.length
    · have c1 := hc k hlt
      have hst := fineB_step (m := m) hlt
      have hlg := last_ge hlast.out
      have hl1 : lastAt l (k + 1) = l.getD k 0 := rfl
      have HA : Hid (¬ (0 ≤ l.getD k 0 ∧ l.getD k 0 < (m : Int)) → fineB m (-1) l = false) := fun h => by
        rw [hf.out, hst]
        by_cases h1 : lastAt l k < l.getD k 0
        · rw [decide_eq_false (show ¬ l.getD k 0 < (m : Int) by omega)]; simp
        · rw [decide_eq_false h1]; simp
      have HC : Hid (¬ lastAt l k < l.getD k 0 → fineB m (-1) l = false) := fun h => by rw [hf.out, hst, decide_eq_false h]; simp
      have HD : Hid (lastAt l k < l.getD k 0 → l.getD k 0 < (m : Int) → fineB m (-1) l = fineB m (lastAt l (k + 1)) (l.drop (k + 1))) := fun h h2 => by rw [hf.out, hst, decide_eq_true h, decide_eq_true h2]; simp
      have Hl1 := Lib.hid hl1
      have hwm : IntKind.i64.wrap ((m : Int) - 1) = (m : Int) - 1 := IntWalk.i64_in _ (by omega)
      have hcall := fun W => spec_l1In (l.getD k 0) 0 ((m : Int) - 1) W
      clear hst hl1 hf
      by_cases hin : 0 ≤ l.getD k 0 ∧ l.getD k 0 < (m : Int)
      · have hT : (decide ((0 : Int) ≤ l.getD k 0) && decide (l.getD k 0 ≤ (m : Int) - 1)) = true := by simp only [Bool.and_eq_true, decide_eq_true_eq]; omega
        cases k with
        | zero =>
          have hnx := HD.out (by show (-1 : Int) < _; omega) hin.2
          have Hnx := Lib.hid hnx
          have hin0 : Hid (0 ≤ lastAt l 1) := hin.1
          rw [Nat.add_zero] at c1
          generalize l.getD 0 0 = y at *
          rw [hT] at hcall
          have Hcall := Lib.hid (fun n => hcall (w.drewN n))
          have z1 : decide ((0 : Int) < 0) = false := by decide
          clear hnx hcall hT HA HC HD hlast hlg Hl1
          go_wp2
          go_quiet ((go_at_call 37; first | with_reducible exact Calls.quiet_of (Hcall.out _) | with_reducible exact Reads.quiet4 (Hcall.out _)))
          go_wp2
          go_roundw
          case rel => exact ⟨1, by omega, by go_num, Hnx.out, fun _ => hin0.out, (by first | exact ⟨_, rfl⟩ | exact ⟨0, rfl⟩ | exact still2 _ _ _ | exact still3 _ _ _ _)⟩
          case measure => simp [intOf]; omega
        | succ s =>
          have c0 := hc s (by omega)
          have hls : lastAt l (s + 1) = l.getD s 0 := rfl
          rw [hls] at HC HD hlg
          have hin0 : Hid (0 ≤ lastAt l (s + 1 + 1)) := hin.1
          have hgt : (0 : Int) < (s : Int) + 1 := by omega
          have hwr : IntKind.i64.wrap ((s : Int) + 1 - 1) = (s : Int) := by rw [show (s : Int) + 1 - 1 = s by omega]; exact IntWalk.i64_in _ (by omega)
          have hs2 : s < l.length := by omega
          generalize l.getD (s + 1) 0 = y at *
          generalize l.getD s 0 = x at *
          rw [hT] at hcall
          have Hcall := Lib.hid (fun n => hcall (w.drewN n))
          by_cases hxy : x < y
          · have hnx := HD.out hxy hin.2
            have Hnx := Lib.hid hnx
            clear hnx hcall hT HA HC HD hlast hls Hl1
            go_wp2
            go_quiet ((go_at_call 37; first | with_reducible exact Calls.quiet_of (Hcall.out _) | with_reducible exact Reads.quiet4 (Hcall.out _)))
            go_wp2
            go_roundw
            case rel => exact ⟨s + 1 + 1, by omega, by go_num, Hnx.out, fun _ => hin0.out, (by first | exact ⟨_, rfl⟩ | exact ⟨0, rfl⟩ | exact still2 _ _ _ | exact still3 _ _ _ _)⟩
            case measure => simp [intOf]; omega
          · have hnx := HC.out hxy
            have Hnx := Lib.hid hnx
            have hyx : y ≤ x := by omega
            clear hnx hcall hT HA HC HD hlast hls Hl1 hxy
            go_wp2
            go_quiet ((go_at_call 37; first | with_reducible exact Calls.quiet_of (Hcall.out _) | with_reducible exact Reads.quiet4 (Hcall.out _)))
            go_wp2
            go_ret
            exact ⟨ret_bool Hnx.out.symm, (by first | exact ⟨_, rfl⟩ | exact ⟨0, rfl⟩ | exact still2 _ _ _ | exact still3 _ _ _ _)⟩
      · have hT : (decide ((0 : Int) ≤ l.getD k 0) && decide (l.getD k 0 ≤ (m : Int) - 1)) = false := by
          rw [← Bool.not_eq_true, Bool.and_eq_true, decide_eq_true_eq, decide_eq_true_eq]; omega
        have hnx := HA.out hin
        have Hnx := Lib.hid hnx
        generalize l.getD k 0 = y at *
        rw [hT] at hcall
        have Hcall := Lib.hid (fun n => hcall (w.drewN n))
        clear hnx hcall hT HA HC HD hlast hlg Hl1 hin
        go_wp2
        go_quiet ((go_at_call 37; first | with_reducible exact Calls.quiet_of (Hcall.out _) | with_reducible exact Reads.quiet4 (Hcall.out _)))
        go_wp2
        go_ret
        exact ⟨ret_bool Hnx.out.symm, (by first | exact ⟨_, rfl⟩ | exact ⟨0, rfl⟩ | exact still2 _ _ _ | exact still3 _ _ _ _)⟩
    · obtain rfl : k = l.length := by omega
      have he := hf.out
      rw [List.drop_length] at he
      have He := Lib.hid he
      clear he hf hlast
      go_wp2
      go_ret
      exact ⟨ret_bool (by rw [He.out]; rfl), (by first | exact ⟨_, rfl⟩ | exact ⟨0, rfl⟩ | exact still2 _ _ _ | exact still3 _ _ _ _)⟩
end Go.Proofs.Ytmplcohpinghbaa
