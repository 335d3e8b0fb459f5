/- The reference's comparison of vectors: contract. -/
import Derived.Test.YtihfbbpkgmkbcaaStill
namespace Go.Proofs.Ytihfbbpkgmkbcaa
set_option maxRecDepth 100000
open Go.RowKit

set_option maxHeartbeats 1000000 in
theorem spec_l25Greater_any (g1 o1 n1 c1 g2 o2 n2 c2 : Nat) (xs ys : List Int) (w : World) (hn1 : xs.length = n1) (hn2 : ys.length = n2) (hl : xs.length = ys.length) (hx : xs.length ≤ 1099511627776)
    (hcx : Cells w g1 o1 xs) (hcy : Cells w g2 o2 ys) :
    Calls Try.prog 49 #[(Value.slice (some ⟨g1, o1, none⟩) n1 c1), (Value.slice (some ⟨g2, o2, none⟩) n2 c2)] w (Reads w (.bool (decide (0 < wordCmp xs ys)))) := by
  subst hn1; subst hn2
  have e : wordCmp xs ys = lexCmp xs ys := by unfold wordCmp; rw [if_neg (by omega), if_neg (by omega)]
  rw [e]
  clear e
  have hl' : ys.length = xs.length := hl.symm
  have Hl := Lib.hid hl'; clear hl' hl
  go_enter Try.func49, Try.ntmps49
  go_wp2
  go_loopw [5] (fun i wr => ∃ k : Nat, k ≤ xs.length ∧ i = .int .i64 k ∧ Hid (lexCmp xs ys = lexCmp (xs.drop k) (ys.drop k)) ∧ ∃ n, wr = w.drewN n) (fun i _ => xs.length - (intOf i).toNat)
  case atStart => exact ⟨0, Nat.zero_le _, rfl, rfl, 0, rfl⟩
  case round =>
    obtain ⟨k, hk, rfl, he, n, rfl⟩ := hrel
    by_cases hlt : k < xs.length
    · have hl2 : k < ys.length := by rw [Hl.out]; exact hlt
      have h1 := hcx k hlt
      have h2 := hcy k hl2
      have hd := lexCmp_drop hlt hl2
      have Hd := Lib.hid hd; clear hd
      go_wp2
      go_quiet (fail)
      go_wp2
      · have ht : (xs[k] != ys[k]) = true := by assumption
        go_quiet (fail)
        go_wp2
        go_ret
        refine ⟨ret_bool ?_, (by first | exact ⟨_, rfl⟩ | exact ⟨0, rfl⟩ | exact still2 _ _ _ | exact still3 _ _ _ _)⟩
        rw [he.out, Hd.out]
        have hne : xs[k] ≠ ys[k] := by simpa using ht
        by_cases h : xs[k] < ys[k]
        · rw [if_pos h]; simp; omega
        · rw [if_neg h, if_pos (by omega)]; simp; omega
      · have ht : (xs[k] != ys[k]) = false := by assumption
        have hee : xs[k] = ys[k] := by simpa using ht
        go_roundw
        case rel => exact ⟨k + 1, by omega, by go_num, by show _ = _; rw [he.out, Hd.out, if_neg (by omega), if_neg (by omega)], (by first | exact ⟨_, rfl⟩ | exact ⟨0, rfl⟩ | exact still2 _ _ _ | exact still3 _ _ _ _)⟩
        case measure => simp [intOf]; omega
    · obtain rfl : k = xs.length := by omega
      go_wp2
      go_ret
      refine ⟨ret_bool ?_, n, rfl⟩
      rw [he.out, List.drop_length]; rfl
end Go.Proofs.Ytihfbbpkgmkbcaa
