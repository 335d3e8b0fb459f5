/- stableCmpFunc, SortStableFunc over a list of weights: contracts. -/
import Derived.Test.YtihfbbpkgmkbcaaG37
namespace Go.Proofs.Ytihfbbpkgmkbcaa
set_option maxRecDepth 100000
open Go.RowKit Game Stb

set_option maxHeartbeats 4000000 in
theorem stable_ok (B G cap N : Nat) (d : Nat → SRef) (w : World) (hN : N ≤ 1048576) (S : SSt w w B G cap N d) :
    Calls Try.prog 60 #[(Value.slice (some ⟨G, 0, none⟩) N cap), .int .i64 N, .func (.func 52) #[] #[]] w fun e w' => e = .returned (.tuple #[]) ∧ ∃ d', SSt w w' B G cap N d' ∧ Srt ltW d' 0 N ∧ Res N 0 N d d' := by
  have S0 := Lib.hid S
  clear S
  go_enter Try.func60, Try.ntmps60
  go_wp2_with fail
  go_loopg [7, 8] N (fun gk av bv wr => ∃ (t a b : Nat) (d' : Nat → SRef), a ≤ N ∧ b ≤ a + 20 ∧ a + 20 ≤ b ∧ N - a ≤ gk ∧ av = .int .i64 a ∧ bv = .int .i64 b ∧ Hid (t * 20 = a) ∧ Hid (SSt w wr B G cap N d') ∧ Hid (Fst ltW 20 t d') ∧ Hid (Res N 0 N d d'))
  case atStart => exact ⟨0, 0, 20, d, Nat.zero_le _, by omega, by omega, by omega, rfl, rfl, Lib.hid (by omega), S0, Lib.hid (fun u h => absurd h (Nat.not_lt_zero _)), Lib.hid (Res.refl d)⟩
  case round =>
    clear S0
    obtain ⟨t, a, b, d1, haN, hb1, hb2, hg, rfl, rfl, Ha, S, HF, HR⟩ := hrel
    by_cases hbN : b ≤ N
    · have hz : (b : Int) ≤ (N : Int) := by omega
      have hcall := insertion_ok B G cap N a b d1 wr hN (by omega) hbN S.out.here
      have Hcall := Lib.hid hcall
      clear hcall
      go_wp2_with fail
      refine Hcall.out.mono ?_
      rintro e w1 ⟨rfl, d2, S2, t2, r2⟩
      have S2 := Lib.hid (S.out.from S2)
      have eb : b = a + 20 := by omega
      have F2 : Hid (Fst ltW 20 (t + 1) d2) := Fst.next HF.out (by rw [Ha.out, ← eb]; exact r2) (by rw [Ha.out, ← eb]; exact t2)
      have R2 := Lib.hid (HR.out.trans (r2.wide (Nat.zero_le _) hbN))
      have Hb : Hid ((t + 1) * 20 = b) := by have := Ha.out; show _ = _; omega
      clear Hcall S t2 r2 eb HF HR Ha
      go_wp2_with fail
      go_roundg (N - b)
      case measure => omega
      case rel => exact ⟨t + 1, b, b + 20, d2, hbN, Nat.le_refl _, Nat.le_refl _, Nat.le_refl _, rfl, by go_num, Hb, S2, F2, R2⟩
    · have hz : ¬ (b : Int) ≤ (N : Int) := by omega
      have hcall := insertion_ok B G cap N a N d1 wr hN haN (Nat.le_refl _) S.out.here
      have Hcall := Lib.hid hcall
      clear hcall
      go_wp2_with fail
      refine Hcall.out.mono ?_
      rintro e w1 ⟨rfl, d2, S2, t2, r2⟩
      have S2 := Lib.hid (S.out.from S2)
      have K2 : Hid (Blk ltW N 20 d2) := Fst.last HF.out (by rw [Ha.out]; omega) (by rw [Ha.out]; exact r2) (by rw [Ha.out]; exact t2)
      have R2 := Lib.hid (HR.out.trans (r2.wide (Nat.zero_le _) (Nat.le_refl _)))
      clear Hcall S t2 r2 HF HR Ha
      go_wp2_with fail
      go_loopg [6, 7, 8, 9] N (fun gk bsv _ _ _ wr => ∃ (bs : Nat) (d' : Nat → SRef), 0 < bs ∧ bs ≤ 2 * N + 20 ∧ N - bs ≤ gk ∧ bsv = .int .i64 bs ∧ Hid (SSt w wr B G cap N d') ∧ Hid (Blk ltW N bs d') ∧ Hid (Res N 0 N d d'))
      case atStart => exact ⟨20, d2, by omega, by omega, by omega, rfl, S2, K2, R2⟩
      case round =>
        clear S2 K2 R2 hz hbN hb1 hb2 haN
        obtain ⟨bs, d3, hbs, hbs2, hg2, rfl, S, HK, HR⟩ := hrel
        by_cases hlt : bs < N
        · have hltz : (bs : Int) < (N : Int) := by omega
          obtain ⟨D, hD⟩ : ∃ D, 2 * bs = D := ⟨_, rfl⟩
          have HD := Lib.hid hD
          have eD : 2 * (bs : Int) = (D : Int) := by omega
          have eD2 : (bs : Int) * 2 = (D : Int) := by omega
          have hD1 : bs < D := by omega
          have hD2 : D ≤ 2 * N := by omega
          have hD3 : D ≤ bs + bs := by omega
          have hD4 : bs + bs ≤ D := by omega
          clear hD
          go_wp2_with fail
          go_loopg [7, 8] N (fun g2 av bv wr2 => ∃ (t a b : Nat) (d' : Nat → SRef), a ≤ N ∧ b ≤ a + D ∧ a + D ≤ b ∧ N - a ≤ g2 ∧ av = .int .i64 a ∧ bv = .int .i64 b ∧ Hid (t * (2 * bs) = a) ∧ Hid (SSt w wr2 B G cap N d') ∧ Hid (Prs ltW N bs t d') ∧ Hid (Res N 0 N d d'))
          case atStart => exact ⟨0, 0, D, d3, Nat.zero_le _, by omega, by omega, by omega, rfl, rfl, Lib.hid (Nat.zero_mul _), S, Lib.hid (Prs.start HK.out), HR⟩
          case round =>
            clear S HK HR
            obtain ⟨t, a, b, d4, haN, hb1, hb2, hg3, rfl, rfl, Ha, S, HP, HR⟩ := hrel
            obtain ⟨mm, hmm⟩ : ∃ mm, a + bs = mm := ⟨_, rfl⟩
            have em : (a : Int) + (bs : Int) = (mm : Int) := by omega
            have eb : b = a + 2 * bs := by have := HD.out; omega
            have Hm := Lib.hid hmm; have Hb := Lib.hid eb
            have ham : a < mm := by omega
            have hmm1 : mm < b := by omega
            have hmm2 : mm ≤ a + bs := by omega
            have hmm3 : a + bs ≤ mm := by omega
            clear hmm eb
            by_cases hbN : b ≤ N
            · have hz : (b : Int) ≤ (N : Int) := by omega
              have hcall := symMerge_ok B G cap N hN (b - a) a mm b d4 _ (Nat.le_refl _) ham hmm1 hbN S.out.here
                (by have := HP.out.left (by rw [Ha.out, Hm.out]; omega); rwa [Ha.out, Hm.out] at this)
                (by have := HP.out.right; rwa [Ha.out, Hm.out, ← Hb.out, Nat.min_eq_left hbN] at this)
              have Hcall := Lib.hid hcall
              clear hcall
              go_wp2_with fail
              refine Hcall.out.mono ?_
              rintro e w1 ⟨rfl, d5, S5, t5, r5⟩
              have S5 := Lib.hid (S.out.from S5)
              have P5 : Hid (Prs ltW N bs (t + 1) d5) := HP.out.next (by rw [Ha.out, ← Hb.out]; exact r5) (by rw [Ha.out, ← Hb.out]; exact t5)
              have R5 := Lib.hid (HR.out.trans (r5.wide (Nat.zero_le _) hbN))
              have Hb' : Hid ((t + 1) * (2 * bs) = b) := by show _ = _; rw [Nat.add_mul, Nat.one_mul, Ha.out, Hb.out]
              clear Hcall S t5 r5 HP HR Ha Hm Hb
              go_wp2_with fail
              go_roundg (N - b)
              case measure => omega
              case rel => exact ⟨t + 1, b, b + D, d5, hbN, Nat.le_refl _, Nat.le_refl _, Nat.le_refl _, rfl, by go_num, Hb', S5, P5, R5⟩
            · have hz : ¬ (b : Int) ≤ (N : Int) := by omega
              by_cases hmN : mm < N
              · have hmz : (mm : Int) < (N : Int) := by omega
                have hcall := symMerge_ok B G cap N hN (N - a) a mm N d4 _ (Nat.le_refl _) ham hmN (Nat.le_refl _) S.out.here
                  (by have := HP.out.left (by rw [Ha.out, Hm.out]; omega); rwa [Ha.out, Hm.out] at this)
                  (by have := HP.out.right; rwa [Ha.out, Hm.out, ← Hb.out, Nat.min_eq_right (by omega)] at this)
                have Hcall := Lib.hid hcall
                clear hcall
                go_wp2_with fail
                refine Hcall.out.mono ?_
                rintro e w1 ⟨rfl, d5, S5, t5, r5⟩
                have S5 := Lib.hid (S.out.from S5)
                have P5 : Hid (Blk ltW N D d5) := by
                  have := HP.out.last (d' := d5) (by rw [Ha.out, ← Hb.out]; omega) (by rw [Ha.out]; exact r5) (by rw [Ha.out]; exact t5)
                  rw [HD.out] at this; exact this
                have R5 := Lib.hid (HR.out.trans (r5.wide (Nat.zero_le _) (Nat.le_refl _)))
                clear Hcall S t5 r5 HP HR Ha Hm Hb
                go_wp2_with fail
                go_roundg (N - D)
                case measure => omega
                case rel => exact ⟨D, d5, by omega, by omega, Nat.le_refl _, rfl, S5, P5, R5⟩
              · have hmz : ¬ (mm : Int) < (N : Int) := by omega
                have P5 : Hid (Blk ltW N D d4) := by
                  have := HP.out.last (d' := d4) (by rw [Ha.out, ← Hb.out]; omega) (Res.refl d4) (HP.out.short (by rw [Ha.out, Hm.out]; omega))
                  rw [HD.out] at this; exact this
                clear HP Ha Hm Hb
                go_wp2_with fail
                go_roundg (N - D)
                case measure => omega
                case rel => exact ⟨D, d4, by omega, by omega, Nat.le_refl _, rfl, S, P5, HR⟩
        · have hltz : ¬ (bs : Int) < (N : Int) := by omega
          go_wp2_with fail
          go_end0
          exact ⟨rfl, d3, S.out, HK.out.all (by omega), HR.out⟩

set_option maxHeartbeats 1000000 in
theorem sortStable_ok (B G cap N : Nat) (d : Nat → SRef) (w : World) (hN : N ≤ 1048576) (S : SSt w w B G cap N d) :
    Calls Try.prog 51 #[(Value.slice (some ⟨G, 0, none⟩) N cap), .func (.func 52) #[] #[]] w fun e w' => e = .returned (.tuple #[]) ∧ ∃ d', SSt w w' B G cap N d' ∧ Srt ltW d' 0 N ∧ Res N 0 N d d' := by
  have hcall := stable_ok B G cap N d w hN S
  have Hcall := Lib.hid hcall
  clear hcall S
  go_enter Try.func51, Try.ntmps51
  go_wp2_with fail
  refine Hcall.out.mono ?_
  rintro e w1 ⟨rfl, S1⟩
  clear Hcall
  go_wp2_with fail
  go_end0
  exact ⟨rfl, S1⟩
end Go.Proofs.Ytihfbbpkgmkbcaa
