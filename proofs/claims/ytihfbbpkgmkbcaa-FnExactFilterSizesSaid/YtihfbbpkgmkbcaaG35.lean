/- symMerge, one case. -/
import Derived.Test.YtihfbbpkgmkbcaaG34
namespace Go.Proofs.Ytihfbbpkgmkbcaa
set_option maxRecDepth 100000
open Go.RowKit Game Stb
open Go.Sort (grow SWO)

set_option maxHeartbeats 4000000 in
theorem sym2_ok (B G cap N : Nat) (hN : N ≤ 1048576)  (a m b : Nat) (d : Nat → SRef) (w : World)  (ham : a < m) (hmb : m < b) (hb : b ≤ N) (S : SSt w w B G cap N d) (hl : Srt ltW d a m) (hr : Srt ltW d m b) (e1 : ¬ m = a + 1) (e2 : b = m + 1) :
    Calls Try.prog 64 #[(Value.slice (some ⟨G, 0, none⟩) N cap), .int .i64 a, .int .i64 m, .int .i64 b, .func (.func 52) #[] #[]] w fun e w' => e = .returned (.tuple #[]) ∧ ∃ d', SSt w w' B G cap N d' ∧ Srt ltW d' a b ∧ Res N a b d d' := by
  have S0 := Lib.hid S
  have HL := Lib.hid hl
  have HR := Lib.hid hr
  have mixed : Try.prog.follows .mixedOrders = true := by kernel_rfl
  clear S hl hr
  go_enter Try.func64, Try.ntmps64
  have t1' : ¬ (m : Int) - (a : Int) = 1 := by omega
  have E2 := Lib.hid e2
  have hmN : m + 1 ≤ N := by omega
  have t2' : (b : Int) - (m : Int) = 1 := by omega
  clear e2
  go_wp2_with fail
  generalize ((m : Int) - (a : Int) == 1) = bb1
  generalize ((b : Int) - (m : Int) == 1) = bb2
  go_loopg [14, 15] (m - a) (fun gk iv jv wr => ∃ i j : Nat, a ≤ i ∧ i ≤ j ∧ j ≤ m ∧ j - i ≤ gk ∧ iv = .int .i64 i ∧ jv = .int .i64 j ∧ Hid (i = a ∨ ltW (d m) (d (i - 1)) = false) ∧ Hid (j = m ∨ ltW (d m) (d j) = true) ∧ Hid (SSt w wr B G cap N d))
  case atStart => exact ⟨a, m, Nat.le_refl _, by omega, Nat.le_refl _, Nat.le_refl _, rfl, rfl, Lib.hid (.inl rfl), Lib.hid (.inl rfl), S0⟩
  case round =>
    clear S0 t1' t2'
    obtain ⟨i, j, hi, hij, hj, hg, rfl, rfl, Hlo, Hhi, S⟩ := hrel
    by_cases hlt : i < j
    · have hltz : (i : Int) < (j : Int) := by omega
      obtain ⟨h, hh⟩ : ∃ h, h = (i + j) / 2 := ⟨_, rfl⟩
      have eh : ((i : Int) + (j : Int)) / 2 = (h : Int) := by omega
      have bh1 : i ≤ h := by omega
      have bh2 : h < j := by omega
      clear hh
      have b1 : (h : Int) < (N : Int) := by omega
      have b2 : (m : Int) < (N : Int) := by omega
      obtain ⟨x, y, -, -, c1, c2, c3, c4, hcg⟩ := S.out.two (i := m) (j := h) (by omega) (by omega)
      have CLS := Lib.hid S.out.cls
      have LT := Lib.hid (show ltW (d (m)) (d (h)) = decide (cfW (d (m)) (d (h)) < 0) from rfl)
      generalize cfW (d (m)) (d (h)) = z at *
      by_cases hlv : z < 0
      · have HN := Lib.hid (show ltW (d m) (d h) = true from by rw [LT.out]; exact decide_eq_true hlv)
        clear LT
        have hnb : (!decide (z < 0)) = false := by simp [hlv]
        go_wp2_with fail
        go_quiet_grown (exact Calls.grown_of (hcg _ _))
        have HS := Lib.hid (CLS.out nq osq)
        clear c1 c2 c3 c4 hcg CLS S
        go_wp2_with fail
        go_roundg (h - i)
        case measure => omega
        case rel => exact ⟨i, h, hi, bh1, by omega, Nat.le_refl _, rfl, rfl, Hlo, Lib.hid (.inr HN.out), HS⟩
      · have HN := Lib.hid (show ltW (d m) (d h) = false from by rw [LT.out]; exact decide_eq_false hlv)
        clear LT
        have hnb : (!decide (z < 0)) = true := by simp [hlv]
        go_wp2_with fail
        go_quiet_grown (exact Calls.grown_of (hcg _ _))
        have HS := Lib.hid (CLS.out nq osq)
        clear c1 c2 c3 c4 hcg CLS S
        go_wp2_with fail
        go_roundg (j - (h + 1))
        case measure => omega
        case rel => exact ⟨h + 1, j, by omega, by omega, hj, Nat.le_refl _, by go_num, rfl, Lib.hid (.inr (by rw [Nat.add_sub_cancel]; exact HN.out)), Hhi, HS⟩
    · obtain rfl : i = j := by omega
      have HF := Lib.hid (one_right swoW (N := N) (d := d) (a := a) (m := m) (i := i) HL.out hi hj (by omega) Hlo.out Hhi.out)
      have H0 := Lib.hid (rot_same d (s := m) (m := m) (e := m + 1) (Nat.le_refl _) (by omega) (.inl rfl))
      clear Hlo Hhi HL HR
      go_wp2_with fail
      go_loopg [17] (m - i) (fun gk kv wr => ∃ k : Nat, i ≤ k ∧ k ≤ m ∧ k - i ≤ gk ∧ kv = .int .i64 k ∧ Hid (SSt w wr B G cap N (rot d k m (m + 1))))
      case atStart => exact ⟨m, hj, Nat.le_refl _, Nat.le_refl _, rfl, by rw [H0.out]; exact S⟩
      case round =>
        clear S H0
        obtain ⟨k, hk1, hk2, hg2, rfl, S⟩ := hrel
        by_cases hkq : i < k
        · obtain ⟨kp, rfl⟩ : ∃ kp, k = kp + 1 := ⟨k - 1, by omega⟩
          have hkz : (i : Int) < (kp : Int) + 1 := by omega
          have wk : IntKind.i64.wrap (kp : Int) = (kp : Int) := IntWalk.i64_in _ ⟨by omega, by omega⟩
          have b1 : (0 : Int) ≤ (kp : Int) + 1 := by omega
          have b2 : (kp : Int) + 1 < (N : Int) := by omega
          have b3 : (kp : Int) < (N : Int) := by omega
          have b4 : ((kp : Int) + 1).toNat = kp + 1 := by omega
          obtain ⟨x, y, c1, c2, c3, c4, g1, g2, g3, g4, k3, k4, HS⟩ := S.out.exch (i := kp + 1) (j := kp) (by omega) (by omega) (by omega)
          rw [rot_r d hk2] at HS
          clear S
          go_wp2_with fail
          go_region
          go_wp2_with fail
          go_roundg (kp - i)
          case rel => exact ⟨kp, by omega, by omega, Nat.le_refl _, by go_num, HS⟩
          case measure => omega
        · obtain rfl : k = i := by omega
          go_wp2_with fail
          (try simp only [Exit.inBlock, Exit.then])
          refine bodyPost_ret (results_none rfl _ _ _) rfl ?_
          exact ⟨rfl, _, S.out, by rw [E2.out]; exact HF.out.1, by rw [E2.out]; exact HF.out.2⟩
end Go.Proofs.Ytihfbbpkgmkbcaa
