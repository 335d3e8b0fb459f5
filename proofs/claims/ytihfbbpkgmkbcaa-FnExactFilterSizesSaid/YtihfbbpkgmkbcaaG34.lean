/- symMerge over a list of weights: contract. symMerge, one case. -/
import Derived.Test.YtihfbbpkgmkbcaaG33
import Derived.Deep.CutRange
namespace Go.Proofs.Ytihfbbpkgmkbcaa
set_option maxRecDepth 100000
open Go.RowKit Game Stb
open Go.Sort (grow SWO)

/-- two elements in the class of worlds behind W, as the walk wants them -/
theorem SSt.two {w W : World} {B G cap N : Nat} {d : Nat → SRef} (h : SSt w W B G cap N d) {i j : Nat} (hi : i < N) (hj : j < N) : ∃ x y : SRef, Hid (d i = x) ∧ Hid (d j = y) ∧
    (∀ n os, (grow (W.drewN n) os).cell? ⟨G, i * 2, none⟩ = some (Value.slice (some ⟨x.g, x.o, none⟩) x.n x.c)) ∧ (∀ n os, (grow (W.drewN n) os).cell? ⟨G, i * 2 + 1, none⟩ = some (.int .i64 x.ct)) ∧
    (∀ n os, (grow (W.drewN n) os).cell? ⟨G, j * 2, none⟩ = some (Value.slice (some ⟨y.g, y.o, none⟩) y.n y.c)) ∧ (∀ n os, (grow (W.drewN n) os).cell? ⟨G, j * 2 + 1, none⟩ = some (.int .i64 y.ct)) ∧
    (∀ n os, Calls Try.prog 52 #[.agg #[(Value.slice (some ⟨x.g, x.o, none⟩) x.n x.c), .int .i64 x.ct], .agg #[(Value.slice (some ⟨y.g, y.o, none⟩) y.n y.c), .int .i64 y.ct]] (grow (W.drewN n) os) fun e w' => e = .returned (.int .i64 (cfW (d i) (d j))) ∧ ∃ q os', w' = grow ((grow (W.drewN n) os).drewN q) os') :=
  ⟨d i, d j, rfl, rfl, fun n os => (h.cellsC hi n os).1, fun n os => (h.cellsC hi n os).2, fun n os => (h.cellsC hj n os).1, fun n os => (h.cellsC hj n os).2, h.cmpC hi hj⟩
/-- an exchange of two, as the walk wants it -/
theorem SSt.exch {w W : World} {B G cap N : Nat} {d : Nat → SRef} (h : SSt w W B G cap N d) {i j : Nat} (hi : i < N) (hj : j < N) (hne : i ≠ j) : ∃ x y : SRef,
    W.cell? ⟨G, i * 2, none⟩ = some (Value.slice (some ⟨x.g, x.o, none⟩) x.n x.c) ∧ W.cell? ⟨G, i * 2 + 1, none⟩ = some (.int .i64 x.ct) ∧ W.cell? ⟨G, j * 2, none⟩ = some (Value.slice (some ⟨y.g, y.o, none⟩) y.n y.c) ∧ W.cell? ⟨G, j * 2 + 1, none⟩ = some (.int .i64 y.ct) ∧
    W.frozen? ⟨G, i * 2, none⟩ = false ∧ W.frozen? ⟨G, i * 2 + 1, none⟩ = false ∧
    ((W.setCell ⟨G, i * 2, none⟩ (Value.slice (some ⟨y.g, y.o, none⟩) y.n y.c)).setCell ⟨G, i * 2 + 1, none⟩ (.int .i64 y.ct)).frozen? ⟨G, j * 2, none⟩ = false ∧ ((W.setCell ⟨G, i * 2, none⟩ (Value.slice (some ⟨y.g, y.o, none⟩) y.n y.c)).setCell ⟨G, i * 2 + 1, none⟩ (.int .i64 y.ct)).frozen? ⟨G, j * 2 + 1, none⟩ = false ∧
    ((W.setCell ⟨G, i * 2, none⟩ (Value.slice (some ⟨y.g, y.o, none⟩) y.n y.c)).setCell ⟨G, i * 2 + 1, none⟩ (.int .i64 y.ct)).cell? ⟨G, j * 2, none⟩ = some (Value.slice (some ⟨y.g, y.o, none⟩) y.n y.c) ∧ ((W.setCell ⟨G, i * 2, none⟩ (Value.slice (some ⟨y.g, y.o, none⟩) y.n y.c)).setCell ⟨G, i * 2 + 1, none⟩ (.int .i64 y.ct)).cell? ⟨G, j * 2 + 1, none⟩ = some (.int .i64 y.ct) ∧
    Hid (SSt w (((((W.setCell ⟨G, i * 2, none⟩ (Value.slice (some ⟨y.g, y.o, none⟩) y.n y.c)).setCell ⟨G, i * 2 + 1, none⟩ (.int .i64 y.ct)).setCell ⟨G, j * 2, none⟩ (Value.slice (some ⟨x.g, x.o, none⟩) x.n x.c)).setCell ⟨G, j * 2 + 1, none⟩ (.int .i64 x.ct)).drew) B G cap N (swp d i j)) := by
  obtain ⟨f1, f2, k3, k4⟩ := h.swapF hi hj hne (d j)
  obtain ⟨c1, c2⟩ := h.cells hi
  obtain ⟨c3, c4⟩ := h.cells hj
  exact ⟨d i, d j, c1, c2, c3, c4, f1 _, f1 _, f2 _, f2 _, k3, k4, (h.swap hi hj).drew⟩

end Go.Proofs.Ytihfbbpkgmkbcaa
namespace Go.Proofs.Ytihfbbpkgmkbcaa
set_option maxRecDepth 100000
open Go.RowKit Game Stb
open Go.Sort (grow SWO)

set_option maxHeartbeats 4000000 in
theorem sym1_ok (B G cap N : Nat) (hN : N ≤ 1048576)  (a m b : Nat) (d : Nat → SRef) (w : World)  (ham : a < m) (hmb : m < b) (hb : b ≤ N) (S : SSt w w B G cap N d) (hl : Srt ltW d a m) (hr : Srt ltW d m b) (e1 : m = a + 1) :
    Calls Try.prog 64 #[(Value.slice (some ⟨G, 0, none⟩) N cap), .int .i64 a, .int .i64 m, .int .i64 b, .func (.func 52) #[] #[]] w fun e w' => e = .returned (.tuple #[]) ∧ ∃ d', SSt w w' B G cap N d' ∧ Srt ltW d' a b ∧ Res N a b d d' := by
  have S0 := Lib.hid S
  have HL := Lib.hid hl
  have HR := Lib.hid hr
  have mixed : Try.prog.follows .mixedOrders = true := by kernel_rfl
  clear S hl hr
  go_enter Try.func64, Try.ntmps64
  have E1 := Lib.hid e1
  have t1' : (m : Int) - (a : Int) = 1 := by omega
  clear e1
  go_wp2_with fail
  go_loopg [10, 11] (b - m) (fun gk iv jv wr => ∃ i j : Nat, m ≤ i ∧ i ≤ j ∧ j ≤ b ∧ j - i ≤ gk ∧ iv = .int .i64 i ∧ jv = .int .i64 j ∧ Hid (i = m ∨ ltW (d (i - 1)) (d a) = true) ∧ Hid (j = b ∨ ltW (d j) (d a) = false) ∧ Hid (SSt w wr B G cap N d))
  case atStart => exact ⟨m, b, Nat.le_refl _, by omega, Nat.le_refl _, Nat.le_refl _, rfl, rfl, Lib.hid (.inl rfl), Lib.hid (.inl rfl), S0⟩
  case round =>
    clear S0 t1'
    obtain ⟨i, j, hi, hij, hj, hg, rfl, rfl, Hlo, Hhi, S⟩ := hrel
    by_cases hlt : i < j
    · have hltz : (i : Int) < (j : Int) := by omega
      obtain ⟨h, hh⟩ : ∃ h, h = (i + j) / 2 := ⟨_, rfl⟩
      have eh : ((i : Int) + (j : Int)) / 2 = (h : Int) := by omega
      have bh1 : i ≤ h := by omega
      have bh2 : h < j := by omega
      clear hh
      have b1 : (h : Int) < (N : Int) := by omega
      have b2 : (a : Int) < (N : Int) := by omega
      obtain ⟨x, y, -, -, c1, c2, c3, c4, hcg⟩ := S.out.two (i := h) (j := a) (by omega) (by omega)
      have CLS := Lib.hid S.out.cls
      have LT := Lib.hid (show ltW (d (h)) (d (a)) = decide (cfW (d (h)) (d (a)) < 0) from rfl)
      generalize cfW (d (h)) (d (a)) = z at *
      by_cases hlv : z < 0
      · have HN := Lib.hid (show ltW (d h) (d a) = true from by rw [LT.out]; exact decide_eq_true hlv)
        clear LT
        have hnb : (!decide (z < 0)) = false := by simp [hlv]
        go_wp2_with fail
        go_quiet_grown (exact Calls.grown_of (hcg _ _))
        have HS := Lib.hid (CLS.out nq osq)
        clear c1 c2 c3 c4 hcg CLS S
        go_wp2_with fail
        go_roundg (j - (h + 1))
        case measure => omega
        case rel => exact ⟨h + 1, j, by omega, by omega, hj, Nat.le_refl _, by go_num, rfl, Lib.hid (.inr (by rw [Nat.add_sub_cancel]; exact HN.out)), Hhi, HS⟩
      · have HN := Lib.hid (show ltW (d h) (d a) = false from by rw [LT.out]; exact decide_eq_false hlv)
        clear LT
        have hnb : (!decide (z < 0)) = true := by simp [hlv]
        go_wp2_with fail
        go_quiet_grown (exact Calls.grown_of (hcg _ _))
        have HS := Lib.hid (CLS.out nq osq)
        clear c1 c2 c3 c4 hcg CLS S
        go_wp2_with fail
        go_roundg (h - i)
        case measure => omega
        case rel => exact ⟨i, h, hi, bh1, by omega, Nat.le_refl _, rfl, rfl, Hlo, Lib.hid (.inr HN.out), HS⟩
    · obtain rfl : i = j := by omega
      have HF := Lib.hid (one_left swoW (N := N) (d := d) (a := a) (b := b) (i := i) (by rw [← E1.out]; exact HR.out) (by rw [← E1.out]; exact hi) hj hb (by rw [← E1.out]; exact Hlo.out) Hhi.out)
      have H0 := Lib.hid (rot_same d (s := a) (m := a + 1) (e := a + 1) (by omega) (Nat.le_refl _) (.inr rfl))
      obtain ⟨q, hq⟩ : ∃ q, q + 1 = i := ⟨i - 1, by omega⟩
      have Hq := Lib.hid hq
      have eq1 : (i : Int) - 1 = (q : Int) := by omega
      have haq : a ≤ q := by omega
      have hqi : q < i := by omega
      clear Hlo Hhi HL HR hq
      go_wp2_with fail
      go_loopw [13] (fun kv wr => ∃ k : Nat, a ≤ k ∧ k ≤ q ∧ kv = .int .i64 k ∧ Hid (SSt w wr B G cap N (rot d a (a + 1) (k + 1)))) (fun kv _ => q - (intOf kv).toNat)
      case atStart => exact ⟨a, Nat.le_refl _, haq, rfl, by rw [H0.out]; exact S⟩
      case round =>
        clear S H0
        obtain ⟨k, hk1, hk2, rfl, S⟩ := hrel
        by_cases hkq : k < q
        · have hkz : (k : Int) < (q : Int) := by omega
          have wk : IntKind.i64.wrap ((k : Int) + 1) = (k : Int) + 1 := IntWalk.i64_in _ ⟨by omega, by omega⟩
          have b1 : (0 : Int) ≤ (k : Int) + 1 := by omega
          have b2 : (k : Int) + 1 < (N : Int) := by omega
          have b3 : (k : Int) < (N : Int) := by omega
          have b4 : ((k : Int) + 1).toNat = k + 1 := by omega
          obtain ⟨x, y, c1, c2, c3, c4, g1, g2, g3, g4, k3, k4, HS⟩ := S.out.exch (i := k) (j := k + 1) (by omega) (by omega) (by omega)
          rw [rot_l d hk1] at HS
          clear S
          go_wp2_with fail
          go_region
          go_wp2_with fail
          go_roundw
          case rel => exact ⟨k + 1, by omega, by omega, by go_num, HS⟩
          case measure => simp [intOf]; omega
        · obtain rfl : k = q := by omega
          go_wp2_with fail
          (try simp only [Exit.inBlock, Exit.then])
          refine bodyPost_ret (results_none rfl _ _ _) rfl ?_
          rw [Hq.out] at S
          exact ⟨rfl, _, S.out, HF.out.1, HF.out.2⟩
end Go.Proofs.Ytihfbbpkgmkbcaa
