/- symMerge, one case. -/
import Derived.Test.YtihfbbpkgmkbcaaG34
namespace Go.Proofs.Ytihfbbpkgmkbcaa
set_option maxRecDepth 100000
open Go.RowKit Game Stb
open Go.Sort (grow SWO)

set_option maxHeartbeats 4000000 in
theorem sym3_ok (B G cap N : Nat) (hN : N ≤ 1048576) (F : Nat) (IH : Hid (∀ (a m b : Nat) (d : Nat → SRef) (w : World), b - a ≤ F → a < m → m < b → b ≤ N → SSt w w B G cap N d → Srt ltW d a m → Srt ltW d m b →
    Calls Try.prog 64 #[(Value.slice (some ⟨G, 0, none⟩) N cap), .int .i64 a, .int .i64 m, .int .i64 b, .func (.func 52) #[] #[]] w fun e w' => e = .returned (.tuple #[]) ∧ ∃ d', SSt w w' B G cap N d' ∧ Srt ltW d' a b ∧ Res N a b d d')) (a m b : Nat) (d : Nat → SRef) (w : World) (hF : b - a ≤ F + 1) (ham : a < m) (hmb : m < b) (hb : b ≤ N) (S : SSt w w B G cap N d) (hl : Srt ltW d a m) (hr : Srt ltW d m b) (e1 : ¬ m = a + 1) (e2 : ¬ b = m + 1) :
    Calls Try.prog 64 #[(Value.slice (some ⟨G, 0, none⟩) N cap), .int .i64 a, .int .i64 m, .int .i64 b, .func (.func 52) #[] #[]] w fun e w' => e = .returned (.tuple #[]) ∧ ∃ d', SSt w w' B G cap N d' ∧ Srt ltW d' a b ∧ Res N a b d d' := by
  have S0 := Lib.hid S
  have HL := Lib.hid hl
  have HR := Lib.hid hr
  have mixed : Try.prog.follows .mixedOrders = true := by kernel_rfl
  clear S hl hr
  go_enter Try.func64, Try.ntmps64
  have t1' : ¬ (m : Int) - (a : Int) = 1 := by omega
  have t2' : ¬ (b : Int) - (m : Int) = 1 := by omega
  obtain ⟨mid, hmid⟩ : ∃ mid, (a + b) / 2 = mid := ⟨_, rfl⟩
  have em : ((a : Int) + (b : Int)) / 2 = (mid : Int) := by omega
  obtain ⟨nn, hnn⟩ : ∃ nn, mid + m = nn := ⟨_, rfl⟩
  have en : (mid : Int) + (m : Int) = (nn : Int) := by omega
  obtain ⟨fs1, fs2, fs3, fs4, fs5, fs6⟩ := s0_facts ham hmb
  have d1 : s0of a m b = if mid < m then nn - b else a := by unfold s0of; rw [hmid, hnn]
  have d2 : r0of a m b = if mid < m then mid else m := by unfold r0of; rw [hmid]
  have HSp := Lib.hid (fun s (h1 : s0of a m b ≤ s) (h2 : s ≤ r0of a m b) (h3 : Sea ltW d (nn - 1) (s0of a m b) (r0of a m b) s s) => (Sea.split ham hmb h1 h2 (by rw [hmid, hnn]; exact h3) : Split ltW d a m b s ((a + b) / 2 + m - s)))
  rw [hmid, hnn] at HSp
  rw [hmid] at fs4 fs5 fs6
  generalize s0of a m b = s0 at *
  generalize r0of a m b = r0 at *
  have hmid1 : a < mid := by omega
  have hmid2 : mid < b := by omega
  have hnm : mid + m = nn := hnn
  clear hmid hnn
  go_upto_if 140 with fail
  generalize ((m : Int) - (a : Int) == 1) = bb1
  generalize ((b : Int) - (m : Int) == 1) = bb2
  go_cut [20, 21] from 138 to 146 (fun sv rv wx => sv = .int .i64 s0 ∧ rv = .int .i64 r0 ∧ Hid (SSt w wx B G cap N d))
  case first =>
    clear IH HL HR HSp
    by_cases hm : mid < m
    · rw [if_pos hm] at d1 d2
      have hmz : (mid : Int) < (m : Int) := by omega
      have x1 : (nn : Int) - (b : Int) = (s0 : Int) := by omega
      have D1 := Lib.hid d1; have D2 := Lib.hid d2
      clear d1 d2
      go_wp2_with fail
      go_meet
      exact ⟨rfl, by rw [D2.out], S0⟩
    · rw [if_neg hm] at d1 d2
      have hmz : ¬ (mid : Int) < (m : Int) := by omega
      have D1 := Lib.hid d1; have D2 := Lib.hid d2
      clear d1 d2
      go_wp2_with fail
      go_meet
      exact ⟨by rw [D1.out], by rw [D2.out], S0⟩
  case rest =>
    clear S0 d1 d2
    obtain ⟨rfl, rfl, S⟩ := hcut
    obtain ⟨p, hp⟩ : ∃ p, nn - 1 = p := ⟨_, rfl⟩
    have ep : (nn : Int) - 1 = (p : Int) := by omega
    rw [hp] at HSp
    have hp1 : p + 1 = nn := by omega
    clear hp
    go_wp2_with fail
    generalize ((m : Int) - (a : Int) == 1) = bb1
    generalize ((b : Int) - (m : Int) == 1) = bb2
    go_loopg [20, 21] (r0 - s0) (fun gk iv jv wr => ∃ i j : Nat, s0 ≤ i ∧ i ≤ j ∧ j ≤ r0 ∧ j - i ≤ gk ∧ iv = .int .i64 i ∧ jv = .int .i64 j ∧ Hid (Sea ltW d p s0 r0 i j) ∧ Hid (SSt w wr B G cap N d))
    case atStart => exact ⟨s0, r0, Nat.le_refl _, fs2, Nat.le_refl _, Nat.le_refl _, rfl, rfl, ⟨.inl rfl, .inl rfl⟩, S⟩
    case round =>
      clear S ep em en t1' t2' e1 e2
      obtain ⟨i, j, hi, hij, hj, hg, rfl, rfl, Hse, S⟩ := hrel
      by_cases hlt : i < j
      · clear IH HL HR HSp
        have hltz : (i : Int) < (j : Int) := by omega
        obtain ⟨c, hh⟩ : ∃ c, c = (i + j) / 2 := ⟨_, rfl⟩
        have eh : ((i : Int) + (j : Int)) / 2 = (c : Int) := by omega
        have bh1 : i ≤ c := by omega
        have bh2 : c < j := by omega
        clear hh
        obtain ⟨v, hv⟩ : ∃ v, p - c = v := ⟨_, rfl⟩
        have wv : IntKind.i64.wrap ((p : Int) - (c : Int)) = (v : Int) := by rw [IntWalk.i64_in _ ⟨by omega, by omega⟩]; omega
        have bv : v < N := by omega
        have b1 : (c : Int) < (N : Int) := by omega
        have b2 : (v : Int) < (N : Int) := by omega
        obtain ⟨x, y, -, -, c1, c2, c3, c4, hcg⟩ := S.out.two (i := v) (j := c) (by omega) (by omega)
        have CLS := Lib.hid S.out.cls
        have LT := Lib.hid (show ltW (d (v)) (d (c)) = decide (cfW (d (v)) (d (c)) < 0) from rfl)
        generalize cfW (d (v)) (d (c)) = z at *
        by_cases hlv : z < 0
        · have HN := Lib.hid (show ltW (d (v)) (d c) = true from by rw [LT.out]; exact decide_eq_true hlv)
          clear LT
          have hnb : (!decide (z < 0)) = false := by simp [hlv]
          go_wp2_with fail
          go_quiet_grown (exact Calls.grown_of (hcg _ _))
          have HS := Lib.hid (CLS.out nq osq)
          clear c1 c2 c3 c4 hcg CLS S
          go_wp2_with fail
          go_roundg (c - i)
          case measure => omega
          case rel => exact ⟨i, c, hi, bh1, by omega, Nat.le_refl _, rfl, rfl, ⟨Hse.out.lo, .inr (by rw [hv]; exact HN.out)⟩, HS⟩
        · have HN := Lib.hid (show ltW (d v) (d c) = false from by rw [LT.out]; exact decide_eq_false hlv)
          clear LT
          have hnb : (!decide (z < 0)) = true := by simp [hlv]
          go_wp2_with fail
          go_quiet_grown (exact Calls.grown_of (hcg _ _))
          have HS := Lib.hid (CLS.out nq osq)
          clear c1 c2 c3 c4 hcg CLS S
          go_wp2_with fail
          go_roundg (j - (c + 1))
          case measure => omega
          case rel => exact ⟨c + 1, j, by omega, by omega, hj, Nat.le_refl _, by go_num, rfl, ⟨.inr (by rw [Nat.add_sub_cancel, hv]; exact HN.out), Hse.out.hi⟩, HS⟩
      · obtain rfl : i = j := by omega
        have hsp := HSp.out i hi hj Hse.out
        obtain ⟨q1, q2, q3, q4⟩ := hsp.rot (mid := mid) (by omega) HL.out HR.out
        have hes := hsp.s2
        obtain ⟨e, he⟩ : ∃ e, nn - i = e := ⟨_, rfl⟩
        rw [he] at hsp q1 q2 q3 q4 hes
        have hrot0 := Res.rot (N := N) d (s := i) (m := m) (e := e) (by omega) hes.1 (by omega)
        have HM := Lib.hid (fun d2 d3 r2 q2 r3 q3 => Split.merge swoW (N := N) (d2 := d2) (d3 := d3) hsp (mid := mid) (by omega) HL.out HR.out r2 q2 r3 q3)
        have hes1 := hes.1; have hes2 := hes.2
        have ee : (nn : Int) - (i : Int) = (e : Int) := by omega
        have hen : e + i = nn := by omega
        have Q1 := Lib.hid q1; have Q2 := Lib.hid q2; have Q3 := Lib.hid q3; have Q4 := Lib.hid q4; have HR0 := Lib.hid hrot0
        clear hsp q1 q2 q3 q4 hrot0 Hse HSp HL HR he hes
        by_cases hA : i < m
        · by_cases hB : i < mid
          · by_cases hC : a < i
            · by_cases hD : e < b
              · have z0 : (i : Int) < (m : Int) := by omega
                have z1 : (m : Int) < (e : Int) := by omega
                have z2 : (a : Int) < (i : Int) := by omega
                have z3 : (i : Int) < (mid : Int) := by omega
                have z4 : (mid : Int) < (e : Int) := by omega
                have z5 : (e : Int) < (b : Int) := by omega
                have hcall := rotate_ok B G cap N i m e (.func (.func 52) #[] #[]) d wr hN (by omega) (by omega) (by omega) S.out.here
                have Hcall := Lib.hid hcall
                clear hcall
                go_wp2_with fail
                refine Hcall.out.mono ?_
                rintro e' w1 ⟨rfl, S1⟩
                have S1 := Lib.hid (S.out.from S1)
                clear Hcall S
                generalize hd1 : rot d i m e = d1 at *
                clear hd1
                have hcall := IH.out a i mid d1 _ (by omega) (by omega) (by omega) (by omega) S1.out.here Q1.out Q2.out
                have Hcall := Lib.hid hcall
                clear hcall Q1 Q2
                go_wp2_with fail
                refine Hcall.out.mono ?_
                rintro e' w2 ⟨rfl, d2, S2, t2, r2⟩
                have S2 := Lib.hid (S1.out.from S2)
                have T2 := Lib.hid t2; have R2 := Lib.hid r2
                clear Hcall S1 t2 r2
                have Q3 : Hid (Srt ltW d2 mid e) := fun x y u1 u2 u3 => by rw [R2.out.keep x (by omega), R2.out.keep y (by omega)]; exact Q3.out x y u1 u2 u3
                have Q4 : Hid (Srt ltW d2 e b) := fun x y u1 u2 u3 => by rw [R2.out.keep x (by omega), R2.out.keep y (by omega)]; exact Q4.out x y u1 u2 u3
                have hcall := IH.out mid e b d2 _ (by omega) (by omega) (by omega) hb S2.out.here Q3.out Q4.out
                have Hcall := Lib.hid hcall
                clear hcall Q3 Q4
                go_wp2_with fail
                refine Hcall.out.mono ?_
                rintro e' w3 ⟨rfl, d3, S3, t3, r3⟩
                have S3 := Lib.hid (S2.out.from S3)
                have T3 := Lib.hid t3; have R3 := Lib.hid r3
                clear Hcall S2 t3 r3
                go_wp2_with fail
                go_end0
                exact ⟨rfl, d3, S3.out, HM.out d2 d3 R2.out T2.out R3.out T3.out, ((HR0.out.wide (by omega) (by omega)).trans (R2.out.wide (Nat.le_refl _) (by omega))).trans (R3.out.wide (by omega) (Nat.le_refl _))⟩
              · have z0 : (i : Int) < (m : Int) := by omega
                have z1 : (m : Int) < (e : Int) := by omega
                have z2 : (a : Int) < (i : Int) := by omega
                have z3 : (i : Int) < (mid : Int) := by omega
                have z4 : (mid : Int) < (e : Int) := by omega
                have z5 : ¬ (e : Int) < (b : Int) := by omega
                have hcall := rotate_ok B G cap N i m e (.func (.func 52) #[] #[]) d wr hN (by omega) (by omega) (by omega) S.out.here
                have Hcall := Lib.hid hcall
                clear hcall
                go_wp2_with fail
                refine Hcall.out.mono ?_
                rintro e' w1 ⟨rfl, S1⟩
                have S1 := Lib.hid (S.out.from S1)
                clear Hcall S
                generalize hd1 : rot d i m e = d1 at *
                clear hd1
                have hcall := IH.out a i mid d1 _ (by omega) (by omega) (by omega) (by omega) S1.out.here Q1.out Q2.out
                have Hcall := Lib.hid hcall
                clear hcall Q1 Q2
                go_wp2_with fail
                refine Hcall.out.mono ?_
                rintro e' w2 ⟨rfl, d2, S2, t2, r2⟩
                have S2 := Lib.hid (S1.out.from S2)
                have T2 := Lib.hid t2; have R2 := Lib.hid r2
                clear Hcall S1 t2 r2
                have Q3 : Hid (Srt ltW d2 mid e) := fun x y u1 u2 u3 => by rw [R2.out.keep x (by omega), R2.out.keep y (by omega)]; exact Q3.out x y u1 u2 u3
                have Q4 : Hid (Srt ltW d2 e b) := fun x y u1 u2 u3 => by rw [R2.out.keep x (by omega), R2.out.keep y (by omega)]; exact Q4.out x y u1 u2 u3
                have e0 : e = b := by omega
                have T3 : Hid (Srt ltW d2 mid b) := by rw [← e0]; exact Q3
                clear e0
                have R3 := Lib.hid (Res.refl (N := N) (a := mid) (b := b) d2)
                have S3 := S2
                clear S2 Q3 Q4
                obtain ⟨d3, hd3⟩ : ∃ d3, d3 = d2 := ⟨_, rfl⟩
                rw [← hd3] at S3
                have T3 : Hid (Srt ltW d3 mid b) := by rw [hd3]; exact T3
                have R3 : Hid (Res N mid b d2 d3) := by rw [hd3]; exact R3
                clear hd3
                go_wp2_with fail
                go_end0
                exact ⟨rfl, d3, S3.out, HM.out d2 d3 R2.out T2.out R3.out T3.out, ((HR0.out.wide (by omega) (by omega)).trans (R2.out.wide (Nat.le_refl _) (by omega))).trans (R3.out.wide (by omega) (Nat.le_refl _))⟩
            · by_cases hD : e < b
              · have z0 : (i : Int) < (m : Int) := by omega
                have z1 : (m : Int) < (e : Int) := by omega
                have z2 : ¬ (a : Int) < (i : Int) := by omega
                have z3 : (i : Int) < (mid : Int) := by omega
                have z4 : (mid : Int) < (e : Int) := by omega
                have z5 : (e : Int) < (b : Int) := by omega
                have hcall := rotate_ok B G cap N i m e (.func (.func 52) #[] #[]) d wr hN (by omega) (by omega) (by omega) S.out.here
                have Hcall := Lib.hid hcall
                clear hcall
                go_wp2_with fail
                refine Hcall.out.mono ?_
                rintro e' w1 ⟨rfl, S1⟩
                have S1 := Lib.hid (S.out.from S1)
                clear Hcall S
                generalize hd1 : rot d i m e = d1 at *
                clear hd1
                have e0 : i = a := by omega
                have T2 : Hid (Srt ltW d1 a mid) := by rw [← e0]; exact Q2
                clear e0
                have R2 := Lib.hid (Res.refl (N := N) (a := a) (b := mid) d1)
                have S2 := S1
                clear S1 Q1 Q2
                obtain ⟨d2, hd2⟩ : ∃ d2, d2 = d1 := ⟨_, rfl⟩
                rw [← hd2] at S2
                have T2 : Hid (Srt ltW d2 a mid) := by rw [hd2]; exact T2
                have R2 : Hid (Res N a mid d1 d2) := by rw [hd2]; exact R2
                clear hd2
                have Q3 : Hid (Srt ltW d2 mid e) := fun x y u1 u2 u3 => by rw [R2.out.keep x (by omega), R2.out.keep y (by omega)]; exact Q3.out x y u1 u2 u3
                have Q4 : Hid (Srt ltW d2 e b) := fun x y u1 u2 u3 => by rw [R2.out.keep x (by omega), R2.out.keep y (by omega)]; exact Q4.out x y u1 u2 u3
                have hcall := IH.out mid e b d2 _ (by omega) (by omega) (by omega) hb S2.out.here Q3.out Q4.out
                have Hcall := Lib.hid hcall
                clear hcall Q3 Q4
                go_wp2_with fail
                refine Hcall.out.mono ?_
                rintro e' w3 ⟨rfl, d3, S3, t3, r3⟩
                have S3 := Lib.hid (S2.out.from S3)
                have T3 := Lib.hid t3; have R3 := Lib.hid r3
                clear Hcall S2 t3 r3
                go_wp2_with fail
                go_end0
                exact ⟨rfl, d3, S3.out, HM.out d2 d3 R2.out T2.out R3.out T3.out, ((HR0.out.wide (by omega) (by omega)).trans (R2.out.wide (Nat.le_refl _) (by omega))).trans (R3.out.wide (by omega) (Nat.le_refl _))⟩
              · have z0 : (i : Int) < (m : Int) := by omega
                have z1 : (m : Int) < (e : Int) := by omega
                have z2 : ¬ (a : Int) < (i : Int) := by omega
                have z3 : (i : Int) < (mid : Int) := by omega
                have z4 : (mid : Int) < (e : Int) := by omega
                have z5 : ¬ (e : Int) < (b : Int) := by omega
                have hcall := rotate_ok B G cap N i m e (.func (.func 52) #[] #[]) d wr hN (by omega) (by omega) (by omega) S.out.here
                have Hcall := Lib.hid hcall
                clear hcall
                go_wp2_with fail
                refine Hcall.out.mono ?_
                rintro e' w1 ⟨rfl, S1⟩
                have S1 := Lib.hid (S.out.from S1)
                clear Hcall S
                generalize hd1 : rot d i m e = d1 at *
                clear hd1
                have e0 : i = a := by omega
                have T2 : Hid (Srt ltW d1 a mid) := by rw [← e0]; exact Q2
                clear e0
                have R2 := Lib.hid (Res.refl (N := N) (a := a) (b := mid) d1)
                have S2 := S1
                clear S1 Q1 Q2
                obtain ⟨d2, hd2⟩ : ∃ d2, d2 = d1 := ⟨_, rfl⟩
                rw [← hd2] at S2
                have T2 : Hid (Srt ltW d2 a mid) := by rw [hd2]; exact T2
                have R2 : Hid (Res N a mid d1 d2) := by rw [hd2]; exact R2
                clear hd2
                have Q3 : Hid (Srt ltW d2 mid e) := fun x y u1 u2 u3 => by rw [R2.out.keep x (by omega), R2.out.keep y (by omega)]; exact Q3.out x y u1 u2 u3
                have Q4 : Hid (Srt ltW d2 e b) := fun x y u1 u2 u3 => by rw [R2.out.keep x (by omega), R2.out.keep y (by omega)]; exact Q4.out x y u1 u2 u3
                have e0 : e = b := by omega
                have T3 : Hid (Srt ltW d2 mid b) := by rw [← e0]; exact Q3
                clear e0
                have R3 := Lib.hid (Res.refl (N := N) (a := mid) (b := b) d2)
                have S3 := S2
                clear S2 Q3 Q4
                obtain ⟨d3, hd3⟩ : ∃ d3, d3 = d2 := ⟨_, rfl⟩
                rw [← hd3] at S3
                have T3 : Hid (Srt ltW d3 mid b) := by rw [hd3]; exact T3
                have R3 : Hid (Res N mid b d2 d3) := by rw [hd3]; exact R3
                clear hd3
                go_wp2_with fail
                go_end0
                exact ⟨rfl, d3, S3.out, HM.out d2 d3 R2.out T2.out R3.out T3.out, ((HR0.out.wide (by omega) (by omega)).trans (R2.out.wide (Nat.le_refl _) (by omega))).trans (R3.out.wide (by omega) (Nat.le_refl _))⟩
          · by_cases hC : a < i
            · by_cases hD : e < b
              · have z0 : (i : Int) < (m : Int) := by omega
                have z1 : ¬ (m : Int) < (e : Int) := by omega
                have z2 : (a : Int) < (i : Int) := by omega
                have z3 : ¬ (i : Int) < (mid : Int) := by omega
                have z4 : (mid : Int) < (e : Int) := by omega
                have z5 : (e : Int) < (b : Int) := by omega
                have S1 : Hid (SSt w wr B G cap N (rot d i m e)) := by rw [rot_same d (by omega) (by omega) (by omega)]; exact S
                clear S
                generalize hd1 : rot d i m e = d1 at *
                clear hd1
                have e0 : i = mid := by omega
                have T2 : Hid (Srt ltW d1 a mid) := by rw [← e0]; exact Q1
                clear e0
                have R2 := Lib.hid (Res.refl (N := N) (a := a) (b := mid) d1)
                have S2 := S1
                clear S1 Q1 Q2
                obtain ⟨d2, hd2⟩ : ∃ d2, d2 = d1 := ⟨_, rfl⟩
                rw [← hd2] at S2
                have T2 : Hid (Srt ltW d2 a mid) := by rw [hd2]; exact T2
                have R2 : Hid (Res N a mid d1 d2) := by rw [hd2]; exact R2
                clear hd2
                have Q3 : Hid (Srt ltW d2 mid e) := fun x y u1 u2 u3 => by rw [R2.out.keep x (by omega), R2.out.keep y (by omega)]; exact Q3.out x y u1 u2 u3
                have Q4 : Hid (Srt ltW d2 e b) := fun x y u1 u2 u3 => by rw [R2.out.keep x (by omega), R2.out.keep y (by omega)]; exact Q4.out x y u1 u2 u3
                have hcall := IH.out mid e b d2 _ (by omega) (by omega) (by omega) hb S2.out.here Q3.out Q4.out
                have Hcall := Lib.hid hcall
                clear hcall Q3 Q4
                go_wp2_with fail
                refine Hcall.out.mono ?_
                rintro e' w3 ⟨rfl, d3, S3, t3, r3⟩
                have S3 := Lib.hid (S2.out.from S3)
                have T3 := Lib.hid t3; have R3 := Lib.hid r3
                clear Hcall S2 t3 r3
                go_wp2_with fail
                go_end0
                exact ⟨rfl, d3, S3.out, HM.out d2 d3 R2.out T2.out R3.out T3.out, ((HR0.out.wide (by omega) (by omega)).trans (R2.out.wide (Nat.le_refl _) (by omega))).trans (R3.out.wide (by omega) (Nat.le_refl _))⟩
              · have z0 : (i : Int) < (m : Int) := by omega
                have z1 : ¬ (m : Int) < (e : Int) := by omega
                have z2 : (a : Int) < (i : Int) := by omega
                have z3 : ¬ (i : Int) < (mid : Int) := by omega
                have z4 : (mid : Int) < (e : Int) := by omega
                have z5 : ¬ (e : Int) < (b : Int) := by omega
                have S1 : Hid (SSt w wr B G cap N (rot d i m e)) := by rw [rot_same d (by omega) (by omega) (by omega)]; exact S
                clear S
                generalize hd1 : rot d i m e = d1 at *
                clear hd1
                have e0 : i = mid := by omega
                have T2 : Hid (Srt ltW d1 a mid) := by rw [← e0]; exact Q1
                clear e0
                have R2 := Lib.hid (Res.refl (N := N) (a := a) (b := mid) d1)
                have S2 := S1
                clear S1 Q1 Q2
                obtain ⟨d2, hd2⟩ : ∃ d2, d2 = d1 := ⟨_, rfl⟩
                rw [← hd2] at S2
                have T2 : Hid (Srt ltW d2 a mid) := by rw [hd2]; exact T2
                have R2 : Hid (Res N a mid d1 d2) := by rw [hd2]; exact R2
                clear hd2
                have Q3 : Hid (Srt ltW d2 mid e) := fun x y u1 u2 u3 => by rw [R2.out.keep x (by omega), R2.out.keep y (by omega)]; exact Q3.out x y u1 u2 u3
                have Q4 : Hid (Srt ltW d2 e b) := fun x y u1 u2 u3 => by rw [R2.out.keep x (by omega), R2.out.keep y (by omega)]; exact Q4.out x y u1 u2 u3
                have e0 : e = b := by omega
                have T3 : Hid (Srt ltW d2 mid b) := by rw [← e0]; exact Q3
                clear e0
                have R3 := Lib.hid (Res.refl (N := N) (a := mid) (b := b) d2)
                have S3 := S2
                clear S2 Q3 Q4
                obtain ⟨d3, hd3⟩ : ∃ d3, d3 = d2 := ⟨_, rfl⟩
                rw [← hd3] at S3
                have T3 : Hid (Srt ltW d3 mid b) := by rw [hd3]; exact T3
                have R3 : Hid (Res N mid b d2 d3) := by rw [hd3]; exact R3
                clear hd3
                go_wp2_with fail
                go_end0
                exact ⟨rfl, d3, S3.out, HM.out d2 d3 R2.out T2.out R3.out T3.out, ((HR0.out.wide (by omega) (by omega)).trans (R2.out.wide (Nat.le_refl _) (by omega))).trans (R3.out.wide (by omega) (Nat.le_refl _))⟩
            · omega
        · by_cases hB : i < mid
          · by_cases hC : a < i
            · by_cases hD : e < b
              · have z0 : ¬ (i : Int) < (m : Int) := by omega
                have z1 : (m : Int) < (e : Int) := by omega
                have z2 : (a : Int) < (i : Int) := by omega
                have z3 : (i : Int) < (mid : Int) := by omega
                have z4 : ¬ (mid : Int) < (e : Int) := by omega
                have z5 : (e : Int) < (b : Int) := by omega
                have S1 : Hid (SSt w wr B G cap N (rot d i m e)) := by rw [rot_same d (by omega) (by omega) (by omega)]; exact S
                clear S
                generalize hd1 : rot d i m e = d1 at *
                clear hd1
                have hcall := IH.out a i mid d1 _ (by omega) (by omega) (by omega) (by omega) S1.out.here Q1.out Q2.out
                have Hcall := Lib.hid hcall
                clear hcall Q1 Q2
                go_wp2_with fail
                refine Hcall.out.mono ?_
                rintro e' w2 ⟨rfl, d2, S2, t2, r2⟩
                have S2 := Lib.hid (S1.out.from S2)
                have T2 := Lib.hid t2; have R2 := Lib.hid r2
                clear Hcall S1 t2 r2
                have Q3 : Hid (Srt ltW d2 mid e) := fun x y u1 u2 u3 => by rw [R2.out.keep x (by omega), R2.out.keep y (by omega)]; exact Q3.out x y u1 u2 u3
                have Q4 : Hid (Srt ltW d2 e b) := fun x y u1 u2 u3 => by rw [R2.out.keep x (by omega), R2.out.keep y (by omega)]; exact Q4.out x y u1 u2 u3
                have e0 : e = mid := by omega
                have T3 : Hid (Srt ltW d2 mid b) := by rw [← e0]; exact Q4
                clear e0
                have R3 := Lib.hid (Res.refl (N := N) (a := mid) (b := b) d2)
                have S3 := S2
                clear S2 Q3 Q4
                obtain ⟨d3, hd3⟩ : ∃ d3, d3 = d2 := ⟨_, rfl⟩
                rw [← hd3] at S3
                have T3 : Hid (Srt ltW d3 mid b) := by rw [hd3]; exact T3
                have R3 : Hid (Res N mid b d2 d3) := by rw [hd3]; exact R3
                clear hd3
                go_wp2_with fail
                go_end0
                exact ⟨rfl, d3, S3.out, HM.out d2 d3 R2.out T2.out R3.out T3.out, ((HR0.out.wide (by omega) (by omega)).trans (R2.out.wide (Nat.le_refl _) (by omega))).trans (R3.out.wide (by omega) (Nat.le_refl _))⟩
              · omega
            · by_cases hD : e < b
              · have z0 : ¬ (i : Int) < (m : Int) := by omega
                have z1 : (m : Int) < (e : Int) := by omega
                have z2 : ¬ (a : Int) < (i : Int) := by omega
                have z3 : (i : Int) < (mid : Int) := by omega
                have z4 : ¬ (mid : Int) < (e : Int) := by omega
                have z5 : (e : Int) < (b : Int) := by omega
                have S1 : Hid (SSt w wr B G cap N (rot d i m e)) := by rw [rot_same d (by omega) (by omega) (by omega)]; exact S
                clear S
                generalize hd1 : rot d i m e = d1 at *
                clear hd1
                have e0 : i = a := by omega
                have T2 : Hid (Srt ltW d1 a mid) := by rw [← e0]; exact Q2
                clear e0
                have R2 := Lib.hid (Res.refl (N := N) (a := a) (b := mid) d1)
                have S2 := S1
                clear S1 Q1 Q2
                obtain ⟨d2, hd2⟩ : ∃ d2, d2 = d1 := ⟨_, rfl⟩
                rw [← hd2] at S2
                have T2 : Hid (Srt ltW d2 a mid) := by rw [hd2]; exact T2
                have R2 : Hid (Res N a mid d1 d2) := by rw [hd2]; exact R2
                clear hd2
                have Q3 : Hid (Srt ltW d2 mid e) := fun x y u1 u2 u3 => by rw [R2.out.keep x (by omega), R2.out.keep y (by omega)]; exact Q3.out x y u1 u2 u3
                have Q4 : Hid (Srt ltW d2 e b) := fun x y u1 u2 u3 => by rw [R2.out.keep x (by omega), R2.out.keep y (by omega)]; exact Q4.out x y u1 u2 u3
                have e0 : e = mid := by omega
                have T3 : Hid (Srt ltW d2 mid b) := by rw [← e0]; exact Q4
                clear e0
                have R3 := Lib.hid (Res.refl (N := N) (a := mid) (b := b) d2)
                have S3 := S2
                clear S2 Q3 Q4
                obtain ⟨d3, hd3⟩ : ∃ d3, d3 = d2 := ⟨_, rfl⟩
                rw [← hd3] at S3
                have T3 : Hid (Srt ltW d3 mid b) := by rw [hd3]; exact T3
                have R3 : Hid (Res N mid b d2 d3) := by rw [hd3]; exact R3
                clear hd3
                go_wp2_with fail
                go_end0
                exact ⟨rfl, d3, S3.out, HM.out d2 d3 R2.out T2.out R3.out T3.out, ((HR0.out.wide (by omega) (by omega)).trans (R2.out.wide (Nat.le_refl _) (by omega))).trans (R3.out.wide (by omega) (Nat.le_refl _))⟩
              · omega
          · by_cases hC : a < i
            · by_cases hD : e < b
              · have z0 : ¬ (i : Int) < (m : Int) := by omega
                have z1 : ¬ (m : Int) < (e : Int) := by omega
                have z2 : (a : Int) < (i : Int) := by omega
                have z3 : ¬ (i : Int) < (mid : Int) := by omega
                have z4 : ¬ (mid : Int) < (e : Int) := by omega
                have z5 : (e : Int) < (b : Int) := by omega
                have S1 : Hid (SSt w wr B G cap N (rot d i m e)) := by rw [rot_same d (by omega) (by omega) (by omega)]; exact S
                clear S
                generalize hd1 : rot d i m e = d1 at *
                clear hd1
                have e0 : i = mid := by omega
                have T2 : Hid (Srt ltW d1 a mid) := by rw [← e0]; exact Q1
                clear e0
                have R2 := Lib.hid (Res.refl (N := N) (a := a) (b := mid) d1)
                have S2 := S1
                clear S1 Q1 Q2
                obtain ⟨d2, hd2⟩ : ∃ d2, d2 = d1 := ⟨_, rfl⟩
                rw [← hd2] at S2
                have T2 : Hid (Srt ltW d2 a mid) := by rw [hd2]; exact T2
                have R2 : Hid (Res N a mid d1 d2) := by rw [hd2]; exact R2
                clear hd2
                have Q3 : Hid (Srt ltW d2 mid e) := fun x y u1 u2 u3 => by rw [R2.out.keep x (by omega), R2.out.keep y (by omega)]; exact Q3.out x y u1 u2 u3
                have Q4 : Hid (Srt ltW d2 e b) := fun x y u1 u2 u3 => by rw [R2.out.keep x (by omega), R2.out.keep y (by omega)]; exact Q4.out x y u1 u2 u3
                have e0 : e = mid := by omega
                have T3 : Hid (Srt ltW d2 mid b) := by rw [← e0]; exact Q4
                clear e0
                have R3 := Lib.hid (Res.refl (N := N) (a := mid) (b := b) d2)
                have S3 := S2
                clear S2 Q3 Q4
                obtain ⟨d3, hd3⟩ : ∃ d3, d3 = d2 := ⟨_, rfl⟩
                rw [← hd3] at S3
                have T3 : Hid (Srt ltW d3 mid b) := by rw [hd3]; exact T3
                have R3 : Hid (Res N mid b d2 d3) := by rw [hd3]; exact R3
                clear hd3
                go_wp2_with fail
                go_end0
                exact ⟨rfl, d3, S3.out, HM.out d2 d3 R2.out T2.out R3.out T3.out, ((HR0.out.wide (by omega) (by omega)).trans (R2.out.wide (Nat.le_refl _) (by omega))).trans (R3.out.wide (by omega) (Nat.le_refl _))⟩
              · omega
            · omega
end Go.Proofs.Ytihfbbpkgmkbcaa
