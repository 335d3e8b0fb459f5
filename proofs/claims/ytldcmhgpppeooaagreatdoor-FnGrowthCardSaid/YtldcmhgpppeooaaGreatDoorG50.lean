/- The law FnGrowth's walk. -/
import Derived.Test.YtldcmhgpppeooaaGreatDoorG45
import Derived.Test.YtldcmhgpppeooaaGreatDoorG49
import Derived.Test.YtldcmhgpppeooaaGreatDoorG41
import Derived.Test.YtldcmhgpppeooaaGreatDoorG40
import Derived.Test.YtldcmhgpppeooaaGreatDoorG29
import Derived.Test.YtldcmhgpppeooaaGreatDoorG42
import Derived.Deep.CutRange
import Derived.Deep.CutBlock
namespace Go.Proofs.YtldcmhgpppeooaaGreatDoor
set_option maxRecDepth 100000
open Go.RowKit

theorem MatR.still {w w' : World} {B g cap : Nat} {rows : List (List Int)} (h : MatR w B g cap rows) (hs : ∃ q, w' = w.drewN q) : MatR w' B g cap rows := by
  obtain ⟨q, rfl⟩ := hs
  exact h.of_same (Nat.le_refl _) (fun _ _ _ => rfl)
theorem ball_isC {d : List (List Int)} {k : Int} {x : List Int} (hx : x ∈ ballR d k) : IsC d := by
  unfold ballR at hx
  split at hx
  · rename_i h; exact h.1
  · simp at hx
theorem prod_small : ∀ k ∈ smallK, prodOk k = true := fun k hk => by
  have : k = 0 ∨ k = 1 ∨ k = 2 ∨ k = 4 ∨ k = 11 := by
    unfold smallK at hk
    simp at hk
    omega
  rcases this with rfl | rfl | rfl | rfl | rfl
  · exact prod_0
  · exact prod_1
  · exact prod_2
  · exact prod_4
  · exact prod_11
theorem joinC_rows {X : List (List Int)} (h : IsC X) : ∀ r ∈ joinC X [[2]], r.length ≤ 5 := by
  intro r hr
  unfold joinC at hr
  have h4 := h.2.1
  rcases List.mem_append.1 hr with hr | hr
  · obtain ⟨x, hx, rfl⟩ := List.mem_map.1 hr
    obtain ⟨i, hi, rfl⟩ := List.mem_iff_getElem.1 hx
    have := h.2.2.1 i hi
    simp [List.getD, hi] at this ⊢
    omega
  · obtain ⟨x, hx, rfl⟩ := List.mem_map.1 hr
    simp at hx
    subst hx
    simp
    omega
theorem one_rl : ∀ j, j < ([[2]] : List (List Int)).length → (([[2]] : List (List Int)).getD j []).length ≤ 1048576 := by decide +kernel
theorem small_isC : ∀ k ∈ smallK, IsC (types17.getD k tyD).2 ∧ (types17.getD k tyD).2.length ≤ 3 := by decide +kernel

set_option maxHeartbeats 8000000 in
theorem growth_walk (a : Option Addr) (n c : Nat) (w : World) (hn : n ≤ 1048576) (hc0 : CodeV w w.heap.size a n) (hm : MaxL w) :
    Calls Tryz.prog 3 #[.slice a n c] w (Gives w (.bool true)) := by
  have hb := laws_big_any a n c w
  rw [decide_eq_false (show ¬ 1048576 < n by omega)] at hb
  have HC := Lib.hid (fun (W : World) (hb : Below w.heap.size w W) => (hc0.below hb).mono hb.size)
  have HM := Lib.hid (fun (W : World) (hb : Below w.heap.size w W) => hm.below hb)
  have Hb := Lib.hid hb
  clear hc0 hm hb
  go_enter Tryz.func3, Tryz.ntmps3
  go_wp2_with fail
  refine Hb.out.mono ?_
  rintro e w1 ⟨rfl, hs1⟩
  have hB1 := below_still (Below.refl w.heap.size w) hs1
  clear hs1
  have D1 := Lib.hid (spec_DrawSphereSizes_any a n c w1 hn (HC.out w1 hB1))
  go_wp2_with fail
  refine D1.out.mono ?_
  rintro e w2 ⟨g2, c2, R, m, rfl, hm5, hM2, hb2⟩
  have hB2 := hB1.trans (hb2.mono hB1.size)
  have hR5 := hM2.few
  have S1 := Lib.hid (impl_SphereSizes_any g2 0 R.length c2 R m w2 rfl (by omega) hM2.rl hM2.lt hM2.rows2)
  have HM2 := Lib.hid hM2
  clear D1 hM2 hb2
  go_wp2_with fail
  refine S1.out.mono ?_
  rintro e w3 ⟨g3, c3, rfl, ho3, hb3⟩
  have hB3 := hB2.trans (hb3.mono hB2.size)
  have hM3 := HM2.out.below hb3
  have S2 := Lib.hid (spec_SphereSizes_any g2 0 R.length c2 R m w3 rfl (by omega) hM3.rl hM3.lt hM3.rows2)
  have hsl := sphL_length R m
  clear S1 hb3
  go_wp2_with fail
  refine S2.out.mono ?_
  rintro e w4 ⟨g4, c4, rfl, ho4, hb4⟩
  have hB4 := hB3.trans (hb4.mono hB3.size)
  have hM4 := hM3.below hb4
  have ho34 := ho3.below hb4 ho3.lt
  obtain ⟨L, hL⟩ : ∃ L, L = (sphL R m).length := ⟨_, rfl⟩
  rw [← hL]
  have E1 := Lib.hid (laws_sameInts_same g3 0 L c3 g4 0 L c4 (sphL R m) w4 hL.symm hL.symm (by omega) ho34.cells ho4.cells)
  have ho34' := ho34.mono hB2.size
  have HL := Lib.hid hL
  rw [← hL] at hsl
  clear S2 hb4 ho3 ho34 ho4 hM3 hL
  go_wp2_with fail
  refine E1.out.mono ?_
  rintro e w5 ⟨rfl, hs5⟩
  have hB5 := below_still hB4 hs5
  have hM5 := hM4.still hs5
  have ho5 := ho34'.still hs5
  have G1 := Lib.hid (impl_GrowthKind_any g2 0 R.length c2 R w5 rfl (by omega) hM5.rl hM5.lt hM5.rows2)
  clear E1 hs5 hM4 ho34' hB4
  go_wp2_with fail
  refine G1.out.mono ?_
  rintro e w6 ⟨rfl, hb6⟩
  have hB6 := hB5.trans (hb6.mono hB5.size)
  have hM6 := hM5.below hb6
  have ho6 := ho5.below hb6 ho5.lt
  have G2 := Lib.hid (spec_GrowthKind_any g2 0 R.length c2 R w6 rfl (by omega) hM6.rl hM6.lt hM6.rows2)
  clear G1 hb6 hM5 ho5 hB5
  generalize growS R = gs at *
  go_wp2_with fail
  refine G2.out.mono ?_
  rintro e w7 ⟨rfl, hb7⟩
  have hB7 := hB6.trans (hb7.mono hB6.size)
  have hM7 := hM6.below hb7
  have ho7 := ho6.below hb7 ho6.lt
  have I1 := spec_IsCartan g2 0 R.length c2 R w7 rfl (by omega) (fun j hj => by have := hM7.rl j hj; omega) hM7.rows2
  clear G2 hb7 hM6 ho6 hB6
  go_upto_region 7 with fail
  go_cut [68] from 44 to 68 (fun bv wx => bv = .bool false ∧ Below w.heap.size w wx)
  case first =>
    by_cases hC : IsC R
    · rw [decide_eq_true hC] at I1
      have I1 := Lib.hid I1
      by_cases hm0 : 0 < m
      · obtain ⟨f1, f2, f3⟩ := sph_first hC hm0
        rw [← HL.out] at f1 f3
        have q0 := ho7.cell 0 (by rw [← HL.out]; omega)
        rw [f2] at q0
        have hL0 : (0 : Int) < (L : Int) := by omega
        by_cases hL1 : 1 < L
        · have q1 := ho7.cell 1 (by rw [← HL.out]; omega)
          rw [f3 hL1] at q1
          have hL1I : (1 : Int) < (L : Int) := by omega
          have hd1 : decide ((1 : Int) < (L : Int)) = true := decide_eq_true hL1I
          have hd2 : (((R.length : Nat) : Int) != ((R.length : Nat) : Int)) = false := by simp
          clear f3 hC
          go_wp2_with fail
          refine I1.out.mono ?_
          rintro e w8 ⟨rfl, hs8⟩
          have q0' := q0
          obtain ⟨q, rfl⟩ := hs8
          go_wp2_with fail
          go_meet
          exact ⟨rfl, below_drewN hB7 q⟩
        · have hL1I : ¬ (1 : Int) < (L : Int) := by omega
          have hd1 : decide ((1 : Int) < (L : Int)) = false := decide_eq_false hL1I
          clear f3 hC
          go_wp2_with fail
          refine I1.out.mono ?_
          rintro e w8 ⟨rfl, hs8⟩
          obtain ⟨q, rfl⟩ := hs8
          go_wp2_with fail
          go_meet
          exact ⟨rfl, below_drewN hB7 q⟩
      · have hmd : decide (0 < m) = false := decide_eq_false hm0
        clear hC
        go_wp2_with fail
        refine I1.out.mono ?_
        rintro e w8 ⟨rfl, hs8⟩
        obtain ⟨q, rfl⟩ := hs8
        go_wp2_with fail
        go_meet
        exact ⟨rfl, below_drewN hB7 q⟩
    · rw [decide_eq_false hC] at I1
      have I1 := Lib.hid I1
      clear hC
      go_wp2_with fail
      refine I1.out.mono ?_
      rintro e w8 ⟨rfl, hs8⟩
      obtain ⟨q, rfl⟩ := hs8
      go_wp2_with fail
      go_meet
      exact ⟨rfl, below_drewN hB7 q⟩
  case rest =>
    obtain ⟨rfl, hB8⟩ := hcut
    clear I1 HM2 hM7 ho7 hB7 HL hB3
    have D2 := Lib.hid (spec_DrawBallOf_any a n c _ hn (HC.out _ hB8))
    go_wp2_with fail
    refine D2.out.mono ?_
    rintro e w9 ⟨gd, cd, Q, k, rfl, hk5, hM9, hb9⟩
    have hB9 := hB8.trans (hb9.mono hB8.size)
    have hQ5 := hM9.few
    have T1 := Lib.hid (impl_BallOf_any gd 0 Q.length cd Q k w9 rfl (by omega) hM9.rl hM9.lt hM9.rows2)
    have hM9 := hM9.mono hB8.size
    clear D2 hb9 hB8
    go_wp2_with fail
    refine T1.out.mono ?_
    rintro e wa ⟨gb, cb, rb, rfl, hcb, hOb, hba⟩
    have hBa := hB9.trans (hba.mono hB9.size)
    have hMa := hM9.below hba
    have T2 := Lib.hid (spec_BallOf_any gd 0 Q.length cd Q k wa rfl (by omega) hMa.rl hMa.lt hMa.rows2)
    have Hcb := Lib.hid hcb
    clear T1 hba hM9 hcb
    go_wp2_with fail
    refine T2.out.mono ?_
    rintro e wb ⟨ga, ca, ra, rfl, hca, hOa, hbb⟩
    have hBb := hBa.trans (hbb.mono hBa.size)
    have hMb := hMa.below hbb
    have hOb' := hOb.below hbb
    obtain ⟨N, hN⟩ : ∃ N, N = (ballR Q k).length := ⟨_, rfl⟩
    rw [← hN]
    have hfew := ballR_few Q k
    rw [← hN] at hfew
    have W1 := Lib.hid (laws_sameWords_same ga 0 N ca gb 0 N cb (ballR Q k) wb hN.symm hN.symm (by have := hfew.1; omega) (fun j hj => by have := hfew.2 ((ballR Q k).getD j []) (by simp [List.getD, hj]); omega) (by rw [← hca]; exact hOa.rows2) (by rw [← Hcb.out]; exact hOb'.rows2))
    have HN := Lib.hid hN; have Hca := Lib.hid hca
    have hOa := hOa.mono hBa.size
    have hN200 := hfew.1
    have Hfew := Lib.hid hfew.2
    clear T2 hbb hMa hN hca hfew hOb hOb' Hcb hBa
    generalize ballB Q k = bb at *
    have d1 : (bb != bb) = false := by simp
    go_wp2_with fail
    refine W1.out.mono ?_
    rintro e wc ⟨rfl, hsc⟩
    have hBc := below_still hBb hsc
    have hMc := hMb.still hsc
    have hOc := hOa.still hsc
    clear W1 hsc hMb hOa hBb d1
    go_wp2_with fail
    go_loopw [12] (fun iv wr => ∃ i : Nat, i ≤ N ∧ iv = .int .i64 i ∧ Below wc.heap.size wc wr) (fun iv _ => N - (intOf iv).toNat)
    case atStart => exact ⟨0, Nat.zero_le _, rfl, Below.refl _ _⟩
    case round =>
      obtain ⟨i, hi, rfl, hbr⟩ := hrel
      by_cases hlt : i < N
      · have hMr := hMc.below hbr
        have hOr := hOc.below hbr
        have hir : i < ra.length := by rw [← contents_length, Hca.out, ← HN.out]; exact hlt
        have hmem : ra[i].2.2 ∈ ballR Q k := by rw [← Hca.out]; exact List.mem_map.2 ⟨_, List.getElem_mem hir, rfl⟩
        have hRo := hOr.2.1 ra[i] (List.getElem_mem _)
        have hq : wr.cell? ⟨ga, i, none⟩ = some (rowVal ra[i]) := by rw [hOr.1.cell i (by simpa using hir)]; simp
        generalize ra[i] = RR at *
        obtain ⟨gx, cx, x⟩ := RR
        simp only at hRo hmem
        have hQC := ball_isC hmem
        obtain ⟨W, hW, hWe, hx15, hxk⟩ := ball_elt hmem
        obtain ⟨l, hl⟩ : ∃ l, x.length = l := ⟨_, rfl⟩
        have hq' : wr.cell? ⟨ga, i, none⟩ = some (Value.slice (some ⟨gx, 0, none⟩) l cx) := by rw [hq]; unfold rowVal; simp only [hl]
        have Ie := Lib.hid (impl_IsElement_ok gd 0 Q.length cd gx 0 l cx Q x wr rfl hl hQC ⟨W, hW, hWe⟩ hx15 hMr.lt hRo.lt hMr.rows2 hRo.cells)
        have hgl := hOr.lt
        rw [hl] at hxk hx15
        have hkI : ¬ k < (l : Int) := by omega
        have hkd : decide (k < (l : Int)) = false := decide_eq_false hkI
        clear hq hmem hRo hOr hMr hir hQC hW hWe hl
        go_wp2_with fail
        refine Ie.out.mono ?_
        rintro e we ⟨rfl, hbe⟩
        have q2 := (hbe.cell (p := ⟨ga, i, none⟩) hgl).trans hq'
        have hb2 := hbr.trans (hbe.mono hbr.size)
        clear hbe Ie hq'
        go_wp2_with fail
        go_roundw
        case rel => exact ⟨i + 1, by omega, by go_num, hb2⟩
        case measure => simp [intOf]; omega
      · obtain rfl : i = N := by omega
        have hBd := hBc.trans (hbr.mono hBc.size)
        clear hbr hBc hMc hOc Hca HN Hfew hN200 hlt hi
        have S1 := Lib.hid (laws_small_any a n c wr hn (HC.out _ hBd))
        go_wp2_with fail
        refine S1.out.mono ?_
        rintro e x1 ⟨ks, hks, gx, cx, rx, rfl, hcx, hOx, hbx⟩
        have hBx := hBd.trans (hbx.mono hBd.size)
        have hOx := hOx.mono hBd.size
        obtain ⟨hXC, hX3⟩ := small_isC ks hks
        have hprod := prod_small ks hks
        unfold prodOk at hprod
        have hprod := of_decide_eq_true hprod
        have Hprod := Lib.hid hprod; have HXC := Lib.hid hXC
        have hT := spec_TypeCartan_ok 0 (by omega) x1
        have T3 := Lib.hid (show Calls Tryz.prog 19 #[.string ⟨#[65, 49]⟩] x1 (GotRowsB x1 [[2]] true) from hT)
        clear S1 hbx hT hprod hBd hks hXC
        generalize (types17.getD ks tyD).2 = X at *
        obtain ⟨lx, hlx⟩ : ∃ lx, X.length = lx := ⟨_, rfl⟩
        rw [hlx] at hX3 ⊢
        have Hlx := Lib.hid hlx; have Hcx := Lib.hid hcx
        clear hlx hcx
        go_wp2_with fail
        refine T3.out.mono ?_
        rintro e x2 ⟨gy, cy, ry, rfl, hcy, hOy, hby⟩
        have hBy := hBx.trans (hby.mono hBx.size)
        have hOx2 := hOx.below hby
        have hOy := hOy.mono hBx.size
        have Hcy := Lib.hid hcy
        have J1 := Lib.hid (spec_JoinCartans_ok gx 0 lx cx gy 0 1 cy X [[2]] x2 Hlx.out rfl HXC.out (by decide) (by omega) hOx2.lt hOy.lt (by rw [← Hcx.out]; exact hOx2.rows2) (by rw [← hcy]; exact hOy.rows2))
        have hJC := Lib.hid (joinC_length X [[2]])
        clear T3 hby hOx hBx hcy
        go_wp2_with fail
        refine J1.out.mono ?_
        rintro e x3 ⟨gz, cz, rz, rfl, hcz, hOz, hbz⟩
        have hBz := hBy.trans (hbz.mono hBy.size)
        have hOx3 := hOx2.below hbz
        have hOy3 := hOy.below hbz
        have hOz := hOz.mono hBy.size
        have hlz : (joinC X [[2]]).length = lx + 1 := by rw [hJC.out, Hlx.out]; rfl
        have hrz : ∀ j, j < (joinC X [[2]]).length → ((joinC X [[2]]).getD j []).length ≤ 1048576 := fun j hj => by
          have hm : (joinC X [[2]]).getD j [] ∈ joinC X [[2]] := by simp [List.getD, hj]
          have := joinC_rows HXC.out _ hm
          omega
        have L1 := Lib.hid (impl_LengthCounts_any gz 0 (lx + 1) cz (joinC X [[2]]) x3 hlz (by omega) hrz hOz.lt (by rw [← hcz]; exact hOz.rows2) (HM.out x3 hBz))
        have Hl1 := Lib.hid (lenC_len (joinC X [[2]]))
        rw [hlz]
        have Hcz := Lib.hid hcz
        clear J1 hbz hOx2 hOy hcz hBy hlz hrz hJC
        generalize joinC X [[2]] = Z at *
        go_wp2_with fail
        refine L1.out.mono ?_
        rintro e x4 ⟨g4', c4', rfl, ho4, hb4⟩
        have hB4 := hBz.trans (hb4.mono hBz.size)
        have hOx4 := hOx3.below hb4
        have hOy4 := hOy3.below hb4
        have ho4 := ho4.mono hBz.size
        have L2 := Lib.hid (spec_LengthCounts_any gx 0 lx cx X x4 Hlx.out (by rw [Hlx.out]; omega) (fun j hj => by rw [HXC.out.2.2.1 j hj, Hlx.out]; omega) hOx4.lt (by rw [← Hcx.out]; exact hOx4.rows2))
        have Hl2 := Lib.hid (lenC_len X)
        clear L1 hb4 hOx3 hOy3 hBz hOz
        go_wp2_with fail
        refine L2.out.mono ?_
        rintro e x5 ⟨g5', c5', rfl, ho5, hb5⟩
        have hB5 := hB4.trans (hb5.mono hB4.size)
        have hOy5 := hOy4.below hb5
        have ho45 := ho4.below hb5 ho4.lt
        have ho5 := ho5.mono hB4.size
        have L3 := Lib.hid (spec_LengthCounts_any gy 0 1 cy [[2]] x5 rfl (by simp) one_rl hOy5.lt (by rw [← Hcy.out]; exact hOy5.rows2))
        have Hl3 := Lib.hid (lenC_len [[2]])
        clear L2 hb5 hOx4 hOy4 hB4 ho4
        generalize hLX : lenC X = LX at *
        generalize hLA : lenC [[2]] = LA at *
        have HLX := Lib.hid hLX; have HLA := Lib.hid hLA
        clear hLX hLA
        go_wp2_with fail
        refine L3.out.mono ?_
        rintro e x6 ⟨g6', c6', rfl, ho6, hb6⟩
        have hB6 := hB5.trans (hb6.mono hB5.size)
        have ho46 := ho45.below hb6 ho45.lt
        have ho56 := ho5.below hb6 ho5.lt
        have ho6 := ho6.mono hB5.size
        have P1 := Lib.hid (impl_ProductCounts_any g5' 0 LX.length c5' g6' 0 LA.length c6' LX LA x6 rfl rfl (by have := Hl2.out; omega) (by have := Hl3.out; omega) ho56.capLe ho6.capLe ho56.lt ho6.lt ho56.cells ho6.cells)
        rw [← Hprod.out] at P1
        clear L3 hb6 hOy5 hB5 ho45 ho5
        go_wp2_with fail
        refine P1.out.mono ?_
        rintro e x7 ⟨g7', c7', rfl, ho7, hb7⟩
        have hB7 := hB6.trans (hb7.mono hB6.size)
        have ho47 := ho46.below hb7 ho46.lt
        have E2 := Lib.hid (laws_sameInts_same g4' 0 (lenC Z).length c4' g7' 0 (lenC Z).length c7' (lenC Z) x7 rfl rfl (by have := Hl1.out; omega) ho47.cells ho7.cells)
        clear P1 hb7 ho46 ho56 ho6 hB6
        go_wp2_with fail
        refine E2.out.mono ?_
        rintro e x8 ⟨rfl, hs8⟩
        have hB8 := below_still hB7 hs8
        have D3 := Lib.hid (spec_DrawProductCounts_any a n c x8 hn (HC.out x8 hB8))
        clear E2 hs8 ho47 ho7 hB7 Hprod HXC Hl1 Hl2 Hl3 HLX HLA Hlx Hcx Hcy Hcz
        go_wp2_with fail
        refine D3.out.mono ?_
        rintro e y1 ⟨xs, ys, ge, ce, gf, cf, hxs, hys, rfl, hoe, hof, hb1⟩
        have hC1 := hB8.trans (hb1.mono hB8.size)
        have D4 := Lib.hid (spec_DrawIsUnimodal_any a n c y1 hn (HC.out y1 hC1))
        have hoe := hoe.mono hB8.size
        have hof := hof.mono hB8.size
        clear D3 hb1 hB8
        go_wp2_with fail
        refine D4.out.mono ?_
        rintro e y2 ⟨zs, gg, cg, hzs, rfl, hog, hb2⟩
        have hC2 := hC1.trans (hb2.mono hC1.size)
        have hoe2 := hoe.below hb2 hoe.lt
        have hof2 := hof.below hb2 hof.lt
        have hog := hog.mono hC1.size
        have P2 := Lib.hid (impl_ProductCounts_any ge 0 xs.length ce gf 0 ys.length cf xs ys y2 rfl rfl (by omega) (by omega) hoe2.capLe hof2.capLe hoe2.lt hof2.lt hoe2.cells hof2.cells)
        clear D4 hb2 hoe hof hC1
        go_wp2_with fail
        refine P2.out.mono ?_
        rintro e y3 ⟨g3', c3', rfl, ho3, hb3⟩
        have hC3 := hC2.trans (hb3.mono hC2.size)
        have hoe3 := hoe2.below hb3 hoe2.lt
        have hof3 := hof2.below hb3 hof2.lt
        have hog3 := hog.below hb3 hog.lt
        have ho3 := ho3.mono hC2.size
        have P3 := Lib.hid (spec_ProductCounts_any ge 0 xs.length ce gf 0 ys.length cf xs ys y3 rfl rfl (by omega) (by omega) hoe3.capLe hof3.capLe hoe3.lt hof3.lt hoe3.cells hof3.cells)
        have hml := mul_length_le (trim xs) (trim ys)
        have hlx : (trim xs).length ≤ 25 := by rw [trim_length]; have := trimN_le xs xs.length; omega
        have hly : (trim ys).length ≤ 25 := by rw [trim_length]; have := trimN_le ys ys.length; omega
        clear P2 hb3 hoe2 hof2 hog hC2
        generalize mul (trim xs) (trim ys) = ps at *
        go_wp2_with fail
        refine P3.out.mono ?_
        rintro e y4 ⟨g4', c4', rfl, ho4, hb4⟩
        have hC4 := hC3.trans (hb4.mono hC3.size)
        have ho34 := ho3.below hb4 ho3.lt
        have hog4 := hog3.below hb4 hog3.lt
        have E3 := Lib.hid (laws_sameInts_same g3' 0 ps.length c3' g4' 0 ps.length c4' ps y4 rfl rfl (by omega) ho34.cells ho4.cells)
        clear P3 hb4 hoe3 hof3 hog3 hC3
        go_wp2_with fail
        refine E3.out.mono ?_
        rintro e y5 ⟨rfl, hs5⟩
        have hC5 := below_still hC4 hs5
        have hog5 := hog4.still hs5
        have U1 := Lib.hid (impl_IsUnimodal_any gg 0 zs.length cg zs y5 rfl (by omega) hog5.cells)
        clear E3 hs5 hog4 hC4 ho34 ho4 ho3
        go_wp2_with fail
        refine U1.out.mono ?_
        rintro e y6 ⟨rfl, hs6⟩
        have hC6 := below_still hC5 hs6
        have hog6 := hog5.still hs6
        have U2 := Lib.hid (spec_IsUnimodal_any gg 0 zs.length cg zs y6 rfl (by omega) hog6.cells)
        clear U1 hs6 hog5 hC5
        generalize (!rose zs zs.length) = ru at *
        have d2 : (ru == ru) = true := by simp
        go_wp2_with fail
        refine U2.out.mono ?_
        rintro e y7 ⟨rfl, hs7⟩
        have hC7 := below_still hC6 hs7
        have hog7 := hog6.still hs7
        have A1 := impl_IsPalindrome_any gg 0 zs.length cg zs y7 rfl (by omega) hog7.lt hog7.cells
        clear U2 hs7 hog6 hC6
        go_wp2_with fail
        refine A1.mono ?_
        rintro e y8 ⟨rfl, hb8⟩
        have hC8 := hC7.trans (hb8.mono hC7.size)
        have hog8 := hog7.below hb8 hog7.lt
        have A2 := Lib.hid (spec_IsPalindrome_any gg 0 zs.length cg zs y8 rfl (by omega) hog8.cells)
        clear hb8 hC7 hog7
        generalize decide (zs = zs.reverse) = pal at *
        have d3 : (pal == pal) = true := by simp
        go_wp2_with fail
        refine A2.out.mono ?_
        rintro e y9 ⟨rfl, hb9⟩
        have hC9 := hC8.trans (hb9.mono hC8.size)
        clear A2 hb9 hC8 hog8
        go_wp2_with fail
        go_ret
        exact ⟨rfl, hC9⟩
end Go.Proofs.YtldcmhgpppeooaaGreatDoor
