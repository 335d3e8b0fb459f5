/- The law FnGroups's walk. -/
import Derived.Test.YtldcmhgpppeooaaGreatDoorG42
import Derived.Test.YtldcmhgpppeooaaGreatDoorG47
import Derived.Test.YtldcmhgpppeooaaGreatDoorG48
import Derived.Test.YtldcmhgpppeooaaGreatDoorG49
import Derived.Test.YtldcmhgpppeooaaGreatDoorG19
import Derived.Test.YtldcmhgpppeooaaGreatDoorG04
import Derived.Deep.CutRange
import Derived.Deep.CutBlock
namespace Go.Proofs.YtldcmhgpppeooaaGreatDoor
set_option maxRecDepth 100000
open Go.RowKit Game

theorem MatR.still' {w w' : World} {B g cap : Nat} {rows : List (List Int)} (h : MatR w B g cap rows) (hs : ∃ q, w' = w.drewN q) : MatR w' B g cap rows := by
  obtain ⟨q, rfl⟩ := hs
  exact h.of_same (Nat.le_refl _) (fun _ _ _ => rfl)

set_option maxHeartbeats 8000000 in
theorem groups_walk (a : Option Addr) (n c : Nat) (w : World) (hn : n ≤ 1048576) (hc0 : CodeV w w.heap.size a n) (hm : MaxL w) :
    Calls Tryz.prog 4 #[.slice a n c] w (Gives w (.bool true)) := by
  have hb := laws_big_any a n c w
  rw [decide_eq_false (show ¬ 1048576 < n by omega)] at hb
  have HC := Lib.hid (fun (W : World) (hb : Below w.heap.size w W) => (hc0.below hb).mono hb.size)
  have HM := Lib.hid (fun (W : World) (hb : Below w.heap.size w W) => hm.below hb)
  have Hb := Lib.hid hb
  clear hc0 hm hb
  go_enter Tryz.func4, Tryz.ntmps4
  go_wp2_with fail
  refine Hb.out.mono ?_
  rintro e w1 ⟨rfl, hs1⟩
  have hB1 := below_still (Below.refl w.heap.size w) hs1
  clear hs1
  have D1 := Lib.hid (spec_DrawElementsOf_any a n c w1 hn (HC.out w1 hB1))
  go_wp2_with fail
  refine D1.out.mono ?_
  rintro e w2 ⟨g2, c2, R, rfl, hM2, hb2⟩
  have hB2 := hB1.trans (hb2.mono hB1.size)
  have hR5 := hM2.few
  have hM2 := hM2.mono hB1.size
  have S1 := Lib.hid (impl_ElementsOf_any g2 0 R.length c2 R w2 rfl (by omega) hM2.rl hM2.lt hM2.rows2 (HM.out _ hB2))
  clear D1 hb2
  go_wp2_with fail
  refine S1.out.mono ?_
  rintro e w3 ⟨g3, c3, rs3, rfl, hc3, hO3, hb3⟩
  have hB3 := hB2.trans (hb3.mono hB2.size)
  have hM3 := hM2.below hb3
  have hO3 := hO3.mono hB2.size
  have S2 := Lib.hid (spec_ElementsOf_any g2 0 R.length c2 R w3 rfl (by omega) hM3.rl hM3.lt hM3.rows2)
  have Hc3 := Lib.hid hc3
  clear S1 hb3 hM2 hc3
  go_wp2_with fail
  refine S2.out.mono ?_
  rintro e w4 ⟨g4, c4, rs4, rfl, hc4, hO4, hb4⟩
  have hB4 := hB3.trans (hb4.mono hB3.size)
  have hM4 := hM3.below hb4
  have hO34 := hO3.below hb4
  have hO4 := hO4.mono hB3.size
  have Hc4 := Lib.hid hc4
  have Z1 := Lib.hid (impl_SizeOf_any g2 0 R.length c2 R w4 rfl (by omega) hM4.rl hM4.lt hM4.rows2 (HM.out _ hB4))
  clear S2 hb4 hM3 hO3 hc4
  go_wp2_with fail
  refine Z1.out.mono ?_
  rintro e w5 ⟨rfl, hb5⟩
  have hB5 := hB4.trans (hb5.mono hB4.size)
  have hM5 := hM4.below hb5
  have hO35 := hO34.below hb5
  have hO45 := hO4.below hb5
  clear Z1 hb5 hM4 hO34 hO4
  have hef := elA_few R
  have hsz := elA_size (c := R)
  have hef1 := hef.1
  have W1 := Lib.hid (laws_sameWords_same g3 0 (elA R).length c3 g4 0 (elA R).length c4 (elA R) w5 rfl rfl (by omega) hef.2 (by rw [← Hc3.out]; exact hO35.rows2) (by rw [← Hc4.out]; exact hO45.rows2))
  obtain ⟨gb, hgb⟩ : ∃ gb, grpB R = gb := ⟨_, rfl⟩
  rw [hgb] at hsz ⊢
  have d1 : (gb != gb) = false := by simp
  have hz := szO_bound R
  have SZ := Lib.hid (fun (W : World) (hb : Below w.heap.size w W) (hM : MatR W w.heap.size g2 c2 R) => spec_SizeOf_any g2 0 R.length c2 R W rfl (by omega) hM.rl hM.lt hM.rows2)
  generalize szO R = z at *
  have dz : (z != z) = false := by simp
  obtain ⟨N, hN⟩ : ∃ N, (elA R).length = N := ⟨_, rfl⟩
  rw [hN] at hsz hef1 W1 ⊢
  have LT1 := Lib.hid (fun (W : World) (hb : Below w.heap.size w W) (hM : MatR W w.heap.size g2 c2 R) => impl_LeftTable_any g2 0 R.length c2 R W rfl (by omega) hM.rl hM.lt hM.rows2 (HM.out W hb))
  have LT2 := Lib.hid (fun (W : World) (hb : Below w.heap.size w W) (hM : MatR W w.heap.size g2 c2 R) => spec_LeftTable_any g2 0 R.length c2 R W rfl (by omega) hM.rl hM.lt hM.rows2)
  have hlf := leftT_few R
  have WL := Lib.hid (fun (W : World) (ga ca gd cd : Nat) (h1 : Rows2 W ga 0 (leftT R)) (h2 : Rows2 W gd 0 (leftT R)) => laws_sameWords_same ga 0 (leftT R).length ca gd 0 (leftT R).length cd (leftT R) W rfl rfl (by have := hlf.1; omega) (fun j hj => by rw [hlf.2 j hj]; omega) h1 h2)
  generalize leftT R = T at *
  obtain ⟨M, hMT⟩ : ∃ M, T.length = M := ⟨_, rfl⟩
  rw [hMT] at WL
  have HMT := Lib.hid hMT
  clear hef hlf hMT
  go_upto_region 7 with fail
  go_cut [71] from 40 to 71 (fun bv wx => bv = .bool false ∧ Below w.heap.size w wx ∧ MatR wx w.heap.size g2 c2 R)
  case first =>
    cases gb with
    | true =>
      have hNz := hsz rfl
      have dn : ((N : Int) != z) = false := by rw [hNz]; simp
      clear hsz
      go_wp2_with fail
      refine W1.out.mono ?_
      rintro e w6 ⟨rfl, hs6⟩
      have hB6 := below_still hB5 hs6
      have hM6 := hM5.still' hs6
      clear W1 hs6 hM5 hO35 hO45 hB5
      have SZ := Lib.hid (SZ.out w6 hB6 hM6)
      go_wp2_with fail
      refine SZ.out.mono ?_
      rintro e w7 ⟨rfl, hb7⟩
      have hB7 := hB6.trans (hb7.mono hB6.size)
      have hM7 := hM6.below hb7
      clear SZ hb7 hM6 hB6
      have LT1 := Lib.hid (LT1.out w7 hB7 hM7)
      go_wp2_with fail
      refine LT1.out.mono ?_
      rintro e w8 ⟨g8, c8, rs8, rfl, hc8, hO8, hb8⟩
      rw [HMT.out]
      have hB8 := hB7.trans (hb8.mono hB7.size)
      have hM8 := hM7.below hb8
      have Hc8 := Lib.hid hc8
      clear LT1 hb8 hM7 hB7 hc8
      have LT2 := Lib.hid (LT2.out w8 hB8 hM8)
      go_wp2_with fail
      refine LT2.out.mono ?_
      rintro e w9 ⟨g9, c9, rs9, rfl, hc9, hO9, hb9⟩
      rw [HMT.out]
      have hB9 := hB8.trans (hb9.mono hB8.size)
      have hM9 := hM8.below hb9
      have hO89 := hO8.below hb9
      have WL := Lib.hid (WL.out w9 g8 c8 g9 c9 (by rw [← Hc8.out]; exact hO89.rows2) (by rw [← hc9]; exact hO9.rows2))
      clear LT2 hb9 hM8 hB8 hc9 hO8 hO89 hO9 Hc8
      go_wp2_with fail
      refine WL.out.mono ?_
      rintro e wa ⟨rfl, hsa⟩
      have hBa := below_still hB9 hsa
      have hMa := hM9.still' hsa
      clear WL hsa hB9 hM9
      go_wp2_with fail
      go_meet
      exact ⟨rfl, hBa, hMa⟩
    | false =>
      clear hsz
      go_wp2_with fail
      refine W1.out.mono ?_
      rintro e w6 ⟨rfl, hs6⟩
      have hB6 := below_still hB5 hs6
      have hM6 := hM5.still' hs6
      clear W1 hs6 hM5 hO35 hO45 hB5
      have SZ := Lib.hid (SZ.out w6 hB6 hM6)
      go_wp2_with fail
      refine SZ.out.mono ?_
      rintro e w7 ⟨rfl, hb7⟩
      have hB7 := hB6.trans (hb7.mono hB6.size)
      have hM7 := hM6.below hb7
      clear SZ hb7 hM6 hB6
      have LT1 := Lib.hid (LT1.out w7 hB7 hM7)
      go_wp2_with fail
      refine LT1.out.mono ?_
      rintro e w8 ⟨g8, c8, rs8, rfl, hc8, hO8, hb8⟩
      rw [HMT.out]
      have hB8 := hB7.trans (hb8.mono hB7.size)
      have hM8 := hM7.below hb8
      have Hc8 := Lib.hid hc8
      clear LT1 hb8 hM7 hB7 hc8
      have LT2 := Lib.hid (LT2.out w8 hB8 hM8)
      go_wp2_with fail
      refine LT2.out.mono ?_
      rintro e w9 ⟨g9, c9, rs9, rfl, hc9, hO9, hb9⟩
      rw [HMT.out]
      have hB9 := hB8.trans (hb9.mono hB8.size)
      have hM9 := hM8.below hb9
      have hO89 := hO8.below hb9
      have WL := Lib.hid (WL.out w9 g8 c8 g9 c9 (by rw [← Hc8.out]; exact hO89.rows2) (by rw [← hc9]; exact hO9.rows2))
      clear LT2 hb9 hM8 hB8 hc9 hO8 hO89 hO9 Hc8
      go_wp2_with fail
      refine WL.out.mono ?_
      rintro e wa ⟨rfl, hsa⟩
      have hBa := below_still hB9 hsa
      have hMa := hM9.still' hsa
      clear WL hsa hB9 hM9
      go_wp2_with fail
      go_meet
      exact ⟨rfl, hBa, hMa⟩
  case rest =>
    clear hB5 hM5 hO35 hO45 Hc3 Hc4 W1 SZ LT1 LT2 WL HMT hsz hef1 hN d1 dz hz hgb
    obtain ⟨rfl, hB6, hM6⟩ := hcut
    have L1 := Lib.hid (impl_LengthCounts_any g2 0 R.length c2 R _ rfl (by omega) hM6.rl hM6.lt hM6.rows2 (HM.out _ hB6))
    have hlc := lenC_len R
    have hpal := decide_eq_true (lenC_pal R)
    have SL := Lib.hid (fun (W : World) (hM : MatR W w.heap.size g2 c2 R) => spec_LengthCounts_any g2 0 R.length c2 R W rfl (by omega) hM.rl hM.lt hM.rows2)
    generalize lenC R = zs at *
    go_wp2_with fail
    refine L1.out.mono ?_
    rintro e w7 ⟨g7, c7, rfl, ho7, hb7⟩
    have hB7 := hB6.trans (hb7.mono hB6.size)
    have hM7 := hM6.below hb7
    have ho7 := ho7.mono hB6.size
    have SL := Lib.hid (SL.out w7 hM7)
    clear L1 hb7 hM6 hB6
    go_wp2_with fail
    refine SL.out.mono ?_
    rintro e w8 ⟨g8, c8, rfl, ho8, hb8⟩
    have hB8 := hB7.trans (hb8.mono hB7.size)
    have ho78 := ho7.below hb8 ho7.lt
    obtain ⟨lz, hlz⟩ : ∃ lz, zs.length = lz := ⟨_, rfl⟩
    rw [hlz] at hlc ⊢
    have Hlz := Lib.hid hlz
    have E1 := Lib.hid (laws_sameInts_same g7 0 lz c7 g8 0 lz c8 zs w8 hlz hlz (by omega) ho78.cells ho8.cells)
    clear SL hb8 hM7 ho7 hB7 ho8 hlz
    go_wp2_with fail
    refine E1.out.mono ?_
    rintro e w9 ⟨rfl, hs9⟩
    have hB9 := below_still hB8 hs9
    have ho9 := ho78.still hs9
    have PL := impl_IsPalindrome_any g7 0 lz c7 zs w9 Hlz.out (by rw [Hlz.out]; omega) ho9.lt ho9.cells
    rw [hpal] at PL
    have PL := Lib.hid PL
    clear E1 hs9 hB8 ho78 hpal
    go_wp2_with fail
    refine PL.out.mono ?_
    rintro e wa ⟨rfl, hba⟩
    have hBa := hB9.trans (hba.mono hB9.size)
    clear PL hba hB9 ho9
    have D2 := Lib.hid (spec_DrawLongestElement_any a n c wa hn (HC.out wa hBa))
    go_wp2_with fail
    refine D2.out.mono ?_
    rintro e v1 ⟨gd, cd, D, rfl, hMd, hb1⟩
    have hC1 := hBa.trans (hb1.mono hBa.size)
    have hD5 := hMd.few
    have hMd := hMd.mono hBa.size
    clear D2 hb1 hBa
    have X1 := Lib.hid (impl_LongestElement_any gd 0 D.length cd D v1 rfl (by omega) hMd.rl hMd.lt hMd.rows2)
    go_wp2_with fail
    refine X1.out.mono ?_
    rintro e v2 ⟨gw, cw, rfl, how, hb2⟩
    have hC2 := hC1.trans (hb2.mono hC1.size)
    have hMd2 := hMd.below hb2
    have how := how.mono hC1.size
    clear X1 hb2 hMd hC1
    have X2 := Lib.hid (spec_LongestElement_any gd 0 D.length cd D v2 rfl (by omega) hMd2.rl hMd2.lt hMd2.rows2)
    go_wp2_with fail
    refine X2.out.mono ?_
    rintro e v3 ⟨gx, cx, rfl, hox, hb3⟩
    have hC3 := hC2.trans (hb3.mono hC2.size)
    have hMd3 := hMd2.below hb3
    have how3 := how.below hb3 how.lt
    have hox := hox.mono hC2.size
    clear X2 hb3 hMd2 hC2 how
    have hl24 := longA_few D
    have hwd := fun h => long_word (c := D) h
    have hds := fun h h2 i (hi : i < D.length) => long_desc (c := D) h h2 hi
    have hop := fun h h2 i (hi : i < D.length) => opp_facts (c := D) h h2 hi
    have hpt := fun h h2 r hr => pos_turn (c := D) h h2 (r := r) hr
    have hpf := posA_few D
    generalize longA D = xl at *
    generalize finB D = fb at *
    obtain ⟨lw, hlw⟩ : ∃ lw, xl.length = lw := ⟨_, rfl⟩
    rw [hlw] at hl24 ⊢
    have d2 : (fb != fb) = false := by simp
    have Hlw := Lib.hid hlw; have Hwd := Lib.hid hwd; have Hds := Lib.hid hds; have Hop := Lib.hid hop; have Hpt := Lib.hid hpt; have Hpf := Lib.hid hpf
    have E3 := Lib.hid (laws_sameInts_same gw 0 lw cw gx 0 lw cx xl v3 hlw hlw (by omega) how3.cells hox.cells)
    clear hlw hwd hds hop hpt hpf
    go_wp2_with fail
    refine E3.out.mono ?_
    rintro e v4 ⟨rfl, hs4⟩
    have hC4 := below_still hC3 hs4
    have hMd4 := hMd3.still' hs4
    have hox4 := hox.still hs4
    clear E3 hs4 hC3 hMd3 how3 hox
    go_upto_region 17 with fail
    go_cut [110] from 105 to 110 (fun bv wx => ∃ b : Bool, bv = .bool b ∧ decide (fb = true ∧ lw ≤ 15) = b ∧ wx = v4)
    case first =>
      cases fb with
      | true =>
        by_cases h15 : lw ≤ 15
        · have h3 : decide (true = true ∧ lw ≤ 15) = true := decide_eq_true ⟨rfl, h15⟩
          have h15I : (lw : Int) ≤ 15 := by omega
          go_wp2_with fail
          go_meet
          exact ⟨_, rfl, h3, rfl⟩
        · have h3 : decide (true = true ∧ lw ≤ 15) = false := decide_eq_false fun h => h15 h.2
          have h15I : ¬ (lw : Int) ≤ 15 := by omega
          go_wp2_with fail
          go_meet
          exact ⟨_, rfl, h3, rfl⟩
      | false =>
        have h3 : decide (false = true ∧ lw ≤ 15) = false := decide_eq_false fun h => by cases h.1
        go_wp2_with fail
        go_meet
        exact ⟨_, rfl, h3, rfl⟩
    case rest =>
      obtain ⟨b, rfl, hb, rfl⟩ := hcut
      have Hbd := Lib.hid hb
      clear hb
      go_upto_if 110 with fail
      go_cut [2, 15, 16, 17, 18, 19] from 111 to 170 (fun rv _ _ _ _ _ wx => rv = .bool false ∧ Below w.heap.size w wx)
      case first =>
        cases b with
        | false =>
          go_wp2_with fail
          go_meet
          exact ⟨rfl, hC4⟩
        | true =>
          obtain ⟨hf, h15⟩ := of_decide_eq_true Hbd.out
          subst hf
          have Hwd2 := Lib.hid (Hwd.out rfl (by rw [Hlw.out]; exact h15))
          have Hds2 := Lib.hid (Hds.out rfl (by rw [Hlw.out]; exact h15))
          have Hop2 := Lib.hid (Hop.out rfl (by rw [Hlw.out]; exact h15))
          have Hpt2 := Lib.hid (Hpt.out rfl (by rw [Hlw.out]; exact h15))
          clear Hwd Hds Hop Hpt
          have P1 := Lib.hid (spec_PositiveRoots_any gd 0 D.length cd D _ rfl (by omega) hMd4.rl hMd4.lt hMd4.rows2)
          have hpf1 := Hpf.out.1
          generalize posA D = rts at *
          obtain ⟨N5, hN5⟩ : ∃ N5, rts.length = N5 := ⟨_, rfl⟩
          rw [hN5] at hpf1
          have HN5 := Lib.hid hN5
          clear hN5 Hbd
          go_wp2_with fail
          refine P1.out.mono ?_
          rintro e v5 ⟨g5, c5, rs5, rfl, hc5, hO5, hb5⟩
          rw [HN5.out]
          have hC5 := hC4.trans (hb5.mono hC4.size)
          have hMd5 := hMd4.below hb5
          have hox5 := hox4.below hb5 hox4.lt
          have Hc5 := Lib.hid hc5
          clear P1 hb5 hMd4 hox4 hC4 hc5
          go_wp2_with fail
          go_loopw [2, 17] (fun rv iv wr => ∃ i : Nat, i ≤ N5 ∧ iv = .int .i64 i ∧ rv = .bool false ∧ Below v5.heap.size v5 wr) (fun _ iv _ => N5 - (intOf iv).toNat)
          case atStart => exact ⟨0, Nat.zero_le _, rfl, rfl, Below.refl _ _⟩
          case round =>
            obtain ⟨i, hi, rfl, rfl, hbr⟩ := hrel
            by_cases hlt : i < N5
            · have hMr := hMd5.below hbr
              have hOr := hO5.below hbr
              have hxr := hox5.below hbr hox5.lt
              have hir : i < rs5.length := by rw [← contents_length, Hc5.out, HN5.out]; exact hlt
              have hmem : rs5[i].2.2 ∈ rts := by rw [← Hc5.out]; exact List.mem_map.2 ⟨_, List.getElem_mem hir, rfl⟩
              have hRo := hOr.2.1 rs5[i] (List.getElem_mem _)
              have hq : wr.cell? ⟨g5, i, none⟩ = some (rowVal rs5[i]) := by rw [hOr.1.cell i (by simpa using hir)]; simp
              generalize rs5[i] = RR at *
              obtain ⟨gr, cr, r⟩ := RR
              simp only at hRo hmem
              obtain ⟨hrl, hrs⟩ := Hpt2.out r hmem
              obtain ⟨l, hl⟩ : ∃ l, r.length = l := ⟨_, rfl⟩
              have hq' : wr.cell? ⟨g5, i, none⟩ = some (Value.slice (some ⟨gr, 0, none⟩) l cr) := by rw [hq]; unfold rowVal; simp only [hl]
              have A1 := Lib.hid (impl_ActOnRoot_ok gd 0 D.length cd gx 0 lw cx gr 0 l cr D xl r wr rfl Hlw.out hl Hwd2.out hrl hMr.lt hxr.lt hRo.lt hMr.rows2 hxr.cells hRo.cells)
              have hal : (actR D xl r).length = l := by rw [actR_length]; exact hl
              have hll : l ≤ 5 := by omega
              generalize actR D xl r = y at *
              have Hal := Lib.hid hal; have Hrs := Lib.hid hrs
              have hgl := hOr.lt
              clear hq hmem hRo hOr hMr hxr hir hrl hl hal hrs
              go_wp2_with fail
              refine A1.out.mono ?_
              rintro e we ⟨ge, ce, rfl, hoe, hbe⟩
              rw [Hal.out]
              have hb2 := hbr.trans (hbe.mono hbr.size)
              have G1 := impl_RootSign_any ge 0 l ce y we Hal.out (by rw [Hal.out]; omega) hoe.cells
              rw [Hrs.out] at G1
              have G1 := Lib.hid G1
              clear hbe A1 hq' hoe
              go_wp2_with fail
              refine G1.out.mono ?_
              rintro e wf ⟨rfl, hsf⟩
              have hb3 := below_still hb2 hsf
              clear G1 hsf hb2
              go_wp2_with fail
              go_roundw
              case rel => exact ⟨i + 1, by omega, by go_num, rfl, hb3⟩
              case measure => simp [intOf]; omega
            · obtain rfl : i = N5 := by omega
              have hC6 := hC5.trans (hbr.mono hC5.size)
              have hM6 := hMd5.below hbr
              have hx6 := hox5.below hbr hox5.lt
              clear hbr hC5 hMd5 hO5 hox5 Hc5 HN5 Hpf Hpt2 hlt hi hpf1
              generalize wr = v6 at *
              go_wp2_with fail
              go_loopw [2, 18, 19] (fun rv iv _ wr => ∃ i : Nat, i ≤ D.length ∧ iv = .int .i64 i ∧ rv = .bool false ∧ Below v6.heap.size v6 wr) (fun _ iv _ _ => D.length - (intOf iv).toNat)
              case atStart => exact ⟨0, Nat.zero_le _, rfl, rfl, Below.refl _ _⟩
              case round =>
                obtain ⟨i, hi, rfl, rfl, hbr⟩ := hrel
                by_cases hlt : i < D.length
                · have hMr := hM6.below hbr
                  have hxr := hx6.below hbr hx6.lt
                  have hCr := hC6.trans (hbr.mono hC6.size)
                  obtain ⟨j, hop1, hj, hop2, himg⟩ := Hop2.out i hlt
                  have hdes := Hds2.out i hlt
                  have O1 := impl_OppositeLetter_any gd 0 D.length cd D wr rfl (by omega) hMr.rl hMr.lt hMr.rows2 (i : Int)
                  rw [hop1] at O1
                  have O1 := Lib.hid O1; have Hdes := Lib.hid hdes; have Hop1 := Lib.hid hop2; have Himg := Lib.hid himg
                  clear hop1 hop2 himg hdes
                  go_wp2_with fail
                  refine O1.out.mono ?_
                  rintro e we ⟨rfl, hbe⟩
                  have hCe := hCr.trans (hbe.mono hCr.size)
                  have hMe := hMr.below hbe
                  have hxe := hxr.below hbe hxr.lt
                  have hb1 := hbr.trans (hbe.mono hbr.size)
                  clear O1 hbe hMr hxr hCr hbr
                  have L1 := Lib.hid (spec_LeftDescents_any gd 0 D.length cd gx 0 lw cx D xl we rfl Hlw.out (by omega) hMe.rl (by rw [Hlw.out]; omega) hMe.lt hxe.lt hMe.rows2 hxe.cells)
                  have hlf := leftA_few (c := D) xl
                  generalize leftA D xl = ds at *
                  obtain ⟨ld, hld⟩ : ∃ ld, ds.length = ld := ⟨_, rfl⟩
                  have Hld := Lib.hid hld
                  rw [hld] at hlf
                  clear hld
                  go_wp2_with fail
                  refine L1.out.mono ?_
                  rintro e wf ⟨gf, cf, rfl, hof, hbf⟩
                  rw [Hld.out]
                  have hCf := hCe.trans (hbf.mono hCe.size)
                  have hMf := hMe.below hbf
                  have hxf := hxe.below hbf hxe.lt
                  have hb2 := hb1.trans (hbf.mono hb1.size)
                  have A1 := laws_has_any gf 0 ld cf ds (i : Int) wf Hld.out (by rw [Hld.out]; omega) hof.cells
                  rw [Hdes.out] at A1
                  have A1 := Lib.hid A1
                  clear L1 hbf hMe hxe hCe hb1 hof
                  go_wp2_with fail
                  refine A1.out.mono ?_
                  rintro e wg ⟨rfl, hsg⟩
                  have hCg := below_still hCf hsg
                  have hMg := hMf.still' hsg
                  have hxg := hxf.still hsg
                  have hb3 := below_still hb2 hsg
                  have O2 := impl_OppositeLetter_any gd 0 D.length cd D wg rfl (by omega) hMg.rl hMg.lt hMg.rows2 (j : Int)
                  rw [Hop1.out] at O2
                  have O2 := Lib.hid O2
                  clear A1 hsg hCf hMf hxf hb2
                  go_wp2_with fail
                  refine O2.out.mono ?_
                  rintro e wh ⟨rfl, hbh⟩
                  have hCh := hCg.trans (hbh.mono hCg.size)
                  have hMh := hMg.below hbh
                  have hxh := hxg.below hbh hxg.lt
                  have hb4 := hb3.trans (hbh.mono hb3.size)
                  clear O2 hbh hCg hMg hxg hb3
                  by_cases h14 : lw < 15
                  · have h14I : (lw : Int) < 15 := by omega
                    obtain ⟨wk, hwk⟩ : ∃ wk, wk = wh.alloc (.cells #[.int .i64 (i : Int)] 3) := ⟨_, rfl⟩
                    have hbk : Below wh.heap.size wh wk := by rw [hwk]; exact (Below.refl _ _).alloc (Nat.le_refl _) _
                    have hok : Own wk wh.heap.size wh.heap.size 1 [(i : Int)] := by rw [hwk]; exact Own.new _ (Nat.le_refl _)
                    have hxk := hxh.below hbk hxh.lt
                    have K1 := spec_ConcatWords_any gx 0 lw cx wh.heap.size 0 1 1 xl [(i : Int)] wk Hlw.out rfl (by rw [Hlw.out]; omega) (by simp) hxk.lt hok.lt hxk.cells hok.cells
                    have hl1 : (xl ++ [(i : Int)]).length = lw + 1 := by rw [List.length_append, Hlw.out]; rfl
                    rw [hwk] at K1
                    have K1 := Lib.hid K1; have Hl1 := Lib.hid hl1
                    clear hl1 hxk
                    go_wp2_with fail
                    refine K1.out.mono ?_
                    rintro e y1 ⟨gp, cp, rfl, hop, hbp⟩
                    rw [Hl1.out]
                    rw [← hwk] at hbp hop
                    have hbp' := hbk.trans (hbp.mono hbk.size)
                    have hCp := hCh.trans (hbp'.mono hCh.size)
                    have hMp := hMh.below hbp'
                    have hxp := hxh.below hbp' hxh.lt
                    have hb5 := hb4.trans (hbp'.mono hb4.size)
                    clear K1 hwk hbk hok hbp hbp' hCh hMh hxh hb4
                    obtain ⟨wl, hwl⟩ : ∃ wl, wl = y1.alloc (.cells #[.int .i64 (j : Int)] 3) := ⟨_, rfl⟩
                    have hbl : Below y1.heap.size y1 wl := by rw [hwl]; exact (Below.refl _ _).alloc (Nat.le_refl _) _
                    have hol : Own wl y1.heap.size y1.heap.size 1 [(j : Int)] := by rw [hwl]; exact Own.new _ (Nat.le_refl _)
                    have hxl := hxp.below hbl hxp.lt
                    have K2 := spec_ConcatWords_any y1.heap.size 0 1 1 gx 0 lw cx [(j : Int)] xl wl rfl Hlw.out (by simp) (by rw [Hlw.out]; omega) hol.lt hxl.lt hol.cells hxl.cells
                    have hl2 : ([(j : Int)] ++ xl).length = 1 + lw := by rw [List.length_append, Hlw.out]; rfl
                    rw [hwl] at K2
                    have K2 := Lib.hid K2; have Hl2 := Lib.hid hl2
                    clear hl2 hxl
                    go_wp2_with fail
                    refine K2.out.mono ?_
                    rintro e y2 ⟨gq, cq, rfl, hoq, hbq⟩
                    rw [Hl2.out]
                    rw [← hwl] at hbq hoq
                    have hbq' := hbl.trans (hbq.mono hbl.size)
                    have hCq := hCp.trans (hbq'.mono hCp.size)
                    have hMq := hMp.below hbq'
                    have hoPq := hop.below hbq' hop.lt
                    have hb6 := hb5.trans (hbq'.mono hb5.size)
                    have hWa := Hwd2.out.snoc (by rw [Hlw.out]; exact h14) hlt
                    have hWb := Hwd2.out.cons (by rw [Hlw.out]; exact h14) hj
                    have K3 := impl_AreSame_ok gd 0 D.length cd gp 0 (lw + 1) cp gq 0 (1 + lw) cq D (xl ++ [(i : Int)]) ([(j : Int)] ++ xl) y2 rfl Hl1.out Hl2.out hWa hWb hMq.lt hoPq.lt hoq.lt hMq.rows2 hoPq.cells hoq.cells
                    rw [decide_eq_true Himg.out] at K3
                    have K3 := Lib.hid K3
                    clear K2 hwl hbl hol hbq hbq' hCp hMp hxp hb5 hop hWa hWb hoPq hoq
                    go_wp2_with fail
                    refine K3.out.mono ?_
                    rintro e y3 ⟨rfl, hb7⟩
                    have hb8 := hb6.trans (hb7.mono hb6.size)
                    clear K3 hb7 hb6 hCq hMq
                    go_wp2_with fail
                    go_roundw
                    case rel => exact ⟨i + 1, by omega, by go_num, rfl, hb8⟩
                    case measure => simp [intOf]; omega
                  · have h14I : ¬ (lw : Int) < 15 := by omega
                    go_wp2_with fail
                    go_roundw
                    case rel => exact ⟨i + 1, by omega, by go_num, rfl, hb4⟩
                    case measure => simp [intOf]; omega
                · have hC7 := hC6.trans (hbr.mono hC6.size)
                  go_wp2_with fail
                  go_meet
                  exact ⟨rfl, hC7⟩
      case rest =>
        clear hC4 hMd4 hox4 Hlw Hwd Hds Hop Hpt Hpf Hbd
        obtain ⟨rfl, hC5⟩ := hcut
        have D3 := Lib.hid (spec_DrawOppositeLetter_any a n c _ hn (HC.out _ hC5))
        go_wp2_with fail
        refine D3.out.mono ?_
        rintro e y1 ⟨gq, cq, Q, i, rfl, hi, hMq, hb1⟩
        have hD1 := hC5.trans (hb1.mono hC5.size)
        have hQ5 := hMq.few
        have hMq := hMq.mono hC5.size
        clear D3 hb1 hC5
        have D4 := Lib.hid (spec_DrawIndexOfElement_any a n c y1 hn (HC.out y1 hD1))
        go_wp2_with fail
        refine D4.out.mono ?_
        rintro e y2 ⟨L, u, gl, cl, gu, cu, hL, hLr, hu, rfl, hgl, hgu, hRl, hCu, hb2⟩
        have hD2 := hD1.trans (hb2.mono hD1.size)
        have hMq2 := hMq.below hb2
        obtain ⟨nl, hnl⟩ : ∃ nl, L.length = nl := ⟨_, rfl⟩
        obtain ⟨nu, hnu⟩ : ∃ nu, u.length = nu := ⟨_, rfl⟩
        rw [hnl, hnu]
        have Hnl := Lib.hid hnl; have Hnu := Lib.hid hnu; have HLr := Lib.hid hLr
        have HRl := Lib.hid hRl; have HCu := Lib.hid hCu
        rw [hnl] at hL
        rw [hnu] at hu
        clear D4 hb2 hD1 hMq hnl hnu hLr hRl hCu
        have O1 := Lib.hid (impl_OppositeLetter_any gq 0 Q.length cq Q y2 rfl (by omega) hMq2.rl hMq2.lt hMq2.rows2 i)
        go_wp2_with fail
        refine O1.out.mono ?_
        rintro e y3 ⟨rfl, hb3⟩
        have hD3 := hD2.trans (hb3.mono hD2.size)
        have hMq3 := hMq2.below hb3
        have hRl3 := Lib.hid (HRl.out.below hb3 hgl)
        have hCu3 := Lib.hid (HCu.out.below hb3 hgu)
        have hgl3 := Nat.lt_of_lt_of_le hgl hb3.size
        have hgu3 := Nat.lt_of_lt_of_le hgu hb3.size
        clear O1 hb3 hD2 hMq2 HRl HCu hgl hgu
        have O2 := Lib.hid (spec_OppositeLetter_any gq 0 Q.length cq Q y3 rfl (by omega) hMq3.rl hMq3.lt hMq3.rows2 i (by omega))
        generalize oppA Q i = oz at *
        have do1 : (oz == oz) = true := by simp
        go_wp2_with fail
        refine O2.out.mono ?_
        rintro e y4 ⟨rfl, hb4⟩
        have hD4 := hD3.trans (hb4.mono hD3.size)
        have hRl4 := Lib.hid (hRl3.out.below hb4 hgl3)
        have hCu4 := Lib.hid (hCu3.out.below hb4 hgu3)
        have hgl4 := Nat.lt_of_lt_of_le hgl3 hb4.size
        have hgu4 := Nat.lt_of_lt_of_le hgu3 hb4.size
        clear O2 hb4 hD3 hMq3 hRl3 hCu3 hgl3 hgu3
        have I1 := Lib.hid (impl_IndexOf_any gl 0 nl cl gu 0 nu cu L u y4 Hnl.out Hnu.out (by rw [Hnu.out]; omega) (by rw [Hnl.out]; omega) (fun j hj => by have := HLr.out j hj; omega) hgl4 hgu4 hRl4.out hCu4.out)
        have I2 := Lib.hid (fun (W : World) (h1 : Rows2 W gl 0 L) (h2 : Cells W gu 0 u) => spec_IndexOf_any gl 0 nl cl gu 0 nu cu L u W Hnl.out Hnu.out (by rw [Hnl.out]; omega) (fun j hj => by have := HLr.out j hj; omega) h1 h2)
        generalize idxL L u = iz at *
        have di1 : (iz == iz) = true := by simp
        go_wp2_with fail
        refine I1.out.mono ?_
        rintro e y5 ⟨rfl, hb5⟩
        have hD5 := hD4.trans (hb5.mono hD4.size)
        have I2 := Lib.hid (I2.out y5 (hRl4.out.below hb5 hgl4) (hCu4.out.below hb5 hgu4))
        clear I1 hb5 hD4 hRl4 hCu4
        go_wp2_with fail
        refine I2.out.mono ?_
        rintro e y6 ⟨rfl, hs6⟩
        have hD6 := below_still hD5 hs6
        clear I2 hs6 hD5
        go_wp2_with fail
        go_ret
        exact ⟨rfl, hD6⟩
end Go.Proofs.YtldcmhgpppeooaaGreatDoor
