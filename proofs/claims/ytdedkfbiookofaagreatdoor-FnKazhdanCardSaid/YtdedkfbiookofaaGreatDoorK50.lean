/- The law FnKazhdan's walk. -/
import Derived.Test.YtdedkfbiookofaaGreatDoorK43
import Derived.Test.YtdedkfbiookofaaGreatDoorK48
import Derived.Test.YtdedkfbiookofaaGreatDoorK49
import Derived.Test.YtdedkfbiookofaaGreatDoorK02
import Derived.Test.YtdedkfbiookofaaGreatDoorK41
import Derived.Test.YtdedkfbiookofaaGreatDoorK42
import Derived.Test.YtdedkfbiookofaaGreatDoorK38
import Derived.Deep.CutRange
import Derived.Deep.CutBlock
namespace Go.Proofs.YtdedkfbiookofaaGreatDoor
set_option maxRecDepth 100000
open Go.RowKit Game
theorem kpL_len (c : List (List Int)) (a b : List Int) : (kpL c a b).length ≤ 1000 := by
  by_cases hk : kpB c a b = true
  · obtain ⟨h1, h2, h3⟩ := kpB_yes hk
    rw [show kpL c a b = klP c a b from if_pos hk, show klP c a b = (klRow c b).getD (ixK c a) [] from if_pos h1]
    exact row_few h1 h3 _
  · rw [show kpL c a b = [] from if_neg hk]; simp
theorem krL_few (c : List (List Int)) (b : List Int) : (krL c b).length ≤ 24 ∧ ∀ j, j < (krL c b).length → ((krL c b).getD j []).length ≤ 1048576 := by
  by_cases hk : krB c b = true
  · obtain ⟨h1, h2⟩ := krB_yes hk
    rw [show krL c b = klRow c b from if_pos hk]
    refine ⟨by rw [klRow_length]; exact (klOk_of h1).few, fun j _ => ?_⟩
    have := row_few h1 h2 j
    omega
  · rw [show krL c b = [] from if_neg hk]; simp
theorem btL_len (c : List (List Int)) (b : List Int) : (btL c b).length ≤ 1100 := by
  by_cases hk : krB c b = true
  · obtain ⟨h1, h2⟩ := krB_yes hk
    rw [show btL c b = btTo (elemL c) (klRow c b) (elemL c).length from if_pos hk]
    exact btTo_len (klOk_of h1).short (row_few h1 h2) _
  · rw [show btL c b = [] from if_neg hk]; simp
theorem btL_pal (c : List (List Int)) (b : List Int) : btL c b = (btL c b).reverse := by
  by_cases hk : krB c b = true
  · obtain ⟨h1, h2⟩ := krB_yes hk
    rw [show btL c b = btTo (elemL c) (klRow c b) (elemL c).length from if_pos hk, klRow_rows h1 h2]
    exact betti_pal h1 h2
  · rw [show btL c b = [] from if_neg hk]; rfl
theorem cbL_few (c : List (List Int)) (b : List Int) : (cbL c b).length ≤ 24 ∧ ∀ x ∈ cbL c b, x.1.length ≤ 1048576 ∧ x.2.length ≤ 1048576 := by
  by_cases hk : krB c b = true
  · obtain ⟨h1, h2⟩ := krB_yes hk
    rw [show cbL c b = cbTo (elemL c) (klRow c b) (elemL c).length from if_pos hk]
    refine ⟨Nat.le_trans (cbTo_len _) (klOk_of h1).few, fun x hx => ?_⟩
    obtain ⟨j, -, rfl⟩ := cbTo_mem _ x hx
    have q1 := (klOk_of h1).short j
    have q2 := row_few h1 h2 j
    unfold lenA at q1
    exact ⟨by show ((elemL c).getD j []).length ≤ _; omega, by show ((klRow c b).getD j []).length ≤ _; omega⟩
  · rw [show cbL c b = [] from if_neg hk]; simp
theorem elem_self' {c : List (List Int)} (hG : Grp c) {k : Nat} (hk : k < (elemL c).length) : nfI c ((elemL c).getD k []) = (elemL c).getD k [] := by
  obtain ⟨n, W, hW, e⟩ := (hG.mem ((elemL c).getD k [])).1 (by simp [List.getD, hk])
  rw [e]; exact nfI_of hW.nf
theorem barS_len (RT R : List (List (List Int))) (u v : Nat) : ∀ t, (barS RT R u v t).length ≤ 61
  | 0 => by simp [barS]
  | t + 1 => by
    rw [barS_succ]
    have ih := barS_len RT R u v t
    have h1 := addP_le (barS RT R u v t) (mul (pol RT u t) (pol R v t))
    have h2 := mul_length_le (pol RT u t) (pol R v t)
    omega
/-- one step of the sum that the bar of a polynomial is -/
theorem bar_step {c : List (List Int)} (hk : klB c = true) {a b : List Int} (hA : WordOk c a) (hB : WordOk c b) {i : Nat} (hi : i < (elemL c).length) :
    addP (barS (rTab c (elemL c)) (rowsS (elemL c) (leftT c)) (ixK c a) (ixK c b) i) (mul (rP c a ((elemL c).getD i [])) ((klRow c b).getD i [])) = barS (rTab c (elemL c)) (rowsS (elemL c) (leftT c)) (ixK c a) (ixK c b) (i + 1) := by
  have hG := klB_grp hk
  have hX := wordOk_of (elem_isWord hk hi)
  have hs := elem_self' hG hi
  have h10 : ((elemL c).getD i []).length ≤ 10 := by
    obtain ⟨n, W, -, e, h9, hW⟩ := elem_at (klB_few hk) hi
    rw [e, intsOf_length]; omega
  rw [barS_succ, ← rTab_at hk hA hi hX hs h10, klRow_rows hk hB]
  rfl
set_option maxHeartbeats 8000000 in
/-- the second half of the law: what both say at three more draws -/
theorem kazhdan_walk (a : Option Addr) (n c : Nat) (w : World) (hn : n ≤ 1048576) (hc0 : CodeV w w.heap.size a n) (hm : MaxL w) :
    Calls Tryz.prog 3 #[.slice a n c] w (Gives w (.bool true)) := by
  have hb := laws_big_any a n c w
  rw [decide_eq_false (show ¬ 1048576 < n by omega)] at hb
  have HC := Lib.hid (fun (W : World) (hb : Below w.heap.size w W) => (hc0.below hb).mono hb.size)
  have HM := Lib.hid (fun (W : World) (hb : Below w.heap.size w W) => hm.below hb)
  have Hb := Lib.hid hb
  clear hc0 hm hb
  go_enter Tryz.func3, Tryz.ntmps3
  go_wp2_with fail
  refine Hb.out.mono ?_
  rintro e w1 ⟨rfl, hs1⟩
  have hB1 := below_still (Below.refl w.heap.size w) hs1
  clear hs1
  have D1 := Lib.hid (spec_DrawKLPolynomial_any a n c w1 hn (HC.out w1 hB1))
  go_wp2_with fail
  refine D1.out.mono ?_
  rintro e w2 ⟨gR, cR, gu, cu, gv, cv, R, u, v, rfl, hM2, hu2, hv2, hl2, hb2⟩
  have hB2 := hB1.trans (hb2.mono hB1.size)
  have hR5 := hM2.few
  have HM2 := Lib.hid hM2; have Hu2 := Lib.hid hu2; have Hv2 := Lib.hid hv2
  have A1 := Lib.hid (impl_KLPolynomial_gen gR 0 R.length cR (Value.slice (some ⟨gu, 0, none⟩) u.length cu) (Value.slice (some ⟨gv, 0, none⟩) v.length cv) R u v w2 rfl (by omega) hM2.rl hM2.lt hM2.rows2 (WordV.of rfl rfl (by omega) hM2.rl (by omega) hM2.lt hu2.lt hM2.rows2 hu2.cells) (WordV.of rfl rfl (by omega) hM2.rl (by omega) hM2.lt hv2.lt hM2.rows2 hv2.cells) (HM.out _ hB2))
  have A2 := Lib.hid (fun (W : World) (h : Below w2.heap.size w2 W) => spec_KLPolynomial_any gR 0 R.length cR gu 0 u.length cu gv 0 v.length cv R u v W rfl rfl rfl (by omega) HM2.out.rl (by omega) (by omega) (Nat.lt_of_lt_of_le HM2.out.lt h.size) (Nat.lt_of_lt_of_le Hu2.out.lt h.size) (Nat.lt_of_lt_of_le Hv2.out.lt h.size) (HM2.out.below h).rows2 (Hu2.out.below h Hu2.out.lt).cells (Hv2.out.below h Hv2.out.lt).cells)
  have hql := kpL_len R u v
  obtain ⟨nu, hnu⟩ : ∃ m, u.length = m := ⟨_, rfl⟩
  obtain ⟨nv, hnv⟩ : ∃ m, v.length = m := ⟨_, rfl⟩
  obtain ⟨nR, hnR⟩ : ∃ m, R.length = m := ⟨_, rfl⟩
  obtain ⟨nq, hnq⟩ : ∃ m, (kpL R u v).length = m := ⟨_, rfl⟩
  obtain ⟨kb, hkb⟩ : ∃ b, kpB R u v = b := ⟨_, rfl⟩
  have Hnq := Lib.hid hnq; have Hkb := Lib.hid hkb
  have S1 := Lib.hid (fun (W : World) (g1 c1 g2 c2 : Nat) (h1 : Cells W g1 0 (kpL R u v)) (h2 : Cells W g2 0 (kpL R u v)) => laws_sameInts_same g1 0 nq c1 g2 0 nq c2 (kpL R u v) W hnq hnq (by omega) h1 h2)
  rw [hkb] at A1 A2
  rw [hnu, hnv, hnR] at A1 A2 ⊢
  rw [hnq] at hql
  have Hnu := Lib.hid hnu; have Hnv := Lib.hid hnv; have HnR := Lib.hid hnR
  rw [hnR] at hR5
  rw [hnu, hnv] at hl2
  obtain ⟨hl2a, hl2b⟩ := hl2
  clear D1 hb2 hM2 hu2 hv2 hB1 hnu hnv hnR hnq hkb
  have d1 : (kb != kb) = false := by simp
  go_wp2_with fail
  refine A1.out.mono ?_
  rintro e w3 ⟨g3, c3, rfl, ho3, hb3⟩
  rw [Hnq.out]
  have A2' := Lib.hid (A2.out w3 hb3)
  clear A1 A2
  go_wp2_with fail
  refine A2'.out.mono ?_
  rintro e w4 ⟨g4, c4, rfl, ho4, hb4⟩
  rw [Hnq.out]
  have hb24 := hb3.trans (hb4.mono hb3.size)
  have S1' := Lib.hid (S1.out w4 g3 c3 g4 c4 (ho3.below hb4 ho3.lt).cells ho4.cells)
  have ho4' := ho4.mono hb3.size
  clear A2' ho3 hb3 hb4 ho4
  go_wp2_with fail
  refine S1'.out.mono ?_
  rintro e w5 ⟨rfl, hs5⟩
  have hb25 := below_still hb24 hs5
  have ho5 := ho4'.still hs5
  have hB5 := hB2.trans (hb25.mono hB2.size)
  clear S1' hs5 hb24 ho4' d1
  have Ho5 := Lib.hid ho5
  clear ho5
  go_upto_if 77 with fail
  go_cut [2, 10, 11, 12, 13, 14, 15, 16, 17, 18, 19, 20, 21, 22, 23] from 78 to 200 (fun rv _ _ _ _ _ _ _ _ _ _ _ _ _ _ wx => rv = .bool false ∧ Below w.heap.size w wx)
  case first =>
    cases kb with
    | false =>
      go_wp2_with fail
      go_meet
      exact ⟨rfl, hB5⟩
    | true =>
      obtain ⟨hk, hA, hB⟩ := kpB_yes Hkb.out
      have hqk : kpL R u v = klP R u v := if_pos Hkb.out
      rw [hqk] at Ho5 Hnq S1
      have hG := klB_grp hk
      have HL1 := Lib.hid (fun (W : World) (h : Below w2.heap.size w2 W) => spec_LengthOf_ok gR 0 nR cR gu 0 nu cu R u W HnR.out Hnu.out hA (Nat.lt_of_lt_of_le HM2.out.lt h.size) (Nat.lt_of_lt_of_le Hu2.out.lt h.size) (HM2.out.below h).rows2 (Hu2.out.below h Hu2.out.lt).cells)
      have HL2 := Lib.hid (fun (W : World) (h : Below w2.heap.size w2 W) => spec_LengthOf_ok gR 0 nR cR gv 0 nv cv R v W HnR.out Hnv.out hB (Nat.lt_of_lt_of_le HM2.out.lt h.size) (Nat.lt_of_lt_of_le Hv2.out.lt h.size) (HM2.out.below h).rows2 (Hv2.out.below h Hv2.out.lt).cells)
      have HBr := Lib.hid (fun (W : World) (h : Below w2.heap.size w2 W) => spec_IsBruhatBelow_ok gR 0 nR cR gu 0 nu cu gv 0 nv cv R u v W HnR.out Hnu.out Hnv.out hA hB (Nat.lt_of_lt_of_le HM2.out.lt h.size) (Nat.lt_of_lt_of_le Hu2.out.lt h.size) (Nat.lt_of_lt_of_le Hv2.out.lt h.size) (HM2.out.below h).rows2 (Hu2.out.below h Hu2.out.lt).cells (Hv2.out.below h Hv2.out.lt).cells)
      have hx1 := (nw_nf hA).lets.few
      have hx2 := (nw_nf hB).lets.few
      have hkh := kh_at hk hA hB
      have HK := Lib.hid (show decide (klP R u v = []) = !bruB R u v from hkh.below)
      have Hone := Lib.hid hkh.one
      have Hdeg := Lib.hid hkh.deg
      have Hpos := Lib.hid hkh.pos
      have Hfew := Lib.hid hkh.few
      have Hbar := Lib.hid hkh.bar
      generalize bruB R u v = bl at *
      obtain ⟨x1, hx1e⟩ : ∃ x, (nfI R u).length = x := ⟨_, rfl⟩
      obtain ⟨x2, hx2e⟩ : ∃ x, (nfI R v).length = x := ⟨_, rfl⟩
      rw [hx1e] at HL1 hx1 Hdeg Hfew Hbar
      rw [hx2e] at HL2 hx2 Hdeg Hfew Hbar
      clear hx1e hx2e hkh hqk
      go_wp2_with fail
      refine (HL2.out w5 hb25).mono ?_
      rintro e w6 ⟨rfl, hb6⟩
      have hb26 := hb25.trans (hb6.mono hb25.size)
      go_wp2_with fail
      refine (HL1.out w6 hb26).mono ?_
      rintro e w7 ⟨rfl, hb7⟩
      have hb27 := hb26.trans (hb7.mono hb26.size)
      have Ho7 := Lib.hid (((Ho5.out).below hb6 Ho5.out.lt).below hb7 (Nat.lt_of_lt_of_le Ho5.out.lt hb6.size))
      clear hb6 hb7 hb25 hb26
      go_upto_region 10 with fail
      go_cut [116] from 85 to 116 (fun bv wx => bv = .bool false ∧ Below w7.heap.size w7 wx)
      case first =>
        by_cases h0 : nq = 0
        · have hbf : bl = false := by
            have e := List.length_eq_zero_iff.1 (Hnq.out.trans h0)
            have := HK.out
            rw [decide_eq_true e] at this
            simpa using this.symm
          subst h0; subst hbf
          go_wp2_with fail
          refine (HBr.out w7 hb27).mono ?_
          rintro e w8 ⟨rfl, hb8⟩
          go_wp2_with fail
          go_meet
          exact ⟨rfl, hb8⟩
        · have hne : klP R u v ≠ [] := fun e => h0 (by rw [← Hnq.out, e]; rfl)
          have hbt : bl = true := by
            have := HK.out
            rw [decide_eq_false hne] at this
            simpa using this.symm
          subst hbt
          have hq0 : 0 < nq := by omega
          have c0 := Ho7.out.cell 0 (by rw [Hnq.out]; exact hq0)
          rw [Hone.out hne] at c0
          have hdg := Hdeg.out hne
          rw [Hnq.out] at hdg
          have Hne := Lib.hid hne
          clear hne
          go_wp2_with fail
          refine (HBr.out w7 hb27).mono ?_
          rintro e w8 ⟨rfl, hb8⟩
          have c1 := (hb8.cell (p := ⟨g4, 0, none⟩) Ho7.out.lt).trans c0
          clear c0
          by_cases hd : (x1 : Int) < (x2 : Int)
          · have hd2 : ¬ ((x2 : Int) - (x1 : Int) - 1 < 2 * ((nq : Int) - 1)) := by omega
            go_wp2_with fail
            go_meet
            exact ⟨by first | (simp; done) | (simp; omega), hb8⟩
          · go_wp2_with fail
            go_meet
            exact ⟨by first | (simp; done) | (simp; omega), hb8⟩
      case rest =>
        obtain ⟨rfl, hb8⟩ := hcut
        have hb28 := hb27.trans (hb8.mono hb27.size)
        have Ho8 := Lib.hid (Ho7.out.below hb8 Ho7.out.lt)
        clear hb27 hb8 HL1 HL2 HBr
        obtain ⟨w8, hw8⟩ : ∃ w8, w8 = wc := ⟨_, rfl⟩
        rw [← hw8] at hb28 Ho8 ⊢
        clear hw8
        go_wp2_with fail
        go_loopw [2, 11] (fun rv iv wr => ∃ i : Nat, i ≤ nq ∧ iv = .int .i64 (i : Nat) ∧ rv = .bool false ∧ wr = w8) (fun _ iv _ => nq - (intOf iv).toNat)
        case atStart => exact ⟨0, Nat.zero_le _, rfl, rfl, rfl⟩
        case round =>
          obtain ⟨i, hi, rfl, rfl, rfl⟩ := hrel
          by_cases hlt : i < nq
          · have c0 := Ho8.out.cell i (by rw [Hnq.out]; exact hlt)
            have hp := Hpos.out ((klP R u v).getD i 0) (by
              have : i < (klP R u v).length := by rw [Hnq.out]; exact hlt
              simp [List.getD, this])
            generalize (klP R u v).getD i 0 = z at *
            have hp0 : ¬ z < 0 := by omega
            go_wp2_with fail
            go_roundw
            case rel => exact ⟨i + 1, by omega, by go_num, by first | rfl | trivial, by first | rfl | trivial⟩
            case measure => simp [intOf]; omega
          · obtain rfl : i = nq := by omega
            have HR1 := Lib.hid (fun (W : World) (h : Below w2.heap.size w2 W) => spec_ReverseWord_any gu 0 nu cu u W Hnu.out (by rw [Hnu.out]; omega) (Nat.lt_of_lt_of_le Hu2.out.lt h.size) (Hu2.out.below h Hu2.out.lt).cells)
            have HR2 := Lib.hid (fun (W : World) (h : Below w2.heap.size w2 W) => spec_ReverseWord_any gv 0 nv cv v W Hnv.out (by rw [Hnv.out]; omega) (Nat.lt_of_lt_of_le Hv2.out.lt h.size) (Hv2.out.below h Hv2.out.lt).cells)
            have hru : u.reverse.length = nu := by rw [List.length_reverse]; exact Hnu.out
            have hrv : v.reverse.length = nv := by rw [List.length_reverse]; exact Hnv.out
            have hkr : kpB R u.reverse v.reverse = true := by unfold kpB krB; rw [hk, (wordOk_rev hA).isWord, (wordOk_rev hB).isWord]; rfl
            have hpr : kpL R u.reverse v.reverse = klP R u v := by rw [show kpL R u.reverse v.reverse = klP R u.reverse v.reverse from if_pos hkr, klP_rev hk hA hB]
            have KR := Lib.hid (fun (W : World) (h : Below w2.heap.size w2 W) (ga ca gb cb B1 B2 : Nat) (h1 : Own W B1 ga ca u.reverse) (h2 : Own W B2 gb cb v.reverse) => by
              have hMW := HM2.out.below h
              have := impl_KLPolynomial_gen gR 0 nR cR (Value.slice (some ⟨ga, 0, none⟩) nu ca) (Value.slice (some ⟨gb, 0, none⟩) nv cb) R u.reverse v.reverse W HnR.out (by rw [HnR.out]; omega) hMW.rl hMW.lt hMW.rows2 (WordV.of HnR.out hru (by rw [HnR.out]; omega) hMW.rl (by rw [hru]; omega) hMW.lt h1.lt hMW.rows2 h1.cells) (WordV.of HnR.out hrv (by rw [HnR.out]; omega) hMW.rl (by rw [hrv]; omega) hMW.lt h2.lt hMW.rows2 h2.cells) (HM.out _ (hB2.trans (h.mono hB2.size)))
              rw [hkr, hpr] at this
              exact this)
            have Hru := Lib.hid hru; have Hrv := Lib.hid hrv
            clear hkr hpr hru hrv
            go_wp2_with fail
            refine (HR1.out _ hb28).mono ?_
            rintro e w9 ⟨g9, c9, rfl, ho9, hb9⟩
            rw [Hru.out]
            have hb29 := hb28.trans (hb9.mono hb28.size)
            go_wp2_with fail
            refine (HR2.out _ hb29).mono ?_
            rintro e w10 ⟨g10, c10, rfl, ho10, hb10⟩
            rw [Hrv.out]
            have hb210 := hb29.trans (hb10.mono hb29.size)
            have KR' := Lib.hid (KR.out w10 hb210 g9 c9 g10 c10 _ _ (ho9.below hb10 ho9.lt) ho10)
            have Ho10 := Lib.hid ((Ho8.out.below hb9 Ho8.out.lt).below hb10 (Nat.lt_of_lt_of_le Ho8.out.lt hb9.size))
            clear hb9 hb10 ho9 ho10 KR HR1 HR2 hb28 hb29
            go_wp2_with fail
            refine KR'.out.mono ?_
            rintro e w11 ⟨g11, c11, rfl, ho11, hb11⟩
            rw [Hnq.out]
            have hb211 := hb210.trans (hb11.mono hb210.size)
            have Ho11 := Lib.hid (Ho10.out.below hb11 Ho10.out.lt)
            have S2 := Lib.hid (S1.out w11 g11 c11 g4 c4 ho11.cells Ho11.out.cells)
            clear hb11 KR' hb210 ho11
            go_wp2_with fail
            refine S2.out.mono ?_
            rintro e w12 ⟨rfl, hs12⟩
            have hb212 := below_still hb211 hs12
            have Ho12 := Lib.hid (Ho11.out.still hs12)
            clear hs12 hb211 S2
            obtain ⟨w13, hw13⟩ : ∃ w13, w13 = w12.alloc (.cells #[] 3) := ⟨_, rfl⟩
            have hb13 : Below w12.heap.size w12 w13 := by rw [hw13]; exact (Below.refl _ _).alloc (Nat.le_refl _) _
            have hsum : Own w13 w12.heap.size w12.heap.size 0 [] := by rw [hw13]; exact Own.empty (Nat.le_refl _)
            have hb213 := hb212.trans (hb13.mono hb212.size)
            have Ho13 := Lib.hid (Ho12.out.below hb13 Ho12.out.lt)
            have EE := Lib.hid (spec_ElementsOf_any gR 0 nR cR R w13 HnR.out (by rw [HnR.out]; omega) HM2.out.rl (Nat.lt_of_lt_of_le HM2.out.lt hb213.size) (HM2.out.below hb213).rows2)
            rw [(klB_elA hk).1, (klB_elA hk).2] at EE
            have Hsum := Lib.hid hsum
            rw [hw13] at EE
            have Hw13 := Lib.hid hw13
            clear hsum hb212 Ho12 Ho11 Ho10 hw13
            go_wp2_with fail
            refine EE.out.mono ?_
            rw [← Hw13.out]
            rintro e w14 ⟨g14, c14, rs14, rfl, hc14, hO14, hb14⟩
            have hb214 := hb213.trans (hb14.mono hb213.size)
            have Ho14 := Lib.hid (Ho13.out.below hb14 Ho13.out.lt)
            have Hsum14 := Lib.hid (Hsum.out.below hb14 Hsum.out.lt)
            have hL14 : Rows2 w14 g14 0 (elemL R) := by rw [← hc14]; exact hO14.rows2
            have hg14 := hO14.1.lt
            have KRo := Lib.hid (spec_KLRow_any gR 0 nR cR gv 0 nv cv R v w14 HnR.out Hnv.out (by rw [HnR.out]; omega) HM2.out.rl (by rw [Hnv.out]; omega) (Nat.lt_of_lt_of_le HM2.out.lt hb214.size) (Nat.lt_of_lt_of_le Hv2.out.lt hb214.size) (HM2.out.below hb214).rows2 (Hv2.out.below hb214 Hv2.out.lt).cells)
            have hkrb : krB R v = true := by unfold krB; rw [hk, hB.isWord]; rfl
            rw [hkrb, show krL R v = klRow R v from if_pos hkrb] at KRo
            have hrlen := klRow_length (c := R) (b := v)
            have hN24 := (klOk_of hk).few
            obtain ⟨N, hN⟩ : ∃ N, (elemL R).length = N := ⟨_, rfl⟩
            rw [hN] at hrlen hN24 ⊢
            have HN := Lib.hid hN; have Hrl := Lib.hid hrlen
            have HL14 := Lib.hid hL14
            clear hc14 hO14 hb14 EE hb213 Ho13 Hsum Hw13 hb13 hkrb hN hrlen hL14
            go_wp2_with fail
            refine KRo.out.mono ?_
            rintro e w15 ⟨g15, c15, rfl, hg15, hr15, hb15⟩
            rw [Hrl.out]
            have hb215 := hb214.trans (hb15.mono hb214.size)
            have Ho15 := Lib.hid (Ho14.out.below hb15 Ho14.out.lt)
            have hsum15 := Hsum14.out.below hb15 Hsum14.out.lt
            have HL15 := Lib.hid (HL14.out.below hb15 hg14)
            have hg14' := Nat.lt_of_lt_of_le hg14 hb15.size
            have HR15 := Lib.hid hr15
            have HB25 := Lib.hid hb215
            have Hst := Lib.hid (fun (i : Nat) (hi : i < N) => bar_step hk hA hB (i := i) (by rw [HN.out]; exact hi))
            have Hwd := Lib.hid (fun (i : Nat) (hi : i < N) => wordOk_of (elem_isWord hk (k := i) (by rw [HN.out]; exact hi)))
            have Hel := Lib.hid (fun (i : Nat) => (klOk_of hk).short i)
            have Hrw := Lib.hid (fun (i : Nat) => row_few hk hB i)
            have Hbl := Lib.hid (fun (i : Nat) => barS_len (rTab R (elemL R)) (rowsS (elemL R) (leftT R)) (ixK R u) (ixK R v) i)
            have HRP := Lib.hid (fun (i : Nat) (hi : i < N) (W : World) (h : Below w2.heap.size w2 W) (gb ob cb : Nat) (hgb : gb < W.heap.size) (hcb : Cells W gb ob ((elemL R).getD i [])) => spec_RPolynomial_ok gR 0 nR cR gu 0 nu cu gb ob ((elemL R).getD i []).length cb R u ((elemL R).getD i []) W HnR.out Hnu.out rfl hA (Hwd.out i hi) (Nat.lt_of_lt_of_le HM2.out.lt h.size) (Nat.lt_of_lt_of_le Hu2.out.lt h.size) hgb (HM2.out.below h).rows2 (Hu2.out.below h Hu2.out.lt).cells hcb)
            have Hrpl := Lib.hid (fun (i : Nat) (hi : i < N) => show (rP R u ((elemL R).getD i [])).length ≤ 1000 by
              have h1 := rS_le R (nfI R ((elemL R).getD i [])) (nfI R u)
              have h2 := (nw_nf (Hwd.out i hi)).lets.few
              unfold rP
              split
              · omega
              · simp)
            have hz0 : Hid (barS (rTab R (elemL R)) (rowsS (elemL R) (leftT R)) (ixK R u) (ixK R v) 0 = []) := Lib.hid rfl
            rw [HN.out] at Hbar
            generalize barS (rTab R (elemL R)) (rowsS (elemL R) (leftT R)) (ixK R u) (ixK R v) = bS at *
            generalize klRow R v = row at *
            generalize elemL R = L at *
            clear hb15 hb214 Ho14 Hsum14 hg14 HL14 hr15 KRo hb215
            obtain ⟨E, hE⟩ : ∃ E, w12.heap.size = E := ⟨_, rfl⟩
            rw [hE] at hsum15
            have HE := Lib.hid hE
            have hEw : E ≤ w15.heap.size := by have := hsum15.base; have := hsum15.lt; omega
            clear hE
            go_wp2_with fail
            go_loopw [14, 19] (fun pv iv wr => ∃ (i g c : Nat), i ≤ N ∧ iv = .int .i64 (i : Nat) ∧ pv = (Value.slice (some ⟨g, 0, none⟩) ((bS i).length) c) ∧ Own wr E g c (bS i) ∧ Below w15.heap.size w15 wr) (fun _ iv _ => N - (intOf iv).toNat)
            case atStart => exact ⟨0, E, 0, Nat.zero_le _, rfl, by rw [hz0.out, HE.out]; rfl, by rw [hz0.out]; exact hsum15, Below.refl _ _⟩
            case round =>
              clear hsum15
              obtain ⟨j, g, cp, hj, rfl, rfl, ho, hb⟩ := hrel
              by_cases hlt : j < N
              · obtain ⟨ga, oa, ca, a1, a2, a3, a4⟩ := (HR15.out.below hb hg15) j (by rw [Hrl.out]; exact hlt)
                obtain ⟨gb, ob, cb, b1, b2, b3, b4⟩ := (HL15.out.below hb hg14') j (by rw [HN.out]; exact hlt)
                rw [Nat.zero_add] at a1 b1
                have hBW := HB25.out.trans (hb.mono HB25.out.size)
                have hst := Hst.out j hlt
                have hRP := HRP.out j hlt wr hBW gb ob cb b3 b4
                have hA1 := Hrpl.out j hlt
                have hp1 := Hrw.out j
                have he1 := Hel.out j
                have hbl := Hbl.out j
                unfold lenA at he1
                generalize rP R u (L.getD j []) = A at *
                generalize rOk R u (L.getD j []) = okb at *
                generalize L.getD j [] = e1 at *
                generalize row.getD j [] = p1 at *
                have hgl := ho.lt
                have KMu := Lib.hid (fun (W : World) (gA cA B : Nat) (h : Below wr.heap.size wr W) (hA : Own W B gA cA A) => show Calls Tryz.prog 17 #[(Value.slice (some ⟨gA, 0, none⟩) A.length cA), (Value.slice (some ⟨ga, oa, none⟩) p1.length ca)] W (GotInts W (mul A p1)) from spec_MulPoly_any gA 0 A.length cA ga oa p1.length ca A p1 W rfl rfl (by omega) (by omega) hA.lt (Nat.lt_of_lt_of_le a3 h.size) hA.cells (a4.below h a3))
                have hml := mul_length_le A p1
                have KAd := Lib.hid (fun (W : World) (gM cM B : Nat) (h : Below wr.heap.size wr W) (hM : Own W B gM cM (mul A p1)) => show Calls Tryz.prog 16 #[(Value.slice (some ⟨g, 0, none⟩) ((bS j).length) cp), (Value.slice (some ⟨gM, 0, none⟩) ((mul A p1).length) cM)] W (GotInts W (addP (bS j) (mul A p1))) from spec_AddPoly_any g 0 (bS j).length cp gM 0 (mul A p1).length cM (bS j) (mul A p1) W rfl rfl (by omega) (by omega) (Nat.lt_of_lt_of_le hgl h.size) hM.lt (ho.below h hgl).cells hM.cells)
                rw [hst] at KAd
                generalize mul A p1 = M at *
                have HRPh := Lib.hid hRP
                have hEr : E ≤ wr.heap.size := Nat.le_trans hEw hb.size
                have a1h := Lib.hid (fun (W : World) (h : Below wr.heap.size wr W) => (h.cell (p := ⟨g15, j, none⟩) (Nat.lt_of_lt_of_le hg15 hb.size)).trans a1)
                have hjI : (j : Int) < (N : Int) := by omega
                clear hst hRP a2 b2 b3 b4 hBW ho hml a3 a4 hA1 hp1 he1 hbl
                go_wp2_with fail
                refine HRPh.out.mono ?_
                rintro e wA ⟨gA, cA, rfl, hoA, hbA⟩
                have a1A := a1h.out wA hbA
                clear a1 b1
                go_wp2_with fail
                refine (KMu.out wA gA cA _ hbA hoA).mono ?_
                rintro e wM ⟨gM, cM, rfl, hoM, hbM⟩
                have hXM := hbA.trans (hbM.mono hbA.size)
                clear a1A
                go_wp2_with fail
                refine (KAd.out wM gM cM _ hXM hoM).mono ?_
                rintro e wS ⟨gS, cS, rfl, hoS, hbS⟩
                have hXS := hXM.trans (hbS.mono hXM.size)
                have hoS' : Own wS E gS cS (bS (j + 1)) := hoS.mono (Nat.le_trans hEr hXM.size)
                have hbS' : Below w15.heap.size w15 wS := hb.trans (hXS.mono hb.size)
                clear hoS hbS hXS hoM hbM hXM hoA hbA hb KMu KAd HRPh a1h
                go_wp2_with fail
                go_roundw
                case rel => exact ⟨j + 1, gS, cS, by omega, by go_num, rfl, hoS', hbS'⟩
                case measure => simp [intOf]; omega
              · obtain rfl : j = N := by omega
                have hBW := HB25.out.trans (hb.mono HB25.out.size)
                have hq := Ho15.out.below hb Ho15.out.lt
                have hql2 : i ≤ x2 - x1 + 1 := by
                  by_cases h0 : i = 0
                  · omega
                  · have hne : klP R u v ≠ [] := fun e => h0 (by rw [← Hnq.out, e]; rfl)
                    have := Hfew.out hne
                    rw [Hnq.out] at this
                    exact this
                obtain ⟨d, hd⟩ : ∃ d, x2 - x1 = d := ⟨_, rfl⟩
                have RVp := Lib.hid (spec_ReversePoly_ok g4 0 i c4 d (klP R u v) wr Hnq.out (by rw [Hnq.out]; omega) (by have := hq.capLe; rw [Hnq.out] at this; exact this) (by omega) (by rw [Hnq.out]; omega) hq.lt hq.cells)
                have hmax : max ((x2 : Int) - (x1 : Int)) 0 = (d : Int) := by omega
                rw [hd] at Hbar
                have Hmax := Lib.hid hmax
                have hbl := Hbl.out j
                clear hd hq hmax hql2
                go_wp2_with fail
                rw [Hmax.out]
                refine RVp.out.mono ?_
                rintro e wB ⟨gB, cB, rfl, hoB, hbB⟩
                have hBW2 := hBW.trans (hbB.mono hBW.size)
                have hwB := hB2.trans (hBW2.mono hB2.size)
                have hoS := ho.below hbB ho.lt
                by_cases h0 : i = 0
                · generalize revL (klP R u v) d = X at *
                  subst h0
                  clear ho hoB hoS hbB hBW hBW2
                  go_wp2_with fail
                  go_meet
                  exact ⟨rfl, hwB⟩
                · have hne : klP R u v ≠ [] := fun e => h0 (by rw [← Hnq.out, e]; rfl)
                  rw [← Hbar.out hne] at hoB ⊢
                  have hi0 : 0 < i := by omega
                  obtain ⟨mb, hmb⟩ : ∃ m, (bS j).length = m := ⟨_, rfl⟩
                  have S3 := Lib.hid (laws_sameInts_same gB 0 mb cB g 0 mb cp (bS j) wB hmb hmb (by omega) hoB.cells hoS.cells)
                  rw [hmb]
                  clear ho hoB hoS hbB hBW hBW2 hmb hne
                  go_wp2_with fail
                  refine S3.out.mono ?_
                  rintro e wC ⟨rfl, hsC⟩
                  have hwC := below_still hwB hsC
                  go_wp2_with fail
                  go_meet
                  exact ⟨rfl, hwC⟩
  case rest =>
    obtain ⟨rfl, hB6⟩ := hcut
    obtain ⟨v0, hv0⟩ : ∃ v0, v0 = wc := ⟨_, rfl⟩
    rw [← hv0] at hB6 ⊢
    clear hv0 HM2 Hu2 Hv2 hB2 hB5 Ho5 S1 Hnq Hkb Hnu Hnv HnR hb25
    have D2 := Lib.hid (spec_DrawMuOf_any a n c v0 hn (HC.out v0 hB6))
    go_wp2_with fail
    refine D2.out.mono ?_
    rintro e v1 ⟨gD, cD, ga, ca, gb, cb, D, x, y, rfl, hM, hx, hy, hl, hb1⟩
    have hC1 := hB6.trans (hb1.mono hB6.size)
    have hD5 := hM.few
    have HMD := Lib.hid hM; have Hx := Lib.hid hx; have Hy := Lib.hid hy
    have A1 := Lib.hid (impl_MuOf_gen gD 0 D.length cD (Value.slice (some ⟨ga, 0, none⟩) x.length ca) (Value.slice (some ⟨gb, 0, none⟩) y.length cb) D x y v1 rfl (by omega) hM.rl hM.lt hM.rows2 (WordV.of rfl rfl (by omega) hM.rl (by omega) hM.lt hx.lt hM.rows2 hx.cells) (WordV.of rfl rfl (by omega) hM.rl (by omega) hM.lt hy.lt hM.rows2 hy.cells) (HM.out _ hC1))
    have A2 := Lib.hid (fun (W : World) (h : Below v1.heap.size v1 W) => spec_MuOf_any gD 0 D.length cD ga 0 x.length ca gb 0 y.length cb D x y W rfl rfl rfl (by omega) HMD.out.rl (by omega) (by omega) (Nat.lt_of_lt_of_le HMD.out.lt h.size) (Nat.lt_of_lt_of_le Hx.out.lt h.size) (Nat.lt_of_lt_of_le Hy.out.lt h.size) (HMD.out.below h).rows2 (Hx.out.below h Hx.out.lt).cells (Hy.out.below h Hy.out.lt).cells)
    generalize kpB D x y = kb1 at *
    generalize muL D x y = mu1 at *
    clear D2 hM hx hy hb1 hB6
    go_wp2_with fail
    refine A1.out.mono ?_
    rintro e v2 ⟨rfl, hb2⟩
    have hC2 := hC1.trans (hb2.mono hC1.size)
    have A2' := Lib.hid (A2.out v2 hb2)
    clear A1 A2 hb2
    go_wp2_with fail
    refine A2'.out.mono ?_
    rintro e v3 ⟨rfl, hb3⟩
    have hC3 := hC2.trans (hb3.mono hC2.size)
    clear A2' hb3 hC1 hC2 HMD Hx Hy
    have D3 := Lib.hid (spec_DrawKLRow_any a n c v3 hn (HC.out v3 hC3))
    go_wp2_with fail
    refine D3.out.mono ?_
    rintro e v4 ⟨gF, cF, gd, cd, F, z, rfl, hM, hz, hlz, hb4⟩
    have hC4 := hC3.trans (hb4.mono hC3.size)
    have hF5 := hM.few
    have HMF := Lib.hid hM; have Hz := Lib.hid hz
    have A3 := Lib.hid (impl_KLRow_gen gF 0 F.length cF (Value.slice (some ⟨gd, 0, none⟩) z.length cd) F z v4 rfl (by omega) hM.rl hM.lt hM.rows2 (WordV.of rfl rfl (by omega) hM.rl (by omega) hM.lt hz.lt hM.rows2 hz.cells) (HM.out _ hC4))
    have A4 := Lib.hid (fun (W : World) (h : Below v4.heap.size v4 W) => spec_KLRow_any gF 0 F.length cF gd 0 z.length cd F z W rfl rfl (by omega) HMF.out.rl (by omega) (Nat.lt_of_lt_of_le HMF.out.lt h.size) (Nat.lt_of_lt_of_le Hz.out.lt h.size) (HMF.out.below h).rows2 (Hz.out.below h Hz.out.lt).cells)
    have hrf := krL_few F z
    generalize krB F z = kb2 at *
    generalize krL F z = rw1 at *
    obtain ⟨n1, hn1⟩ : ∃ m, rw1.length = m := ⟨_, rfl⟩
    have SW := Lib.hid (fun (W : World) (g1 c1 g2 c2 : Nat) (h1 : Rows2 W g1 0 rw1) (h2 : Rows2 W g2 0 rw1) => laws_sameWords_same g1 0 n1 c1 g2 0 n1 c2 rw1 W hn1 hn1 (by omega) hrf.2 h1 h2)
    have Hn1 := Lib.hid hn1
    clear D3 hM hz hb4 hrf hn1
    go_wp2_with fail
    refine A3.out.mono ?_
    rintro e v5 ⟨g5, c5, rs5, rfl, hc5, hO5, hb5⟩
    rw [Hn1.out]
    have hC5 := hC4.trans (hb5.mono hC4.size)
    have hX5 : Rows2 v5 g5 0 rw1 := by rw [← hc5]; exact hO5.rows2
    have hg5 := hO5.1.lt
    have A4' := Lib.hid (A4.out v5 hb5)
    clear A3 A4 hc5 hO5 hb5
    go_wp2_with fail
    refine A4'.out.mono ?_
    rintro e v6 ⟨g6, c6, rfl, hg6, hY6, hb6⟩
    rw [Hn1.out]
    have hC6 := hC5.trans (hb6.mono hC5.size)
    have HX6 := Lib.hid (fun (W : World) (h : Below v6.heap.size v6 W) => (⟨((hX5.below hb6 hg5).below h (Nat.lt_of_lt_of_le hg5 hb6.size)), hY6.below h hg6⟩ : Rows2 W g5 0 rw1 ∧ Rows2 W g6 0 rw1))
    clear A4' hb6 hX5 hg5 hY6 hg6 hC4 hC5 HMF Hz
    have D4 := Lib.hid (spec_DrawCanonicalBasis_any a n c v6 hn (HC.out v6 hC6))
    go_wp2_with fail
    refine D4.out.mono ?_
    rintro e v7 ⟨gG, cG, ge, ce, G, t, rfl, hM, ht, hlt, hb7⟩
    have hC7 := hC6.trans (hb7.mono hC6.size)
    have hG5 := hM.few
    have HMG := Lib.hid hM; have Ht := Lib.hid ht
    have A5 := Lib.hid (impl_CanonicalBasis_gen gG 0 G.length cG (Value.slice (some ⟨ge, 0, none⟩) t.length ce) G t v7 rfl (by omega) hM.rl hM.lt hM.rows2 (WordV.of rfl rfl (by omega) hM.rl (by omega) hM.lt ht.lt hM.rows2 ht.cells) (HM.out _ hC7))
    have A6 := Lib.hid (fun (W : World) (h : Below v7.heap.size v7 W) => spec_CanonicalBasis_any gG 0 G.length cG ge 0 t.length ce G t W rfl rfl (by omega) HMG.out.rl (by omega) (Nat.lt_of_lt_of_le HMG.out.lt h.size) (Nat.lt_of_lt_of_le Ht.out.lt h.size) (HMG.out.below h).rows2 (Ht.out.below h Ht.out.lt).cells)
    have hcf := cbL_few G t
    generalize krB G t = kb3 at *
    generalize cbL G t = cb1 at *
    obtain ⟨n2, hn2⟩ : ∃ m, cb1.length = m := ⟨_, rfl⟩
    have SH := Lib.hid (fun (W : World) (g1 c1 g2 c2 B1 B2 : Nat) (ts us : List TRef) (ht : contT ts = cb1) (hu : contT us = cb1) (h1 : OwnT W B1 g1 c1 ts) (h2 : OwnT W B2 g2 c2 us) => spec_EqualHecke_same g1 c1 g2 c2 n2 B1 B2 ts us W (by rw [← hn2, ← ht]; simp [contT]) (by rw [← hn2, ← hu]; simp [contT]) (by omega) (fun r hr => hcf.2 (r.1.xs, r.2.xs) (by rw [← ht]; exact List.mem_map_of_mem hr)) (ht.trans hu.symm) h1 h2)
    have Hn2 := Lib.hid hn2
    have HX7 := Lib.hid (fun (W : World) (h : Below v7.heap.size v7 W) => HX6.out W (hb7.trans (h.mono hb7.size)))
    clear D4 hM ht hb7 hcf hn2 HX6
    go_wp2_with fail
    refine A5.out.mono ?_
    rintro e v8 ⟨g8, c8, ts8, rfl, hc8, hO8, hb8⟩
    rw [Hn2.out]
    have hC8 := hC7.trans (hb8.mono hC7.size)
    have A6' := Lib.hid (A6.out v8 hb8)
    have Hc8 := Lib.hid hc8
    have HX8 := Lib.hid (fun (W : World) (h : Below v8.heap.size v8 W) => HX7.out W (hb8.trans (h.mono hb8.size)))
    clear A5 A6 hc8 hb8 HX7
    go_wp2_with fail
    refine A6'.out.mono ?_
    rintro e v9 ⟨g9, c9, ts9, rfl, hc9, hO9, hb9⟩
    rw [Hn2.out]
    have hC9 := hC8.trans (hb9.mono hC8.size)
    have Hc9 := Lib.hid hc9
    have HX9 := Lib.hid (fun (W : World) (h : Below v9.heap.size v9 W) => HX8.out W (hb9.trans (h.mono hb9.size)))
    have HT9 := Lib.hid (fun (W : World) (h : Below v9.heap.size v9 W) => SH.out W g8 c8 g9 c9 _ _ ts8 ts9 Hc8.out Hc9.out ((hO8.below hb9).below h) (hO9.below h))
    clear A6' hc9 hb9 HX8 hO8 hO9 SH hC7 hC8 HMG Ht
    have D5 := Lib.hid (spec_DrawBettiOf_any a n c v9 hn (HC.out v9 hC9))
    go_wp2_with fail
    refine D5.out.mono ?_
    rintro e v10 ⟨gH, cH, gf, cf, H, s, rfl, hM, hs, hls, hb10⟩
    have hC10 := hC9.trans (hb10.mono hC9.size)
    have hH5 := hM.few
    have HMH := Lib.hid hM; have Hs := Lib.hid hs
    have A7 := Lib.hid (impl_BettiOf_gen gH 0 H.length cH (Value.slice (some ⟨gf, 0, none⟩) s.length cf) H s v10 rfl (by omega) hM.rl hM.lt hM.rows2 (WordV.of rfl rfl (by omega) hM.rl (by omega) hM.lt hs.lt hM.rows2 hs.cells) (HM.out _ hC10))
    have A8 := Lib.hid (fun (W : World) (h : Below v10.heap.size v10 W) => spec_BettiOf_any gH 0 H.length cH gf 0 s.length cf H s W rfl rfl (by omega) HMH.out.rl (by omega) (Nat.lt_of_lt_of_le HMH.out.lt h.size) (Nat.lt_of_lt_of_le Hs.out.lt h.size) (HMH.out.below h).rows2 (Hs.out.below h Hs.out.lt).cells)
    have A9 := Lib.hid (fun (W : World) (h : Below v10.heap.size v10 W) => impl_IsRationallySmooth_any gH 0 H.length cH (Value.slice (some ⟨gf, 0, none⟩) s.length cf) H s W rfl (by omega) HMH.out.rl (Nat.lt_of_lt_of_le HMH.out.lt h.size) (HMH.out.below h).rows2 (WordV.of rfl rfl (by omega) HMH.out.rl (by omega) (Nat.lt_of_lt_of_le HMH.out.lt h.size) (Nat.lt_of_lt_of_le Hs.out.lt h.size) (HMH.out.below h).rows2 (Hs.out.below h Hs.out.lt).cells) (HM.out _ (hC10.trans (h.mono hC10.size))))
    have A10 := Lib.hid (fun (W : World) (h : Below v10.heap.size v10 W) => spec_IsRationallySmooth_any gH 0 H.length cH gf 0 s.length cf H s W rfl rfl (by omega) HMH.out.rl (by omega) (Nat.lt_of_lt_of_le HMH.out.lt h.size) (Nat.lt_of_lt_of_le Hs.out.lt h.size) (HMH.out.below h).rows2 (Hs.out.below h Hs.out.lt).cells)
    have hbf := btL_len H s
    have hbp := btL_pal H s
    generalize smB H s = smo at *
    generalize btL H s = bt at *
    obtain ⟨n3, hn3⟩ : ∃ m, bt.length = m := ⟨_, rfl⟩
    have SI := Lib.hid (fun (W : World) (g1 c1 g2 c2 : Nat) (h1 : Cells W g1 0 bt) (h2 : Cells W g2 0 bt) => laws_sameInts_same g1 0 n3 c1 g2 0 n3 c2 bt W hn3 hn3 (by omega) h1 h2)
    have IP := Lib.hid (fun (W : World) (g1 c1 : Nat) (hg : g1 < W.heap.size) (h1 : Cells W g1 0 bt) => by
      have := impl_IsPalindrome_any g1 0 n3 c1 bt W hn3 (by omega) hg h1
      rw [decide_eq_true hbp] at this
      exact this)
    have Hn3 := Lib.hid hn3
    have HX10 := Lib.hid (fun (W : World) (h : Below v10.heap.size v10 W) => HX9.out W (hb10.trans (h.mono hb10.size)))
    have HT10 := Lib.hid (fun (W : World) (h : Below v10.heap.size v10 W) => HT9.out W (hb10.trans (h.mono hb10.size)))
    obtain ⟨nH, hnH⟩ : ∃ m, H.length = m := ⟨_, rfl⟩
    obtain ⟨ns, hns⟩ : ∃ m, s.length = m := ⟨_, rfl⟩
    rw [hnH, hns] at A7 A8 A9 A10 ⊢
    clear D5 hM hs hb10 hbf hbp hn3 HX9 HT9 hnH hns
    go_wp2_with fail
    refine A7.out.mono ?_
    rintro e v11 ⟨g11, c11, rfl, ho11, hb11⟩
    rw [Hn3.out]
    have hC11 := hC10.trans (hb11.mono hC10.size)
    have e1 : (kb1 == kb1) = true := by simp
    have e2 : (mu1 == mu1) = true := by simp
    have e3 : (kb2 == kb2) = true := by simp
    have e4 : (kb3 == kb3) = true := by simp
    have e5 : (smo == smo) = true := by simp
    obtain ⟨r1, r2⟩ := HX10.out v11 hb11
    have SW' := Lib.hid (SW.out v11 g5 c5 g6 c6 r1 r2)
    have Ho11 := Lib.hid ho11
    clear r1 r2 SW HX10 A7 ho11
    go_wp2_with fail
    refine SW'.out.mono ?_
    rintro e v12 ⟨rfl, hs12⟩
    have hb12 := below_still hb11 hs12
    have Ho12 := Lib.hid (Ho11.out.still hs12)
    have HT' := Lib.hid (HT10.out v12 hb12)
    clear hs12 SW' hb11 HT10
    go_wp2_with fail
    refine HT'.out.mono ?_
    rintro e v13 ⟨rfl, hs13⟩
    have hb13 := below_still hb12 hs13
    have Ho13 := Lib.hid (Ho12.out.still hs13)
    have A8' := Lib.hid (A8.out v13 hb13)
    clear hs13 HT' hb12 A8
    go_wp2_with fail
    refine A8'.out.mono ?_
    rintro e v14 ⟨g14, c14, rfl, ho14, hb14⟩
    rw [Hn3.out]
    have hb1014 := hb13.trans (hb14.mono hb13.size)
    have Ho14 := Lib.hid (Ho13.out.below hb14 Ho13.out.lt)
    have SI' := Lib.hid (SI.out v14 g11 c11 g14 c14 Ho14.out.cells ho14.cells)
    clear hb14 A8' hb13 SI ho14
    go_wp2_with fail
    refine SI'.out.mono ?_
    rintro e v15 ⟨rfl, hs15⟩
    have hb15 := below_still hb1014 hs15
    have Ho15 := Lib.hid (Ho14.out.still hs15)
    have IP' := Lib.hid (IP.out v15 g11 c11 Ho15.out.lt Ho15.out.cells)
    clear hs15 SI' hb1014 IP
    go_wp2_with fail
    refine IP'.out.mono ?_
    rintro e v16 ⟨rfl, hb16⟩
    have hb1016 := hb15.trans (hb16.mono hb15.size)
    have A9' := Lib.hid (A9.out v16 hb1016)
    clear hb16 IP' hb15 A9
    go_wp2_with fail
    refine A9'.out.mono ?_
    rintro e v17 ⟨rfl, hb17⟩
    have hb1017 := hb1016.trans (hb17.mono hb1016.size)
    have A10' := Lib.hid (A10.out v17 hb1017)
    clear hb17 A9' hb1016 A10
    go_wp2_with fail
    refine A10'.out.mono ?_
    rintro e v18 ⟨rfl, hb18⟩
    have hb1018 := hb1017.trans (hb18.mono hb1017.size)
    go_wp2_with fail
    go_ret
    exact ⟨by first | rfl | simp, hC10.trans (hb1018.mono hC10.size)⟩
end Go.Proofs.YtdedkfbiookofaaGreatDoor
