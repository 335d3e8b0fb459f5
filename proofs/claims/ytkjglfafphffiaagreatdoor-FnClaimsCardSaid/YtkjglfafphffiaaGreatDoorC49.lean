/- ChkS -/
import Derived.Test.YtkjglfafphffiaaGreatDoorC39
import Derived.Test.YtkjglfafphffiaaGreatDoorC11
import Derived.Deep.RegionWith
namespace Go.Proofs.YtkjglfafphffiaaGreatDoor
set_option maxRecDepth 100000
open Go.RowKit Game
set_option maxRecDepth 100000 in
set_option maxHeartbeats 4000000 in
theorem spec_CheckClaim_n (v : Value) (x : ClaimD) (w : World) (h : ClaimN w v x) (hf : claimFew x) (hw : proofWf x) :
    Calls Tryz.prog 11 #[v] w (Gives w (.bool (checkL x))) := by
  have hV := Lib.hid (fun (W : World) (hb : Below w.heap.size w W) => ClaimN.below h hb)
  obtain ⟨kd, c, a, b, ps, R⟩ := x
  obtain ⟨p1, p2, p3, q4, m4, c4, q5, m5, c5, rfl, a1, a2, a3, a4, a5⟩ := h
  obtain ⟨g1, o1, n1, c1, rfl, l1, m1, t1, r1⟩ := a1
  obtain ⟨g2, o2, n2, c2, rfl, l2, m2, t2, r2⟩ := a2
  obtain ⟨g3, o3, n3, c3, rfl, l3, m3, t3, r3⟩ := a3
  have HA4 := Lib.hid a4; have HA5 := Lib.hid a5
  clear a4 a5
  obtain ⟨hf1, hf2, hf3, hf4, hf5⟩ := hf
  change ∀ k, k < ps.length → -9223372036854775808 ≤ ps.getD k 0 ∧ ps.getD k 0 ≤ 9223372036854775807 at hw
  dsimp only at l1 l2 l3 r1 r2 r3 hf1 hf2 hf3 hf4 hf5 hV ⊢
  subst l1 l2 l3
  have k1 := fun (W : World) (hb : Below w.heap.size w W) => spec_IsWord_any g1 o1 _ c1 g2 o2 _ c2 c a W rfl rfl hf1.1 (fun j hj => hf1.2 j hj) hf2 (r1.below hb t1) (r2.below hb t2)
  have k2 := fun (W : World) (hb : Below w.heap.size w W) => spec_IsWord_any g1 o1 _ c1 g3 o3 _ c3 c b W rfl rfl hf1.1 (fun j hj => hf1.2 j hj) hf3 (r1.below hb t1) (r3.below hb t3)
  have C0 := Lib.hid (heap_alloc_new w (.cells #[.int .i64 kd, (Value.slice (some ⟨g1, o1, none⟩) c.length c1), (Value.slice (some ⟨g2, o2, none⟩) a.length c2), (Value.slice (some ⟨g3, o3, none⟩) b.length c3), .slice q4 m4 c4, .slice q5 m5 c5] 29 (0, 0)))
  have hB0 : Below w.heap.size w (w.alloc (.cells #[.int .i64 kd, (Value.slice (some ⟨g1, o1, none⟩) c.length c1), (Value.slice (some ⟨g2, o2, none⟩) a.length c2), (Value.slice (some ⟨g3, o3, none⟩) b.length c3), .slice q4 m4 c4, .slice q5 m5 c5] 29)) := (Below.refl _ _).alloc (Nat.le_refl _) _
  obtain ⟨c00, c01, c02, c03, c04, c05⟩ := sixA C0.out
  have hck : checkL ⟨kd, c, a, b, ps, R⟩ = ((isWordB c a && isWordB c b) && kindB kd c a b ps R) := rfl
  rw [hck]
  cases hwa : isWordB c a with
  | false =>
    rw [hwa] at k1
    have k1 := Lib.hid k1
    rw [Bool.false_and, Bool.false_and]
    clear hck hwa k2 r1 r2 r3 hV
    go_enter Tryz.func11, Tryz.ntmps11
    go_wp2_with fail
    refine (k1.out _ hB0).mono ?_
    rintro e w1 ⟨rfl, hs1⟩
    have hB1 := below_still hB0 hs1
    obtain ⟨d00, d01, d02, d03, d04, d05⟩ := sixA (show w1.heap[w.heap.size]? = some (.cells #[.int .i64 kd, (Value.slice (some ⟨g1, o1, none⟩) c.length c1), (Value.slice (some ⟨g2, o2, none⟩) a.length c2), (Value.slice (some ⟨g3, o3, none⟩) b.length c3), .slice q4 m4 c4, .slice q5 m5 c5] 29 (0, 0)) from (by obtain ⟨q, rfl⟩ := hs1; exact C0.out))
    clear hB0 hs1 c00 c01 c02 c03 c04 c05
    go_wp2_with fail
    go_ret
    exact ⟨rfl, hB1⟩
  | true =>
  rw [hwa] at k1
  have k1 := Lib.hid k1
  rw [Bool.true_and]
  cases hwb : isWordB c b with
  | false =>
    rw [hwb] at k2
    have k2 := Lib.hid k2
    rw [Bool.false_and]
    clear hck hwa hwb r1 r2 r3 hV
    go_enter Tryz.func11, Tryz.ntmps11
    go_wp2_with fail
    refine (k1.out _ hB0).mono ?_
    rintro e w1 ⟨rfl, hs1⟩
    have hB1 := below_still hB0 hs1
    obtain ⟨d00, d01, d02, d03, d04, d05⟩ := sixA (show w1.heap[w.heap.size]? = some (.cells #[.int .i64 kd, (Value.slice (some ⟨g1, o1, none⟩) c.length c1), (Value.slice (some ⟨g2, o2, none⟩) a.length c2), (Value.slice (some ⟨g3, o3, none⟩) b.length c3), .slice q4 m4 c4, .slice q5 m5 c5] 29 (0, 0)) from (by obtain ⟨q, rfl⟩ := hs1; exact C0.out))
    clear hB0 hs1 c00 c01 c02 c03 c04 c05
    go_wp2_with fail
    refine (k2.out _ hB1).mono ?_
    rintro e w2 ⟨rfl, hs2⟩
    go_wp2_with fail
    go_ret
    exact ⟨rfl, below_still hB1 hs2⟩
  | true =>
  rw [hwb] at k2
  have k2 := Lib.hid k2
  rw [Bool.true_and]
  have hA := wordOk_of hwa
  have hB := wordOk_of hwb
  have hC := hA.isC
  have hn4 := hC.2.1
  clear hck hwa hwb
  by_cases h1 : kd = 1
  · subst h1
    have hk : kindB 1 c a b ps R = redB c a R := rfl
    rw [hk]
    obtain ⟨g5, o5, n5, c5', e5, l5, m5', t5, r5⟩ := HA5.out rfl
    cases e5
    dsimp only at l5 r5
    subst l5
    have hsf := seqL_few hA
    have hsa : seqA c a = seqL c a := if_pos hA.isWord
    have kr := fun (W : World) (hb : Below w.heap.size w W) => spec_RootSequence_any g1 o1 _ c1 g2 o2 _ c2 c a W rfl rfl hf1.1 (fun j hj => hf1.2 j hj) hf2 m2 (Nat.lt_of_lt_of_le t1 hb.size) (Nat.lt_of_lt_of_le t2 hb.size) (r1.below hb t1) (r2.below hb t2)
    rw [hsa] at kr
    have kr := Lib.hid kr
    have Hql := Lib.hid (show (seqL c a).length = a.length by simp [seqL])
    have ke := (fun (W : World) (g6 c6 : Nat) (hb : Below w.heap.size w W) (hr6 : Rows2 W g6 0 (seqL c a)) => spec_EqualCartans_any g5 o5 _ c5 g6 0 a.length c6 R (seqL c a) W rfl Hql.out (by have := hf5.1; omega) (fun j hj => by have := hf5.2 j hj; omega) (fun j hj => by have := hsf.2 j hj; omega) (r5.below hb t5) hr6)
    have kdf := Lib.hid (fun (W : World) (hb : Below w.heap.size w W) => spec_l34Different_any g5 o5 _ c5 R W rfl m5' hf5.1 hf5.2 (r5.below hb t5))
    have hrr : redB c a R = (decide (seqL c a = R) && diffB R) := rfl
    have Hrr := Lib.hid hrr
    generalize redB c a R = rr at *
    generalize seqL c a = Q at *
    clear hV hsf hsa hrr
    clear hk r1 r2 r3 hA hB hC hw hf1 hf2 hf3 hf4 hf5 HA4 HA5 r5
    go_enter Tryz.func11, Tryz.ntmps11
    go_wp2_with fail
    refine (k1.out _ hB0).mono ?_
    rintro e w1 ⟨rfl, hs1⟩
    have hB1 := below_still hB0 hs1
    obtain ⟨d00, d01, d02, d03, d04, d05⟩ := sixA (show w1.heap[w.heap.size]? = some (.cells #[.int .i64 1, (Value.slice (some ⟨g1, o1, none⟩) c.length c1), (Value.slice (some ⟨g2, o2, none⟩) a.length c2), (Value.slice (some ⟨g3, o3, none⟩) b.length c3), .slice q4 m4 c4, (Value.slice (some ⟨g5, o5, none⟩) R.length c5)] 29 (0, 0)) from (by obtain ⟨q, rfl⟩ := hs1; exact C0.out))
    have C1 := Lib.hid (show w1.heap[w.heap.size]? = some (.cells #[.int .i64 1, (Value.slice (some ⟨g1, o1, none⟩) c.length c1), (Value.slice (some ⟨g2, o2, none⟩) a.length c2), (Value.slice (some ⟨g3, o3, none⟩) b.length c3), .slice q4 m4 c4, (Value.slice (some ⟨g5, o5, none⟩) R.length c5)] 29 (0, 0)) from (by obtain ⟨q, rfl⟩ := hs1; exact C0.out))
    clear hB0 hs1 c00 c01 c02 c03 c04 c05
    go_wp2_with fail
    refine (k2.out _ hB1).mono ?_
    rintro e w2 ⟨rfl, hs2⟩
    have hB2 := below_still hB1 hs2
    have C2 := Lib.hid (show w2.heap[w.heap.size]? = some (.cells #[.int .i64 1, (Value.slice (some ⟨g1, o1, none⟩) c.length c1), (Value.slice (some ⟨g2, o2, none⟩) a.length c2), (Value.slice (some ⟨g3, o3, none⟩) b.length c3), .slice q4 m4 c4, (Value.slice (some ⟨g5, o5, none⟩) R.length c5)] 29 (0, 0)) from (by obtain ⟨q, rfl⟩ := hs2; exact C1.out))
    obtain ⟨e00, e01, e02, e03, e04, e05⟩ := sixA C2.out
    clear hB1 hs2 d00 d01 d02 d03 d04 d05
    have xd1 : w2.drew.cell? ⟨w.heap.size, 1, none⟩ = some (Value.slice (some ⟨g1, o1, none⟩) c.length c1) := e01
    have xd2 : w2.drew.cell? ⟨w.heap.size, 2, none⟩ = some (Value.slice (some ⟨g2, o2, none⟩) a.length c2) := e02
    have xd5 : w2.drew.cell? ⟨w.heap.size, 5, none⟩ = some (Value.slice (some ⟨g5, o5, none⟩) R.length c5) := e05
    have hBd := Lib.hid (show Below w.heap.size w w2.drew from Below.drew hB2)
    clear hB2
    by_cases hQ : R = Q
    case neg =>
      rw [decide_eq_false hQ] at ke
      have KE := Lib.hid ke
      have Hno := Lib.hid (show rr = false by rw [Hrr.out, decide_eq_false (fun h => hQ h.symm)]; rfl)
      clear hQ ke kdf
      go_wp2_with fail
      first
        | go_region_with (first
            | (go_at_call 48; refine (kr.out _ hBd.out).mono ?_; rintro e wA ⟨gA, cA, rs, rfl, hcon, hoA, hbA⟩; rw [Hql.out]; have xA5 := keepCell hbA xd5)
            | (go_at_call 37; refine (KE.out _ gA cA (hBd.out.trans (hbA.mono hBd.out.size)) (by have := hoA.rows2; rw [hcon] at this; exact this)).mono ?_; rintro e wD ⟨rfl, hsD⟩))
        | fail "the region"
      all_goals (try go_wp2_with fail)
      all_goals
        go_ret
        exact ⟨ret_bool Hno.out.symm, below_still (hBd.out.trans (hbA.mono hBd.out.size)) hsD⟩
    rw [decide_eq_true hQ] at ke
    have KE := Lib.hid ke
    have Hyes := Lib.hid (show rr = diffB R by rw [Hrr.out, decide_eq_true hQ.symm, Bool.true_and])
    clear hQ ke
    go_wp2_with fail
    go_region_held3 (fun W => W.cell? ⟨w.heap.size, 1, none⟩ = some (Value.slice (some ⟨g1, o1, none⟩) c.length c1) ∧ W.cell? ⟨w.heap.size, 2, none⟩ = some (Value.slice (some ⟨g2, o2, none⟩) a.length c2) ∧ W.cell? ⟨w.heap.size, 5, none⟩ = some (Value.slice (some ⟨g5, o5, none⟩) R.length c5))
      (first | exact ⟨xd1, xd2, xd5⟩ | exact ⟨keepCell hbA xd1, keepCell hbA xd2, keepCell hbA xd5⟩ | exact ⟨(cell_still hsD _).trans (keepCell hbA xd1), (cell_still hsD _).trans (keepCell hbA xd2), (cell_still hsD _).trans (keepCell hbA xd5)⟩ | exact ⟨(cell_still hsF _).trans ((cell_still hsD _).trans (keepCell hbA xd1)), (cell_still hsF _).trans ((cell_still hsD _).trans (keepCell hbA xd2)), (cell_still hsF _).trans ((cell_still hsD _).trans (keepCell hbA xd5))⟩)
      (first
        | (go_at_call 48; refine (kr.out _ hBd.out).mono ?_; rintro e wA ⟨gA, cA, rs, rfl, hcon, hoA, hbA⟩; rw [Hql.out])
        | (go_at_call 37; refine (KE.out _ gA cA (hBd.out.trans (hbA.mono hBd.out.size)) (by have := hoA.rows2; rw [hcon] at this; exact this)).mono ?_; rintro e wD ⟨rfl, hsD⟩)
        | (go_at_call 49; refine (kdf.out _ (below_still (hBd.out.trans (hbA.mono hBd.out.size)) hsD)).mono ?_; rintro e wF ⟨rfl, hsF⟩))
    have hbE := below_still (below_still (hBd.out.trans (hbA.mono hBd.out.size)) hsD) hsF
    clear hbA hsD hsF hoA xd1 xd2 xd5
    go_wp2_with fail
    go_ret
    exact ⟨ret_bool Hyes.out.symm, hbE⟩
  by_cases h2 : kd = 2
  · subst h2
    have hk : kindB 2 c a b ps R = eqB c a b ps := rfl
    rw [hk]
    obtain ⟨g4, o4, n4, c4', e4, l4, m4', t4, r4⟩ := HA4.out (show (2:Int) ≤ 2 by decide) (show (2:Int) ≤ 5 by decide)
    cases e4
    dsimp only at l4 r4
    subst l4
    have kb := Lib.hid (fun (W : World) (hb : Below w.heap.size w W) => spec_ApplyBraids_any g1 o1 _ c1 g2 o2 _ c2 g4 o4 _ c4 c a ps W rfl rfl rfl hf1.1 (fun j hj => hf1.2 j hj) hf2 hf4 hw (Nat.lt_of_lt_of_le t1 hb.size) (Nat.lt_of_lt_of_le t2 hb.size) (Nat.lt_of_lt_of_le t4 hb.size) (r1.below hb t1) (r2.below hb t2) (r4.below hb t4))
    have hyl := applyB_getD_length c a ps
    have ke := Lib.hid (fun (W : World) (B g6 c6 : Nat) (hb : Below w.heap.size w W) (ho : Own W B g6 c6 ((applyB c a ps).getD a)) => spec_EqualWords_any g6 0 a.length c6 g3 o3 _ c3 ((applyB c a ps).getD a) b W hyl rfl (by omega) ho.cells (r3.below hb t3))
    have Hyl := Lib.hid hyl
    have hek : eqB c a b ps = ((applyB c a ps).isSome && decide ((applyB c a ps).getD a = b)) := rfl
    rw [hek]
    generalize (applyB c a ps).getD a = y at *
    generalize decide (y = b) = rr at *
    generalize (applyB c a ps).isSome = ss at *
    clear hV hyl hek
    clear hk r1 r2 r3 hA hB hC hw hf1 hf2 hf3 hf4 hf5 HA4 HA5 r4
    go_enter Tryz.func11, Tryz.ntmps11
    go_wp2_with fail
    refine (k1.out _ hB0).mono ?_
    rintro e w1 ⟨rfl, hs1⟩
    have hB1 := below_still hB0 hs1
    obtain ⟨d00, d01, d02, d03, d04, d05⟩ := sixA (show w1.heap[w.heap.size]? = some (.cells #[.int .i64 2, (Value.slice (some ⟨g1, o1, none⟩) c.length c1), (Value.slice (some ⟨g2, o2, none⟩) a.length c2), (Value.slice (some ⟨g3, o3, none⟩) b.length c3), (Value.slice (some ⟨g4, o4, none⟩) ps.length c4), .slice q5 m5 c5] 29 (0, 0)) from (by obtain ⟨q, rfl⟩ := hs1; exact C0.out))
    have C1 := Lib.hid (show w1.heap[w.heap.size]? = some (.cells #[.int .i64 2, (Value.slice (some ⟨g1, o1, none⟩) c.length c1), (Value.slice (some ⟨g2, o2, none⟩) a.length c2), (Value.slice (some ⟨g3, o3, none⟩) b.length c3), (Value.slice (some ⟨g4, o4, none⟩) ps.length c4), .slice q5 m5 c5] 29 (0, 0)) from (by obtain ⟨q, rfl⟩ := hs1; exact C0.out))
    clear hB0 hs1 c00 c01 c02 c03 c04 c05
    go_wp2_with fail
    refine (k2.out _ hB1).mono ?_
    rintro e w2 ⟨rfl, hs2⟩
    have hB2 := below_still hB1 hs2
    have C2 := Lib.hid (show w2.heap[w.heap.size]? = some (.cells #[.int .i64 2, (Value.slice (some ⟨g1, o1, none⟩) c.length c1), (Value.slice (some ⟨g2, o2, none⟩) a.length c2), (Value.slice (some ⟨g3, o3, none⟩) b.length c3), (Value.slice (some ⟨g4, o4, none⟩) ps.length c4), .slice q5 m5 c5] 29 (0, 0)) from (by obtain ⟨q, rfl⟩ := hs2; exact C1.out))
    obtain ⟨e00, e01, e02, e03, e04, e05⟩ := sixA C2.out
    clear hB1 hs2 d00 d01 d02 d03 d04 d05
    go_wp2_with fail
    refine (kb.out _ hB2).mono ?_
    rintro e w3 ⟨g6, c6, rfl, ho6, hb3⟩
    have hB3 := hB2.trans (hb3.mono hB2.size)
    have C3 := Lib.hid ((hb3.block _ (lt_of_block C2.out)).trans C2.out)
    obtain ⟨f00, f01, f02, f03, f04, f05⟩ := sixA C3.out
    rw [Hyl.out]
    clear hb3 hB2 e00 e01 e02 e03 e04 e05
    cases ss with
    | false =>
      go_wp2_with fail
      go_ret
      exact ⟨rfl, hB3⟩
    | true =>
      go_wp2_with fail
      refine (ke.out _ _ g6 c6 hB3 ho6).mono ?_
      rintro e w4 ⟨rfl, hs4⟩
      go_wp2_with fail
      go_ret
      exact ⟨rfl, below_still hB3 hs4⟩
  by_cases h3 : kd = 3
  · subst h3
    have hk : kindB 3 c a b ps R = belowB c a b ps := rfl
    rw [hk]
    obtain ⟨g4, o4, n4, c4', e4, l4, m4', t4, r4⟩ := HA4.out (show (2:Int) ≤ 3 by decide) (show (3:Int) ≤ 5 by decide)
    cases e4
    dsimp only at l4 r4
    subst l4
    have hLB := hB.lets.mono (show 15 ≤ 30 by omega)
    have hnf := nfI_ok hLB
    have hb15 := hB.few
    have hna : nfA c b = nfI c b := if_pos hB.isWord
    have kn := fun (W : World) (hb : Below w.heap.size w W) => spec_NormalForm_any g1 o1 _ c1 g3 o3 _ c3 c b W rfl rfl hf1.1 (fun j hj => hf1.2 j hj) hf3 (Nat.lt_of_lt_of_le t1 hb.size) (Nat.lt_of_lt_of_le t3 hb.size) (r1.below hb t1) (r3.below hb t3)
    rw [hna] at kn
    have kn := Lib.hid kn
    have hnl := hnf.len
    have hlets := fun (hok : takeB (nfI c b).length ps = true) => takeL_lets (hnf.lets.mono (show b.length ≤ 15 by omega)) hok
    have htk : takeB (nfI c b).length ps = true → takeR (nfI c b) ps = takeL (nfI c b) ps := fun h => if_pos h
    have kt := Lib.hid (fun (W : World) (B g6 c6 : Nat) (hb : Below w.heap.size w W) (ho : Own W B g6 c6 (nfI c b)) => spec_l34Take_any g6 0 _ c6 g4 o4 _ c4 (nfI c b) ps W rfl rfl (by omega) hf4 ho.cells (r4.below hb t4) ho.lt (Nat.lt_of_lt_of_le t4 hb.size))
    have htl := Lib.hid (fun (hok : takeB (nfI c b).length ps = true) => show (takeR (nfI c b) ps).length = ps.length by rw [htk hok]; simp [takeL])
    have ksm := Lib.hid (fun (hok : takeB (nfI c b).length ps = true) (W : World) (B g7 c7 : Nat) (hb : Below w.heap.size w W) (ho : Own W B g7 c7 (takeR (nfI c b) ps)) => by
      rw [htk hok] at ho
      exact spec_AreSame_ok g1 o1 _ c1 g7 0 ps.length c7 g2 o2 _ c2 c (takeL (nfI c b) ps) a W rfl (by simp [takeL]) rfl (hlets hok).word hA (Nat.lt_of_lt_of_le t1 hb.size) ho.lt (Nat.lt_of_lt_of_le t2 hb.size) (r1.below hb t1) ho.cells (r2.below hb t2))
    have hrr : belowB c a b ps = (takeB (nfI c b).length ps && decide (imI c (takeL (nfI c b) ps) = imI c a)) := rfl
    have Hrr := Lib.hid hrr
    have hwb : isWordB c b = true := hB.isWord
    rw [hwb] at kn
    clear hV hnf hLB hna hlets htk hrr hwb hnl
    generalize belowB c a b ps = rr at *
    generalize takeB (nfI c b).length ps = ss at *
    generalize takeR (nfI c b) ps = tr at *
    generalize nfI c b = y at *
    clear hk r1 r2 r3 hA hB hC hw hf1 hf2 hf3 hf4 hf5 HA4 HA5 r4
    go_enter Tryz.func11, Tryz.ntmps11
    go_wp2_with fail
    refine (k1.out _ hB0).mono ?_
    rintro e w1 ⟨rfl, hs1⟩
    have hB1 := below_still hB0 hs1
    obtain ⟨d00, d01, d02, d03, d04, d05⟩ := sixA (show w1.heap[w.heap.size]? = some (.cells #[.int .i64 3, (Value.slice (some ⟨g1, o1, none⟩) c.length c1), (Value.slice (some ⟨g2, o2, none⟩) a.length c2), (Value.slice (some ⟨g3, o3, none⟩) b.length c3), (Value.slice (some ⟨g4, o4, none⟩) ps.length c4), .slice q5 m5 c5] 29 (0, 0)) from (by obtain ⟨q, rfl⟩ := hs1; exact C0.out))
    have C1 := Lib.hid (show w1.heap[w.heap.size]? = some (.cells #[.int .i64 3, (Value.slice (some ⟨g1, o1, none⟩) c.length c1), (Value.slice (some ⟨g2, o2, none⟩) a.length c2), (Value.slice (some ⟨g3, o3, none⟩) b.length c3), (Value.slice (some ⟨g4, o4, none⟩) ps.length c4), .slice q5 m5 c5] 29 (0, 0)) from (by obtain ⟨q, rfl⟩ := hs1; exact C0.out))
    clear hB0 hs1 c00 c01 c02 c03 c04 c05
    go_wp2_with fail
    refine (k2.out _ hB1).mono ?_
    rintro e w2 ⟨rfl, hs2⟩
    have hB2 := below_still hB1 hs2
    have C2 := Lib.hid (show w2.heap[w.heap.size]? = some (.cells #[.int .i64 3, (Value.slice (some ⟨g1, o1, none⟩) c.length c1), (Value.slice (some ⟨g2, o2, none⟩) a.length c2), (Value.slice (some ⟨g3, o3, none⟩) b.length c3), (Value.slice (some ⟨g4, o4, none⟩) ps.length c4), .slice q5 m5 c5] 29 (0, 0)) from (by obtain ⟨q, rfl⟩ := hs2; exact C1.out))
    obtain ⟨e00, e01, e02, e03, e04, e05⟩ := sixA C2.out
    clear hB1 hs2 d00 d01 d02 d03 d04 d05
    go_wp2_with fail
    refine (kn.out _ hB2).mono ?_
    rintro e w3 ⟨g6, c6, rfl, ho6, hb3⟩
    have hB3 := hB2.trans (hb3.mono hB2.size)
    have C3 := Lib.hid ((hb3.block _ (lt_of_block C2.out)).trans C2.out)
    obtain ⟨f00, f01, f02, f03, f04, f05⟩ := sixA C3.out
    clear hb3 hB2 e00 e01 e02 e03 e04 e05
    have hT := Lib.hid (kt.out w3 _ g6 c6 hB3 ho6)
    generalize y.length = yl at *
    go_wp2_with fail
    refine hT.out.mono ?_
    rintro e w4 ⟨g7, c7, rfl, ho7, hb4⟩
    have hB4 := hB3.trans (hb4.mono hB3.size)
    have C4 := Lib.hid ((hb4.block _ (lt_of_block C3.out)).trans C3.out)
    obtain ⟨h00, h01, h02, h03, h04, h05⟩ := sixA C4.out
    clear hb4 hB3 f00 f01 f02 f03 f04 f05
    cases hss : ss with
    | false =>
      have Hn := Lib.hid (show rr = false by rw [Hrr.out, hss]; rfl)
      clear hss
      go_wp2_with fail
      go_ret
      exact ⟨ret_bool Hn.out.symm, hB4⟩
    | true =>
      have Hn := Lib.hid (show rr = decide (imI c (takeL y ps) = imI c a) by rw [Hrr.out, hss, Bool.true_and])
      have hS := Lib.hid (ksm.out hss w4 _ g7 c7 hB4 ho7)
      have hll := Lib.hid (htl.out hss)
      rw [hll.out]
      clear hss
      generalize decide (imI c (takeL y ps) = imI c a) = zz at *
      go_wp2_with fail
      refine hS.out.mono ?_
      rintro e w5 ⟨rfl, hb5⟩
      go_wp2_with fail
      go_ret
      exact ⟨ret_bool Hn.out.symm, hB4.trans (hb5.mono hB4.size)⟩
  by_cases h4 : kd = 4
  · subst h4
    have hk : kindB 4 c a b ps R = notB c a b ps := rfl
    rw [hk]
    obtain ⟨g4, o4, n4, c4', e4, l4, m4', t4, r4⟩ := HA4.out (show (2:Int) ≤ 4 by decide) (show (4:Int) ≤ 5 by decide)
    cases e4
    dsimp only at l4 r4
    subst l4
    have hLA := hA.lets.mono (show 15 ≤ 30 by omega)
    have hLB := hB.lets.mono (show 15 ≤ 30 by omega)
    have kna := Lib.hid (fun (W : World) (hb : Below w.heap.size w W) => spec_l8Normal_any g1 o1 _ c1 g2 o2 _ c2 c a (nfI c a) W rfl rfl hC hf2 hA.inr (nfI_ok hLA).norm (Nat.lt_of_lt_of_le t1 hb.size) (Nat.lt_of_lt_of_le t2 hb.size) (r1.below hb t1) (r2.below hb t2))
    have knb := Lib.hid (fun (W : World) (hb : Below w.heap.size w W) => spec_l8Normal_any g1 o1 _ c1 g3 o3 _ c3 c b (nfI c b) W rfl rfl hC hf3 hB.inr (nfI_ok hLB).norm (Nat.lt_of_lt_of_le t1 hb.size) (Nat.lt_of_lt_of_le t3 hb.size) (r1.below hb t1) (r3.below hb t3))
    have kf := Lib.hid (fun (W : World) (gU cU gV cV : Nat) (hb : Below w.heap.size w W) (hoU : Own W w.heap.size gU cU (nfI c a)) (hoV : Own W w.heap.size gV cV (nfI c b)) => spec_l34Fails_ok g1 o1 _ c1 gU cU (nfI c a).length gV cV (nfI c b).length g4 o4 _ c4 w.heap.size c (nfI c a) (nfI c b) ps W rfl rfl rfl rfl (nw_nf hA) (nw_nf hB) hb.size hf4 (Nat.lt_of_lt_of_le t1 hb.size) (Nat.lt_of_lt_of_le t4 hb.size) (r1.below hb t1) (r4.below hb t4) hoU hoV)
    have hrr : notB c a b ps = nbR (nbGo c ps (nfI c a) (nfI c b)) := rfl
    rw [hrr]
    generalize nbR (nbGo c ps (nfI c a) (nfI c b)) = rr at *
    generalize nfI c a = ya at *
    generalize nfI c b = yb at *
    clear hV hLA hLB hrr
    clear hk r1 r2 r3 hA hB hC hw hf1 hf2 hf3 hf4 hf5 HA4 HA5 r4
    go_enter Tryz.func11, Tryz.ntmps11
    go_wp2_with fail
    refine (k1.out _ hB0).mono ?_
    rintro e w1 ⟨rfl, hs1⟩
    have hB1 := below_still hB0 hs1
    obtain ⟨d00, d01, d02, d03, d04, d05⟩ := sixA (show w1.heap[w.heap.size]? = some (.cells #[.int .i64 4, (Value.slice (some ⟨g1, o1, none⟩) c.length c1), (Value.slice (some ⟨g2, o2, none⟩) a.length c2), (Value.slice (some ⟨g3, o3, none⟩) b.length c3), (Value.slice (some ⟨g4, o4, none⟩) ps.length c4), .slice q5 m5 c5] 29 (0, 0)) from (by obtain ⟨q, rfl⟩ := hs1; exact C0.out))
    have C1 := Lib.hid (show w1.heap[w.heap.size]? = some (.cells #[.int .i64 4, (Value.slice (some ⟨g1, o1, none⟩) c.length c1), (Value.slice (some ⟨g2, o2, none⟩) a.length c2), (Value.slice (some ⟨g3, o3, none⟩) b.length c3), (Value.slice (some ⟨g4, o4, none⟩) ps.length c4), .slice q5 m5 c5] 29 (0, 0)) from (by obtain ⟨q, rfl⟩ := hs1; exact C0.out))
    clear hB0 hs1 c00 c01 c02 c03 c04 c05
    go_wp2_with fail
    refine (k2.out _ hB1).mono ?_
    rintro e w2 ⟨rfl, hs2⟩
    have hB2 := below_still hB1 hs2
    have C2 := Lib.hid (show w2.heap[w.heap.size]? = some (.cells #[.int .i64 4, (Value.slice (some ⟨g1, o1, none⟩) c.length c1), (Value.slice (some ⟨g2, o2, none⟩) a.length c2), (Value.slice (some ⟨g3, o3, none⟩) b.length c3), (Value.slice (some ⟨g4, o4, none⟩) ps.length c4), .slice q5 m5 c5] 29 (0, 0)) from (by obtain ⟨q, rfl⟩ := hs2; exact C1.out))
    obtain ⟨e00, e01, e02, e03, e04, e05⟩ := sixA C2.out
    clear hB1 hs2 d00 d01 d02 d03 d04 d05
    have xd1 : w2.drew.cell? ⟨w.heap.size, 1, none⟩ = some (Value.slice (some ⟨g1, o1, none⟩) c.length c1) := e01
    have xd2 : w2.drew.cell? ⟨w.heap.size, 2, none⟩ = some (Value.slice (some ⟨g2, o2, none⟩) a.length c2) := e02
    have xd3 : w2.drew.cell? ⟨w.heap.size, 3, none⟩ = some (Value.slice (some ⟨g3, o3, none⟩) b.length c3) := e03
    have xd4 : w2.drew.cell? ⟨w.heap.size, 4, none⟩ = some (Value.slice (some ⟨g4, o4, none⟩) ps.length c4) := e04
    have hBd := Lib.hid (show Below w.heap.size w w2.drew from Below.drew hB2)
    clear hB2
    go_wp2_with fail
    go_region_held3 (fun W => W.cell? ⟨w.heap.size, 1, none⟩ = some (Value.slice (some ⟨g1, o1, none⟩) c.length c1) ∧ W.cell? ⟨w.heap.size, 2, none⟩ = some (Value.slice (some ⟨g2, o2, none⟩) a.length c2) ∧ W.cell? ⟨w.heap.size, 3, none⟩ = some (Value.slice (some ⟨g3, o3, none⟩) b.length c3) ∧ W.cell? ⟨w.heap.size, 4, none⟩ = some (Value.slice (some ⟨g4, o4, none⟩) ps.length c4))
      (first | exact ⟨xd1, xd2, xd3, xd4⟩ | exact ⟨keepCell hbA xd1, keepCell hbA xd2, keepCell hbA xd3, keepCell hbA xd4⟩ | exact ⟨keepCell hbD (keepCell hbA xd1), keepCell hbD (keepCell hbA xd2), keepCell hbD (keepCell hbA xd3), keepCell hbD (keepCell hbA xd4)⟩ | exact ⟨keepCell hbF (keepCell hbD (keepCell hbA xd1)), keepCell hbF (keepCell hbD (keepCell hbA xd2)), keepCell hbF (keepCell hbD (keepCell hbA xd3)), keepCell hbF (keepCell hbD (keepCell hbA xd4))⟩)
      (first
        | (go_at_call_of 54 (Value.slice (some ⟨g2, o2, none⟩) a.length c2); refine (kna.out _ hBd.out).mono ?_; rintro e wA ⟨gA, cA, rfl, hoA, hbA⟩)
        | (go_at_call_of 54 (Value.slice (some ⟨g3, o3, none⟩) b.length c3); refine (knb.out _ (hBd.out.trans (hbA.mono hBd.out.size))).mono ?_; rintro e wD ⟨gD, cD, rfl, hoD, hbD⟩)
        | (go_at_call 53; refine (kf.out wD gA cA gD cD ((hBd.out.trans (hbA.mono hBd.out.size)).trans (hbD.mono (hBd.out.trans (hbA.mono hBd.out.size)).size)) ((hoA.below hbD hoA.lt).mono hBd.out.size) (hoD.mono (hBd.out.trans (hbA.mono hBd.out.size)).size)).mono ?_; rintro e wF ⟨rfl, hbF⟩))
    have hB3 := hBd.out.trans (hbA.mono hBd.out.size)
    have hB4 := hB3.trans (hbD.mono hB3.size)
    have hB5 := hB4.trans (hbF.mono hB4.size)
    clear hbA hbD hbF hoA hoD hB3 hB4 xd1 xd2 xd3 xd4
    go_wp2_with fail
    go_ret
    exact ⟨rfl, hB5⟩
  by_cases h5 : kd = 5
  · subst h5
    have hk : kindB 5 c a b ps R = infB c ps := rfl
    rw [hk]
    obtain ⟨g4, o4, n4, c4', e4, l4, m4', t4, r4⟩ := HA4.out (show (2:Int) ≤ 5 by decide) (show (5:Int) ≤ 5 by decide)
    cases e4
    dsimp only at l4 r4
    subst l4
    have ks := Lib.hid (fun (W : World) (hb : Below w.heap.size w W) => spec_SubCartan_okc g1 o1 _ c1 g4 o4 _ c4 c ps W rfl rfl hC hf4 (Nat.lt_of_lt_of_le t1 hb.size) (Nat.lt_of_lt_of_le t4 hb.size) (r1.below hb t1) (r4.below hb t4))
    have kd' := Lib.hid (fun (hs : setBB c ps = true) (W : World) (B g6 c6 : Nat) (rs : List RowRef) (hcon : contents rs = pickL c ps) (ho : OwnRows W B g6 c6 rs) => spec_l4Det_any ps.length (setBB_yes hC hs).2.1 g6 0 c6 (pickL c ps) W (pick_sq hC ps) ho.lt (by have := ho.rows2; rw [hcon] at this; exact this))
    have hek : infB c ps = (setBB c ps && decide (det ps.length (pickL c ps) ≤ 0)) := rfl
    have hsr : setBB c ps = true → subR c ps = pickL c ps := fun h => if_pos h
    have hpl := Lib.hid (show (pickL c ps).length = ps.length by simp [pickL])
    rw [hek]
    generalize det ps.length (pickL c ps) = dd at *
    generalize hss : setBB c ps = ss at *
    clear hV hek hss
    clear hk r1 r2 r3 hA hB hC hw hf1 hf2 hf3 hf4 hf5 HA4 HA5 r4
    go_enter Tryz.func11, Tryz.ntmps11
    go_wp2_with fail
    refine (k1.out _ hB0).mono ?_
    rintro e w1 ⟨rfl, hs1⟩
    have hB1 := below_still hB0 hs1
    obtain ⟨d00, d01, d02, d03, d04, d05⟩ := sixA (show w1.heap[w.heap.size]? = some (.cells #[.int .i64 5, (Value.slice (some ⟨g1, o1, none⟩) c.length c1), (Value.slice (some ⟨g2, o2, none⟩) a.length c2), (Value.slice (some ⟨g3, o3, none⟩) b.length c3), (Value.slice (some ⟨g4, o4, none⟩) ps.length c4), .slice q5 m5 c5] 29 (0, 0)) from (by obtain ⟨q, rfl⟩ := hs1; exact C0.out))
    have C1 := Lib.hid (show w1.heap[w.heap.size]? = some (.cells #[.int .i64 5, (Value.slice (some ⟨g1, o1, none⟩) c.length c1), (Value.slice (some ⟨g2, o2, none⟩) a.length c2), (Value.slice (some ⟨g3, o3, none⟩) b.length c3), (Value.slice (some ⟨g4, o4, none⟩) ps.length c4), .slice q5 m5 c5] 29 (0, 0)) from (by obtain ⟨q, rfl⟩ := hs1; exact C0.out))
    clear hB0 hs1 c00 c01 c02 c03 c04 c05
    go_wp2_with fail
    refine (k2.out _ hB1).mono ?_
    rintro e w2 ⟨rfl, hs2⟩
    have hB2 := below_still hB1 hs2
    have C2 := Lib.hid (show w2.heap[w.heap.size]? = some (.cells #[.int .i64 5, (Value.slice (some ⟨g1, o1, none⟩) c.length c1), (Value.slice (some ⟨g2, o2, none⟩) a.length c2), (Value.slice (some ⟨g3, o3, none⟩) b.length c3), (Value.slice (some ⟨g4, o4, none⟩) ps.length c4), .slice q5 m5 c5] 29 (0, 0)) from (by obtain ⟨q, rfl⟩ := hs2; exact C1.out))
    obtain ⟨e00, e01, e02, e03, e04, e05⟩ := sixA C2.out
    clear hB1 hs2 d00 d01 d02 d03 d04 d05
    go_wp2_with fail
    refine (ks.out _ hB2).mono ?_
    rintro e w3 ⟨g6, c6, rs, rfl, hcon, ho6, hb3⟩
    have hB3 := hB2.trans (hb3.mono hB2.size)
    clear hb3 hB2 e00 e01 e02 e03 e04 e05
    cases ss with
    | false =>
      go_wp2_with fail
      go_ret
      exact ⟨rfl, hB3⟩
    | true =>
      have hsr' := hsr rfl
      rw [hsr'] at hcon
      rw [hsr', hpl.out]
      have hcd := Lib.hid (kd'.out rfl w3 _ g6 c6 rs hcon ho6)
      clear hsr hsr' kd' hcon
      by_cases hd : dd ≤ 0
      · go_wp2_with fail
        refine hcd.out.mono ?_
        rintro e w4 ⟨rfl, hb4⟩
        go_wp2_with fail
        go_ret
        exact ⟨ret_bool (by first | exact (Bool.true_and _).symm | (rw [decide_eq_true hd]; rfl)), hB3.trans (hb4.mono hB3.size)⟩
      · go_wp2_with fail
        refine hcd.out.mono ?_
        rintro e w4 ⟨rfl, hb4⟩
        go_wp2_with fail
        go_ret
        exact ⟨ret_bool (by first | exact (Bool.true_and _).symm | (rw [decide_eq_false hd]; rfl)), hB3.trans (hb4.mono hB3.size)⟩
  by_cases h6 : kd = 6
  · subst h6
    have hk : kindB 6 c a b ps R = coversB c a := rfl
    rw [hk]
    have km := Lib.hid (fun (W : World) (hb : Below w.heap.size w W) => spec_CoversAll_ok g1 o1 _ c1 g2 o2 _ c2 c a W rfl rfl hA (Nat.lt_of_lt_of_le t1 hb.size) (Nat.lt_of_lt_of_le t2 hb.size) (r1.below hb t1) (r2.below hb t2))
    clear hV
    generalize coversB c a = rr at *
    clear hk r1 r2 r3 hA hB hC hw hf1 hf2 hf3 hf4 hf5 HA4 HA5
    go_enter Tryz.func11, Tryz.ntmps11
    go_wp2_with fail
    refine (k1.out _ hB0).mono ?_
    rintro e w1 ⟨rfl, hs1⟩
    have hB1 := below_still hB0 hs1
    obtain ⟨d00, d01, d02, d03, d04, d05⟩ := sixA (show w1.heap[w.heap.size]? = some (.cells #[.int .i64 6, (Value.slice (some ⟨g1, o1, none⟩) c.length c1), (Value.slice (some ⟨g2, o2, none⟩) a.length c2), (Value.slice (some ⟨g3, o3, none⟩) b.length c3), .slice q4 m4 c4, .slice q5 m5 c5] 29 (0, 0)) from (by obtain ⟨q, rfl⟩ := hs1; exact C0.out))
    have C1 := Lib.hid (show w1.heap[w.heap.size]? = some (.cells #[.int .i64 6, (Value.slice (some ⟨g1, o1, none⟩) c.length c1), (Value.slice (some ⟨g2, o2, none⟩) a.length c2), (Value.slice (some ⟨g3, o3, none⟩) b.length c3), .slice q4 m4 c4, .slice q5 m5 c5] 29 (0, 0)) from (by obtain ⟨q, rfl⟩ := hs1; exact C0.out))
    clear hB0 hs1 c00 c01 c02 c03 c04 c05
    go_wp2_with fail
    refine (k2.out _ hB1).mono ?_
    rintro e w2 ⟨rfl, hs2⟩
    have hB2 := below_still hB1 hs2
    have C2 := Lib.hid (show w2.heap[w.heap.size]? = some (.cells #[.int .i64 6, (Value.slice (some ⟨g1, o1, none⟩) c.length c1), (Value.slice (some ⟨g2, o2, none⟩) a.length c2), (Value.slice (some ⟨g3, o3, none⟩) b.length c3), .slice q4 m4 c4, .slice q5 m5 c5] 29 (0, 0)) from (by obtain ⟨q, rfl⟩ := hs2; exact C1.out))
    obtain ⟨e00, e01, e02, e03, e04, e05⟩ := sixA C2.out
    clear hB1 hs2 d00 d01 d02 d03 d04 d05
    go_wp2_with fail
    refine (km.out _ hB2).mono ?_
    rintro e w3 ⟨rfl, hb3⟩
    go_wp2_with fail
    go_ret
    exact ⟨rfl, hB2.trans (hb3.mono hB2.size)⟩
  have hk : kindB kd c a b ps R = false := by unfold kindB; rw [if_neg h1, if_neg h2, if_neg h3, if_neg h4, if_neg h5, if_neg h6]
  rw [hk]
  have b1 : (kd == 1) = false := by rw [beq_eq_false_iff_ne]; omega
  have b2 : (kd == 2) = false := by rw [beq_eq_false_iff_ne]; omega
  have b3 : (kd == 3) = false := by rw [beq_eq_false_iff_ne]; omega
  have b4 : (kd == 4) = false := by rw [beq_eq_false_iff_ne]; omega
  have b5 : (kd == 5) = false := by rw [beq_eq_false_iff_ne]; omega
  have b6 : (kd == 6) = false := by rw [beq_eq_false_iff_ne]; omega
  clear hk r1 r2 r3 hA hB hC hw hf1 hf2 hf3 hf4 hf5 HA4 HA5 hV h1 h2 h3 h4 h5 h6
  go_enter Tryz.func11, Tryz.ntmps11
  go_wp2_with fail
  refine (k1.out _ hB0).mono ?_
  rintro e w1 ⟨rfl, hs1⟩
  have hB1 := below_still hB0 hs1
  obtain ⟨d00, d01, d02, d03, d04, d05⟩ := sixA (show w1.heap[w.heap.size]? = some (.cells #[.int .i64 kd, (Value.slice (some ⟨g1, o1, none⟩) c.length c1), (Value.slice (some ⟨g2, o2, none⟩) a.length c2), (Value.slice (some ⟨g3, o3, none⟩) b.length c3), .slice q4 m4 c4, .slice q5 m5 c5] 29 (0, 0)) from (by obtain ⟨q, rfl⟩ := hs1; exact C0.out))
  have C1 := Lib.hid (show w1.heap[w.heap.size]? = some (.cells #[.int .i64 kd, (Value.slice (some ⟨g1, o1, none⟩) c.length c1), (Value.slice (some ⟨g2, o2, none⟩) a.length c2), (Value.slice (some ⟨g3, o3, none⟩) b.length c3), .slice q4 m4 c4, .slice q5 m5 c5] 29 (0, 0)) from (by obtain ⟨q, rfl⟩ := hs1; exact C0.out))
  clear hB0 hs1 c00 c01 c02 c03 c04 c05
  go_wp2_with fail
  refine (k2.out _ hB1).mono ?_
  rintro e w2 ⟨rfl, hs2⟩
  have hB2 := below_still hB1 hs2
  have C2 := Lib.hid (show w2.heap[w.heap.size]? = some (.cells #[.int .i64 kd, (Value.slice (some ⟨g1, o1, none⟩) c.length c1), (Value.slice (some ⟨g2, o2, none⟩) a.length c2), (Value.slice (some ⟨g3, o3, none⟩) b.length c3), .slice q4 m4 c4, .slice q5 m5 c5] 29 (0, 0)) from (by obtain ⟨q, rfl⟩ := hs2; exact C1.out))
  obtain ⟨e00, e01, e02, e03, e04, e05⟩ := sixA C2.out
  clear hB1 hs2 d00 d01 d02 d03 d04 d05
  go_wp2_with fail
  go_ret
  exact ⟨rfl, hB2⟩
end Go.Proofs.YtkjglfafphffiaaGreatDoor
