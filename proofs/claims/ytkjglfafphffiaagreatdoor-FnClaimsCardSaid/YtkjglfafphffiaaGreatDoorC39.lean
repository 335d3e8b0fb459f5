/- Chk -/
import Derived.Test.YtkjglfafphffiaaGreatDoorC38
import Derived.Test.YtkjglfafphffiaaGreatDoorC10
namespace Go.Proofs.YtkjglfafphffiaaGreatDoor
set_option maxRecDepth 100000
open Go.RowKit Game
def eqB (c : List (List Int)) (a b ps : List Int) : Bool := (applyB c a ps).isSome && decide ((applyB c a ps).getD a = b)
def infB (c : List (List Int)) (ps : List Int) : Bool := setBB c ps && decide (det ps.length (pickL c ps) ≤ 0)
def kindB (kd : Int) (c : List (List Int)) (a b ps : List Int) (R : List (List Int)) : Bool :=
  if kd = 1 then redB c a R else if kd = 2 then eqB c a b ps else if kd = 3 then belowB c a b ps else if kd = 4 then notB c a b ps else if kd = 5 then infB c ps else if kd = 6 then coversB c a else false
def checkL (x : ClaimD) : Bool := (isWordB x.cartan x.a && isWordB x.cartan x.b) && kindB x.kind x.cartan x.a x.b x.proof x.roots
def proofWf (x : ClaimD) : Prop := ∀ k, k < x.proof.length → -9223372036854775808 ≤ x.proof.getD k 0 ∧ x.proof.getD k 0 ≤ 9223372036854775807
theorem applyB_length {c : List (List Int)} {a ps y : List Int} (h : applyB c a ps = some y) : y.length = a.length := by
  unfold applyB at h
  split at h
  · have : ∀ (ps v y : List Int), applyA c v ps = some y → y.length = v.length := by
      intro ps
      induction ps with
      | nil => intro v y h; cases h; rfl
      | cons p ps ih =>
        intro v y h
        simp only [applyA] at h
        split at h
        · cases h
        · rename_i z hz
          rw [ih _ _ h, braidA_length hz]
    exact this ps a y h
  · cases h
theorem applyB_getD_length (c : List (List Int)) (a ps : List Int) : ((applyB c a ps).getD a).length = a.length := by
  cases h : applyB c a ps with
  | none => rfl
  | some y => exact applyB_length h
set_option maxRecDepth 100000 in
set_option maxHeartbeats 1000000 in
theorem impl_CheckClaim_n (v : Value) (x : ClaimD) (w : World) (h : ClaimN w v x) (hf : claimFew x) (hw : proofWf x) :
    Calls Tryz.prog 9 #[v] w (Gives w (.bool (checkL x))) := by
  have hV := Lib.hid (fun (W : World) (hb : Below w.heap.size w W) => ClaimN.below h hb)
  obtain ⟨kd, c, a, b, ps, R⟩ := x
  obtain ⟨p1, p2, p3, q4, m4, c4, q5, m5, c5, rfl, a1, a2, a3, a4, a5⟩ := h
  obtain ⟨g1, o1, n1, c1, rfl, l1, m1, t1, r1⟩ := a1
  obtain ⟨g2, o2, n2, c2, rfl, l2, m2, t2, r2⟩ := a2
  obtain ⟨g3, o3, n3, c3, rfl, l3, m3, t3, r3⟩ := a3
  have HA4 := Lib.hid a4
  clear a4 a5
  obtain ⟨hf1, hf2, hf3, hf4, hf5⟩ := hf
  change ∀ k, k < ps.length → -9223372036854775808 ≤ ps.getD k 0 ∧ ps.getD k 0 ≤ 9223372036854775807 at hw
  dsimp only at l1 l2 l3 r1 r2 r3 hf1 hf2 hf3 hf4 hf5 hV ⊢
  subst l1 l2 l3
  have k1 := fun (W : World) (hb : Below w.heap.size w W) => impl_IsWord_any g1 o1 _ c1 g2 o2 _ c2 c a W rfl rfl hf1.1 (fun j hj => hf1.2 j hj) hf2 (r1.below hb t1) (r2.below hb t2)
  have k2 := fun (W : World) (hb : Below w.heap.size w W) => impl_IsWord_any g1 o1 _ c1 g3 o3 _ c3 c b W rfl rfl hf1.1 (fun j hj => hf1.2 j hj) hf3 (r1.below hb t1) (r3.below hb t3)
  have C0 := Lib.hid (heap_alloc_new w (.cells #[.int .i64 kd, (Value.slice (some ⟨g1, o1, none⟩) c.length c1), (Value.slice (some ⟨g2, o2, none⟩) a.length c2), (Value.slice (some ⟨g3, o3, none⟩) b.length c3), .slice q4 m4 c4, .slice q5 m5 c5] 29 (0, 0)))
  have hB0 : Below w.heap.size w (w.alloc (.cells #[.int .i64 kd, (Value.slice (some ⟨g1, o1, none⟩) c.length c1), (Value.slice (some ⟨g2, o2, none⟩) a.length c2), (Value.slice (some ⟨g3, o3, none⟩) b.length c3), .slice q4 m4 c4, .slice q5 m5 c5] 29)) := (Below.refl _ _).alloc (Nat.le_refl _) _
  obtain ⟨c00, c01, c02, c03, c04, c05⟩ := sixA C0.out
  have hck : checkL ⟨kd, c, a, b, ps, R⟩ = ((isWordB c a && isWordB c b) && kindB kd c a b ps R) := rfl
  rw [hck]
  cases hwa : isWordB c a with
  | false =>
    rw [hwa] at k1
    have k1 := Lib.hid k1
    rw [Bool.false_and, Bool.false_and]
    clear hck hwa k2 r1 r2 r3 hV
    go_enter Tryz.func9, Tryz.ntmps9
    go_wp2_with fail
    refine (k1.out _ hB0).mono ?_
    rintro e w1 ⟨rfl, hs1⟩
    have hB1 := below_still hB0 hs1
    obtain ⟨d00, d01, d02, d03, d04, d05⟩ := sixA (show w1.heap[w.heap.size]? = some (.cells #[.int .i64 kd, (Value.slice (some ⟨g1, o1, none⟩) c.length c1), (Value.slice (some ⟨g2, o2, none⟩) a.length c2), (Value.slice (some ⟨g3, o3, none⟩) b.length c3), .slice q4 m4 c4, .slice q5 m5 c5] 29 (0, 0)) from (by obtain ⟨q, rfl⟩ := hs1; exact C0.out))
    clear hB0 hs1 c00 c01 c02 c03 c04 c05
    go_wp2_with fail
    go_ret
    exact ⟨rfl, hB1⟩
  | true =>
  rw [hwa] at k1
  have k1 := Lib.hid k1
  rw [Bool.true_and]
  cases hwb : isWordB c b with
  | false =>
    rw [hwb] at k2
    have k2 := Lib.hid k2
    rw [Bool.false_and]
    clear hck hwa hwb r1 r2 r3 hV
    go_enter Tryz.func9, Tryz.ntmps9
    go_wp2_with fail
    refine (k1.out _ hB0).mono ?_
    rintro e w1 ⟨rfl, hs1⟩
    have hB1 := below_still hB0 hs1
    obtain ⟨d00, d01, d02, d03, d04, d05⟩ := sixA (show w1.heap[w.heap.size]? = some (.cells #[.int .i64 kd, (Value.slice (some ⟨g1, o1, none⟩) c.length c1), (Value.slice (some ⟨g2, o2, none⟩) a.length c2), (Value.slice (some ⟨g3, o3, none⟩) b.length c3), .slice q4 m4 c4, .slice q5 m5 c5] 29 (0, 0)) from (by obtain ⟨q, rfl⟩ := hs1; exact C0.out))
    clear hB0 hs1 c00 c01 c02 c03 c04 c05
    go_wp2_with fail
    refine (k2.out _ hB1).mono ?_
    rintro e w2 ⟨rfl, hs2⟩
    go_wp2_with fail
    go_ret
    exact ⟨rfl, below_still hB1 hs2⟩
  | true =>
  rw [hwb] at k2
  have k2 := Lib.hid k2
  rw [Bool.true_and]
  have hA := wordOk_of hwa
  have hB := wordOk_of hwb
  have hC := hA.isC
  have hn4 := hC.2.1
  clear hck hwa hwb
  by_cases h1 : kd = 1
  · subst h1
    have hk : kindB 1 c a b ps R = redB c a R := rfl
    rw [hk]
    have km := Lib.hid (fun (W : World) (hb : Below w.heap.size w W) => show Calls Tryz.prog 39 _ W (Gives W (.bool (redB c a R))) from impl_checkReduced_ok _ ⟨1, c, a, b, ps, R⟩ W ((hV.out W hb).toR rfl) hA hf5)
    clear hV
    generalize redB c a R = rr at *
    clear hk r1 r2 r3 hA hB hC hw hf1 hf2 hf3 hf4 hf5 HA4
    go_enter Tryz.func9, Tryz.ntmps9
    go_wp2_with fail
    refine (k1.out _ hB0).mono ?_
    rintro e w1 ⟨rfl, hs1⟩
    have hB1 := below_still hB0 hs1
    obtain ⟨d00, d01, d02, d03, d04, d05⟩ := sixA (show w1.heap[w.heap.size]? = some (.cells #[.int .i64 1, (Value.slice (some ⟨g1, o1, none⟩) c.length c1), (Value.slice (some ⟨g2, o2, none⟩) a.length c2), (Value.slice (some ⟨g3, o3, none⟩) b.length c3), .slice q4 m4 c4, .slice q5 m5 c5] 29 (0, 0)) from (by obtain ⟨q, rfl⟩ := hs1; exact C0.out))
    have C1 := Lib.hid (show w1.heap[w.heap.size]? = some (.cells #[.int .i64 1, (Value.slice (some ⟨g1, o1, none⟩) c.length c1), (Value.slice (some ⟨g2, o2, none⟩) a.length c2), (Value.slice (some ⟨g3, o3, none⟩) b.length c3), .slice q4 m4 c4, .slice q5 m5 c5] 29 (0, 0)) from (by obtain ⟨q, rfl⟩ := hs1; exact C0.out))
    clear hB0 hs1 c00 c01 c02 c03 c04 c05
    go_wp2_with fail
    refine (k2.out _ hB1).mono ?_
    rintro e w2 ⟨rfl, hs2⟩
    have hB2 := below_still hB1 hs2
    have C2 := Lib.hid (show w2.heap[w.heap.size]? = some (.cells #[.int .i64 1, (Value.slice (some ⟨g1, o1, none⟩) c.length c1), (Value.slice (some ⟨g2, o2, none⟩) a.length c2), (Value.slice (some ⟨g3, o3, none⟩) b.length c3), .slice q4 m4 c4, .slice q5 m5 c5] 29 (0, 0)) from (by obtain ⟨q, rfl⟩ := hs2; exact C1.out))
    obtain ⟨e00, e01, e02, e03, e04, e05⟩ := sixA C2.out
    clear hB1 hs2 d00 d01 d02 d03 d04 d05
    go_wp2_with fail
    refine (km.out _ hB2).mono ?_
    rintro e w3 ⟨rfl, hb3⟩
    go_wp2_with fail
    go_ret
    exact ⟨rfl, hB2.trans (hb3.mono hB2.size)⟩
  by_cases h2 : kd = 2
  · subst h2
    have hk : kindB 2 c a b ps R = eqB c a b ps := rfl
    rw [hk]
    obtain ⟨g4, o4, n4, c4', e4, l4, m4', t4, r4⟩ := HA4.out (show (2:Int) ≤ 2 by decide) (show (2:Int) ≤ 5 by decide)
    cases e4
    dsimp only at l4 r4
    subst l4
    have kb := Lib.hid (fun (W : World) (hb : Below w.heap.size w W) => impl_ApplyBraids_any g1 o1 _ c1 g2 o2 _ c2 g4 o4 _ c4 c a ps W rfl rfl rfl hf1.1 (fun j hj => hf1.2 j hj) hf2 hf4 hw (Nat.lt_of_lt_of_le t1 hb.size) (Nat.lt_of_lt_of_le t2 hb.size) (Nat.lt_of_lt_of_le t4 hb.size) (r1.below hb t1) (r2.below hb t2) (r4.below hb t4))
    have hyl := applyB_getD_length c a ps
    have ke := Lib.hid (fun (W : World) (B g6 c6 : Nat) (hb : Below w.heap.size w W) (ho : Own W B g6 c6 ((applyB c a ps).getD a)) => impl_EqualWords_any g6 0 a.length c6 g3 o3 _ c3 ((applyB c a ps).getD a) b W hyl rfl (by omega) hf3 ho.cells (r3.below hb t3))
    have Hyl := Lib.hid hyl
    have hek : eqB c a b ps = ((applyB c a ps).isSome && decide ((applyB c a ps).getD a = b)) := rfl
    rw [hek]
    generalize (applyB c a ps).getD a = y at *
    generalize decide (y = b) = rr at *
    generalize (applyB c a ps).isSome = ss at *
    clear hV hyl hek
    clear hk r1 r2 r3 hA hB hC hw hf1 hf2 hf3 hf4 hf5 HA4 r4
    go_enter Tryz.func9, Tryz.ntmps9
    go_wp2_with fail
    refine (k1.out _ hB0).mono ?_
    rintro e w1 ⟨rfl, hs1⟩
    have hB1 := below_still hB0 hs1
    obtain ⟨d00, d01, d02, d03, d04, d05⟩ := sixA (show w1.heap[w.heap.size]? = some (.cells #[.int .i64 2, (Value.slice (some ⟨g1, o1, none⟩) c.length c1), (Value.slice (some ⟨g2, o2, none⟩) a.length c2), (Value.slice (some ⟨g3, o3, none⟩) b.length c3), (Value.slice (some ⟨g4, o4, none⟩) ps.length c4), .slice q5 m5 c5] 29 (0, 0)) from (by obtain ⟨q, rfl⟩ := hs1; exact C0.out))
    have C1 := Lib.hid (show w1.heap[w.heap.size]? = some (.cells #[.int .i64 2, (Value.slice (some ⟨g1, o1, none⟩) c.length c1), (Value.slice (some ⟨g2, o2, none⟩) a.length c2), (Value.slice (some ⟨g3, o3, none⟩) b.length c3), (Value.slice (some ⟨g4, o4, none⟩) ps.length c4), .slice q5 m5 c5] 29 (0, 0)) from (by obtain ⟨q, rfl⟩ := hs1; exact C0.out))
    clear hB0 hs1 c00 c01 c02 c03 c04 c05
    go_wp2_with fail
    refine (k2.out _ hB1).mono ?_
    rintro e w2 ⟨rfl, hs2⟩
    have hB2 := below_still hB1 hs2
    have C2 := Lib.hid (show w2.heap[w.heap.size]? = some (.cells #[.int .i64 2, (Value.slice (some ⟨g1, o1, none⟩) c.length c1), (Value.slice (some ⟨g2, o2, none⟩) a.length c2), (Value.slice (some ⟨g3, o3, none⟩) b.length c3), (Value.slice (some ⟨g4, o4, none⟩) ps.length c4), .slice q5 m5 c5] 29 (0, 0)) from (by obtain ⟨q, rfl⟩ := hs2; exact C1.out))
    obtain ⟨e00, e01, e02, e03, e04, e05⟩ := sixA C2.out
    clear hB1 hs2 d00 d01 d02 d03 d04 d05
    go_wp2_with fail
    refine (kb.out _ hB2).mono ?_
    rintro e w3 ⟨g6, c6, rfl, ho6, hb3⟩
    have hB3 := hB2.trans (hb3.mono hB2.size)
    have C3 := Lib.hid ((hb3.block _ (lt_of_block C2.out)).trans C2.out)
    obtain ⟨f00, f01, f02, f03, f04, f05⟩ := sixA C3.out
    rw [Hyl.out]
    clear hb3 hB2 e00 e01 e02 e03 e04 e05
    cases ss with
    | false =>
      go_wp2_with fail
      go_ret
      exact ⟨rfl, hB3⟩
    | true =>
      go_wp2_with fail
      refine (ke.out _ _ g6 c6 hB3 ho6).mono ?_
      rintro e w4 ⟨rfl, hs4⟩
      go_wp2_with fail
      go_ret
      exact ⟨rfl, below_still hB3 hs4⟩
  by_cases h3 : kd = 3
  · subst h3
    have hk : kindB 3 c a b ps R = belowB c a b ps := rfl
    rw [hk]
    have km := Lib.hid (fun (W : World) (hb : Below w.heap.size w W) => show Calls Tryz.prog 42 _ W (Gives W (.bool (belowB c a b ps))) from impl_checkBelow_ok _ ⟨3, c, a, b, ps, R⟩ W ((hV.out W hb).toP (show (2:Int) ≤ 3 by decide) (show (3:Int) ≤ 5 by decide)) hA hB hf4)
    clear hV
    generalize belowB c a b ps = rr at *
    clear hk r1 r2 r3 hA hB hC hw hf1 hf2 hf3 hf4 hf5 HA4
    go_enter Tryz.func9, Tryz.ntmps9
    go_wp2_with fail
    refine (k1.out _ hB0).mono ?_
    rintro e w1 ⟨rfl, hs1⟩
    have hB1 := below_still hB0 hs1
    obtain ⟨d00, d01, d02, d03, d04, d05⟩ := sixA (show w1.heap[w.heap.size]? = some (.cells #[.int .i64 3, (Value.slice (some ⟨g1, o1, none⟩) c.length c1), (Value.slice (some ⟨g2, o2, none⟩) a.length c2), (Value.slice (some ⟨g3, o3, none⟩) b.length c3), .slice q4 m4 c4, .slice q5 m5 c5] 29 (0, 0)) from (by obtain ⟨q, rfl⟩ := hs1; exact C0.out))
    have C1 := Lib.hid (show w1.heap[w.heap.size]? = some (.cells #[.int .i64 3, (Value.slice (some ⟨g1, o1, none⟩) c.length c1), (Value.slice (some ⟨g2, o2, none⟩) a.length c2), (Value.slice (some ⟨g3, o3, none⟩) b.length c3), .slice q4 m4 c4, .slice q5 m5 c5] 29 (0, 0)) from (by obtain ⟨q, rfl⟩ := hs1; exact C0.out))
    clear hB0 hs1 c00 c01 c02 c03 c04 c05
    go_wp2_with fail
    refine (k2.out _ hB1).mono ?_
    rintro e w2 ⟨rfl, hs2⟩
    have hB2 := below_still hB1 hs2
    have C2 := Lib.hid (show w2.heap[w.heap.size]? = some (.cells #[.int .i64 3, (Value.slice (some ⟨g1, o1, none⟩) c.length c1), (Value.slice (some ⟨g2, o2, none⟩) a.length c2), (Value.slice (some ⟨g3, o3, none⟩) b.length c3), .slice q4 m4 c4, .slice q5 m5 c5] 29 (0, 0)) from (by obtain ⟨q, rfl⟩ := hs2; exact C1.out))
    obtain ⟨e00, e01, e02, e03, e04, e05⟩ := sixA C2.out
    clear hB1 hs2 d00 d01 d02 d03 d04 d05
    go_wp2_with fail
    refine (km.out _ hB2).mono ?_
    rintro e w3 ⟨rfl, hb3⟩
    go_wp2_with fail
    go_ret
    exact ⟨rfl, hB2.trans (hb3.mono hB2.size)⟩
  by_cases h4 : kd = 4
  · subst h4
    have hk : kindB 4 c a b ps R = notB c a b ps := rfl
    rw [hk]
    have km := Lib.hid (fun (W : World) (hb : Below w.heap.size w W) => show Calls Tryz.prog 43 _ W (Gives W (.bool (notB c a b ps))) from impl_checkNotBelow_ok _ ⟨4, c, a, b, ps, R⟩ W ((hV.out W hb).toP (show (2:Int) ≤ 4 by decide) (show (4:Int) ≤ 5 by decide)) hA hB hf4)
    clear hV
    generalize notB c a b ps = rr at *
    clear hk r1 r2 r3 hA hB hC hw hf1 hf2 hf3 hf4 hf5 HA4
    go_enter Tryz.func9, Tryz.ntmps9
    go_wp2_with fail
    refine (k1.out _ hB0).mono ?_
    rintro e w1 ⟨rfl, hs1⟩
    have hB1 := below_still hB0 hs1
    obtain ⟨d00, d01, d02, d03, d04, d05⟩ := sixA (show w1.heap[w.heap.size]? = some (.cells #[.int .i64 4, (Value.slice (some ⟨g1, o1, none⟩) c.length c1), (Value.slice (some ⟨g2, o2, none⟩) a.length c2), (Value.slice (some ⟨g3, o3, none⟩) b.length c3), .slice q4 m4 c4, .slice q5 m5 c5] 29 (0, 0)) from (by obtain ⟨q, rfl⟩ := hs1; exact C0.out))
    have C1 := Lib.hid (show w1.heap[w.heap.size]? = some (.cells #[.int .i64 4, (Value.slice (some ⟨g1, o1, none⟩) c.length c1), (Value.slice (some ⟨g2, o2, none⟩) a.length c2), (Value.slice (some ⟨g3, o3, none⟩) b.length c3), .slice q4 m4 c4, .slice q5 m5 c5] 29 (0, 0)) from (by obtain ⟨q, rfl⟩ := hs1; exact C0.out))
    clear hB0 hs1 c00 c01 c02 c03 c04 c05
    go_wp2_with fail
    refine (k2.out _ hB1).mono ?_
    rintro e w2 ⟨rfl, hs2⟩
    have hB2 := below_still hB1 hs2
    have C2 := Lib.hid (show w2.heap[w.heap.size]? = some (.cells #[.int .i64 4, (Value.slice (some ⟨g1, o1, none⟩) c.length c1), (Value.slice (some ⟨g2, o2, none⟩) a.length c2), (Value.slice (some ⟨g3, o3, none⟩) b.length c3), .slice q4 m4 c4, .slice q5 m5 c5] 29 (0, 0)) from (by obtain ⟨q, rfl⟩ := hs2; exact C1.out))
    obtain ⟨e00, e01, e02, e03, e04, e05⟩ := sixA C2.out
    clear hB1 hs2 d00 d01 d02 d03 d04 d05
    go_wp2_with fail
    refine (km.out _ hB2).mono ?_
    rintro e w3 ⟨rfl, hb3⟩
    go_wp2_with fail
    go_ret
    exact ⟨rfl, hB2.trans (hb3.mono hB2.size)⟩
  by_cases h5 : kd = 5
  · subst h5
    have hk : kindB 5 c a b ps R = infB c ps := rfl
    rw [hk]
    obtain ⟨g4, o4, n4, c4', e4, l4, m4', t4, r4⟩ := HA4.out (show (2:Int) ≤ 5 by decide) (show (5:Int) ≤ 5 by decide)
    cases e4
    dsimp only at l4 r4
    subst l4
    have ks := Lib.hid (fun (W : World) (hb : Below w.heap.size w W) => impl_SubCartan_ok g1 o1 _ c1 g4 o4 _ c4 c ps W rfl rfl hC hf4 (Nat.lt_of_lt_of_le t1 hb.size) (Nat.lt_of_lt_of_le t4 hb.size) (r1.below hb t1) (r4.below hb t4))
    have kd' := Lib.hid (fun (hs : setBB c ps = true) (W : World) (B g6 c6 : Nat) (rs : List RowRef) (hcon : contents rs = pickL c ps) (ho : OwnRows W B g6 c6 rs) => impl_determinant_any ps.length (setBB_yes hC hs).2.1 g6 0 c6 (pickL c ps) W (pick_sq hC ps) ho.lt (by have h1 := ho.capLe; have h2 : rs.length = ps.length := (by rw [← contents_length, hcon]; simp [pickL]); omega) (by have := ho.rows2; rw [hcon] at this; exact this))
    have hek : infB c ps = (setBB c ps && decide (det ps.length (pickL c ps) ≤ 0)) := rfl
    have hsr : setBB c ps = true → subR c ps = pickL c ps := fun h => if_pos h
    have hpl := Lib.hid (show (pickL c ps).length = ps.length by simp [pickL])
    rw [hek]
    generalize det ps.length (pickL c ps) = dd at *
    generalize hss : setBB c ps = ss at *
    clear hV hek hss
    clear hk r1 r2 r3 hA hB hC hw hf1 hf2 hf3 hf4 hf5 HA4 r4
    go_enter Tryz.func9, Tryz.ntmps9
    go_wp2_with fail
    refine (k1.out _ hB0).mono ?_
    rintro e w1 ⟨rfl, hs1⟩
    have hB1 := below_still hB0 hs1
    obtain ⟨d00, d01, d02, d03, d04, d05⟩ := sixA (show w1.heap[w.heap.size]? = some (.cells #[.int .i64 5, (Value.slice (some ⟨g1, o1, none⟩) c.length c1), (Value.slice (some ⟨g2, o2, none⟩) a.length c2), (Value.slice (some ⟨g3, o3, none⟩) b.length c3), (Value.slice (some ⟨g4, o4, none⟩) ps.length c4), .slice q5 m5 c5] 29 (0, 0)) from (by obtain ⟨q, rfl⟩ := hs1; exact C0.out))
    have C1 := Lib.hid (show w1.heap[w.heap.size]? = some (.cells #[.int .i64 5, (Value.slice (some ⟨g1, o1, none⟩) c.length c1), (Value.slice (some ⟨g2, o2, none⟩) a.length c2), (Value.slice (some ⟨g3, o3, none⟩) b.length c3), (Value.slice (some ⟨g4, o4, none⟩) ps.length c4), .slice q5 m5 c5] 29 (0, 0)) from (by obtain ⟨q, rfl⟩ := hs1; exact C0.out))
    clear hB0 hs1 c00 c01 c02 c03 c04 c05
    go_wp2_with fail
    refine (k2.out _ hB1).mono ?_
    rintro e w2 ⟨rfl, hs2⟩
    have hB2 := below_still hB1 hs2
    have C2 := Lib.hid (show w2.heap[w.heap.size]? = some (.cells #[.int .i64 5, (Value.slice (some ⟨g1, o1, none⟩) c.length c1), (Value.slice (some ⟨g2, o2, none⟩) a.length c2), (Value.slice (some ⟨g3, o3, none⟩) b.length c3), (Value.slice (some ⟨g4, o4, none⟩) ps.length c4), .slice q5 m5 c5] 29 (0, 0)) from (by obtain ⟨q, rfl⟩ := hs2; exact C1.out))
    obtain ⟨e00, e01, e02, e03, e04, e05⟩ := sixA C2.out
    clear hB1 hs2 d00 d01 d02 d03 d04 d05
    go_wp2_with fail
    refine (ks.out _ hB2).mono ?_
    rintro e w3 ⟨g6, c6, rs, rfl, hcon, ho6, hb3⟩
    have hB3 := hB2.trans (hb3.mono hB2.size)
    clear hb3 hB2 e00 e01 e02 e03 e04 e05
    cases ss with
    | false =>
      go_wp2_with fail
      go_ret
      exact ⟨rfl, hB3⟩
    | true =>
      have hsr' := hsr rfl
      rw [hsr'] at hcon
      rw [hsr', hpl.out]
      have hcd := Lib.hid (kd'.out rfl w3 _ g6 c6 rs hcon ho6)
      clear hsr hsr' kd' hcon
      by_cases hd : dd ≤ 0
      · go_wp2_with fail
        refine hcd.out.mono ?_
        rintro e w4 ⟨rfl, hb4⟩
        go_wp2_with fail
        go_ret
        exact ⟨ret_bool (by first | exact (Bool.true_and _).symm | (rw [decide_eq_true hd]; rfl)), hB3.trans (hb4.mono hB3.size)⟩
      · go_wp2_with fail
        refine hcd.out.mono ?_
        rintro e w4 ⟨rfl, hb4⟩
        go_wp2_with fail
        go_ret
        exact ⟨ret_bool (by first | exact (Bool.true_and _).symm | (rw [decide_eq_false hd]; rfl)), hB3.trans (hb4.mono hB3.size)⟩
  by_cases h6 : kd = 6
  · subst h6
    have hk : kindB 6 c a b ps R = coversB c a := rfl
    rw [hk]
    have km := Lib.hid (fun (W : World) (hb : Below w.heap.size w W) => impl_CoversAll_ok g1 o1 _ c1 g2 o2 _ c2 c a W rfl rfl hA (Nat.lt_of_lt_of_le t1 hb.size) (Nat.lt_of_lt_of_le t2 hb.size) (r1.below hb t1) (r2.below hb t2))
    clear hV
    generalize coversB c a = rr at *
    clear hk r1 r2 r3 hA hB hC hw hf1 hf2 hf3 hf4 hf5 HA4
    go_enter Tryz.func9, Tryz.ntmps9
    go_wp2_with fail
    refine (k1.out _ hB0).mono ?_
    rintro e w1 ⟨rfl, hs1⟩
    have hB1 := below_still hB0 hs1
    obtain ⟨d00, d01, d02, d03, d04, d05⟩ := sixA (show w1.heap[w.heap.size]? = some (.cells #[.int .i64 6, (Value.slice (some ⟨g1, o1, none⟩) c.length c1), (Value.slice (some ⟨g2, o2, none⟩) a.length c2), (Value.slice (some ⟨g3, o3, none⟩) b.length c3), .slice q4 m4 c4, .slice q5 m5 c5] 29 (0, 0)) from (by obtain ⟨q, rfl⟩ := hs1; exact C0.out))
    have C1 := Lib.hid (show w1.heap[w.heap.size]? = some (.cells #[.int .i64 6, (Value.slice (some ⟨g1, o1, none⟩) c.length c1), (Value.slice (some ⟨g2, o2, none⟩) a.length c2), (Value.slice (some ⟨g3, o3, none⟩) b.length c3), .slice q4 m4 c4, .slice q5 m5 c5] 29 (0, 0)) from (by obtain ⟨q, rfl⟩ := hs1; exact C0.out))
    clear hB0 hs1 c00 c01 c02 c03 c04 c05
    go_wp2_with fail
    refine (k2.out _ hB1).mono ?_
    rintro e w2 ⟨rfl, hs2⟩
    have hB2 := below_still hB1 hs2
    have C2 := Lib.hid (show w2.heap[w.heap.size]? = some (.cells #[.int .i64 6, (Value.slice (some ⟨g1, o1, none⟩) c.length c1), (Value.slice (some ⟨g2, o2, none⟩) a.length c2), (Value.slice (some ⟨g3, o3, none⟩) b.length c3), .slice q4 m4 c4, .slice q5 m5 c5] 29 (0, 0)) from (by obtain ⟨q, rfl⟩ := hs2; exact C1.out))
    obtain ⟨e00, e01, e02, e03, e04, e05⟩ := sixA C2.out
    clear hB1 hs2 d00 d01 d02 d03 d04 d05
    go_wp2_with fail
    refine (km.out _ hB2).mono ?_
    rintro e w3 ⟨rfl, hb3⟩
    go_wp2_with fail
    go_ret
    exact ⟨rfl, hB2.trans (hb3.mono hB2.size)⟩
  have hk : kindB kd c a b ps R = false := by unfold kindB; rw [if_neg h1, if_neg h2, if_neg h3, if_neg h4, if_neg h5, if_neg h6]
  rw [hk]
  have b1 : (kd == 1) = false := by rw [beq_eq_false_iff_ne]; omega
  have b2 : (kd == 2) = false := by rw [beq_eq_false_iff_ne]; omega
  have b3 : (kd == 3) = false := by rw [beq_eq_false_iff_ne]; omega
  have b4 : (kd == 4) = false := by rw [beq_eq_false_iff_ne]; omega
  have b5 : (kd == 5) = false := by rw [beq_eq_false_iff_ne]; omega
  have b6 : (kd == 6) = false := by rw [beq_eq_false_iff_ne]; omega
  clear hk r1 r2 r3 hA hB hC hw hf1 hf2 hf3 hf4 hf5 hV HA4 h1 h2 h3 h4 h5 h6
  go_enter Tryz.func9, Tryz.ntmps9
  go_wp2_with fail
  refine (k1.out _ hB0).mono ?_
  rintro e w1 ⟨rfl, hs1⟩
  have hB1 := below_still hB0 hs1
  obtain ⟨d00, d01, d02, d03, d04, d05⟩ := sixA (show w1.heap[w.heap.size]? = some (.cells #[.int .i64 kd, (Value.slice (some ⟨g1, o1, none⟩) c.length c1), (Value.slice (some ⟨g2, o2, none⟩) a.length c2), (Value.slice (some ⟨g3, o3, none⟩) b.length c3), .slice q4 m4 c4, .slice q5 m5 c5] 29 (0, 0)) from (by obtain ⟨q, rfl⟩ := hs1; exact C0.out))
  have C1 := Lib.hid (show w1.heap[w.heap.size]? = some (.cells #[.int .i64 kd, (Value.slice (some ⟨g1, o1, none⟩) c.length c1), (Value.slice (some ⟨g2, o2, none⟩) a.length c2), (Value.slice (some ⟨g3, o3, none⟩) b.length c3), .slice q4 m4 c4, .slice q5 m5 c5] 29 (0, 0)) from (by obtain ⟨q, rfl⟩ := hs1; exact C0.out))
  clear hB0 hs1 c00 c01 c02 c03 c04 c05
  go_wp2_with fail
  refine (k2.out _ hB1).mono ?_
  rintro e w2 ⟨rfl, hs2⟩
  have hB2 := below_still hB1 hs2
  have C2 := Lib.hid (show w2.heap[w.heap.size]? = some (.cells #[.int .i64 kd, (Value.slice (some ⟨g1, o1, none⟩) c.length c1), (Value.slice (some ⟨g2, o2, none⟩) a.length c2), (Value.slice (some ⟨g3, o3, none⟩) b.length c3), .slice q4 m4 c4, .slice q5 m5 c5] 29 (0, 0)) from (by obtain ⟨q, rfl⟩ := hs2; exact C1.out))
  obtain ⟨e00, e01, e02, e03, e04, e05⟩ := sixA C2.out
  clear hB1 hs2 d00 d01 d02 d03 d04 d05
  go_wp2_with fail
  go_ret
  exact ⟨rfl, hB2⟩
end Go.Proofs.YtkjglfafphffiaaGreatDoor
