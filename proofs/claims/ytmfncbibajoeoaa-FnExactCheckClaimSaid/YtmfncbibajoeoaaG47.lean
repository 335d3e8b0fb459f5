/- The program's check that an element is not below another one: contract. -/
import Derived.Test.YtmfncbibajoeoaaG46
namespace Go.Proofs.Ytmfncbibajoeoaa
set_option maxRecDepth 100000
open Go.RowKit Game

set_option maxRecDepth 100000 in
set_option maxHeartbeats 4000000 in
theorem impl_checkNotBelow_ok (v : Value) (x : ClaimD) (w : World) (h : ClaimV w v x) (hA : WordOk x.cartan x.a) (hB : WordOk x.cartan x.b) (hl : x.proof.length ≤ 1048576) :
    Calls Try.prog 78 #[v] w (Gives w (.bool (notB x.cartan x.a x.b x.proof))) := by
  obtain ⟨p1, p2, p3, p4, p5, rfl, a1, a2, a3, a4, a5⟩ := h
  obtain ⟨g1, o1, n1, c1, rfl, l1, m1, t1, r1⟩ := a1
  obtain ⟨g2, o2, n2, c2, rfl, l2, m2, t2, r2⟩ := a2
  obtain ⟨g3, o3, n3, c3, rfl, l3, m3, t3, r3⟩ := a3
  obtain ⟨g4, o4, n4, c4, rfl, l4, m4, t4, r4⟩ := a4
  obtain ⟨g5, o5, n5, c5, rfl, -⟩ := a5
  generalize x.cartan = c at *
  generalize x.a = a at *
  generalize x.b = b at *
  generalize x.proof = ps at *
  generalize x.kind = kd at *
  subst l1 l2 l3 l4
  have hC := hA.isC
  have hn4 := hC.2.1
  have hcl := hC.2.2.1
  have ha15 := hA.few
  have hb15 := hB.few
  have hU := nw_nf hA
  have hV := nw_nf hB
  have hiU := (nfI_ok (hA.lets.mono (show 15 ≤ 30 by omega))).img
  have hiV := (nfI_ok (hB.lets.mono (show 15 ≤ 30 by omega))).img
  have k2 := Lib.hid (fun (W : World) (hb : Below w.heap.size w W) => by
    have := impl_image_any g1 o1 _ c1 g2 o2 _ c2 c a W rfl rfl hC (by omega) hA.inr (Nat.lt_of_lt_of_le t1 hb.size) (Nat.lt_of_lt_of_le t2 hb.size) (r1.below hb t1) (r2.below hb t2)
    rw [show actW c a (onesL c.length) = imI c (nfI c a) from hiU.symm] at this
    exact this)
  have k3 := Lib.hid (fun (W : World) (hb : Below w.heap.size w W) => by
    have := impl_image_any g1 o1 _ c1 g3 o3 _ c3 c b W rfl rfl hC (by omega) hB.inr (Nat.lt_of_lt_of_le t1 hb.size) (Nat.lt_of_lt_of_le t3 hb.size) (r1.below hb t1) (r3.below hb t3)
    rw [show actW c b (onesL c.length) = imI c (nfI c b) from hiV.symm] at this
    exact this)
  have kN := Lib.hid (fun (X : List Int) (hX : Nw c X) (W : World) (g6 c6 : Nat) (hb : Below w.heap.size w W) (ho : Own W w.heap.size g6 c6 (imI c X)) => impl_normal_any g1 o1 _ c1 g6 0 c.length c6 30 c (imI c X) X W rfl (imI_length c X) hC (imI_length c X) (by omega) (by have := (nfI_ok (hX.lets.mono (show 15 ≤ 30 by omega))).norm; rw [hX.self] at this; exact this) (Nat.lt_of_lt_of_le t1 hb.size) ho.lt (r1.below hb t1) ho.cells)
  have kF := Lib.hid (fun (X : List Int) (i : Nat) (hi : i < c.length) (W : World) (g6 c6 : Nat) (hb : Below w.heap.size w W) (ho : Own W w.heap.size g6 c6 (imI c X)) => impl_reflected_any w g1 o1 _ c1 g6 c6 i c.length c (imI c X) W rfl (imI_length c X) (imI_length c X) hn4 hcl hi t1 r1 hb ho)
  have hR : nbGo c (ps.drop 0) (nfI c a) (nfI c b) = nbGo c ps (nfI c a) (nfI c b) := rfl
  have hres : notB c a b ps = nbR (nbGo c ps (nfI c a) (nfI c b)) := rfl
  have Hla := Lib.hid (imI_length c (nfI c a)); have Hlb := Lib.hid (imI_length c (nfI c b))
  rw [hres]
  generalize nbGo c ps (nfI c a) (nfI c b) = R at *
  generalize nfI c a = U0 at *
  generalize nfI c b = V0 at *
  have HR := Lib.hid hR; have HU := Lib.hid hU; have HV := Lib.hid hV
  have C0 := Lib.hid (heap_alloc_new w (.cells #[.int .i64 kd, (Value.slice (some ⟨g1, o1, none⟩) c.length c1), (Value.slice (some ⟨g2, o2, none⟩) a.length c2), (Value.slice (some ⟨g3, o3, none⟩) b.length c3), (Value.slice (some ⟨g4, o4, none⟩) ps.length c4), (Value.slice (some ⟨g5, o5, none⟩) n5 c5)] 50 (0, 0)))
  have hB0 : Below w.heap.size w (w.alloc (.cells #[.int .i64 kd, (Value.slice (some ⟨g1, o1, none⟩) c.length c1), (Value.slice (some ⟨g2, o2, none⟩) a.length c2), (Value.slice (some ⟨g3, o3, none⟩) b.length c3), (Value.slice (some ⟨g4, o4, none⟩) ps.length c4), (Value.slice (some ⟨g5, o5, none⟩) n5 c5)] 50)) := (Below.refl _ _).alloc (Nat.le_refl _) _
  clear hA hB r1 r2 r3 hres hR hU hV hiU hiV hC hcl
  obtain ⟨c00, c01, c02, c03, c04, c05⟩ := sixA C0.out
  have hB0d := Lib.hid (Below.drew hB0)
  have x1 : (w.alloc (.cells #[.int .i64 kd, (Value.slice (some ⟨g1, o1, none⟩) c.length c1), (Value.slice (some ⟨g2, o2, none⟩) a.length c2), (Value.slice (some ⟨g3, o3, none⟩) b.length c3), (Value.slice (some ⟨g4, o4, none⟩) ps.length c4), (Value.slice (some ⟨g5, o5, none⟩) n5 c5)] 50)).drew.cell? ⟨w.heap.size, 2, none⟩ = some (Value.slice (some ⟨g2, o2, none⟩) a.length c2) := c02
  have x2 : (w.alloc (.cells #[.int .i64 kd, (Value.slice (some ⟨g1, o1, none⟩) c.length c1), (Value.slice (some ⟨g2, o2, none⟩) a.length c2), (Value.slice (some ⟨g3, o3, none⟩) b.length c3), (Value.slice (some ⟨g4, o4, none⟩) ps.length c4), (Value.slice (some ⟨g5, o5, none⟩) n5 c5)] 50)).drew.cell? ⟨w.heap.size, 3, none⟩ = some (Value.slice (some ⟨g3, o3, none⟩) b.length c3) := c03
  have x3 : (w.alloc (.cells #[.int .i64 kd, (Value.slice (some ⟨g1, o1, none⟩) c.length c1), (Value.slice (some ⟨g2, o2, none⟩) a.length c2), (Value.slice (some ⟨g3, o3, none⟩) b.length c3), (Value.slice (some ⟨g4, o4, none⟩) ps.length c4), (Value.slice (some ⟨g5, o5, none⟩) n5 c5)] 50)).drew.cell? ⟨w.heap.size, 4, none⟩ = some (Value.slice (some ⟨g4, o4, none⟩) ps.length c4) := c04
  go_enter Try.func78, Try.ntmps78
  go_wp2_with fail
  go_region_held3 (fun W => W.cell? ⟨w.heap.size, 2, none⟩ = some (Value.slice (some ⟨g2, o2, none⟩) a.length c2) ∧ W.cell? ⟨w.heap.size, 3, none⟩ = some (Value.slice (some ⟨g3, o3, none⟩) b.length c3))
    (first | exact ⟨x1, x2⟩ | exact ⟨keepCell hbA x1, keepCell hbA x2⟩ | exact ⟨keepCell hbD (keepCell hbA x1), keepCell hbD (keepCell hbA x2)⟩)
    (first
      | (go_at_call_of 116 (Value.slice (some ⟨g2, o2, none⟩) a.length c2); refine (k2.out _ hB0d.out).mono ?_; rintro e wA ⟨gU, cU, rfl, hoA, hbA⟩; rw [Hla.out])
      | (go_at_call_of 116 (Value.slice (some ⟨g3, o3, none⟩) b.length c3); refine (k3.out _ (hB0d.out.trans (hbA.mono hB0d.out.size))).mono ?_; rintro e wD ⟨gV, cV, rfl, hoD, hbD⟩; rw [Hlb.out]))
  have hbA2 := hB0d.out.trans (hbA.mono hB0d.out.size)
  have hbE := hbA2.trans (hbD.mono hbA2.size)
  have y4 := keepCell hbD (keepCell hbA x3)
  have hoU := (hoA.below hbD hoA.lt).mono hB0d.out.size
  have hoV := hoD.mono hbA2.size
  have hne : gU ≠ gV := by have h1 := hoA.lt; have h2 := hoD.base; omega
  clear x1 x2 x3 hbA hbD hoA hoD hbA2 hB0 hB0d c00 c01 c02 c03 c04 c05 C0 k2 k3
  go_wp2_with fail
  clear y4
  go_loopw [21] (fun kv wr => ∃ (k : Nat) (U V : List Int), k ≤ ps.length ∧ kv = .int .i64 k ∧ Hid (Nw c U) ∧ Hid (Nw c V) ∧ Hid (nbGo c (ps.drop k) U V = R) ∧ Own wr w.heap.size gU cU (imI c U) ∧ Own wr w.heap.size gV cV (imI c V) ∧ Below w.heap.size w wr) (fun kv _ => ps.length - (intOf kv).toNat)
  case atStart => exact ⟨0, U0, V0, Nat.zero_le _, rfl, HU.out, HV.out, HR.out, hoU, hoV, hbE⟩
  case round =>
    clear hoU hoV hbE HU HV HR Hla Hlb
    obtain ⟨k, U, V, hk, rfl, hU, hV, hgo, hoU, hoV, hb⟩ := hrel
    by_cases hlt : k < ps.length
    · have q1 := (r4.below hb t4) k hlt
      have hP0 := fun W => impl_isPoint_any g1 o1 c.length c1 (ps.getD k 0) W
      have hgd := hgo.out
      rw [nbGo_drop hlt] at hgd
      generalize ps.getD k 0 = p at *
      by_cases hin : 0 ≤ p ∧ p < (c.length : Int)
      case neg =>
        rw [show (decide ((0 : Int) ≤ p) && decide (p < (c.length : Int))) = false by rw [← Bool.not_eq_true, Bool.and_eq_true, decide_eq_true_eq, decide_eq_true_eq]; exact hin] at hP0
        have hP := Lib.hid hP0
        rw [if_neg (fun h => hin ⟨h.1, h.2.1⟩)] at hgd
        have Hgd := Lib.hid hgd
        clear hP0 hin hgd
        go_wp2_with fail
        refine (hP.out _).mono ?_
        rintro e w5 ⟨rfl, hs5⟩
        go_wp2_with fail
        go_ret
        exact ⟨ret_bool (by rw [← Hgd.out]; rfl), below_still hb hs5⟩
      rw [show (decide ((0 : Int) ≤ p) && decide (p < (c.length : Int))) = true by rw [Bool.and_eq_true, decide_eq_true_eq, decide_eq_true_eq]; exact hin] at hP0
      have hP := Lib.hid hP0
      obtain ⟨sn, rfl⟩ : ∃ t : Nat, p = t := ⟨p.toNat, by omega⟩
      rw [Int.toNat_natCast] at hgd
      have hsn : sn < c.length := by omega
      have hneV := hV.out.ne hsn
      have hneU := hU.out.ne hsn
      have hVd := hV.out.down hsn
      have hUd := hU.out.down hsn
      have hVi := hV.out.img hsn
      have hUi := hU.out.img hsn
      have v1 := hoV.cell sn (by rw [imI_length]; exact hsn)
      have kV := Lib.hid (fun (W : World) (hb2 : Below w.heap.size w W) (ho : Own W w.heap.size gV cV (imI c V)) => kF.out V sn hsn W gV cV hb2 ho)
      have kU := Lib.hid (fun (W : World) (hb2 : Below w.heap.size w W) (ho : Own W w.heap.size gU cU (imI c U)) => kF.out U sn hsn W gU cU hb2 ho)
      have vU := Lib.hid (fun (W : World) (ho : Own W w.heap.size gU cU (imI c U)) => ho.cell sn (by rw [imI_length]; exact hsn))
      rw [← hVi] at kV
      rw [← hUi] at kU
      generalize (imI c V).getD sn 0 = y at *
      generalize (imI c U).getD sn 0 = z at *
      clear hP0 hin hVi hUi
      by_cases hy : (0 : Int) ≤ y
      · rw [if_neg (fun h => by have := h.2.2; omega)] at hgd
        have Hgd := Lib.hid hgd
        clear hgd hVd hUd hneV hneU kV kU vU
        go_wp2_with fail
        refine (hP.out _).mono ?_
        rintro e w5 ⟨rfl, hs5⟩
        have v15 := (cell_still hs5 _).trans v1
        go_wp2_with fail
        go_ret
        exact ⟨ret_bool (by rw [← Hgd.out]; rfl), below_still hb hs5⟩
      · have hyn : y < 0 := by omega
        rw [if_pos ⟨by omega, by omega, hyn⟩] at hgd
        have HVd := Lib.hid (hVd hyn)
        clear hVd hyn hneV
        by_cases hz : z < 0
        · rw [if_pos hz] at hgd
          have Hgd := Lib.hid hgd
          have HUd := Lib.hid (hUd hz)
          clear hgd hUd hneU
          go_wp2_with fail
          refine (hP.out _).mono ?_
          rintro e w5 ⟨rfl, hs5⟩
          have v15 := (cell_still hs5 _).trans v1
          have hb5 := below_still hb hs5
          have hoU5 := hoU.still hs5
          have hoV5 := hoV.still hs5
          clear v1 hoU hoV hb hs5
          go_wp2_with fail
          refine (kV.out _ hb5 hoV5).mono ?_
          rintro e w6 ⟨rfl, hoV6, hg6⟩
          have hb6 := hb5.grown hg6 hb5.size (by intro j hj; cases hj; exact hoV5.base)
          have hoU6 := hoU5.grown hg6 (by intro e; cases e; exact hne rfl)
          have v6 := vU.out _ hoU6
          clear v15 hb5 hoU5 hoV5 hg6
          go_wp2_with fail
          refine (kU.out _ hb6 hoU6).mono ?_
          rintro e w7 ⟨rfl, hoU7, hg7⟩
          have hb7 := hb6.grown hg7 hb6.size (by intro j hj; cases hj; exact hoU6.base)
          have hoV7 := hoV6.grown hg7 (by intro e; cases e; exact hne rfl)
          clear v6 hb6 hoU6 hoV6 hg7
          go_wp2_with fail
          go_roundw
          case rel => exact ⟨k + 1, _, _, by omega, by go_num, HUd.out, HVd.out, Hgd.out, hoU7, hoV7, hb7⟩
          case measure => simp [intOf]; omega
        · rw [if_neg hz] at hgd
          have Hgd := Lib.hid hgd
          clear hgd hUd hneU
          go_wp2_with fail
          refine (hP.out _).mono ?_
          rintro e w5 ⟨rfl, hs5⟩
          have v15 := (cell_still hs5 _).trans v1
          have hb5 := below_still hb hs5
          have hoU5 := hoU.still hs5
          have hoV5 := hoV.still hs5
          clear v1 hoU hoV hb hs5
          go_wp2_with fail
          refine (kV.out _ hb5 hoV5).mono ?_
          rintro e w6 ⟨rfl, hoV6, hg6⟩
          have hb6 := hb5.grown hg6 hb5.size (by intro j hj; cases hj; exact hoV5.base)
          have hoU6 := hoU5.grown hg6 (by intro e; cases e; exact hne rfl)
          have v6 := vU.out _ hoU6
          clear v15 hb5 hoU5 hoV5 hg6
          go_wp2_with fail
          go_roundw
          case rel => exact ⟨k + 1, U, _, by omega, by go_num, hU.out, HVd.out, Hgd.out, hoU6, hoV6, hb6⟩
          case measure => simp [intOf]; omega
    · obtain rfl : k = ps.length := by omega
      have he := hgo.out
      rw [nbGo_end] at he
      have He := Lib.hid he
      have hnU := Lib.hid (kN.out U hU.out wr gU cU hb hoU)
      clear he
      go_wp2_with fail
      refine hnU.out.mono ?_
      rintro e w5 ⟨g5', c5', rfl, ho5, hb5⟩
      have hB5 := hb.trans (hb5.mono hb.size)
      have hnV := Lib.hid (kN.out V hV.out w5 gV cV hB5 (hoV.below hb5 hoV.lt))
      go_wp2_with fail
      refine hnV.out.mono ?_
      rintro e w6 ⟨g6', c6', rfl, ho6, hb6⟩
      go_wp2_with fail
      go_ret
      exact ⟨ret_bool (by rw [← He.out]; rfl), hB5.trans (hb6.mono hB5.size)⟩
end Go.Proofs.Ytmfncbibajoeoaa
