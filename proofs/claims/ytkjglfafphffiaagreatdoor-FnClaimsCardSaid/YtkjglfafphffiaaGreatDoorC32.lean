/- BruI ClV HeldC Cov -/
import Derived.Test.YtkjglfafphffiaaGreatDoorC27
import Derived.Test.YtkjglfafphffiaaGreatDoorC00
import Derived.Test.YtkjglfafphffiaaGreatDoorC07
import Derived.Test.YtkjglfafphffiaaGreatDoorC22
namespace Go.Proofs.YtkjglfafphffiaaGreatDoor
set_option maxRecDepth 100000
open Go.RowKit Game
theorem firstNegI_neg {v : List Int} : decide (firstNegI v < 0) = decide (firstNeg v = none) := by
  unfold firstNegI
  cases firstNeg v with
  | none => rfl
  | some i => simp
theorem empty_iff {c : List (List Int)} {U : List Int} (h : Nw c U) : decide (firstNegI (imI c U) < 0) = decide (U = []) := by
  rw [firstNegI_neg]
  exact decide_eq_decide.2 h.none
set_option maxHeartbeats 4000000 in
theorem impl_subword_any (gc oc n cc g1 o1 c1 g2 o2 n2 c2 : Nat) (c : List (List Int)) (U0 y : List Int) (w : World) (hn : c.length = n) (hn2 : y.length = n2) (hU : Nw c U0) (hy : Lets c 15 y) (hgc : gc < w.heap.size) (hg1 : g1 < w.heap.size) (hg2 : g2 < w.heap.size)
    (hr : Rows2 w gc oc c) (hv : Cells w g1 o1 (imI c U0)) (hyc : Cells w g2 o2 y) :
    Calls Tryz.prog 89 #[(Value.slice (some ⟨gc, oc, none⟩) n cc), (Value.slice (some ⟨g1, o1, none⟩) c.length c1), (Value.slice (some ⟨g2, o2, none⟩) n2 c2)] w (GotIntsB w (subP c y 0 U0) (decide (subU c y U0 = []))) := by
  subst hn; subst hn2
  have hC := hU.lets.isC
  have hn4 := hC.2.1
  have hcl := hC.2.2.1
  have hy15 := hy.few
  have hiy := Lib.hid hy.inr
  have kF := Lib.hid (fun (X : List Int) (i : Nat) (hi : i < c.length) (W : World) (g6 c6 : Nat) (hb : Below w.heap.size w W) (ho : Own W w.heap.size g6 c6 (imI c X)) => impl_reflected_any w gc oc _ cc g6 c6 i c.length c (imI c X) W rfl (imI_length c X) (imI_length c X) hn4 hcl hi hgc hr hb ho)
  have kD := Lib.hid (fun (X : List Int) (W : World) (g6 c6 : Nat) (ho : Own W w.heap.size g6 c6 (imI c X)) => impl_firstDescent_any g6 0 c.length c6 (imI c X) W (imI_length c X) (by rw [imI_length]; omega) ho.cells)
  have hR : subU c (y.drop 0) U0 = subU c y U0 := rfl
  have hP : [] ++ subP c (y.drop 0) 0 U0 = subP c y 0 U0 := rfl
  generalize subU c y U0 = R at *
  generalize subP c y 0 U0 = P at *
  have HR := Lib.hid hR; have HP := Lib.hid hP; have HU := Lib.hid hU; have Hl := Lib.hid (imI_length c U0)
  clear hR hP hU hy hr hC hcl
  go_enter Tryz.func89, Tryz.ntmps89
  go_wp2_with (at_builtin; refine wpList_clone rfl _ _ rfl g1 o1 _ c1 (imI c U0) Hl.out hg1 hv rfl rfl (by rw [Hl.out]; omega) ?_)
  intro gV cV w1 hoV0 hb1
  have hoV1 := hoV0.alloc (.cells #[] 3)
  have hX := (Below.refl w1.heap.size w1).alloc (Nat.le_refl _) (.cells #[] 3)
  have hB1 := hb1.trans (hX.mono hb1.size)
  have hoO1 : Own (w1.alloc (.cells #[] 3)) w.heap.size w1.heap.size 0 [] := Own.empty hb1.size
  have hne1 : gV ≠ w1.heap.size := by have := hoV0.lt; omega
  clear hoV0 hb1 hX hv
  go_wp2_with fail
  go_loopw [8, 17] (fun ov kv wr => ∃ (k m g3 c3 : Nat) (U xs : List Int), k ≤ y.length ∧ kv = .int .i64 k ∧ ov = (Value.slice (some ⟨g3, 0, none⟩) m c3) ∧ m ≤ k ∧ Hid (xs.length = m) ∧ Hid (Nw c U) ∧ Hid (subU c (y.drop k) U = R) ∧ Hid (xs ++ subP c (y.drop k) k U = P) ∧ gV ≠ g3 ∧ Own wr w.heap.size gV cV (imI c U) ∧ Own wr w.heap.size g3 c3 xs ∧ Below w.heap.size w wr) (fun _ kv _ => y.length - (intOf kv).toNat)
  case atStart => exact ⟨0, 0, _, 0, U0, [], Nat.zero_le _, rfl, rfl, Nat.le_refl _, rfl, HU.out, HR.out, HP.out, hne1, hoV1, hoO1, hB1⟩
  case round =>
    clear hoV1 hoO1 hB1 hne1 HU HR HP
    obtain ⟨k, m, g3, c3, U, xs, hk, rfl, rfl, hmk, hml, hU, hgo, hgp, hne, hoV, hoO, hb⟩ := hrel
    by_cases hlt : k < y.length
    · have q1 := (hyc.below hb hg2) k hlt
      have hin := hiy.out k hlt
      have hgd := hgo.out
      have hgq := hgp.out
      rw [subU_drop hlt] at hgd
      rw [subP_drop hlt] at hgq
      generalize y.getD k 0 = p at *
      obtain ⟨sn, rfl⟩ : ∃ t : Nat, p = t := ⟨p.toNat, by omega⟩
      rw [Int.toNat_natCast] at hgq
      have hsn : sn < c.length := by omega
      have hnS := hU.out.sub (i := (sn : Int)) (by omega) (by omega)
      have v1 := hoV.cell sn (by rw [imI_length]; exact hsn)
      have hyes := fun h => subN_img hU.out hsn h
      have hno := fun h => subN_pos (c := c) (U := U) (i := sn) h
      have kV := Lib.hid (fun (W : World) (hb2 : Below w.heap.size w W) (ho : Own W w.heap.size gV cV (imI c U)) => kF.out U sn hsn W gV cV hb2 ho)
      by_cases hz : (imI c U).getD sn 0 < 0
      · rw [if_pos hz] at hgq
        have hi := hyes hz
        rw [← hi] at kV
        have Hgd := Lib.hid hgd; have Hgq := Lib.hid hgq; have HnS := Lib.hid hnS
        generalize (imI c U).getD sn 0 = z at *
        generalize subN c U (sn : Int) = U' at *
        clear hgd hgq hnS hyes hno hi hgo hgp hU hin
        go_wp2_with fail
        refine (kV.out _ hb hoV).mono ?_
        rintro e w6 ⟨rfl, hoV6, hg6⟩
        have hb6 := hb.grown hg6 hb.size (by intro j hj; cases hj; exact hoV.base)
        have hoO6 := hoO.grown hg6 (by intro e; cases e; exact hne rfl)
        clear hb hoV hoO hg6 q1 v1
        go_wp2_with (at_builtin; refine wpList_append_int_n (w := w6) rfl _ _ rfl w.heap.size g3 c3 m xs (k : Int) hml.out hoO6 rfl rfl (by omega) ?_)
        intro g7 c7 w7 hoO7 hg7 hor7
        have hb7 : Below w.heap.size w w7 := hb6.grown hg7 hb6.size (by intro t ht; cases ht; exact hoO6.base)
        have hoV7 := hoV6.grown hg7 (by intro e; cases e; exact hne rfl)
        have hne7 : gV ≠ g7 := fun e => by
          rcases hor7 with h | h
          · exact hne (e.trans h)
          · have := hoV6.lt; omega
        have hl7 : Hid ((xs ++ [(k : Int)]).length = m + 1) := Lib.hid (by rw [List.length_append, hml.out]; rfl)
        have hp7 : Hid (xs ++ [(k : Int)] ++ subP c (y.drop (k + 1)) (k + 1) U' = P) := Lib.hid (by rw [List.append_assoc]; exact Hgq.out)
        clear hb6 hoV6 hoO6 hg7 hor7 hml
        go_wp2_with fail
        go_roundw
        case rel => exact ⟨k + 1, m + 1, g7, c7, U', _, by omega, by go_num, rfl, by omega, hl7.out, HnS.out, Hgd.out, hp7.out, hne7, hoV7, hoO7, hb7⟩
        case measure => simp [intOf]; omega
      · rw [if_neg hz] at hgq
        have hi := hno hz
        rw [hi] at hgd hgq
        have Hgd := Lib.hid hgd; have Hgq := Lib.hid hgq
        generalize (imI c U).getD sn 0 = z at *
        clear hgd hgq hnS hyes hno hi hgo hgp hin kV
        go_wp2_with fail
        go_roundw
        case rel => exact ⟨k + 1, m, g3, c3, U, xs, by omega, by go_num, rfl, by omega, hml.out, hU.out, Hgd.out, Hgq.out, hne, hoV, hoO, hb⟩
        case measure => simp [intOf]; omega
    · obtain rfl : k = y.length := by omega
      have h1 := hgo.out
      have h2 := hgp.out
      rw [List.drop_length] at h1 h2
      have h1' : U = R := h1
      have h2' : xs = P := by rw [← h2]; simp [subP]
      have hd := empty_iff hU.out
      rw [h1'] at hd
      have hdd := Lib.hid (kD.out U wr gV cV hoV)
      rw [h1'] at hdd
      generalize firstNegI (imI c R) = fd at *
      have H2 := Lib.hid h2'; have Hd := Lib.hid hd
      clear h1 h2 h1' h2' hd hgo hgp
      go_wp2_with fail
      refine hdd.out.mono ?_
      rintro e w5 ⟨rfl, hs5⟩
      have hb5 := below_still hb hs5
      have hoO5 := hoO.still hs5
      go_wp2_with fail
      go_ret2
      rw [← H2.out]
      rw [Hd.out]
      exact GotIntsB.mk' g3 c3 hml.out hoO5 hb5
theorem subU_def (c : List (List Int)) (a b : List Int) : bruB c a b = decide (subU c (nfI c b) (nfI c a) = []) := rfl
set_option maxHeartbeats 2000000 in
theorem impl_below_ok (gc oc n cc g1 o1 n1 c1 g2 o2 n2 c2 : Nat) (c : List (List Int)) (a b : List Int) (w : World) (hn : c.length = n) (hn1 : a.length = n1) (hn2 : b.length = n2) (hA : WordOk c a) (hB : WordOk c b) (hgc : gc < w.heap.size) (hg1 : g1 < w.heap.size) (hg2 : g2 < w.heap.size)
    (hr : Rows2 w gc oc c) (h1 : Cells w g1 o1 a) (h2 : Cells w g2 o2 b) :
    Calls Tryz.prog 31 #[(Value.slice (some ⟨gc, oc, none⟩) n cc), (Value.slice (some ⟨g1, o1, none⟩) n1 c1), (Value.slice (some ⟨g2, o2, none⟩) n2 c2)] w (Gives w (.bool (bruB c a b))) := by
  have hla := hA.few
  have hnA := nw_nf hA
  have hnB := nw_nf hB
  have hiA := (nfI_ok (hA.lets.mono (show 15 ≤ 30 by omega))).img
  have k1 := impl_image_any gc oc n cc g1 o1 n1 c1 c a w hn hn1 hA.isC (by omega) hA.inr hgc hg1 hr h1
  rw [show actW c a (onesL c.length) = imI c (nfI c a) from hiA.symm] at k1
  have k2 := Lib.hid (fun (W : World) (hb : Below w.heap.size w W) => impl_reduced_any gc oc n cc g2 o2 n2 c2 c b W hn hn2 (hB.lets.mono (show 15 ≤ 30 by omega)) (Nat.lt_of_lt_of_le hgc hb.size) (Nat.lt_of_lt_of_le hg2 hb.size) (hr.below hb hgc) (h2.below hb hg2))
  have k3 := Lib.hid (fun (W : World) (gA cA gB cB B1 B2 : Nat) (hb : Below w.heap.size w W) (hoA : Own W B1 gA cA (imI c (nfI c a))) (hoB : Own W B2 gB cB (nfI c b)) => impl_subword_any gc oc n cc gA 0 cA gB 0 _ cB c (nfI c a) (nfI c b) W hn rfl hnA hnB.lets (Nat.lt_of_lt_of_le hgc hb.size) hoA.lt hoB.lt (hr.below hb hgc) hoA.cells hoB.cells)
  rw [subU_def]
  have K1 := Lib.hid k1; have Hl := Lib.hid (imI_length c (nfI c a))
  generalize subP c (nfI c b) 0 (nfI c a) = P at *
  generalize decide (subU c (nfI c b) (nfI c a) = []) = r at *
  clear k1 hr h1 h2 hA hB hnA hnB hiA hn hn1 hn2 hla
  go_enter Tryz.func31, Tryz.ntmps31
  go_wp2_with fail
  refine K1.out.mono ?_
  rintro e w1 ⟨gA, cA, rfl, hoA, hb1⟩
  rw [Hl.out]
  go_wp2_with fail
  refine (k2.out w1 hb1).mono ?_
  rintro e w2 ⟨gB, cB, rfl, hoB, hb2⟩
  have hB2 := hb1.trans (hb2.mono hb1.size)
  go_wp2_with fail
  refine (k3.out w2 gA cA gB cB _ _ hB2 (hoA.below hb2 hoA.lt) hoB).mono ?_
  rintro e w3 ⟨gC, cC, rfl, hoC, hb3⟩
  have hB3 := hB2.trans (hb3.mono hB2.size)
  go_wp2_with fail
  go_ret
  exact ⟨rfl, hB3⟩
set_option maxHeartbeats 2000000 in
theorem impl_SubwordOf_ok (gc oc n cc g1 o1 n1 c1 g2 o2 n2 c2 : Nat) (c : List (List Int)) (a b : List Int) (w : World) (hn : c.length = n) (hn1 : a.length = n1) (hn2 : b.length = n2) (hA : WordOk c a) (hB : WordOk c b) (hgc : gc < w.heap.size) (hg1 : g1 < w.heap.size) (hg2 : g2 < w.heap.size)
    (hr : Rows2 w gc oc c) (h1 : Cells w g1 o1 a) (h2 : Cells w g2 o2 b) :
    Calls Tryz.prog 30 #[(Value.slice (some ⟨gc, oc, none⟩) n cc), (Value.slice (some ⟨g1, o1, none⟩) n1 c1), (Value.slice (some ⟨g2, o2, none⟩) n2 c2)] w (GotIntsB w (if bruB c a b = true then subL c a b else []) (bruB c a b)) := by
  have hla := hA.few
  have hlb := hB.few
  have hn4 := hA.isC.2.1
  have hcl := hA.isC.2.2.1
  have hnA := nw_nf hA
  have hnB := nw_nf hB
  have i1 := impl_IsWord_any gc oc n cc g1 o1 n1 c1 c a w hn hn1 (by omega) (fun j hj => by have := hcl j hj; omega) (by omega) hr h1
  have i2 := fun W (hs : ∃ q, W = w.drewN q) => impl_IsWord_any gc oc n cc g2 o2 n2 c2 c b W hn hn2 (by omega) (fun j hj => by have := hcl j hj; omega) (by omega) (hr.still hs) (h2.still hs)
  rw [hA.isWord] at i1
  rw [hB.isWord] at i2
  have I1 := Lib.hid i1; have I2 := Lib.hid i2
  have hiA := (nfI_ok (hA.lets.mono (show 15 ≤ 30 by omega))).img
  have k1 := fun (W : World) (hb : Below w.heap.size w W) => impl_image_any gc oc n cc g1 o1 n1 c1 c a W hn hn1 hA.isC (by omega) hA.inr (Nat.lt_of_lt_of_le hgc hb.size) (Nat.lt_of_lt_of_le hg1 hb.size) (hr.below hb hgc) (h1.below hb hg1)
  rw [show actW c a (onesL c.length) = imI c (nfI c a) from hiA.symm] at k1
  have k2 := Lib.hid (fun (W : World) (hb : Below w.heap.size w W) => impl_reduced_any gc oc n cc g2 o2 n2 c2 c b W hn hn2 (hB.lets.mono (show 15 ≤ 30 by omega)) (Nat.lt_of_lt_of_le hgc hb.size) (Nat.lt_of_lt_of_le hg2 hb.size) (hr.below hb hgc) (h2.below hb hg2))
  have k3 := Lib.hid (fun (W : World) (gA cA gB cB B1 B2 : Nat) (hb : Below w.heap.size w W) (hoA : Own W B1 gA cA (imI c (nfI c a))) (hoB : Own W B2 gB cB (nfI c b)) => impl_subword_any gc oc n cc gA 0 cA gB 0 _ cB c (nfI c a) (nfI c b) W hn rfl hnA hnB.lets (Nat.lt_of_lt_of_le hgc hb.size) hoA.lt hoB.lt (hr.below hb hgc) hoA.cells hoB.cells)
  rw [subU_def]
  unfold subL
  have K1 := Lib.hid k1; have Hl := Lib.hid (imI_length c (nfI c a))
  obtain ⟨P, hP⟩ : ∃ P, subP c (nfI c b) 0 (nfI c a) = P := ⟨_, rfl⟩
  rw [hP] at k3 ⊢
  generalize decide (subU c (nfI c b) (nfI c a) = []) = r at *
  have hst : (if r = true then P else []) = (match r with | true => P | false => []) := by cases r <;> rfl
  rw [hst]
  clear hst i1 i2 k1 hr h1 h2 hA hB hnA hnB hiA hn hn1 hn2 hla hlb hcl hn4 hP
  cases r with
  | true =>
    obtain ⟨m, hm⟩ : ∃ m, P.length = m := ⟨_, rfl⟩
    have Hm := Lib.hid hm
    go_enter Tryz.func30, Tryz.ntmps30
    go_wp2_with fail
    refine I1.out.mono ?_
    rintro e v1 ⟨rfl, hs1⟩
    go_wp2_with fail
    refine (I2.out v1 hs1).mono ?_
    rintro e v2 ⟨rfl, hs2⟩
    have hb0 := below_still (below_still (Below.refl w.heap.size w) hs1) hs2
    go_wp2_with fail
    refine (K1.out v2 hb0).mono ?_
    rintro e w1 ⟨gA, cA, rfl, hoA, hb1⟩
    have hB1 := hb0.trans (hb1.mono hb0.size)
    rw [Hl.out]
    go_wp2_with fail
    refine (k2.out w1 hB1).mono ?_
    rintro e w2 ⟨gB, cB, rfl, hoB, hb2⟩
    have hB2 := hB1.trans (hb2.mono hB1.size)
    go_wp2_with fail
    refine (k3.out w2 gA cA gB cB _ _ hB2 (hoA.below hb2 hoA.lt) hoB).mono ?_
    rintro e w3 ⟨gC, cC, rfl, hoC, hb3⟩
    have hB3 := hB2.trans (hb3.mono hB2.size)
    rw [Hm.out]
    go_wp2_with fail
    go_ret2
    exact GotIntsB.mk' gC cC Hm.out (hoC.mono hB2.size) hB3
  | false =>
    go_enter Tryz.func30, Tryz.ntmps30
    go_wp2_with fail
    refine I1.out.mono ?_
    rintro e v1 ⟨rfl, hs1⟩
    go_wp2_with fail
    refine (I2.out v1 hs1).mono ?_
    rintro e v2 ⟨rfl, hs2⟩
    have hb0 := below_still (below_still (Below.refl w.heap.size w) hs1) hs2
    go_wp2_with fail
    refine (K1.out v2 hb0).mono ?_
    rintro e w1 ⟨gA, cA, rfl, hoA, hb1⟩
    have hB1 := hb0.trans (hb1.mono hb0.size)
    rw [Hl.out]
    go_wp2_with fail
    refine (k2.out w1 hB1).mono ?_
    rintro e w2 ⟨gB, cB, rfl, hoB, hb2⟩
    have hB2 := hB1.trans (hb2.mono hB1.size)
    go_wp2_with fail
    refine (k3.out w2 gA cA gB cB _ _ hB2 (hoA.below hb2 hoA.lt) hoB).mono ?_
    rintro e w3 ⟨gC, cC, rfl, hoC, hb3⟩
    have hB3 := hB2.trans (hb3.mono hB2.size)
    go_wp2_with fail
    go_ret2
    exact ⟨_, 0, rfl, Own.empty hB3.size, hB3.alloc hB3.size _⟩
set_option maxHeartbeats 4000000 in
theorem impl_notBelow_ok (gc oc n cc g1 o1 n1 c1 g2 o2 n2 c2 : Nat) (c : List (List Int)) (a b : List Int) (w : World) (hn : c.length = n) (hn1 : a.length = n1) (hn2 : b.length = n2) (hA : WordOk c a) (hB : WordOk c b) (hgc : gc < w.heap.size) (hg1 : g1 < w.heap.size) (hg2 : g2 < w.heap.size)
    (hr : Rows2 w gc oc c) (h1 : Cells w g1 o1 a) (h2 : Cells w g2 o2 b) :
    Calls Tryz.prog 32 #[(Value.slice (some ⟨gc, oc, none⟩) n cc), (Value.slice (some ⟨g1, o1, none⟩) n1 c1), (Value.slice (some ⟨g2, o2, none⟩) n2 c2)] w (GotInts w (dropL c (nfI c b) (nfI c a))) := by
  subst hn
  have hC := hA.isC
  have hn4 := hC.2.1
  have hcl := hC.2.2.1
  have hla := hA.few
  have hlb := hB.few
  have hnA := nw_nf hA
  have hnB := nw_nf hB
  have hiA := (nfI_ok (hA.lets.mono (show 15 ≤ 30 by omega))).img
  have hiB := (nfI_ok (hB.lets.mono (show 15 ≤ 30 by omega))).img
  have k1 := impl_image_any gc oc _ cc g1 o1 n1 c1 c a w rfl hn1 hC (by omega) hA.inr hgc hg1 hr h1
  rw [show actW c a (onesL c.length) = imI c (nfI c a) from hiA.symm] at k1
  have k2 := fun (W : World) (hb : Below w.heap.size w W) => impl_image_any gc oc _ cc g2 o2 n2 c2 c b W rfl hn2 hC (by omega) hB.inr (Nat.lt_of_lt_of_le hgc hb.size) (Nat.lt_of_lt_of_le hg2 hb.size) (hr.below hb hgc) (h2.below hb hg2)
  rw [show actW c b (onesL c.length) = imI c (nfI c b) from hiB.symm] at k2
  have kN := Lib.hid (fun (X : List Int) (hX : Nw c X) (W : World) (g6 c6 : Nat) (hb : Below w.heap.size w W) (ho : Own W w.heap.size g6 c6 (imI c X)) => impl_normal_any gc oc _ cc g6 0 c.length c6 30 c (imI c X) X W rfl (imI_length c X) hC (imI_length c X) (by omega) hX.norm (Nat.lt_of_lt_of_le hgc hb.size) ho.lt (hr.below hb hgc) ho.cells)
  have kF := Lib.hid (fun (X : List Int) (i : Nat) (hi : i < c.length) (W : World) (g6 c6 : Nat) (hb : Below w.heap.size w W) (ho : Own W w.heap.size g6 c6 (imI c X)) => impl_reflected_any w gc oc _ cc g6 c6 i c.length c (imI c X) W rfl (imI_length c X) (imI_length c X) hn4 hcl hi hgc hr hb ho)
  have kD := Lib.hid (fun (X : List Int) (W : World) (g6 c6 : Nat) (ho : Own W w.heap.size g6 c6 (imI c X)) => impl_firstDescent_any g6 0 c.length c6 (imI c X) W (imI_length c X) (by rw [imI_length]; omega) ho.cells)
  obtain ⟨P, hP⟩ : ∃ P, dropL c (nfI c b) (nfI c a) = P := ⟨_, rfl⟩
  rw [hP]
  have hbl := hnB.lets.few
  have K1 := Lib.hid k1; have K2 := Lib.hid k2; have HA := Lib.hid hnA; have HB := Lib.hid hnB; have Hl1 := Lib.hid (imI_length c (nfI c a)); have Hl2 := Lib.hid (imI_length c (nfI c b))
  generalize nfI c a = U0 at *
  generalize nfI c b = V0 at *
  have HP : Hid ([] ++ dropL c V0 U0 = P) := Lib.hid hP
  clear k1 k2 hP hnA hnB hiA hiB hr h1 h2 hA hB hC hcl
  go_enter Tryz.func32, Tryz.ntmps32
  go_wp2_with fail
  refine K1.out.mono ?_
  rintro e w1 ⟨gU, cU, rfl, hoU1, hb1⟩
  rw [Hl1.out]
  go_wp2_with fail
  refine (K2.out w1 hb1).mono ?_
  rintro e w2 ⟨gV, cV, rfl, hoV2, hb2⟩
  rw [Hl2.out]
  have hB2 := hb1.trans (hb2.mono hb1.size)
  have hoU2 := (hoU1.below hb2 hoU1.lt).alloc (.cells #[] 3)
  have hoV3 := (hoV2.mono hb1.size).alloc (.cells #[] 3)
  have hX := (Below.refl w2.heap.size w2).alloc (Nat.le_refl _) (.cells #[] 3)
  have hB3 := hB2.trans (hX.mono hB2.size)
  have hoO : Own (w2.alloc (.cells #[] 3)) w.heap.size w2.heap.size 0 [] := Own.empty hB2.size
  have hne1 : gU ≠ gV := by have h1 := hoU1.lt; have h2 := hoV2.base; omega
  have hne2 : gU ≠ w2.heap.size := by have h1 := hoU1.lt; have h2 := hb2.size; omega
  have hne3 : gV ≠ w2.heap.size := by have h1 := hoV2.lt; omega
  clear hoU1 hoV2 hb1 hb2 hB2 hX K1 K2
  go_wp2_with fail
  go_loopw [9] (fun ov wr => ∃ (m k g3 c3 : Nat) (U V xs : List Int), ov = (Value.slice (some ⟨g3, 0, none⟩) m c3) ∧ m + k ≤ 15 ∧ V.length = k ∧ Hid (xs.length = m) ∧ Hid (Nw c U) ∧ Hid (Nw c V) ∧ Hid (xs ++ dropL c V U = P) ∧ gU ≠ g3 ∧ gV ≠ g3 ∧ Own wr w.heap.size gU cU (imI c U) ∧ Own wr w.heap.size gV cV (imI c V) ∧ Own wr w.heap.size g3 c3 xs ∧ Below w.heap.size w wr) (fun ov _ => 15 - lenOfV ov)
  case atStart => exact ⟨0, V0.length, _, 0, U0, V0, [], rfl, by omega, rfl, rfl, HA.out, HB.out, HP.out, hne2, hne3, hoU2, hoV3, hoO, hB3⟩
  case round =>
    clear hoU2 hoV3 hoO hB3 hne2 hne3 HA HB HP Hl1 Hl2 hbl
    obtain ⟨m, k, g3, c3, U, V, xs, rfl, hmk, hVk, hml, hU, hV, hgp, hn2', hn3', hoU, hoV, hoO, hb⟩ := hrel
    have hD := Lib.hid (kD.out V wr gV cV hoV)
    cases V with
    | nil =>
      have hf : firstNegI (imI c []) = -1 := by unfold firstNegI; rw [(hV.out.none).2 rfl]
      rw [hf] at hD
      have h2 : xs = P := by have := hgp.out; simpa [dropL] using this
      have H2 := Lib.hid h2
      clear h2 hf hgp
      go_wp2_with fail
      refine hD.out.mono ?_
      rintro e w5 ⟨rfl, hs5⟩
      have hb5 := below_still hb hs5
      have hoO5 := hoO.still hs5
      go_wp2_with fail
      go_ret
      rw [← H2.out]
      exact GotInts.mk' g3 c3 hml.out hoO5 hb5
    | cons s V =>
      obtain ⟨hf, hiV, hVn⟩ := hV.out.tail
      have hsi := hV.out.head
      obtain ⟨sn, rfl⟩ : ∃ t : Nat, s = t := ⟨s.toNat, by omega⟩
      rw [Int.toNat_natCast] at hf hiV
      have hsn : sn < c.length := by omega
      have hfd : firstNegI (imI c ((sn : Int) :: V)) = sn := by unfold firstNegI; rw [hf]
      rw [hfd] at hD
      have hkk : V.length + 1 = k := by rw [← hVk]; rfl
      have hgq : xs ++ (if U.length ≤ V.length + 1 then (sn : Int) :: dropL c V (subN c U (sn : Int)) else []) = P := hgp.out
      have hNU := Lib.hid (fun (W : World) (hb2 : Below w.heap.size w W) (ho : Own W w.heap.size gU cU (imI c U)) => kN.out U hU.out W gU cU hb2 ho)
      have hNV := Lib.hid (fun (W : World) (hb2 : Below w.heap.size w W) (ho : Own W w.heap.size gV cV (imI c ((sn : Int) :: V))) => kN.out _ hV.out W gV cV hb2 ho)
      have kV := Lib.hid (fun (W : World) (hb2 : Below w.heap.size w W) (ho : Own W w.heap.size gV cV (imI c ((sn : Int) :: V))) => kF.out _ sn hsn W gV cV hb2 ho)
      rw [← hiV] at kV
      have kU := Lib.hid (fun (W : World) (hb2 : Below w.heap.size w W) (ho : Own W w.heap.size gU cU (imI c U)) => kF.out U sn hsn W gU cU hb2 ho)
      have hyes := Lib.hid (fun h => subN_img hU.out hsn h)
      have hno := Lib.hid (fun h => subN_pos (c := c) (U := U) (i := sn) h)
      have hsub := Lib.hid (hU.out.sub (i := (sn : Int)) (by omega) (by omega))
      have vU := Lib.hid (fun (W : World) (ho : Own W w.heap.size gU cU (imI c U)) => ho.cell sn (by rw [imI_length]; exact hsn))
      have HVn := Lib.hid hVn
      have Hlc : Hid (((sn : Int) :: V).length = k) := Lib.hid hVk
      clear hf hiV hVn hfd hsi
      obtain ⟨lu, hlu⟩ : ∃ lu, U.length = lu := ⟨_, rfl⟩
      rw [hlu] at hgq
      have Hlu := Lib.hid hlu
      clear hlu hVk
      go_wp2_with fail
      refine hD.out.mono ?_
      rintro e w5 ⟨rfl, hs5⟩
      have hb5 := below_still hb hs5
      have hoU5 := hoU.still hs5; have hoV5 := hoV.still hs5; have hoO5 := hoO.still hs5
      clear hb hoU hoV hoO hs5 hD
      go_wp2_with fail
      refine (hNU.out w5 hb5 hoU5).mono ?_
      rintro e w6 ⟨g6, c6, rfl, -, hb6⟩
      rw [Hlu.out]
      have hB6 := hb5.trans (hb6.mono hb5.size)
      have hoU6 := hoU5.below hb6 hoU5.lt; have hoV6 := hoV5.below hb6 hoV5.lt; have hoO6 := hoO5.below hb6 hoO5.lt
      clear hb5 hb6 hoU5 hoV5 hoO5 hNU
      go_wp2_with fail
      refine (hNV.out w6 hB6 hoV6).mono ?_
      rintro e w7 ⟨g7, c7, rfl, -, hb7⟩
      rw [Hlc.out]
      have hB7 := hB6.trans (hb7.mono hB6.size)
      have hoU7 := hoU6.below hb7 hoU6.lt; have hoV7 := hoV6.below hb7 hoV6.lt; have hoO7 := hoO6.below hb7 hoO6.lt
      clear hB6 hb7 hoU6 hoV6 hoO6 hNV
      by_cases hle : lu ≤ k
      · rw [if_pos (by omega)] at hgq
        have Hgq := Lib.hid hgq
        have d1 : (lu : Int) ≤ (k : Int) := by omega
        clear hgq hle
        go_wp2_with (at_builtin; refine wpList_append_int_n (w := w7) rfl _ _ rfl w.heap.size g3 c3 m xs (sn : Int) hml.out hoO7 rfl rfl (by omega) ?_)
        intro g8 c8 w8 hoO8 hg8 hor8
        have hb8 : Below w.heap.size w w8 := hB7.grown hg8 hB7.size (by intro t ht; cases ht; exact hoO7.base)
        have hoV8 := hoV7.grown hg8 (by intro e; cases e; exact hn3' rfl)
        have hoU8 := hoU7.grown hg8 (by intro e; cases e; exact hn2' rfl)
        have hu8 : gU ≠ g8 := fun e => by
          rcases hor8 with h | h
          · exact hn2' (e.trans h)
          · have := hoU7.lt; omega
        have hv8 : gV ≠ g8 := fun e => by
          rcases hor8 with h | h
          · exact hn3' (e.trans h)
          · have := hoV7.lt; omega
        have hl8 : Hid ((xs ++ [(sn : Int)]).length = m + 1) := Lib.hid (by rw [List.length_append, hml.out]; rfl)
        clear hB7 hoU7 hoV7 hoO7 hg8 hor8 hml hn2' hn3'
        go_wp2_with fail
        refine (kV.out w8 hb8 hoV8).mono ?_
        rintro e w9 ⟨rfl, hoV9, hg9⟩
        have hb9 := hb8.grown hg9 hb8.size (by intro j hj; cases hj; exact hoV8.base)
        have hoU9 := hoU8.grown hg9 (by intro e; cases e; exact hne1 rfl)
        have hoO9 := hoO8.grown hg9 (by intro e; cases e; exact hv8 rfl)
        have v9 := vU.out _ hoU9
        clear hb8 hoU8 hoV8 hoO8 hg9 kV
        by_cases hz : (imI c U).getD sn 0 < 0
        · have hi := hyes.out hz
          rw [← hi] at kU
          generalize (imI c U).getD sn 0 = z at *
          generalize subN c U (sn : Int) = U' at *
          have hp8 : Hid (xs ++ [(sn : Int)] ++ dropL c V U' = P) := Lib.hid (by rw [List.append_assoc]; exact Hgq.out)
          clear hi hyes hno hgp
          go_wp2_with fail
          refine (kU.out w9 hb9 hoU9).mono ?_
          rintro e w10 ⟨rfl, hoU10, hg10⟩
          have hb10 := hb9.grown hg10 hb9.size (by intro j hj; cases hj; exact hoU9.base)
          have hoV10 := hoV9.grown hg10 (by intro e; cases e; exact hne1 rfl)
          have hoO10 := hoO9.grown hg10 (by intro e; cases e; exact hu8 rfl)
          clear hb9 hoU9 hoV9 hoO9 hg10
          go_wp2_with fail
          go_roundw
          case rel => exact ⟨m + 1, V.length, g8, c8, U', V, _, rfl, by omega, rfl, hl8.out, hsub.out, HVn.out, hp8.out, hu8, hv8, hoU10, hoV10, hoO10, hb10⟩
          case measure => simp [lenOfV]; omega
        · have hi := hno.out (by omega)
          rw [hi] at Hgq
          generalize (imI c U).getD sn 0 = z at *
          have hp8 : Hid (xs ++ [(sn : Int)] ++ dropL c V U = P) := Lib.hid (by rw [List.append_assoc]; exact Hgq.out)
          clear hi hyes hno hgp
          go_wp2_with fail
          go_roundw
          case rel => exact ⟨m + 1, V.length, g8, c8, U, V, _, rfl, by omega, rfl, hl8.out, hU.out, HVn.out, hp8.out, hu8, hv8, hoU9, hoV9, hoO9, hb9⟩
          case measure => simp [lenOfV]; omega
      · rw [if_neg (by omega)] at hgq
        have h2 : xs = P := by rw [← hgq]; simp
        have H2 := Lib.hid h2
        have d1 : (k : Int) < (lu : Int) := by omega
        clear hgq h2 hle
        go_wp2_with fail
        go_ret
        rw [← H2.out]
        exact GotInts.mk' g3 c3 hml.out hoO7 hB7
end Go.Proofs.YtkjglfafphffiaaGreatDoor
namespace Go.Proofs.YtkjglfafphffiaaGreatDoor
set_option maxRecDepth 100000
open Go.RowKit
def IntsV (w : World) (v : Value) (xs : List Int) : Prop := ∃ g o n c, v = (Value.slice (some ⟨g, o, none⟩) n c) ∧ xs.length = n ∧ n ≤ c ∧ g < w.heap.size ∧ Cells w g o xs
def RowsV (w : World) (v : Value) (rows : List (List Int)) : Prop := ∃ g o n c, v = (Value.slice (some ⟨g, o, none⟩) n c) ∧ rows.length = n ∧ n ≤ c ∧ g < w.heap.size ∧ Rows2 w g o rows
theorem IntsV.below {w w' : World} {v : Value} {xs : List Int} (h : IntsV w v xs) (hb : Below w.heap.size w w') : IntsV w' v xs := by
  obtain ⟨g, o, n, c, h1, h2, h3, h4, h5⟩ := h
  exact ⟨g, o, n, c, h1, h2, h3, Nat.lt_of_lt_of_le h4 hb.size, h5.below hb h4⟩
theorem RowsV.below {w w' : World} {v : Value} {rows : List (List Int)} (h : RowsV w v rows) (hb : Below w.heap.size w w') : RowsV w' v rows := by
  obtain ⟨g, o, n, c, h1, h2, h3, h4, h5⟩ := h
  exact ⟨g, o, n, c, h1, h2, h3, Nat.lt_of_lt_of_le h4 hb.size, h5.below hb h4⟩
structure ClaimD where
  kind : Int
  cartan : List (List Int)
  a : List Int
  b : List Int
  proof : List Int
  roots : List (List Int)
def ClaimP (w : World) (v : Value) (x : ClaimD) : Prop := ∃ v1 v2 v3 v4 q5 n5 c5, v = .agg #[.int .i64 x.kind, v1, v2, v3, v4, .slice q5 n5 c5] ∧ RowsV w v1 x.cartan ∧ IntsV w v2 x.a ∧ IntsV w v3 x.b ∧ IntsV w v4 x.proof
def ClaimR (w : World) (v : Value) (x : ClaimD) : Prop := ∃ v1 v2 v3 q4 n4 c4 v5, v = .agg #[.int .i64 x.kind, v1, v2, v3, .slice q4 n4 c4, v5] ∧ RowsV w v1 x.cartan ∧ IntsV w v2 x.a ∧ IntsV w v3 x.b ∧ RowsV w v5 x.roots
def ClaimN (w : World) (v : Value) (x : ClaimD) : Prop := ∃ v1 v2 v3 q4 m4 c4 q5 m5 c5, v = .agg #[.int .i64 x.kind, v1, v2, v3, .slice q4 m4 c4, .slice q5 m5 c5] ∧ RowsV w v1 x.cartan ∧ IntsV w v2 x.a ∧ IntsV w v3 x.b ∧ (2 ≤ x.kind → x.kind ≤ 5 → IntsV w (.slice q4 m4 c4) x.proof) ∧ (x.kind = 1 → RowsV w (.slice q5 m5 c5) x.roots)
theorem ClaimN.below {w w' : World} {v : Value} {x : ClaimD} (h : ClaimN w v x) (hb : Below w.heap.size w w') : ClaimN w' v x := by
  obtain ⟨v1, v2, v3, q4, m4, c4, q5, m5, c5, e, h1, h2, h3, h4, h5⟩ := h
  exact ⟨v1, v2, v3, q4, m4, c4, q5, m5, c5, e, h1.below hb, h2.below hb, h3.below hb, fun a b => (h4 a b).below hb, fun a => (h5 a).below hb⟩
theorem ClaimN.toP {w : World} {v : Value} {x : ClaimD} (h : ClaimN w v x) (h1 : 2 ≤ x.kind) (h2 : x.kind ≤ 5) : ClaimP w v x := by
  obtain ⟨v1, v2, v3, q4, m4, c4, q5, m5, c5, e, a1, a2, a3, a4, -⟩ := h
  exact ⟨v1, v2, v3, _, q5, m5, c5, e, a1, a2, a3, a4 h1 h2⟩
theorem ClaimN.toR {w : World} {v : Value} {x : ClaimD} (h : ClaimN w v x) (h1 : x.kind = 1) : ClaimR w v x := by
  obtain ⟨v1, v2, v3, q4, m4, c4, q5, m5, c5, e, a1, a2, a3, -, a5⟩ := h
  exact ⟨v1, v2, v3, q4, m4, c4, _, e, a1, a2, a3, a5 h1⟩
def rowsFewC (rows : List (List Int)) : Prop := rows.length ≤ 1048576 ∧ ∀ j, j < rows.length → (rows.getD j []).length ≤ 1048576
def claimFew (x : ClaimD) : Prop := rowsFewC x.cartan ∧ x.a.length ≤ 1048576 ∧ x.b.length ≤ 1048576 ∧ x.proof.length ≤ 1048576 ∧ rowsFewC x.roots
def sameClaim (x y : ClaimD) : Bool := decide (x.kind = y.kind) && decide (x.cartan = y.cartan) && decide (x.a = y.a) && decide (x.b = y.b) && decide (x.proof = y.proof) && decide (x.roots = y.roots)
end Go.Proofs.YtkjglfafphffiaaGreatDoor
namespace Go.Proofs.YtkjglfafphffiaaGreatDoor
set_option maxRecDepth 100000
open Go.RowKit
def MayI (w : World) (B E : Nat) (v : Value) (xs : List Int) : Prop := (v = .slice none 0 0 ∧ xs = []) ∨ ∃ g cap, v = (Value.slice (some ⟨g, 0, none⟩) xs.length cap) ∧ HeldI w B E g cap xs
def MayR (w : World) (B E : Nat) (v : Value) (rows : List (List Int)) : Prop := (v = .slice none 0 0 ∧ rows = []) ∨ ∃ g cap, v = (Value.slice (some ⟨g, 0, none⟩) rows.length cap) ∧ HeldR w B E g cap rows
section
variable {w w' : World} {B E b B2 E2 : Nat} {v : Value} {xs : List Int} {rows : List (List Int)}
theorem MayI.shape (h : MayI w B E v xs) : ∃ a c, v = .slice a xs.length c := by
  rcases h with ⟨rfl, rfl⟩ | ⟨g, cap, rfl, -⟩
  · exact ⟨_, _, rfl⟩
  · exact ⟨_, _, rfl⟩
theorem MayR.shape (h : MayR w B E v rows) : ∃ a c, v = .slice a rows.length c := by
  rcases h with ⟨rfl, rfl⟩ | ⟨g, cap, rfl, -⟩
  · exact ⟨_, _, rfl⟩
  · exact ⟨_, _, rfl⟩
theorem MayI.below (h : MayI w B E v xs) (hb : Below b w w') (hE : E ≤ b) : MayI w' B E v xs := by
  rcases h with h | ⟨g, cap, e, h⟩
  · exact .inl h
  · exact .inr ⟨g, cap, e, h.below hb hE⟩
theorem MayR.below (h : MayR w B E v rows) (hb : Below b w w') (hE : E ≤ b) : MayR w' B E v rows := by
  rcases h with h | ⟨g, cap, e, h⟩
  · exact .inl h
  · exact .inr ⟨g, cap, e, h.below hb hE⟩
theorem MayI.only (h : MayI w B E v xs) (hb : Only B2 E2 w w') (hd : E ≤ B2 ∨ E2 ≤ B) : MayI w' B E v xs := by
  rcases h with h | ⟨g, cap, e, h⟩
  · exact .inl h
  · exact .inr ⟨g, cap, e, h.only hb hd⟩
theorem MayR.only (h : MayR w B E v rows) (hb : Only B2 E2 w w') (hd : E ≤ B2 ∨ E2 ≤ B) : MayR w' B E v rows := by
  rcases h with h | ⟨g, cap, e, h⟩
  · exact .inl h
  · exact .inr ⟨g, cap, e, h.only hb hd⟩
end
theorem MayI.keep {w w' : World} {B E : Nat} {v : Value} {xs : List Int} (h : MayI w B E v xs) (hb : Below w.heap.size w w') : MayI w' B E v xs := by
  rcases h with h | ⟨g, cap, e, h⟩
  · exact .inl h
  · exact .inr ⟨g, cap, e, h.1.below hb h.1.lt, h.2⟩
theorem MayR.keep {w w' : World} {B E : Nat} {v : Value} {rows : List (List Int)} (h : MayR w B E v rows) (hb : Below w.heap.size w w') : MayR w' B E v rows := by
  rcases h with h | ⟨g, cap, e, h⟩
  · exact .inl h
  · exact .inr ⟨g, cap, e, by obtain ⟨rs, q1, q2, q3, q4⟩ := h; exact ⟨rs, q1, q2.below hb, q3, q4⟩⟩
theorem sixC {W : World} {b : Nat} {v0 v1 v2 v3 v4 v5 : Value} {t : TypeId} (h : W.heap[b]? = some (.cells #[v0, v1, v2, v3, v4, v5] t (0, 0))) :
    W.cell? ⟨b, 0, none⟩ = some v0 ∧ W.cell? ⟨b, 1, none⟩ = some v1 ∧ W.cell? ⟨b, 2, none⟩ = some v2 ∧ W.cell? ⟨b, 3, none⟩ = some v3 ∧ W.cell? ⟨b, 4, none⟩ = some v4 ∧ W.cell? ⟨b, 5, none⟩ = some v5 := by
  refine ⟨?_, ?_, ?_, ?_, ?_, ?_⟩ <;> (rw [cell_of_cells h]; rfl)
theorem Only.wide {B E B2 E2 : Nat} {w w' : World} (h : Only B E w w') (h1 : B2 ≤ B) (h2 : E ≤ E2) : Only B2 E2 w w' :=
  ⟨h.os, h.tape, h.output, h.size, fun k hk hd => h.block k hk (by omega)⟩
def HeldC (w : World) (B E : Nat) (v : Value) (x : ClaimD) : Prop := ∃ v1 v2 v3 v4 v5 E1 E2 E3 E4, v = .agg #[.int .i64 x.kind, v1, v2, v3, v4, v5] ∧ (B ≤ E1 ∧ E1 ≤ E2 ∧ E2 ≤ E3 ∧ E3 ≤ E4 ∧ E4 ≤ E) ∧
  MayR w B E1 v1 x.cartan ∧ MayI w E1 E2 v2 x.a ∧ MayI w E2 E3 v3 x.b ∧ MayI w E3 E4 v4 x.proof ∧ MayR w E4 E v5 x.roots
section
variable {w w' : World} {B E b B2 E2 : Nat} {v : Value} {x : ClaimD}
theorem HeldC.below (h : HeldC w B E v x) (hb : Below b w w') (hE : E ≤ b) : HeldC w' B E v x := by
  obtain ⟨v1, v2, v3, v4, v5, E1, E2, E3, E4, e, hI, a1, a2, a3, a4, a5⟩ := h
  exact ⟨v1, v2, v3, v4, v5, E1, E2, E3, E4, e, hI, a1.below hb (by omega), a2.below hb (by omega), a3.below hb (by omega), a4.below hb (by omega), a5.below hb (by omega)⟩
theorem HeldC.only (h : HeldC w B E v x) (hb : Only B2 E2 w w') (hd : E ≤ B2 ∨ E2 ≤ B) : HeldC w' B E v x := by
  obtain ⟨v1, v2, v3, v4, v5, E1, E2, E3, E4, e, hI, a1, a2, a3, a4, a5⟩ := h
  exact ⟨v1, v2, v3, v4, v5, E1, E2, E3, E4, e, hI, a1.only hb (by omega), a2.only hb (by omega), a3.only hb (by omega), a4.only hb (by omega), a5.only hb (by omega)⟩
end
structure ClSmall (x : ClaimD) : Prop where
  c : rowsFew x.cartan
  a : x.a.length ≤ 1048576
  b : x.b.length ≤ 1048576
  p : x.proof.length ≤ 1048576
  r : rowsFew x.roots
section
variable {w : World} {B E B2 E2 : Nat} {v v2 : Value} {xs : List Int} {rows : List (List Int)}
end
end Go.Proofs.YtkjglfafphffiaaGreatDoor
namespace Go.Proofs.YtkjglfafphffiaaGreatDoor
set_option maxRecDepth 100000
open Go.RowKit Game
def longN (c : List (List Int)) : List Int := (normG c 30 (negL c.length)).getD []
def coversB (c : List (List Int)) (v : List Int) : Bool := finB c && decide (starL c v = longN c)
theorem longN_ok {c : List (List Int)} (hC : IsC c) (hf : finB c = true) : normG c 30 (negL c.length) = some (longN c) ∧ (longN c).length ≤ 24 := by
  obtain ⟨long, opp, hL, h24⟩ := longOf_fin24 hC hf
  have e : longN c = long := by unfold longN; rw [hL.norm]; rfl
  rw [e]
  exact ⟨hL.norm, h24⟩
set_option maxHeartbeats 1000000 in
theorem impl_CoversAll_ok (gc oc n cc g o m cp : Nat) (c : List (List Int)) (v : List Int) (w : World) (hn : c.length = n) (hm : v.length = m) (hW : WordOk c v) (hgc : gc < w.heap.size) (hg : g < w.heap.size) (hr : Rows2 w gc oc c) (hv : Cells w g o v) :
    Calls Tryz.prog 35 #[(Value.slice (some ⟨gc, oc, none⟩) n cc), (Value.slice (some ⟨g, o, none⟩) m cp)] w (Gives w (.bool (coversB c v))) := by
  have hn4 := hW.isC.2.1
  have hcl := hW.isC.2.2.1
  have hl := hW.few
  have hC := hW.isC
  have hsl := (starTo_lets hW v.length (Nat.le_refl _)).few
  have k1 := Lib.hid (impl_StarWord_ok gc oc n cc g o m cp c v w hn hm hW hgc hg hr hv)
  have k2 := fun (W : World) (hb : Below w.heap.size w W) => impl_IsFinite_any gc oc n cc c W hn (by omega) (fun j hj => by have := hcl j hj; omega) (Nat.lt_of_lt_of_le hgc hb.size) (hr.below hb hgc)
  unfold coversB
  cases hf : finB c with
  | false =>
    rw [hf] at k2
    have K2 := Lib.hid k2
    rw [Bool.false_and]
    clear k2 hr hv hW hcl hf hsl
    go_enter Tryz.func35, Tryz.ntmps35
    go_wp2_with fail
    refine k1.out.mono ?_
    rintro e w1 ⟨g1, c1, rfl, ho1, hb1⟩
    go_wp2_with fail
    refine (K2.out w1 hb1).mono ?_
    rintro e w2 ⟨rfl, hb2⟩
    go_wp2_with fail
    go_ret
    exact ⟨rfl, hb1.trans (hb2.mono hb1.size)⟩
  | true =>
    rw [hf] at k2
    have K2 := Lib.hid k2
    rw [Bool.true_and]
    obtain ⟨hlong, h24⟩ := longN_ok hC hf
    have K3 := Lib.hid (fun (W : World) (hb : Below w.heap.size w W) => impl_longestElement_any gc oc n cc c (longN c) W hn hC hlong (Nat.lt_of_lt_of_le hgc hb.size) (hr.below hb hgc))
    have K4 := Lib.hid (fun (W : World) (g1 c1 g2 c2 : Nat) (x1 : Cells W g1 0 (starL c v)) (x2 : Cells W g2 0 (longN c)) => impl_EqualWords_any g1 0 (starL c v).length c1 g2 0 (longN c).length c2 (starL c v) (longN c) W rfl rfl (by have : (starL c v).length ≤ v.length := hsl; omega) (by omega) x1 x2)
    clear k2 hr hv hW hcl hf hsl hlong h24
    generalize longN c = y at *
    generalize starL c v = x at *
    generalize decide (x = y) = r at *
    go_enter Tryz.func35, Tryz.ntmps35
    go_wp2_with fail
    refine k1.out.mono ?_
    rintro e w1 ⟨g1, c1, rfl, ho1, hb1⟩
    go_wp2_with fail
    refine (K2.out w1 hb1).mono ?_
    rintro e w2 ⟨rfl, hb2⟩
    have hB := hb1.trans (hb2.mono hb1.size)
    have ho2 := ho1.below hb2 ho1.lt
    clear hb1 hb2 ho1
    go_wp2_with fail
    refine (K3.out w2 hB).mono ?_
    rintro e w3 ⟨g3, c3, rfl, ho3, hb3⟩
    have hB3 := hB.trans (hb3.mono hB.size)
    have ho4 := ho2.below hb3 ho2.lt
    clear hB hb3 ho2
    go_wp2_with fail
    refine (K4.out w3 g1 c1 g3 c3 ho4.cells ho3.cells).mono ?_
    rintro e w4 ⟨rfl, hs4⟩
    go_wp2_with fail
    go_ret
    exact ⟨rfl, below_still hB3 hs4⟩
theorem spec_LongestElement_inf (gc oc n cc : Nat) (w : World) (hf : Calls Tryz.prog 15 #[(Value.slice (some ⟨gc, oc, none⟩) n cc)] w (Gives w (.bool false))) :
    Calls Tryz.prog 63 #[(Value.slice (some ⟨gc, oc, none⟩) n cc)] w (GotIntsB w [] false) := by
  have Hf := Lib.hid hf
  clear hf
  go_enter Tryz.func63, Tryz.ntmps63
  go_wp2_with fail
  refine Hf.out.mono ?_
  rintro e w1 ⟨rfl, hb1⟩
  go_wp2_with fail
  go_ret2
  exact ⟨_, 0, rfl, Own.empty hb1.size, hb1.alloc hb1.size _⟩
set_option maxHeartbeats 1000000 in
theorem spec_CoversAll_ok (gc oc n cc g o m cp : Nat) (c : List (List Int)) (v : List Int) (w : World) (hn : c.length = n) (hm : v.length = m) (hW : WordOk c v) (hgc : gc < w.heap.size) (hg : g < w.heap.size) (hr : Rows2 w gc oc c) (hv : Cells w g o v) :
    Calls Tryz.prog 16 #[(Value.slice (some ⟨gc, oc, none⟩) n cc), (Value.slice (some ⟨g, o, none⟩) m cp)] w (Gives w (.bool (coversB c v))) := by
  have hn4 := hW.isC.2.1
  have hcl := hW.isC.2.2.1
  have hl := hW.few
  have hC := hW.isC
  have hsl := (starTo_lets hW v.length (Nat.le_refl _)).few
  have k1 := Lib.hid (spec_StarWord_ok gc oc n cc g o m cp c v w hn hm hW hgc hg hr hv)
  unfold coversB
  cases hf : finB c with
  | false =>
    have K2 := Lib.hid (fun (W : World) (hb : Below w.heap.size w W) => spec_LongestElement_inf gc oc n cc W (by have := spec_IsFinite_any gc oc n cc c W hn (by omega) (fun j hj => by have := hcl j hj; omega) (Nat.lt_of_lt_of_le hgc hb.size) (hr.below hb hgc); rwa [hf] at this))
    rw [Bool.false_and]
    clear hr hv hW hcl hf hsl
    go_enter Tryz.func16, Tryz.ntmps16
    go_wp2_with fail
    refine k1.out.mono ?_
    rintro e w1 ⟨g1, c1, rfl, ho1, hb1⟩
    go_wp2_with fail
    refine (K2.out w1 hb1).mono ?_
    rintro e w2 ⟨g2, c2, rfl, ho2, hb2⟩
    go_wp2_with fail
    go_ret
    exact ⟨rfl, hb1.trans (hb2.mono hb1.size)⟩
  | true =>
    rw [Bool.true_and]
    obtain ⟨hlong, h24⟩ := longN_ok hC hf
    have K3 := Lib.hid (fun (W : World) (hb : Below w.heap.size w W) => spec_LongestElement_ok gc oc n cc c (longN c) W hn hC hf hlong (Nat.lt_of_lt_of_le hgc hb.size) (hr.below hb hgc))
    have K4 := Lib.hid (fun (W : World) (g1 c1 g2 c2 : Nat) (x1 : Cells W g1 0 (starL c v)) (x2 : Cells W g2 0 (longN c)) => spec_EqualWords_any g1 0 (starL c v).length c1 g2 0 (longN c).length c2 (starL c v) (longN c) W rfl rfl (by have : (starL c v).length ≤ v.length := hsl; omega) x1 x2)
    clear hr hv hW hcl hf hsl hlong h24
    generalize longN c = y at *
    generalize starL c v = x at *
    generalize decide (x = y) = r at *
    go_enter Tryz.func16, Tryz.ntmps16
    go_wp2_with fail
    refine k1.out.mono ?_
    rintro e w1 ⟨g1, c1, rfl, ho1, hb1⟩
    go_wp2_with fail
    refine (K3.out w1 hb1).mono ?_
    rintro e w3 ⟨g3, c3, rfl, ho3, hb3⟩
    have hB3 := hb1.trans (hb3.mono hb1.size)
    have ho4 := ho1.below hb3 ho1.lt
    clear hb3 ho1
    go_wp2_with fail
    refine (K4.out w3 g1 c1 g3 c3 ho4.cells ho3.cells).mono ?_
    rintro e w4 ⟨rfl, hs4⟩
    go_wp2_with fail
    go_ret
    exact ⟨rfl, below_still hB3 hs4⟩
end Go.Proofs.YtkjglfafphffiaaGreatDoor
