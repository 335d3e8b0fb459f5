/- The reference's l22R, RPolynomial: contracts. Printed by mkrps.py. -/
import Derived.Test.YtdedkfbiookofaaGreatDoorK21
import Derived.Test.YtdedkfbiookofaaGreatDoorK41
import Derived.Test.YtdedkfbiookofaaGreatDoorK34
namespace Go.Proofs.YtdedkfbiookofaaGreatDoor
set_option maxRecDepth 100000
open Go.RowKit Game
set_option maxHeartbeats 2000000 in
theorem spec_l22R_any (c : List (List Int)) (gc oc n cc : Nat) (hn : c.length = n) : ∀ (k : Nat) (U V : List Int) (gU oU mU cU gV oV cV : Nat) (w : World), V.length = k → U.length = mU → Nw c U → Lets c 15 V → k ≤ cV → gc < w.heap.size → gU < w.heap.size → gV < w.heap.size → Rows2 w gc oc c → Cells w gU oU U → Cells w gV oV V →
    Calls Tryz.prog 56 #[(Value.slice (some ⟨gc, oc, none⟩) n cc), (Value.slice (some ⟨gU, oU, none⟩) mU cU), (Value.slice (some ⟨gV, oV, none⟩) k cV)] w (GotInts w (rS c V U))
  | 0, U, V, gU, oU, mU, cU, gV, oV, cV, w, hVk, hmU, hU, hV, hcap, hgc, hgU, hgV, hr, hu, hv => by
    obtain rfl : V = [] := List.length_eq_zero_iff.1 hVk
    have kB := spec_l15Below_any c gc oc n cc hn 0 U [] gU oU mU cU gV oV cV w hVk hmU hU hV hcap hgc hgU hgV hr hu hv
    have hd : decide (subU c [] U = []) = decide (U = []) := rfl
    rw [hd] at kB
    by_cases h0 : U = []
    · rw [show decide (U = []) = true from decide_eq_true h0] at kB
      rw [show rS c [] U = [1] from if_pos h0]
      have KB := Lib.hid kB
      clear hr hu hv hU hV hVk hmU hd kB h0
      go_enter Tryz.func56, Tryz.ntmps56
      go_wp2_with fail
      refine KB.out.mono ?_
      rintro e w1 ⟨rfl, hb1⟩
      go_wp2_with fail
      go_ret
      exact GotInts.mk' _ 1 rfl (Own.new 1 hb1.size) (hb1.alloc hb1.size _)
    · rw [show decide (U = []) = false from decide_eq_false h0] at kB
      rw [show rS c [] U = [] from if_neg h0]
      have KB := Lib.hid kB
      clear hr hu hv hU hV hVk hmU hd kB h0
      go_enter Tryz.func56, Tryz.ntmps56
      go_wp2_with fail
      refine KB.out.mono ?_
      rintro e w1 ⟨rfl, hb1⟩
      go_wp2_with fail
      go_ret
      exact GotInts.mk' _ 0 rfl (Own.empty hb1.size) (hb1.alloc hb1.size _)
  | k + 1, U, V, gU, oU, mU, cU, gV, oV, cV, w, hVk, hmU, hU, hV, hcap, hgc, hgU, hgV, hr, hu, hv => by
    have kB := spec_l15Below_any c gc oc n cc hn (k + 1) U V gU oU mU cU gV oV cV w hVk hmU hU hV hcap hgc hgU hgV hr hu hv
    cases V with
    | nil => simp at hVk
    | cons s V =>
    obtain ⟨sn, rfl, hsn, hV'⟩ := head_tail hV
    by_cases hs : subU c ((sn : Int) :: V) U = []
    case neg =>
      rw [show decide (subU c ((sn : Int) :: V) U = []) = false from decide_eq_false hs] at kB
      rw [show rS c ((sn : Int) :: V) U = [] from if_neg hs]
      have KB := Lib.hid kB
      clear hr hu hv hU hV hVk hmU kB hs hV'
      go_enter Tryz.func56, Tryz.ntmps56
      go_wp2_with fail
      refine KB.out.mono ?_
      rintro e w1 ⟨rfl, hb1⟩
      go_wp2_with fail
      go_ret
      exact GotInts.mk' _ 0 rfl (Own.empty hb1.size) (hb1.alloc hb1.size _)
    rw [show decide (subU c ((sn : Int) :: V) U = []) = true from decide_eq_true hs] at kB
    have KB := Lib.hid kB
    have hVk' : V.length = k := by simpa using hVk
    have hC := hV.isC
    have hu15 := hU.lets.few
    have hv15 := hV'.few
    have hle : ∀ X, (rS c V X).length ≤ 16 := fun X => Nat.le_trans (rS_le c V X) (by omega)
    have hX15 : Nw c (nfI c ((sn : Int) :: U)) := by
      by_cases hn2 : (imI c U).getD sn 0 < 0
      · exact hU.down hsn hn2
      · have hlen := nfI_up hU hsn hn2
        have hs1 := (subU_bel _ hV' hU).2 ((belV_pos hU.lets (by decide) hV' hsn hn2).1 ((subU_bel _ hV hU).1 hs))
        have h3 := subU_len V hV'.mem hU
        rw [hs1, List.length_nil] at h3
        have hv16 := hV.few
        rw [List.length_cons] at hv16
        have h4 := nfI_ok ((hU.cons hsn).mono (show 16 ≤ 30 by omega))
        exact ⟨⟨h4.lets.isC, by omega, h4.lets.inr⟩, nfI_self ((hU.cons hsn).mono (by omega))⟩
    have q1 : w.cell? ⟨gV, oV, none⟩ = some (.int .i64 sn) := hv 0 (by simp)
    have hvT : Cells w gV (oV + 1) V := fun j hj => by
      have := hv (j + 1) (by simpa using hj)
      rw [show oV + 1 + j = oV + (j + 1) by omega, this]; simp [List.getD]
    have kC := Lib.hid (fun (W : World) (hb : Below w.heap.size w W) =>
      show Calls Tryz.prog 96 #[(Value.slice (some ⟨W.heap.size, 0, none⟩) 1 1), (Value.slice (some ⟨gU, oU, none⟩) mU cU)] (W.alloc (.cells #[.int .i64 sn] 3)) (GotInts (W.alloc (.cells #[.int .i64 sn] 3)) ((sn : Int) :: U)) from
        spec_ConcatWords_any W.heap.size 0 1 1 gU oU mU cU [(sn : Int)] U _ rfl hmU (by simp) (by omega) (by simp) (by have := hb.size; simp; omega) (Own.new (B := W.heap.size) (sn : Int) (Nat.le_refl _)).cells ((hu.below hb hgU).below ((Below.refl W.heap.size W).alloc (Nat.le_refl _) _) (Nat.lt_of_lt_of_le hgU hb.size)))
    have hUc := Lib.hid (hU.cons hsn)
    have kN := Lib.hid (fun (W : World) (B2 g2 c2 m2 : Nat) (hm2 : ((sn : Int) :: U).length = m2) (hb : Below w.heap.size w W) (ho : Own W B2 g2 c2 ((sn : Int) :: U)) => spec_l8Normal_any gc oc n cc g2 0 m2 c2 c ((sn : Int) :: U) (nfI c ((sn : Int) :: U)) W hn hm2 hC (by rw [List.length_cons]; omega) (hUc.out.mono (show 16 ≤ 16 by omega)).inr (nfI_ok (hUc.out.mono (by omega))).norm (Nat.lt_of_lt_of_le hgc hb.size) ho.lt (hr.below hb hgc) ho.cells)
    have hlU : Hid (((sn : Int) :: U).length = mU + 1) := Lib.hid (by rw [List.length_cons, hmU])
    have qv := Lib.hid (fun (W : World) (hb : Below w.heap.size w W) => (hb.cell (p := ⟨gV, oV, none⟩) hgV).trans q1)
    have IH := Lib.hid (fun (X : List Int) (hX : Nw c X) (gX oX mX cX oV2 cV2 : Nat) (W : World) (hmX : X.length = mX) (hcap2 : k ≤ cV2) (hb : Below w.heap.size w W) (hgX : gX < W.heap.size) (hx : Cells W gX oX X) (hv2 : Cells W gV oV2 V) => spec_l22R_any c gc oc n cc hn k X V gX oX mX cX gV oV2 cV2 W hVk' hmX hX hV' hcap2 (Nat.lt_of_lt_of_le hgc hb.size) hgX (Nat.lt_of_lt_of_le hgV hb.size) (hr.below hb hgc) hx hv2)
    have HvT := Lib.hid (fun (W : World) (hb : Below w.heap.size w W) => hvT.below hb hgV)
    have Hu := Lib.hid (fun (W : World) (hb : Below w.heap.size w W) => hu.below hb hgU)
    have HU := Lib.hid hU; have HX := Lib.hid hX15; have HmU := Lib.hid hmU
    have H0 : Hid (cV = 1 → Cells w gV oV V) := Lib.hid (fun h => by
      have : V = [] := List.length_eq_zero_iff.1 (by omega)
      subst this; intro j hj; simp at hj)
    have H0' := Lib.hid (fun (h : cV = 1) (W : World) (hb : Below w.heap.size w W) => (H0.out h).below hb hgV)
    have bz : (((k : Int) + 1) == 0) = false := by rw [beq_eq_false_iff_ne]; omega
    have Hrs : Hid (rS c ((sn : Int) :: V) U = if (nfI c ((sn : Int) :: U)).length < U.length then rS c V (nfI c ((sn : Int) :: U)) else addP (shS (rS c V (nfI c ((sn : Int) :: U))) 1) (addP (shS (rS c V U) 1) (negP (rS c V U)))) := Lib.hid (if_pos hs)
    obtain ⟨X, hX⟩ : ∃ X, nfI c ((sn : Int) :: U) = X := ⟨_, rfl⟩
    rw [hX] at kN HX Hrs
    rw [Hrs.out, HmU.out]
    obtain ⟨mG, hmG⟩ : ∃ mG, X.length = mG := ⟨_, rfl⟩
    rw [hmG]
    have hlX := hle X
    have hlU2 := hle U
    have IHX := Lib.hid (fun (gX cX oV2 cV2 : Nat) (W : World) (B : Nat) (hcap2 : k ≤ cV2) (hb : Below w.heap.size w W) (ho : Own W B gX cX X) (hv2 : Cells W gV oV2 V) => IH.out X HX.out gX 0 mG cX oV2 cV2 W hmG hcap2 hb ho.lt ho.cells hv2)
    have IHU := Lib.hid (fun (oV2 cV2 : Nat) (W : World) (hcap2 : k ≤ cV2) (hb : Below w.heap.size w W) (hv2 : Cells W gV oV2 V) => IH.out U HU.out gU oU mU cU oV2 cV2 W HmU.out hcap2 hb (Nat.lt_of_lt_of_le hgU hb.size) (Hu.out W hb) hv2)
    obtain ⟨R, hR⟩ : ∃ R, rS c V X = R := ⟨_, rfl⟩
    obtain ⟨T, hT⟩ : ∃ T, rS c V U = T := ⟨_, rfl⟩
    rw [hR] at IHX hlX ⊢
    rw [hT] at IHU hlU2 ⊢
    have HmG := Lib.hid hmG
    clear IH Hrs HU HX Hu hX hR hT hmG
    clear hV hV' hVk hVk' hr hu hv hvT hU hX15 hmU hC H0 kB q1 hs hle
    by_cases hcap1 : cV = 1
    · obtain rfl : k = 0 := by omega
      have HvV := Lib.hid (fun W hW => H0'.out hcap1 W hW)
      subst hcap1
      by_cases hlt : mG < mU
      · have d1 : ((mG : Int) < (mU : Int)) := by omega
        rw [if_pos hlt]
        clear hlX hlU2 IHU
        go_enter Tryz.func56, Tryz.ntmps56
        go_wp2_with fail
        refine KB.out.mono ?_
        rintro e w1 ⟨rfl, hb⟩
        have hcC := Lib.hid (kC.out w1 hb)
        have p1 := qv.out w1 hb
        go_wp2_with fail
        refine hcC.out.mono ?_
        rintro e wD ⟨gD, cD, rfl, hoD, hbD2⟩
        have hbE := hb.alloc hb.size (.cells #[.int .i64 sn] 3)
        have hbF := hbE.trans (hbD2.mono hbE.size)
        rw [hlU.out]
        have hN := Lib.hid (kN.out wD _ gD cD (mU + 1) hlU.out hbF hoD)
        clear hbE hbD2 hb hcC hoD p1
        go_wp2_with fail
        refine hN.out.mono ?_
        rintro e wG ⟨gG, cG, rfl, hoG, hbG⟩
        have hB := hbF.trans (hbG.mono hbF.size)
        rw [HmG.out]
        have hIH := Lib.hid (IHX.out gG cG oV 0 wG _ (by omega) hB hoG (HvV.out _ hB))
        clear hbF hbG hN
        go_wp2_with fail
        refine hIH.out.mono ?_
        rintro e wZ ⟨gZ, cZ, rfl, hoZ, hbZ⟩
        go_wp2_with fail
        go_ret
        exact GotInts.mk' gZ cZ rfl (hoZ.mono hB.size) (hB.trans (hbZ.mono hB.size))
      · have d1 : ¬ ((mG : Int) < (mU : Int)) := by omega
        rw [if_neg hlt]
        obtain ⟨mR, hmR⟩ : ∃ m, R.length = m := ⟨_, rfl⟩
        obtain ⟨mT, hmT⟩ : ∃ m, T.length = m := ⟨_, rfl⟩
        have h1 := shS_le R 1
        have h2 := shS_le T 1
        have h3 := addP_le (shS T 1) (negP T)
        rw [negP_length] at h3
        have K1 := Lib.hid (fun (W : World) (B g' c' : Nat) (ho : Own W B g' c' R) => show Calls Tryz.prog 66 #[(Value.slice (some ⟨g', 0, none⟩) mR c'), .int .i64 1] W (GotInts W (shS R 1)) from spec_ShiftPoly_any g' 0 mR c' 1 R W hmR (by omega) (by have := ho.capLe; omega) (by omega) ho.lt ho.cells)
        have K2 := Lib.hid (fun (W : World) (B g' c' : Nat) (ho : Own W B g' c' T) => show Calls Tryz.prog 66 #[(Value.slice (some ⟨g', 0, none⟩) mT c'), .int .i64 1] W (GotInts W (shS T 1)) from spec_ShiftPoly_any g' 0 mT c' 1 T W hmT (by omega) (by have := ho.capLe; omega) (by omega) ho.lt ho.cells)
        obtain ⟨A, hA⟩ : ∃ A, shS R 1 = A := ⟨_, rfl⟩
        obtain ⟨D, hD⟩ : ∃ D, shS T 1 = D := ⟨_, rfl⟩
        rw [hA] at h1 K1 ⊢; rw [hD] at h2 h3 K2 ⊢
        obtain ⟨mA, hmA⟩ : ∃ m, A.length = m := ⟨_, rfl⟩
        obtain ⟨mD, hmD⟩ : ∃ m, D.length = m := ⟨_, rfl⟩
        have K3 := Lib.hid (fun (W : World) (B B2 g1 c1 g2 c2 : Nat) (h1 : Own W B g1 c1 D) (h2 : Own W B2 g2 c2 T) => spec_SubPoly_any g1 0 mD c1 g2 0 mT c2 D T W hmD hmT (by omega) (by omega) h1.lt h2.lt h1.cells h2.cells)
        obtain ⟨E, hE⟩ : ∃ E, addP D (negP T) = E := ⟨_, rfl⟩
        rw [hE] at h3 K3 ⊢
        obtain ⟨mE, hmE⟩ : ∃ m, E.length = m := ⟨_, rfl⟩
        have K4 := Lib.hid (fun (W : World) (B B2 g1 c1 g2 c2 : Nat) (h1 : Own W B g1 c1 A) (h2 : Own W B2 g2 c2 E) => spec_AddPoly_any g1 0 mA c1 g2 0 mE c2 A E W hmA hmE (by omega) (by omega) h1.lt h2.lt h1.cells h2.cells)
        have HmR := Lib.hid hmR; have HmT := Lib.hid hmT; have HmA := Lib.hid hmA; have HmD := Lib.hid hmD; have HmE := Lib.hid hmE
        clear hA hD hE hmR hmT hmA hmD hmE h1 h2 h3 hlX hlU2
        go_enter Tryz.func56, Tryz.ntmps56
        go_wp2_with fail
        refine KB.out.mono ?_
        rintro e w1 ⟨rfl, hb⟩
        have hcC := Lib.hid (kC.out w1 hb)
        have p1 := qv.out w1 hb
        go_wp2_with fail
        refine hcC.out.mono ?_
        rintro e wD ⟨gD, cD, rfl, hoD, hbD2⟩
        have hbE := hb.alloc hb.size (.cells #[.int .i64 sn] 3)
        have hbF := hbE.trans (hbD2.mono hbE.size)
        rw [hlU.out]
        have hN := Lib.hid (kN.out wD _ gD cD (mU + 1) hlU.out hbF hoD)
        clear hbE hbD2 hb hcC hoD p1
        go_wp2_with fail
        refine hN.out.mono ?_
        rintro e wG ⟨gG, cG, rfl, hoG, hbG⟩
        have hB := hbF.trans (hbG.mono hbF.size)
        rw [HmG.out]
        have hIH := Lib.hid (IHX.out gG cG oV 0 wG _ (by omega) hB hoG (HvV.out _ hB))
        clear hbF hbG hN
        have hIH2 := Lib.hid (fun (W : World) (hb : Below w.heap.size w W) => IHU.out oV 0 W (by omega) hb (HvV.out _ hb))
        go_wp2_with fail
        refine hIH.out.mono ?_
        rintro e wH ⟨gR, cR, rfl, hoR, hbR⟩
        have hBR := hB.trans (hbR.mono hB.size)
        rw [HmR.out]
        have k1 := Lib.hid (K1.out wH _ gR cR hoR)
        clear hIH
        go_wp2_with fail
        refine k1.out.mono ?_
        rintro e wI ⟨gA, cA, rfl, hoA, hbA⟩
        have hBA := hBR.trans (hbA.mono hBR.size)
        have k2 := Lib.hid (hIH2.out wI hBA)
        clear k1 hIH2
        go_wp2_with fail
        refine k2.out.mono ?_
        rintro e wJ ⟨gT, cT, rfl, hoT, hbT⟩
        have hBT := hBA.trans (hbT.mono hBA.size)
        rw [HmT.out]
        have k3 := Lib.hid (K2.out wJ _ gT cT hoT)
        clear k2
        go_wp2_with fail
        refine k3.out.mono ?_
        rintro e wL ⟨gD2, cD2, rfl, hoD2, hbD2⟩
        have hBD := hBT.trans (hbD2.mono hBT.size)
        have hoT2 := hoT.below hbD2 hoT.lt
        rw [HmD.out]
        have k4 := Lib.hid (K3.out wL _ _ gD2 cD2 gT cT hoD2 hoT2)
        clear k3
        go_wp2_with fail
        refine k4.out.mono ?_
        rintro e wM ⟨gE, cE, rfl, hoE, hbE⟩
        have hBE := hBD.trans (hbE.mono hBD.size)
        have hoA2 := ((hoA.below hbT hoA.lt).below hbD2 (Nat.lt_of_lt_of_le hoA.lt hbT.size)).below hbE (Nat.lt_of_lt_of_le hoA.lt (Nat.le_trans hbT.size hbD2.size))
        rw [HmA.out, HmE.out]
        have k5 := Lib.hid (K4.out wM _ _ gA cA gE cE hoA2 hoE)
        clear k4
        go_wp2_with fail
        refine k5.out.mono ?_
        rintro e wN ⟨gZ, cZ, rfl, hoZ, hbZ⟩
        go_wp2_with fail
        go_ret
        exact GotInts.mk' gZ cZ rfl (hoZ.mono hBE.size) (hBE.trans (hbZ.mono hBE.size))
    · have hcap3 : ¬ cV = 1 := hcap1
      by_cases hlt : mG < mU
      · have d1 : ((mG : Int) < (mU : Int)) := by omega
        rw [if_pos hlt]
        clear hlX hlU2 IHU
        go_enter Tryz.func56, Tryz.ntmps56
        go_wp2_with fail
        refine KB.out.mono ?_
        rintro e w1 ⟨rfl, hb⟩
        have hcC := Lib.hid (kC.out w1 hb)
        have p1 := qv.out w1 hb
        go_wp2_with fail
        refine hcC.out.mono ?_
        rintro e wD ⟨gD, cD, rfl, hoD, hbD2⟩
        have hbE := hb.alloc hb.size (.cells #[.int .i64 sn] 3)
        have hbF := hbE.trans (hbD2.mono hbE.size)
        rw [hlU.out]
        have hN := Lib.hid (kN.out wD _ gD cD (mU + 1) hlU.out hbF hoD)
        clear hbE hbD2 hb hcC hoD p1
        go_wp2_with fail
        refine hN.out.mono ?_
        rintro e wG ⟨gG, cG, rfl, hoG, hbG⟩
        have hB := hbF.trans (hbG.mono hbF.size)
        rw [HmG.out]
        have hIH := Lib.hid (IHX.out gG cG (oV + 1) (cV - 1) wG _ (by omega) hB hoG (HvT.out _ hB))
        clear hbF hbG hN
        go_wp2_with fail
        refine hIH.out.mono ?_
        rintro e wZ ⟨gZ, cZ, rfl, hoZ, hbZ⟩
        go_wp2_with fail
        go_ret
        exact GotInts.mk' gZ cZ rfl (hoZ.mono hB.size) (hB.trans (hbZ.mono hB.size))
      · have d1 : ¬ ((mG : Int) < (mU : Int)) := by omega
        rw [if_neg hlt]
        obtain ⟨mR, hmR⟩ : ∃ m, R.length = m := ⟨_, rfl⟩
        obtain ⟨mT, hmT⟩ : ∃ m, T.length = m := ⟨_, rfl⟩
        have h1 := shS_le R 1
        have h2 := shS_le T 1
        have h3 := addP_le (shS T 1) (negP T)
        rw [negP_length] at h3
        have K1 := Lib.hid (fun (W : World) (B g' c' : Nat) (ho : Own W B g' c' R) => show Calls Tryz.prog 66 #[(Value.slice (some ⟨g', 0, none⟩) mR c'), .int .i64 1] W (GotInts W (shS R 1)) from spec_ShiftPoly_any g' 0 mR c' 1 R W hmR (by omega) (by have := ho.capLe; omega) (by omega) ho.lt ho.cells)
        have K2 := Lib.hid (fun (W : World) (B g' c' : Nat) (ho : Own W B g' c' T) => show Calls Tryz.prog 66 #[(Value.slice (some ⟨g', 0, none⟩) mT c'), .int .i64 1] W (GotInts W (shS T 1)) from spec_ShiftPoly_any g' 0 mT c' 1 T W hmT (by omega) (by have := ho.capLe; omega) (by omega) ho.lt ho.cells)
        obtain ⟨A, hA⟩ : ∃ A, shS R 1 = A := ⟨_, rfl⟩
        obtain ⟨D, hD⟩ : ∃ D, shS T 1 = D := ⟨_, rfl⟩
        rw [hA] at h1 K1 ⊢; rw [hD] at h2 h3 K2 ⊢
        obtain ⟨mA, hmA⟩ : ∃ m, A.length = m := ⟨_, rfl⟩
        obtain ⟨mD, hmD⟩ : ∃ m, D.length = m := ⟨_, rfl⟩
        have K3 := Lib.hid (fun (W : World) (B B2 g1 c1 g2 c2 : Nat) (h1 : Own W B g1 c1 D) (h2 : Own W B2 g2 c2 T) => spec_SubPoly_any g1 0 mD c1 g2 0 mT c2 D T W hmD hmT (by omega) (by omega) h1.lt h2.lt h1.cells h2.cells)
        obtain ⟨E, hE⟩ : ∃ E, addP D (negP T) = E := ⟨_, rfl⟩
        rw [hE] at h3 K3 ⊢
        obtain ⟨mE, hmE⟩ : ∃ m, E.length = m := ⟨_, rfl⟩
        have K4 := Lib.hid (fun (W : World) (B B2 g1 c1 g2 c2 : Nat) (h1 : Own W B g1 c1 A) (h2 : Own W B2 g2 c2 E) => spec_AddPoly_any g1 0 mA c1 g2 0 mE c2 A E W hmA hmE (by omega) (by omega) h1.lt h2.lt h1.cells h2.cells)
        have HmR := Lib.hid hmR; have HmT := Lib.hid hmT; have HmA := Lib.hid hmA; have HmD := Lib.hid hmD; have HmE := Lib.hid hmE
        clear hA hD hE hmR hmT hmA hmD hmE h1 h2 h3 hlX hlU2
        go_enter Tryz.func56, Tryz.ntmps56
        go_wp2_with fail
        refine KB.out.mono ?_
        rintro e w1 ⟨rfl, hb⟩
        have hcC := Lib.hid (kC.out w1 hb)
        have p1 := qv.out w1 hb
        go_wp2_with fail
        refine hcC.out.mono ?_
        rintro e wD ⟨gD, cD, rfl, hoD, hbD2⟩
        have hbE := hb.alloc hb.size (.cells #[.int .i64 sn] 3)
        have hbF := hbE.trans (hbD2.mono hbE.size)
        rw [hlU.out]
        have hN := Lib.hid (kN.out wD _ gD cD (mU + 1) hlU.out hbF hoD)
        clear hbE hbD2 hb hcC hoD p1
        go_wp2_with fail
        refine hN.out.mono ?_
        rintro e wG ⟨gG, cG, rfl, hoG, hbG⟩
        have hB := hbF.trans (hbG.mono hbF.size)
        rw [HmG.out]
        have hIH := Lib.hid (IHX.out gG cG (oV + 1) (cV - 1) wG _ (by omega) hB hoG (HvT.out _ hB))
        clear hbF hbG hN
        have hIH2 := Lib.hid (fun (W : World) (hb : Below w.heap.size w W) => IHU.out (oV + 1) (cV - 1) W (by omega) hb (HvT.out _ hb))
        go_wp2_with fail
        refine hIH.out.mono ?_
        rintro e wH ⟨gR, cR, rfl, hoR, hbR⟩
        have hBR := hB.trans (hbR.mono hB.size)
        rw [HmR.out]
        have k1 := Lib.hid (K1.out wH _ gR cR hoR)
        clear hIH
        go_wp2_with fail
        refine k1.out.mono ?_
        rintro e wI ⟨gA, cA, rfl, hoA, hbA⟩
        have hBA := hBR.trans (hbA.mono hBR.size)
        have k2 := Lib.hid (hIH2.out wI hBA)
        clear k1 hIH2
        go_wp2_with fail
        refine k2.out.mono ?_
        rintro e wJ ⟨gT, cT, rfl, hoT, hbT⟩
        have hBT := hBA.trans (hbT.mono hBA.size)
        rw [HmT.out]
        have k3 := Lib.hid (K2.out wJ _ gT cT hoT)
        clear k2
        go_wp2_with fail
        refine k3.out.mono ?_
        rintro e wL ⟨gD2, cD2, rfl, hoD2, hbD2⟩
        have hBD := hBT.trans (hbD2.mono hBT.size)
        have hoT2 := hoT.below hbD2 hoT.lt
        rw [HmD.out]
        have k4 := Lib.hid (K3.out wL _ _ gD2 cD2 gT cT hoD2 hoT2)
        clear k3
        go_wp2_with fail
        refine k4.out.mono ?_
        rintro e wM ⟨gE, cE, rfl, hoE, hbE⟩
        have hBE := hBD.trans (hbE.mono hBD.size)
        have hoA2 := ((hoA.below hbT hoA.lt).below hbD2 (Nat.lt_of_lt_of_le hoA.lt hbT.size)).below hbE (Nat.lt_of_lt_of_le hoA.lt (Nat.le_trans hbT.size hbD2.size))
        rw [HmA.out, HmE.out]
        have k5 := Lib.hid (K4.out wM _ _ gA cA gE cE hoA2 hoE)
        clear k4
        go_wp2_with fail
        refine k5.out.mono ?_
        rintro e wN ⟨gZ, cZ, rfl, hoZ, hbZ⟩
        go_wp2_with fail
        go_ret
        exact GotInts.mk' gZ cZ rfl (hoZ.mono hBE.size) (hBE.trans (hbZ.mono hBE.size))
/-- the polynomial of two words, where there is one -/
def rOk (c : List (List Int)) (u v : List Int) : Bool := isWordB c u && (isWordB c v && decide ((nfI c v).length ≤ 10))
def rP (c : List (List Int)) (u v : List Int) : List Int := if rOk c u v = true then rS c (nfI c v) (nfI c u) else []
set_option maxHeartbeats 1000000 in
theorem spec_RPolynomial_ok (gc oc n cc g1 o1 n1 c1 g2 o2 n2 c2 : Nat) (c : List (List Int)) (a b : List Int) (w : World) (hn : c.length = n) (hn1 : a.length = n1) (hn2 : b.length = n2) (hA : WordOk c a) (hB : WordOk c b) (hgc : gc < w.heap.size) (hg1 : g1 < w.heap.size) (hg2 : g2 < w.heap.size)
    (hr : Rows2 w gc oc c) (hc1 : Cells w g1 o1 a) (hc2 : Cells w g2 o2 b) :
    Calls Tryz.prog 15 #[(Value.slice (some ⟨gc, oc, none⟩) n cc), (Value.slice (some ⟨g1, o1, none⟩) n1 c1), (Value.slice (some ⟨g2, o2, none⟩) n2 c2)] w (GotIntsB w (rP c a b) (rOk c a b)) := by
  have hla := hA.few
  have hlb := hB.few
  have hn4 := hA.isC.2.1
  have hcl := hA.isC.2.2.1
  have hnA := nw_nf hA
  have hnB := nw_nf hB
  have i1 := spec_IsWord_any gc oc n cc g1 o1 n1 c1 c a w hn hn1 (by omega) (fun j hj => by have := hcl j hj; omega) (by omega) hr hc1
  have i2 := fun W (hs : ∃ q, W = w.drewN q) => spec_IsWord_any gc oc n cc g2 o2 n2 c2 c b W hn hn2 (by omega) (fun j hj => by have := hcl j hj; omega) (by omega) (hr.still hs) (hc2.still hs)
  rw [hA.isWord] at i1
  rw [hB.isWord] at i2
  have I1 := Lib.hid i1; have I2 := Lib.hid i2
  have iL : ∀ W (hb : Below w.heap.size w W), Calls Tryz.prog 10 #[(Value.slice (some ⟨gc, oc, none⟩) n cc), (Value.slice (some ⟨g2, o2, none⟩) n2 c2)] W (Gives W (.int .i64 ((nfI c b).length : Int))) := by
    intro W hb
    have hNF := spec_NormalForm_any gc oc n cc g2 o2 n2 c2 c b W hn hn2 (by omega) (fun j hj => by have := hcl j hj; omega) (by omega) (Nat.lt_of_lt_of_le hgc hb.size) (Nat.lt_of_lt_of_le hg2 hb.size) (hr.below hb hgc) (hc2.below hb hg2)
    rw [hB.isWord, show nfA c b = nfI c b from if_pos hB.isWord] at hNF
    have Hn := Lib.hid hNF
    clear hNF i1 i2 I1 I2 hr hc1 hc2
    generalize nfI c b = y at *
    go_enter Tryz.func10, Tryz.ntmps10
    go_wp2_with fail
    refine Hn.out.mono ?_
    rintro e w1 ⟨g1, c1, rfl, ho1, hb1⟩
    go_wp2_with fail
    go_ret
    exact ⟨rfl, hb1⟩
  have IL := Lib.hid iL
  have K1 := Lib.hid (fun (W : World) (hb : Below w.heap.size w W) => spec_l8Normal_any gc oc n cc g1 o1 n1 c1 c a (nfI c a) W hn hn1 hA.isC (by omega) hA.inr (nfI_ok (hA.lets.mono (show 15 ≤ 30 by omega))).norm (Nat.lt_of_lt_of_le hgc hb.size) (Nat.lt_of_lt_of_le hg1 hb.size) (hr.below hb hgc) (hc1.below hb hg1))
  have K2 := Lib.hid (fun (W : World) (hb : Below w.heap.size w W) => spec_l8Normal_any gc oc n cc g2 o2 n2 c2 c b (nfI c b) W hn hn2 hB.isC (by omega) hB.inr (nfI_ok (hB.lets.mono (show 15 ≤ 30 by omega))).norm (Nat.lt_of_lt_of_le hgc hb.size) (Nat.lt_of_lt_of_le hg2 hb.size) (hr.below hb hgc) (hc2.below hb hg2))
  have K3 := Lib.hid (fun (W : World) (gA cA gB cB B1 B2 : Nat) (hb : Below w.heap.size w W) (hoA : Own W B1 gA cA (nfI c a)) (hoB : Own W B2 gB cB (nfI c b)) => spec_l22R_any c gc oc n cc hn (nfI c b).length (nfI c a) (nfI c b) gA 0 (nfI c a).length cA gB 0 cB W rfl rfl hnA hnB.lets hoB.capLe (Nat.lt_of_lt_of_le hgc hb.size) hoA.lt hoB.lt (hr.below hb hgc) hoA.cells hoB.cells)
  have hok : rOk c a b = decide ((nfI c b).length ≤ 10) := by unfold rOk; rw [hA.isWord, hB.isWord]; rfl
  by_cases h10 : (nfI c b).length ≤ 10
  · rw [show rP c a b = rS c (nfI c b) (nfI c a) from if_pos (by rw [hok]; exact decide_eq_true h10), hok, show decide ((nfI c b).length ≤ 10) = true from decide_eq_true h10]
    have b1 : ¬ (10 : Int) < ((nfI c b).length : Int) := by omega
    generalize rS c (nfI c b) (nfI c a) = R at *
    obtain ⟨mA, hmA⟩ : ∃ m, (nfI c a).length = m := ⟨_, rfl⟩
    obtain ⟨mB, hmB⟩ : ∃ m, (nfI c b).length = m := ⟨_, rfl⟩
    rw [hmB] at IL b1
    rw [hmA, hmB] at K3
    have HmA := Lib.hid hmA; have HmB := Lib.hid hmB
    clear i1 i2 hr hc1 hc2 hA hB hnA hnB hn hn1 hn2 hla hlb hcl hn4 hmA hmB iL hok h10
    go_enter Tryz.func15, Tryz.ntmps15
    go_wp2_with fail
    refine I1.out.mono ?_
    rintro e v1 ⟨rfl, hs1⟩
    go_wp2_with fail
    refine (I2.out v1 hs1).mono ?_
    rintro e v2 ⟨rfl, hs2⟩
    have hb0 := below_still (below_still (Below.refl w.heap.size w) hs1) hs2
    go_wp2_with fail
    refine (IL.out v2 hb0).mono ?_
    rintro e v3 ⟨rfl, hb3⟩
    have hb0 := hb0.trans (hb3.mono hb0.size)
    go_wp2_with fail
    refine (K1.out v3 hb0).mono ?_
    rintro e w1 ⟨gA, cA, rfl, hoA, hb1⟩
    have hB1 := hb0.trans (hb1.mono hb0.size)
    rw [HmA.out]
    go_wp2_with fail
    refine (K2.out w1 hB1).mono ?_
    rintro e w2 ⟨gB, cB, rfl, hoB, hb2⟩
    have hB2 := hB1.trans (hb2.mono hB1.size)
    rw [HmB.out]
    go_wp2_with fail
    refine (K3.out w2 gA cA gB cB _ _ hB2 (hoA.below hb2 hoA.lt) hoB).mono ?_
    rintro e w3 ⟨gZ, cZ, rfl, hoZ, hbZ⟩
    have hB3 := hB2.trans (hbZ.mono hB2.size)
    go_wp2_with fail
    go_ret2
    exact ⟨gZ, cZ, rfl, hoZ.mono hB2.size, hB3⟩
  · rw [show rP c a b = [] from if_neg (by rw [hok]; simpa using h10), hok, show decide ((nfI c b).length ≤ 10) = false from decide_eq_false h10]
    have b1 : (10 : Int) < ((nfI c b).length : Int) := by omega
    generalize ((nfI c b).length : Int) = z at *
    clear i1 i2 hr hc1 hc2 hA hB hnA hnB hn hn1 hn2 hla hlb hcl hn4 iL hok h10 K1 K2 K3
    go_enter Tryz.func15, Tryz.ntmps15
    go_wp2_with fail
    refine I1.out.mono ?_
    rintro e v1 ⟨rfl, hs1⟩
    go_wp2_with fail
    refine (I2.out v1 hs1).mono ?_
    rintro e v2 ⟨rfl, hs2⟩
    have hb0 := below_still (below_still (Below.refl w.heap.size w) hs1) hs2
    go_wp2_with fail
    refine (IL.out v2 hb0).mono ?_
    rintro e v3 ⟨rfl, hb3⟩
    have hb0 := hb0.trans (hb3.mono hb0.size)
    go_wp2_with fail
    go_ret2
    exact ⟨_, 0, rfl, Own.empty hb0.size, hb0.alloc hb0.size _⟩
end Go.Proofs.YtdedkfbiookofaaGreatDoor
