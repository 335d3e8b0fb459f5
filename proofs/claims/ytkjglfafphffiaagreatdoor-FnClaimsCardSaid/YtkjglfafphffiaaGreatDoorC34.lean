/- BruS -/
import Derived.Test.YtkjglfafphffiaaGreatDoorC27
import Derived.Deep.RegionWith
import Derived.Deep.Cut
import Derived.Deep.CutRange
namespace Go.Proofs.YtkjglfafphffiaaGreatDoor
set_option maxRecDepth 100000
open Go.RowKit Game
theorem below_far {c : List (List Int)} {V U : List Int} (hU : Nw c U) (hV : Lets c 15 V) (h : V.length < U.length) : decide (subU c V U = []) = false := by
  apply decide_eq_false
  intro e
  have := subU_len V hV.mem hU
  rw [e] at this
  simp at this
  omega
set_option maxHeartbeats 1500000 in
theorem spec_l15Below_any (c : List (List Int)) (gc oc n cc : Nat) (hn : c.length = n) : ∀ (k : Nat) (U V : List Int) (gU oU mU cU gV oV cV : Nat) (w : World), V.length = k → U.length = mU → Nw c U → Lets c 15 V → k ≤ cV → gc < w.heap.size → gU < w.heap.size → gV < w.heap.size → Rows2 w gc oc c → Cells w gU oU U → Cells w gV oV V →
    Calls Tryz.prog 59 #[(Value.slice (some ⟨gc, oc, none⟩) n cc), (Value.slice (some ⟨gU, oU, none⟩) mU cU), (Value.slice (some ⟨gV, oV, none⟩) k cV)] w (Gives w (.bool (decide (subU c V U = []))))
  | 0, U, V, gU, oU, mU, cU, gV, oV, cV, w, hVk, hmU, hU, hV, hcap, hgc, hgU, hgV, hr, hu, hv => by
    obtain rfl : V = [] := List.length_eq_zero_iff.1 hVk
    have hd : ((mU : Int) == 0) = decide (subU c [] U = []) := by
      rw [Bool.eq_iff_iff, beq_iff_eq, decide_eq_true_eq]
      show _ ↔ U = []
      rw [← List.length_eq_zero_iff, hmU]; omega
    generalize decide (subU c [] U = []) = r at *
    have Hd := Lib.hid hd
    clear hd hr hu hv hU hV hVk hmU
    go_enter Tryz.func59, Tryz.ntmps59
    go_wp2_with fail
    go_ret
    exact ⟨ret_bool Hd.out, Below.refl _ _⟩
  | k + 1, U, V, gU, oU, mU, cU, gV, oV, cV, w, hVk, hmU, hU, hV, hcap, hgc, hgU, hgV, hr, hu, hv => by
    by_cases hfar : k + 1 < mU
    · have hd := below_far hU hV (by omega)
      rw [hd]
      have hb : ((mU : Int) == 0) = false := by rw [beq_eq_false_iff_ne]; omega
      have hI : ((k : Int) + 1) < (mU : Int) := by omega
      clear hd hr hu hv hU hV hVk hmU
      go_enter Tryz.func59, Tryz.ntmps59
      go_wp2_with fail
      go_ret
      exact ⟨ret_bool (by first | rfl | exact hb), Below.refl _ _⟩
    cases V with
    | nil => simp at hVk
    | cons s V =>
    have hsi := hV.mem s (by simp)
    obtain ⟨sn, rfl⟩ : ∃ t : Nat, s = t := ⟨s.toNat, by omega⟩
    have hsn : sn < c.length := by omega
    have hVk' : V.length = k := by simpa using hVk
    have hV' : Lets c 15 V := lets_of hV.isC (by have := hV.few; rw [List.length_cons] at this; omega) fun x hx => hV.mem x (by simp [hx])
    have hC := hV.isC
    have hu15 := hU.lets.few
    have hv15 := hV'.few
    have q1 : w.cell? ⟨gV, oV, none⟩ = some (.int .i64 sn) := hv 0 (by simp)
    have hvT : Cells w gV (oV + 1) V := fun j hj => by
      have := hv (j + 1) (by simpa using hj)
      rw [show oV + 1 + j = oV + (j + 1) by omega, this]; simp [List.getD]
    have hS := hU.sub (i := (sn : Int)) (by omega) (by omega)
    have kI := Lib.hid (spec_l8Image_any gc oc n cc gU oU mU cU c U w hn hmU hC (by omega) hU.lets.inr hgc hgU hr hu)
    have hIl := Lib.hid (imI_length c U)
    have qI := Lib.hid (fun (W : World) (B2 g2 c2 : Nat) (ho : Own W B2 g2 c2 (imI c U)) => ho.cell sn (by rw [imI_length]; exact hsn))
    have hans : subU c ((sn : Int) :: V) U = subU c V (subN c U (sn : Int)) := rfl
    rw [hans]
    have hyes := Lib.hid (fun h => subN_neg (c := c) (U := U) (i := sn) h)
    have hno := Lib.hid (fun h => subN_pos (c := c) (U := U) (i := sn) h)
    have kC := Lib.hid (fun (W : World) (hb : Below w.heap.size w W) =>
      show Calls Tryz.prog 115 #[(Value.slice (some ⟨W.heap.size, 0, none⟩) 1 1), (Value.slice (some ⟨gU, oU, none⟩) mU cU)] (W.alloc (.cells #[.int .i64 sn] 3)) (GotInts (W.alloc (.cells #[.int .i64 sn] 3)) ((sn : Int) :: U)) from
        spec_ConcatWords_any W.heap.size 0 1 1 gU oU mU cU [(sn : Int)] U _ rfl hmU (by simp) (by omega) (by simp) (by have := hb.size; simp; omega) (Own.new (B := W.heap.size) (sn : Int) (Nat.le_refl _)).cells ((hu.below hb hgU).below ((Below.refl W.heap.size W).alloc (Nat.le_refl _) _) (Nat.lt_of_lt_of_le hgU hb.size)))
    have hUc := Lib.hid (hU.cons hsn)
    have kN := Lib.hid (fun (W : World) (B2 g2 c2 m2 : Nat) (hm2 : ((sn : Int) :: U).length = m2) (hb : Below w.heap.size w W) (ho : Own W B2 g2 c2 ((sn : Int) :: U)) => spec_l8Normal_any gc oc n cc g2 0 m2 c2 c ((sn : Int) :: U) (nfI c ((sn : Int) :: U)) W hn hm2 hC (by rw [List.length_cons]; omega) (hUc.out.mono (show 16 ≤ 16 by omega)).inr (nfI_ok (hUc.out.mono (by omega))).norm (Nat.lt_of_lt_of_le hgc hb.size) ho.lt (hr.below hb hgc) ho.cells)
    have hlU : Hid (((sn : Int) :: U).length = mU + 1) := Lib.hid (by rw [List.length_cons, hmU])
    have qv := Lib.hid (fun (W : World) (hb : Below w.heap.size w W) => (hb.cell (p := ⟨gV, oV, none⟩) hgV).trans q1)
    have IH := Lib.hid (fun (X : List Int) (hX : Nw c X) (gX oX mX cX oV2 cV2 : Nat) (W : World) (hmX : X.length = mX) (hcap2 : k ≤ cV2) (hb : Below w.heap.size w W) (hgX : gX < W.heap.size) (hx : Cells W gX oX X) (hv2 : Cells W gV oV2 V) => spec_l15Below_any c gc oc n cc hn k X V gX oX mX cX gV oV2 cV2 W hVk' hmX hX hV' hcap2 (Nat.lt_of_lt_of_le hgc hb.size) hgX (Nat.lt_of_lt_of_le hgV hb.size) (hr.below hb hgc) hx hv2)
    have HvT := Lib.hid (fun (W : World) (hb : Below w.heap.size w W) => hvT.below hb hgV)
    have Hu := Lib.hid (fun (W : World) (hb : Below w.heap.size w W) => hu.below hb hgU)
    have HU := Lib.hid hU; have HS := Lib.hid hS; have HmU := Lib.hid hmU
    have H0 : Hid (cV = 1 → Cells w gV oV V) := Lib.hid (fun h => by
      have : V = [] := List.length_eq_zero_iff.1 (by omega)
      subst this; intro j hj; simp at hj)
    have H0' := Lib.hid (fun (h : cV = 1) (W : World) (hb : Below w.heap.size w W) => (H0.out h).below hb hgV)
    have b1 : (0 : Int) ≤ (sn : Int) := by omega
    have b2 : (sn : Int) < (c.length : Int) := by omega
    have b3 : (mU : Int) ≤ (k : Int) + 1 := by omega
    have bz : (((k : Int) + 1) == 0) = false := by rw [beq_eq_false_iff_ne]; omega
    have hbD : Below w.heap.size w w.drew := Below.drew (Below.refl _ _)
    have q1d : w.drew.cell? ⟨gV, oV, none⟩ = some (.int .i64 sn) := q1
    have kId := Lib.hid (show Calls Tryz.prog 58 #[(Value.slice (some ⟨gc, oc, none⟩) n cc), (Value.slice (some ⟨gU, oU, none⟩) mU cU)] w.drew (GotInts w.drew (actW c U (onesL c.length))) from spec_l8Image_any gc oc n cc gU oU mU cU c U w.drew hn hmU hC (by omega) hU.lets.inr hgc hgU (hr.drewN 1) hu)
    clear hV hV' hVk hVk' hsi hr hu hv hvT hU hS hans hmU hC hfar kI H0
    by_cases hz : (imI c U).getD sn 0 < 0
    · have hi := hyes.out hz
      rw [hi]
      rw [hi] at HS
      generalize (imI c U).getD sn 0 = z at *
      have d1 : decide (z < 0) = true := decide_eq_true (by omega)
      clear hi hyes hno hz
      go_enter Tryz.func59, Tryz.ntmps59
      go_wp2_with fail
      go_cut [28] from 7 (fun bv wx => bv = .bool true ∧ Below w.heap.size w wx)
      case first =>
        go_region_with (first
          | (go_at_call 58; refine kId.out.mono ?_; rintro e wA ⟨gA, cA, rfl, hoA, hbA⟩; rw [show (actW c U (onesL c.length)).length = c.length from hIl.out]; have hcA := qI.out _ _ _ _ hoA; have p1A := keepCell hbA q1d))
        all_goals (try go_wp2_with fail)
        all_goals go_meet
        all_goals exact ⟨rfl, hbD.trans (hbA.mono hbD.size)⟩
      case rest =>
        obtain ⟨rfl, hb⟩ := hcut
        clear kId hbD q1d q1
        by_cases hcap1 : cV = 1
        · obtain rfl : k = 0 := by omega
          have HvV := Lib.hid (fun W hW => H0'.out hcap1 W hW)
          subst hcap1
          have hcC := Lib.hid (kC.out wc hb)
          have p1 := qv.out wc hb
          go_wp2_with fail
          refine hcC.out.mono ?_
          rintro e wD ⟨gD, cD, rfl, hoD, hbD2⟩
          have hbE := hb.alloc hb.size (.cells #[.int .i64 sn] 3)
          have hbF := hbE.trans (hbD2.mono hbE.size)
          rw [hlU.out]
          have hN := Lib.hid (kN.out wD _ gD cD (mU + 1) hlU.out hbF hoD)
          clear hbE hbD2 hb hcC hoD p1
          go_wp2_with fail
          refine hN.out.mono ?_
          rintro e wG ⟨gG, cG, rfl, hoG, hbG⟩
          have hB := hbF.trans (hbG.mono hbF.size)
          obtain ⟨mG, hmG⟩ : ∃ mG, (nfI c ((sn : Int) :: U)).length = mG := ⟨_, rfl⟩
          rw [hmG]
          have HmG := Lib.hid hmG
          clear hbF hbG hN hmG
          have hIH := Lib.hid (IH.out _ HS.out gG 0 mG cG oV 0 wG HmG.out (by omega) hB hoG.lt hoG.cells (HvV.out _ hB))
          go_wp2_with fail
          refine hIH.out.mono ?_
          rintro e wZ ⟨rfl, hbZ⟩
          go_wp2_with fail
          go_ret
          exact ⟨rfl, hB.trans (hbZ.mono hB.size)⟩
        · have hcap3 : ¬ cV = 1 := hcap1
          have hcC := Lib.hid (kC.out wc hb)
          have p1 := qv.out wc hb
          go_wp2_with fail
          refine hcC.out.mono ?_
          rintro e wD ⟨gD, cD, rfl, hoD, hbD2⟩
          have hbE := hb.alloc hb.size (.cells #[.int .i64 sn] 3)
          have hbF := hbE.trans (hbD2.mono hbE.size)
          rw [hlU.out]
          have hN := Lib.hid (kN.out wD _ gD cD (mU + 1) hlU.out hbF hoD)
          clear hbE hbD2 hb hcC hoD p1
          go_wp2_with fail
          refine hN.out.mono ?_
          rintro e wG ⟨gG, cG, rfl, hoG, hbG⟩
          have hB := hbF.trans (hbG.mono hbF.size)
          obtain ⟨mG, hmG⟩ : ∃ mG, (nfI c ((sn : Int) :: U)).length = mG := ⟨_, rfl⟩
          rw [hmG]
          have HmG := Lib.hid hmG
          clear hbF hbG hN hmG
          have hIH := Lib.hid (IH.out _ HS.out gG 0 mG cG (oV + 1) (cV - 1) wG HmG.out (by omega) hB hoG.lt hoG.cells (HvT.out _ hB))
          go_wp2_with fail
          refine hIH.out.mono ?_
          rintro e wZ ⟨rfl, hbZ⟩
          go_wp2_with fail
          go_ret
          exact ⟨rfl, hB.trans (hbZ.mono hB.size)⟩
    · have hi := hno.out hz
      rw [hi]
      generalize (imI c U).getD sn 0 = z at *
      have d1 : decide (z < 0) = false := decide_eq_false (by omega)
      clear hi hyes hno hz
      go_enter Tryz.func59, Tryz.ntmps59
      go_wp2_with fail
      go_cut [28] from 7 (fun bv wx => bv = .bool false ∧ Below w.heap.size w wx)
      case first =>
        go_region_with (first
          | (go_at_call 58; refine kId.out.mono ?_; rintro e wA ⟨gA, cA, rfl, hoA, hbA⟩; rw [show (actW c U (onesL c.length)).length = c.length from hIl.out]; have hcA := qI.out _ _ _ _ hoA; have p1A := keepCell hbA q1d))
        all_goals (try go_wp2_with fail)
        all_goals go_meet
        all_goals exact ⟨rfl, hbD.trans (hbA.mono hbD.size)⟩
      case rest =>
        obtain ⟨rfl, hb⟩ := hcut
        clear kId hbD q1d q1
        by_cases hcap1 : cV = 1
        · obtain rfl : k = 0 := by omega
          have HvV := Lib.hid (fun W hW => H0'.out hcap1 W hW)
          subst hcap1
          have hB := hb
          have hIH := Lib.hid (IH.out _ HU.out gU oU mU cU oV 0 wc HmU.out (by omega) hB (Nat.lt_of_lt_of_le hgU hB.size) (Hu.out _ hB) (HvV.out _ hB))
          go_wp2_with fail
          refine hIH.out.mono ?_
          rintro e wZ ⟨rfl, hbZ⟩
          go_wp2_with fail
          go_ret
          exact ⟨rfl, hB.trans (hbZ.mono hB.size)⟩
        · have hcap3 : ¬ cV = 1 := hcap1
          have hB := hb
          have hIH := Lib.hid (IH.out _ HU.out gU oU mU cU (oV + 1) (cV - 1) wc HmU.out (by omega) hB (Nat.lt_of_lt_of_le hgU hB.size) (Hu.out _ hB) (HvT.out _ hB))
          go_wp2_with fail
          refine hIH.out.mono ?_
          rintro e wZ ⟨rfl, hbZ⟩
          go_wp2_with fail
          go_ret
          exact ⟨rfl, hB.trans (hbZ.mono hB.size)⟩
set_option maxHeartbeats 2000000 in
theorem spec_IsBruhatBelow_ok (gc oc n cc g1 o1 n1 c1 g2 o2 n2 c2 : Nat) (c : List (List Int)) (a b : List Int) (w : World) (hn : c.length = n) (hn1 : a.length = n1) (hn2 : b.length = n2) (hA : WordOk c a) (hB : WordOk c b) (hgc : gc < w.heap.size) (hg1 : g1 < w.heap.size) (hg2 : g2 < w.heap.size)
    (hr : Rows2 w gc oc c) (h1 : Cells w g1 o1 a) (h2 : Cells w g2 o2 b) :
    Calls Tryz.prog 14 #[(Value.slice (some ⟨gc, oc, none⟩) n cc), (Value.slice (some ⟨g1, o1, none⟩) n1 c1), (Value.slice (some ⟨g2, o2, none⟩) n2 c2)] w (Gives w (.bool (bruB c a b))) := by
  have hla := hA.few
  have hlb := hB.few
  have hn4 := hA.isC.2.1
  have hcl := hA.isC.2.2.1
  have hnA := nw_nf hA
  have hnB := nw_nf hB
  have i1 := spec_IsWord_any gc oc n cc g1 o1 n1 c1 c a w hn hn1 (by omega) (fun j hj => by have := hcl j hj; omega) (by omega) hr h1
  have i2 := fun W (hs : ∃ q, W = w.drewN q) => spec_IsWord_any gc oc n cc g2 o2 n2 c2 c b W hn hn2 (by omega) (fun j hj => by have := hcl j hj; omega) (by omega) (hr.still hs) (h2.still hs)
  rw [hA.isWord] at i1
  rw [hB.isWord] at i2
  have I1 := Lib.hid i1; have I2 := Lib.hid i2
  have K1 := Lib.hid (fun (W : World) (hb : Below w.heap.size w W) => spec_l8Normal_any gc oc n cc g1 o1 n1 c1 c a (nfI c a) W hn hn1 hA.isC (by omega) hA.inr (nfI_ok (hA.lets.mono (show 15 ≤ 30 by omega))).norm (Nat.lt_of_lt_of_le hgc hb.size) (Nat.lt_of_lt_of_le hg1 hb.size) (hr.below hb hgc) (h1.below hb hg1))
  have K2 := Lib.hid (fun (W : World) (hb : Below w.heap.size w W) => spec_l8Normal_any gc oc n cc g2 o2 n2 c2 c b (nfI c b) W hn hn2 hB.isC (by omega) hB.inr (nfI_ok (hB.lets.mono (show 15 ≤ 30 by omega))).norm (Nat.lt_of_lt_of_le hgc hb.size) (Nat.lt_of_lt_of_le hg2 hb.size) (hr.below hb hgc) (h2.below hb hg2))
  have K3 := Lib.hid (fun (W : World) (gA cA gB cB B1 B2 : Nat) (hb : Below w.heap.size w W) (hoA : Own W B1 gA cA (nfI c a)) (hoB : Own W B2 gB cB (nfI c b)) => spec_l15Below_any c gc oc n cc hn (nfI c b).length (nfI c a) (nfI c b) gA 0 (nfI c a).length cA gB 0 cB W rfl rfl hnA hnB.lets hoB.capLe (Nat.lt_of_lt_of_le hgc hb.size) hoA.lt hoB.lt (hr.below hb hgc) hoA.cells hoB.cells)
  rw [show bruB c a b = decide (subU c (nfI c b) (nfI c a) = []) from rfl]
  generalize decide (subU c (nfI c b) (nfI c a) = []) = r at *
  obtain ⟨mA, hmA⟩ : ∃ m, (nfI c a).length = m := ⟨_, rfl⟩
  obtain ⟨mB, hmB⟩ : ∃ m, (nfI c b).length = m := ⟨_, rfl⟩
  rw [hmA, hmB] at K3
  have HmA := Lib.hid hmA; have HmB := Lib.hid hmB
  clear i1 i2 hr h1 h2 hA hB hnA hnB hn hn1 hn2 hla hlb hcl hn4 hmA hmB
  go_enter Tryz.func14, Tryz.ntmps14
  go_wp2_with fail
  refine I1.out.mono ?_
  rintro e v1 ⟨rfl, hs1⟩
  go_wp2_with fail
  refine (I2.out v1 hs1).mono ?_
  rintro e v2 ⟨rfl, hs2⟩
  have hb0 := below_still (below_still (Below.refl w.heap.size w) hs1) hs2
  go_wp2_with fail
  refine (K1.out v2 hb0).mono ?_
  rintro e w1 ⟨gA, cA, rfl, hoA, hb1⟩
  have hB1 := hb0.trans (hb1.mono hb0.size)
  rw [HmA.out]
  go_wp2_with fail
  refine (K2.out w1 hB1).mono ?_
  rintro e w2 ⟨gB, cB, rfl, hoB, hb2⟩
  have hB2 := hB1.trans (hb2.mono hB1.size)
  rw [HmB.out]
  go_wp2_with fail
  refine (K3.out w2 gA cA gB cB _ _ hB2 (hoA.below hb2 hoA.lt) hoB).mono ?_
  rintro e w3 ⟨rfl, hb3⟩
  have hB3 := hB2.trans (hb3.mono hB2.size)
  go_wp2_with fail
  go_ret
  exact ⟨rfl, hB3⟩
set_option maxHeartbeats 1500000 in
theorem spec_SubwordOf_ok (gc oc n cc g1 o1 n1 c1 g2 o2 n2 c2 : Nat) (c : List (List Int)) (a b : List Int) (w : World) (hn : c.length = n) (hn1 : a.length = n1) (hn2 : b.length = n2) (hA : WordOk c a) (hB : WordOk c b) (hgc : gc < w.heap.size) (hg1 : g1 < w.heap.size) (hg2 : g2 < w.heap.size)
    (hr : Rows2 w gc oc c) (h1 : Cells w g1 o1 a) (h2 : Cells w g2 o2 b) :
    Calls Tryz.prog 101 #[(Value.slice (some ⟨gc, oc, none⟩) n cc), (Value.slice (some ⟨g1, o1, none⟩) n1 c1), (Value.slice (some ⟨g2, o2, none⟩) n2 c2)] w (GotIntsB w (if bruB c a b = true then subL c a b else []) (bruB c a b)) := by
  have hla := hA.few
  have hlb := hB.few
  have hC := hA.isC
  have hnA := nw_nf hA
  have hnB := nw_nf hB
  have I0 := Lib.hid (spec_IsBruhatBelow_ok gc oc n cc g1 o1 n1 c1 g2 o2 n2 c2 c a b w hn hn1 hn2 hA hB hgc hg1 hg2 hr h1 h2)
  have hst : ∀ r : Bool, (if r = true then subL c a b else []) = (match r with | true => subL c a b | false => []) := fun r => by cases r <;> rfl
  rw [hst]
  clear hst
  cases hbr : bruB c a b with
  | false =>
    rw [hbr] at I0
    clear hr h1 h2 hA hB hnA hnB hn hn1 hn2
    go_enter Tryz.func101, Tryz.ntmps101
    go_wp2_with fail
    refine I0.out.mono ?_
    rintro e v1 ⟨rfl, hb1⟩
    go_wp2_with fail
    go_ret2
    exact ⟨_, 0, rfl, Own.empty hb1.size, hb1.alloc hb1.size _⟩
  | true =>
    rw [hbr] at I0
    show Calls _ _ _ _ (GotIntsB w (subL c a b) true)
    have K1 := Lib.hid (fun (W : World) (hb : Below w.heap.size w W) => spec_l8Normal_any gc oc n cc g1 o1 n1 c1 c a (nfI c a) W hn hn1 hA.isC (by omega) hA.inr (nfI_ok (hA.lets.mono (show 15 ≤ 30 by omega))).norm (Nat.lt_of_lt_of_le hgc hb.size) (Nat.lt_of_lt_of_le hg1 hb.size) (hr.below hb hgc) (h1.below hb hg1))
    have K2 := Lib.hid (fun (W : World) (hb : Below w.heap.size w W) => spec_l8Normal_any gc oc n cc g2 o2 n2 c2 c b (nfI c b) W hn hn2 hB.isC (by omega) hB.inr (nfI_ok (hB.lets.mono (show 15 ≤ 30 by omega))).norm (Nat.lt_of_lt_of_le hgc hb.size) (Nat.lt_of_lt_of_le hg2 hb.size) (hr.below hb hgc) (h2.below hb hg2))
    have kI := Lib.hid (fun (X : List Int) (hX : Nw c X) (W : World) (g2 c2 m2 : Nat) (hm2 : X.length = m2) (hb : Below w.heap.size w W) (ho : Own W w.heap.size g2 c2 X) => spec_l8Image_any gc oc n cc g2 0 m2 c2 c X W hn hm2 hC (by have := hX.lets.few; omega) hX.lets.inr (Nat.lt_of_lt_of_le hgc hb.size) ho.lt (hr.below hb hgc) ho.cells)
    have kC := Lib.hid (fun (X : List Int) (hX : Nw c X) (i : Int) (W : World) (g2 c2 m2 : Nat) (hm2 : X.length = m2) (ho : Own W w.heap.size g2 c2 X) =>
      show Calls Tryz.prog 115 #[(Value.slice (some ⟨W.heap.size, 0, none⟩) 1 1), (Value.slice (some ⟨g2, 0, none⟩) m2 c2)] (W.alloc (.cells #[.int .i64 i] 3)) (GotInts (W.alloc (.cells #[.int .i64 i] 3)) (i :: X)) from
        spec_ConcatWords_any W.heap.size 0 1 1 g2 0 m2 c2 [i] X _ rfl hm2 (by simp) (by have := hX.lets.few; omega) (by simp) (by have := ho.lt; simp; omega) (Own.new (B := W.heap.size) i (Nat.le_refl _)).cells (ho.alloc _).cells)
    have kN := Lib.hid (fun (Y : List Int) (hL : Lets c 16 Y) (W : World) (B2 g2 c2 m2 : Nat) (hm2 : Y.length = m2) (hb : Below w.heap.size w W) (ho : Own W B2 g2 c2 Y) => spec_l8Normal_any gc oc n cc g2 0 m2 c2 c Y (nfI c Y) W hn hm2 hC (by have := hL.few; omega) hL.inr (nfI_ok (hL.mono (by omega))).norm (Nat.lt_of_lt_of_le hgc hb.size) ho.lt (hr.below hb hgc) ho.cells)
    have hP : [] ++ subP c ((nfI c b).drop 0) 0 (nfI c a) = subL c a b := rfl
    have hy15 := hnB.lets.few
    have hiy := Lib.hid hnB.lets.inr
    have HU := Lib.hid hnA
    generalize subL c a b = P at *
    generalize nfI c a = U0 at *
    generalize nfI c b = y at *
    have HP := Lib.hid hP
    obtain ⟨m0, hm0⟩ : ∃ m, U0.length = m := ⟨_, rfl⟩
    have Hm0 := Lib.hid hm0
    clear hP hr h1 h2 hA hB hnA hnB hn hn1 hn2 hla hlb hbr hm0 hC
    go_enter Tryz.func101, Tryz.ntmps101
    go_wp2_with fail
    refine I0.out.mono ?_
    rintro e v1 ⟨rfl, hb0⟩
    go_wp2_with fail
    refine (K1.out v1 hb0).mono ?_
    rintro e w1 ⟨gA, cA, rfl, hoA, hb1⟩
    have hB1 := hb0.trans (hb1.mono hb0.size)
    rw [Hm0.out]
    go_wp2_with fail
    refine (K2.out w1 hB1).mono ?_
    rintro e w2 ⟨gB, cB, rfl, hoB, hb2⟩
    have hB2 := hB1.trans (hb2.mono hB1.size)
    have hoA2 := ((hoA.mono hb0.size).below hb2 hoA.lt).alloc (.cells #[] 3)
    have hoB2 := (hoB.mono hB1.size).alloc (.cells #[] 3)
    have hX := (Below.refl w2.heap.size w2).alloc (Nat.le_refl _) (.cells #[] 3)
    have hB3 := hB2.trans (hX.mono hB2.size)
    have hoO : Own (w2.alloc (.cells #[] 3)) w.heap.size w2.heap.size 0 [] := Own.empty hB2.size
    have hnB1 : gB ≠ w2.heap.size := by have := hoB.lt; omega
    have hnA1 : gA ≠ w2.heap.size := by have h1 := hoA.lt; have h2 := hb2.size; omega
    clear hoA hoB hb0 hb1 hb2 hB1 hB2 hX K1 K2 I0
    go_wp2_with fail
    go_loopw [8, 10, 11] (fun xv ov kv wr => ∃ (k m g3 c3 gU cU mU : Nat) (U xs : List Int), k ≤ y.length ∧ kv = .int .i64 k ∧ ov = (Value.slice (some ⟨g3, 0, none⟩) m c3) ∧ xv = (Value.slice (some ⟨gU, 0, none⟩) mU cU) ∧ m ≤ k ∧ Hid (xs.length = m) ∧ Hid (U.length = mU) ∧ Hid (Nw c U) ∧ Hid (xs ++ subP c (y.drop k) k U = P) ∧ gB ≠ g3 ∧ gU ≠ g3 ∧ Own wr w.heap.size gB cB y ∧ Own wr w.heap.size gU cU U ∧ Own wr w.heap.size g3 c3 xs ∧ Below w.heap.size w wr) (fun _ _ kv _ => y.length - (intOf kv).toNat)
    case atStart => exact ⟨0, 0, _, 0, gA, cA, m0, U0, [], Nat.zero_le _, rfl, rfl, rfl, Nat.le_refl _, rfl, Hm0.out, HU.out, HP.out, hnB1, hnA1, hoB2, hoA2, hoO, hB3⟩
    case round =>
      clear hoA2 hoB2 hoO hB3 hnB1 HU HP Hm0
      obtain ⟨k, m, g3, c3, gU, cU, mU, U, xs, hk, rfl, rfl, rfl, hmk, hml, hmU, hU, hgp, hnB, hnU, hoB, hoU, hoO, hb⟩ := hrel
      by_cases hlt : k < y.length
      · have q1 : wr.cell? ⟨gB, k, none⟩ = some (.int .i64 (y.getD k 0)) := hoB.cell k hlt
        have HQ := Lib.hid (fun (W : World) (ho : Own W w.heap.size gB cB y) => ho.cell k hlt)
        have hin := hiy.out k hlt
        have hgq := hgp.out
        rw [subP_drop hlt] at hgq
        have HoB := Lib.hid hoB
        generalize y.getD k 0 = p at *
        obtain ⟨sn, rfl⟩ : ∃ t : Nat, p = t := ⟨p.toNat, by omega⟩
        rw [Int.toNat_natCast] at hgq
        have hsn : sn < c.length := by omega
        have hS := Lib.hid (hU.out.sub (i := (sn : Int)) (by omega) (by omega))
        have kU := Lib.hid (fun (W : World) (hb2 : Below w.heap.size w W) (ho : Own W w.heap.size gU cU U) => kI.out U hU.out W gU cU mU hmU.out hb2 ho)
        have hUl := Lib.hid (imI_length c U)
        have qU := Lib.hid (fun (W : World) (B2 g2 c2 : Nat) (ho : Own W B2 g2 c2 (imI c U)) => ho.cell sn (by rw [imI_length]; exact hsn))
        have hUc := Lib.hid (fun (W : World) (ho : Own W w.heap.size gU cU U) => kC.out U hU.out (sn : Int) W gU cU mU hmU.out ho)
        have hUi := Lib.hid (hU.out.cons hsn)
        have hyes := fun h => subN_neg (c := c) (U := U) (i := sn) h
        have hno := fun h => subN_pos (c := c) (U := U) (i := sn) h
        have b1 : (0 : Int) ≤ (sn : Int) := by omega
        have b2 : (sn : Int) < (c.length : Int) := by omega
        have bA : (0 : Int) ≤ (k : Int) := by omega
        have bB : (k : Int) < (y.length : Int) := by omega
        have hbD := Lib.hid (show Below w.heap.size w wr.drew from Below.drew hb)
        have hoBD := Lib.hid (show Own wr.drew w.heap.size gB cB y from HoB.out)
        have hoUD := Lib.hid (show Own wr.drew w.heap.size gU cU U from hoU)
        have hoOD := Lib.hid (show Own wr.drew w.heap.size g3 c3 xs from hoO)
        have q1d : wr.drew.cell? ⟨gB, k, none⟩ = some (.int .i64 sn) := q1
        by_cases hz : (imI c U).getD sn 0 < 0
        · rw [if_pos hz, hyes hz] at hgq
          rw [hyes hz] at hS
          have Hgq := Lib.hid hgq
          generalize (imI c U).getD sn 0 = z at *
          have d1 : decide (z < 0) = true := decide_eq_true hz
          clear hgq hyes hno hgp hin hz hoB hoU hoO hb
          go_wp2_with fail
          go_cut [40] from 25 to 53 (fun bv wx => bv = .bool true ∧ Own wx w.heap.size gB cB y ∧ Own wx w.heap.size gU cU U ∧ Own wx w.heap.size g3 c3 xs ∧ Below w.heap.size w wx)
          case first =>
            go_region_with (first
              | (go_at_call 58; refine (kU.out _ hbD.out hoUD.out).mono ?_; rintro e wA ⟨gX, cX, rfl, hoX, hbA⟩; rw [show (actW c U (onesL c.length)).length = c.length from hUl.out]; have hcA := qU.out _ _ _ _ hoX; have p1A := keepCell hbA q1d))
            all_goals (try go_wp2_with fail)
            all_goals go_meet
            all_goals exact ⟨rfl, hoBD.out.below hbA hoBD.out.lt, hoUD.out.below hbA hoUD.out.lt, hoOD.out.below hbA hoOD.out.lt, hbD.out.trans (hbA.mono hbD.out.size)⟩
          case rest =>
            obtain ⟨rfl, hoB, hoU, hoO, hb⟩ := hcut
            clear hbD hoBD hoUD hoOD q1d q1
            have p1 := HQ.out _ hoB
            have hcU := Lib.hid (hUc.out wc hoU)
            have hlU : Hid ((((sn : Nat) : Int) :: U).length = mU + 1) := Lib.hid (by rw [List.length_cons, hmU.out])
            go_wp2_with fail
            refine hcU.out.mono ?_
            rintro e wD ⟨gD, cD, rfl, hoD, hbDD⟩
            have hbE := hb.alloc hb.size (.cells #[.int .i64 sn] 3)
            have hbF := hbE.trans (hbDD.mono hbE.size)
            have hoB2 := (hoB.alloc (.cells #[.int .i64 sn] 3)).below hbDD (hoB.alloc (.cells #[.int .i64 sn] 3)).lt
            have hoO2 := (hoO.alloc (.cells #[.int .i64 sn] 3)).below hbDD (hoO.alloc (.cells #[.int .i64 sn] 3)).lt
            rw [hlU.out]
            have hN := Lib.hid (kN.out _ hUi.out wD _ gD cD (mU + 1) hlU.out hbF hoD)
            clear hbE hbDD hoB hoU hoO hb hcU p1
            go_wp2_with fail
            refine hN.out.mono ?_
            rintro e wG ⟨gG, cG, rfl, hoG, hbG⟩
            have hb := hbF.trans (hbG.mono hbF.size)
            have hoB := hoB2.below hbG hoB2.lt
            have hoO := hoO2.below hbG hoO2.lt
            have hoU := hoG.mono hbF.size
            have hnG : gG ≠ g3 := by have h1 := hoG.base; have h2 := hoO2.lt; omega
            clear hbF hbG hoB2 hoO2 hoG hoD hN
            generalize hU2 : nfI c (((sn : Nat) : Int) :: U) = U2 at *
            have HU2 := Lib.hid hU2; clear hU2
            generalize hmU2 : U2.length = mU2 at *
            have HmU2 := Lib.hid hmU2; clear hmU2
            go_wp2_with (at_builtin; refine wpList_append_int_n (w := wG) rfl _ _ rfl w.heap.size g3 c3 m xs (k : Int) hml.out hoO rfl rfl (by omega) ?_)
            intro g8 c8 w8 hoO8 hg8 hor8
            have hb8 : Below w.heap.size w w8 := hb.grown hg8 hb.size (by intro t ht; cases ht; exact hoO.base)
            have hoB8 := hoB.grown hg8 (by intro e; cases e; exact hnB rfl)
            have hoU8 := hoU.grown hg8 (by intro e; cases e; exact hnG rfl)
            have hB8 : gB ≠ g8 := fun e => by
              rcases hor8 with h | h
              · exact hnB (e.trans h)
              · have := hoB.lt; omega
            have hU8 : gG ≠ g8 := fun e => by
              rcases hor8 with h | h
              · exact hnG (e.trans h)
              · have := hoU.lt; omega
            have hl8 : Hid ((xs ++ [(k : Int)]).length = m + 1) := Lib.hid (by rw [List.length_append, hml.out]; rfl)
            have hp8 : Hid (xs ++ [(k : Int)] ++ subP c (y.drop (k + 1)) (k + 1) U2 = P) := Lib.hid (by rw [List.append_assoc]; exact Hgq.out)
            clear hb hoB hoU hoO hg8 hor8 hml
            go_wp2_with fail
            go_roundw
            case rel => exact ⟨k + 1, m + 1, g8, c8, gG, cG, mU2, U2, _, by omega, by go_num, rfl, rfl, by omega, hl8.out, HmU2.out, hS.out, hp8.out, hB8, hU8, hoB8, hoU8, hoO8, hb8⟩
            case measure => simp [intOf]; omega
        · rw [if_neg hz, hno hz] at hgq
          have Hgq := Lib.hid hgq
          generalize (imI c U).getD sn 0 = z at *
          have d1 : decide (z < 0) = false := decide_eq_false hz
          clear hgq hyes hno hgp hin hz hoB hoU hoO hb
          go_wp2_with fail
          go_cut [40] from 25 to 53 (fun bv wx => bv = .bool false ∧ Own wx w.heap.size gB cB y ∧ Own wx w.heap.size gU cU U ∧ Own wx w.heap.size g3 c3 xs ∧ Below w.heap.size w wx)
          case first =>
            go_region_with (first
              | (go_at_call 58; refine (kU.out _ hbD.out hoUD.out).mono ?_; rintro e wA ⟨gX, cX, rfl, hoX, hbA⟩; rw [show (actW c U (onesL c.length)).length = c.length from hUl.out]; have hcA := qU.out _ _ _ _ hoX; have p1A := keepCell hbA q1d))
            all_goals (try go_wp2_with fail)
            all_goals go_meet
            all_goals exact ⟨rfl, hoBD.out.below hbA hoBD.out.lt, hoUD.out.below hbA hoUD.out.lt, hoOD.out.below hbA hoOD.out.lt, hbD.out.trans (hbA.mono hbD.out.size)⟩
          case rest =>
            obtain ⟨rfl, hoB, hoU, hoO, hb⟩ := hcut
            clear hbD hoBD hoUD hoOD q1d q1
            go_wp2_with fail
            go_roundw
            case rel => exact ⟨k + 1, m, g3, c3, gU, cU, mU, U, xs, by omega, by go_num, rfl, rfl, by omega, hml.out, hmU.out, hU.out, Hgq.out, hnB, hnU, hoB, hoU, hoO, hb⟩
            case measure => simp [intOf]; omega
      · obtain rfl : k = y.length := by omega
        have h2 : xs = P := by have h := hgp.out; rw [List.drop_length] at h; rw [← h]; simp [subP]
        have H2 := Lib.hid h2
        clear h2 hgp
        go_wp2_with fail
        go_ret2
        rw [← H2.out]
        exact GotIntsB.mk' g3 c3 hml.out hoO hb
set_option maxHeartbeats 1500000 in
theorem spec_l34Drops_ok (gc oc n cc gU0 cU0 mU0 gV0 cV0 B : Nat) (c : List (List Int)) (U0 V0 : List Int) (w : World) (hn : c.length = n) (hmU0 : U0.length = mU0) (hU0 : Nw c U0) (hV0 : Nw c V0) (hB : B ≤ w.heap.size) (hgc : gc < w.heap.size)
    (hr : Rows2 w gc oc c) (hoU0 : Own w B gU0 cU0 U0) (hoV0 : Own w B gV0 cV0 V0) :
    Calls Tryz.prog 102 #[(Value.slice (some ⟨gc, oc, none⟩) n cc), (Value.slice (some ⟨gU0, 0, none⟩) mU0 cU0), (Value.slice (some ⟨gV0, 0, none⟩) V0.length cV0)] w (GotInts w (dropL c V0 U0)) := by
  have hC := hU0.lets.isC
  have kI := Lib.hid (fun (X : List Int) (hX : Nw c X) (W : World) (g2 c2 m2 : Nat) (hm2 : X.length = m2) (hb : Below w.heap.size w W) (ho : Own W B g2 c2 X) => spec_l8Image_any gc oc n cc g2 0 m2 c2 c X W hn hm2 hC (by have := hX.lets.few; omega) hX.lets.inr (Nat.lt_of_lt_of_le hgc hb.size) ho.lt (hr.below hb hgc) ho.cells)
  have kC := Lib.hid (fun (X : List Int) (hX : Nw c X) (i : Int) (W : World) (g2 c2 m2 : Nat) (hm2 : X.length = m2) (ho : Own W B g2 c2 X) =>
    show Calls Tryz.prog 115 #[(Value.slice (some ⟨W.heap.size, 0, none⟩) 1 1), (Value.slice (some ⟨g2, 0, none⟩) m2 c2)] (W.alloc (.cells #[.int .i64 i] 3)) (GotInts (W.alloc (.cells #[.int .i64 i] 3)) (i :: X)) from
      spec_ConcatWords_any W.heap.size 0 1 1 g2 0 m2 c2 [i] X _ rfl hm2 (by simp) (by have := hX.lets.few; omega) (by simp) (by have := ho.lt; simp; omega) (Own.new (B := W.heap.size) i (Nat.le_refl _)).cells (ho.alloc _).cells)
  have kN := Lib.hid (fun (Y : List Int) (hL : Lets c 16 Y) (W : World) (B2 g2 c2 m2 : Nat) (hm2 : Y.length = m2) (hb : Below w.heap.size w W) (ho : Own W B2 g2 c2 Y) => spec_l8Normal_any gc oc n cc g2 0 m2 c2 c Y (nfI c Y) W hn hm2 hC (by have := hL.few; omega) hL.inr (nfI_ok (hL.mono (by omega))).norm (Nat.lt_of_lt_of_le hgc hb.size) ho.lt (hr.below hb hgc) ho.cells)
  obtain ⟨P, hP⟩ : ∃ P, dropL c V0 U0 = P := ⟨_, rfl⟩
  rw [hP]
  have hv15 := hV0.lets.few
  have hcap0 := hoV0.capLe
  have HU := Lib.hid hU0; have HV := Lib.hid hV0; have Hm0 := Lib.hid hmU0; have HP : Hid ([] ++ dropL c V0 U0 = P) := Lib.hid hP
  have HvB := Lib.hid hoV0.lt
  have hcV0 : Cells (w.alloc (.cells #[] 3)) gV0 0 V0 := (hoV0.alloc _).cells
  have hoU1 := hoU0.alloc (.cells #[] 3)
  have hoO : Own (w.alloc (.cells #[] 3)) w.heap.size w.heap.size 0 [] := Own.empty (Nat.le_refl _)
  have hB1 := (Below.refl w.heap.size w).alloc (Nat.le_refl _) (.cells #[] 3)
  have hn1 : gU0 ≠ w.heap.size := by have := hoU0.lt; omega
  clear hC hr hP hU0 hV0 hmU0 hoU0 hoV0
  go_enter Tryz.func102, Tryz.ntmps102
  go_wp2_with fail
  go_loopw [1, 2, 7] (fun uv vv ov wr => ∃ (m k g3 c3 gU cU mU oV cV : Nat) (U V xs : List Int), ov = (Value.slice (some ⟨g3, 0, none⟩) m c3) ∧ uv = (Value.slice (some ⟨gU, 0, none⟩) mU cU) ∧ vv = (Value.slice (some ⟨gV0, oV, none⟩) k cV) ∧ m + k ≤ 15 ∧ k ≤ cV ∧ V.length = k ∧ Hid (xs.length = m) ∧ Hid (U.length = mU) ∧ Hid (Nw c U) ∧ Hid (Nw c V) ∧ Hid (xs ++ dropL c V U = P) ∧ gU ≠ g3 ∧ Cells wr gV0 oV V ∧ Own wr B gU cU U ∧ Own wr w.heap.size g3 c3 xs ∧ Below w.heap.size w wr) (fun _ vv _ _ => lenOfV vv)
  case atStart => exact ⟨0, V0.length, _, 0, gU0, cU0, mU0, 0, cV0, U0, V0, [], rfl, rfl, rfl, by omega, hcap0, rfl, rfl, Hm0.out, HU.out, HV.out, HP.out, hn1, hcV0, hoU1, hoO, hB1⟩
  case round =>
    clear hcV0 hoU1 hoO hB1 hn1 HU HV HP Hm0 hcap0 hv15
    obtain ⟨m, k, g3, c3, gU, cU, mU, oV, cV, U, V, xs, rfl, rfl, rfl, hmk, hcap, hVk, hml, hmU, hU, hV, hgp, hn1, hcv, hoU, hoO, hb⟩ := hrel
    cases V with
    | nil =>
      obtain rfl : k = 0 := by simpa using hVk.symm
      have h2 : xs = P := by have := hgp.out; simpa [dropL] using this
      have H2 := Lib.hid h2
      clear h2 hgp hVk hcv
      go_wp2_with fail
      go_ret
      rw [← H2.out]
      exact GotInts.mk' g3 c3 hml.out hoO hb
    | cons s V =>
      obtain ⟨-, -, hVn⟩ := hV.out.tail
      have hsi := hV.out.head
      obtain ⟨sn, rfl⟩ : ∃ t : Nat, s = t := ⟨s.toNat, by omega⟩
      have hsn : sn < c.length := by omega
      obtain ⟨k, rfl⟩ : ∃ k', k = k' + 1 := ⟨k - 1, by rw [List.length_cons] at hVk; omega⟩
      have hkk : V.length = k := by simpa using hVk
      have hgq : xs ++ (if U.length ≤ V.length + 1 then (sn : Int) :: dropL c V (subN c U (sn : Int)) else []) = P := hgp.out
      rw [hmU.out, hkk] at hgq
      have q1 : wr.cell? ⟨gV0, oV, none⟩ = some (.int .i64 sn) := hcv 0 (by simp)
      have hcT : Cells wr gV0 (oV + 1) V := fun j hj => by
        have := hcv (j + 1) (by simpa using hj)
        rw [show oV + 1 + j = oV + (j + 1) by omega, this]; simp [List.getD]
      have hyes := Lib.hid (fun h => subN_neg (c := c) (U := U) (i := sn) h)
      have hno := Lib.hid (fun h => subN_pos (c := c) (U := U) (i := sn) h)
      have hS := Lib.hid (hU.out.sub (i := (sn : Int)) (by omega) (by omega))
      have kU := Lib.hid (fun (W : World) (hb2 : Below w.heap.size w W) (ho : Own W B gU cU U) => kI.out U hU.out W gU cU mU hmU.out hb2 ho)
      have hUl := Lib.hid (imI_length c U)
      have qU := Lib.hid (fun (W : World) (B2 g2 c2 : Nat) (ho : Own W B2 g2 c2 (imI c U)) => ho.cell sn (by rw [imI_length]; exact hsn))
      have hUc := Lib.hid (fun (W : World) (ho : Own W B gU cU U) => kC.out U hU.out (sn : Int) W gU cU mU hmU.out ho)
      have hUi := Lib.hid (hU.out.cons hsn)
      have HVn := Lib.hid hVn; have HcT := Lib.hid hcT; have Hkk := Lib.hid hkk
      have bz : (0 : Int) < ((k : Int) + 1) := by omega
      have b1 : (0 : Int) ≤ (sn : Int) := by omega
      have b2 : (sn : Int) < (c.length : Int) := by omega
      clear hVn hcT hkk hVk hsi hgp hcv
      by_cases hle : mU ≤ k + 1
      · rw [if_pos hle] at hgq
        have Hgq := Lib.hid hgq
        have d1 : (mU : Int) ≤ (k : Int) + 1 := by omega
        clear hgq hle
        go_wp2_with (at_builtin; refine wpList_append_int_n (w := wr) rfl _ _ rfl w.heap.size g3 c3 m xs (sn : Int) hml.out hoO rfl rfl (by omega) ?_)
        intro g8 c8 w8 hoO8 hg8 hor8
        have hb8 : Below w.heap.size w w8 := hb.grown hg8 hb.size (by intro t ht; cases ht; exact hoO.base)
        have hoU8 := hoU.grown hg8 (by intro e; cases e; exact hn1 rfl)
        have hU8 : gU ≠ g8 := fun e => by
          rcases hor8 with h | h
          · exact hn1 (e.trans h)
          · have := hoU.lt; omega
        have hT8 := HcT.out.grown hg8 (by intro e; cases e; have := hoO.base; have := HvB.out; omega)
        have HT8 := Lib.hid hT8
        have hl8 : Hid ((xs ++ [(sn : Int)]).length = m + 1) := Lib.hid (by rw [List.length_append, hml.out]; rfl)
        clear hb hoU hoO hg8 hor8 hml hn1 q1 HcT hT8
        go_wp2_with fail
        refine (kU.out w8 hb8 hoU8).mono ?_
        rintro e w9 ⟨g9, c9, rfl, ho9, hb9⟩
        rw [show (actW c U (onesL c.length)).length = c.length from hUl.out]
        have hc9 := qU.out _ _ _ _ ho9
        have hB9 := hb8.trans (hb9.mono hb8.size)
        have hoU9 := hoU8.below hb9 hoU8.lt
        have hoO9 := hoO8.below hb9 hoO8.lt
        have HT9 := Lib.hid (HT8.out.below hb9 (Nat.lt_of_lt_of_le HvB.out hb8.size))
        clear hb8 hb9 hoU8 hoO8 HT8 ho9
        by_cases hz : (imI c U).getD sn 0 < 0
        · have hi := hyes.out hz
          rw [hi] at hS Hgq
          generalize (imI c U).getD sn 0 = z at *
          clear hi hyes hno
          have hcU := Lib.hid (hUc.out w9 hoU9)
          have hlU : Hid ((((sn : Nat) : Int) :: U).length = mU + 1) := Lib.hid (by rw [List.length_cons, hmU.out])
          go_wp2_with fail
          refine hcU.out.mono ?_
          rintro e wD ⟨gD, cD, rfl, hoD, hbDD⟩
          have hbE := hB9.alloc hB9.size (.cells #[.int .i64 sn] 3)
          have hbF := hbE.trans (hbDD.mono hbE.size)
          have hoO2 := (hoO9.alloc (.cells #[.int .i64 sn] 3)).below hbDD (hoO9.alloc (.cells #[.int .i64 sn] 3)).lt
          have hbX := ((Below.refl w9.heap.size w9).alloc (Nat.le_refl _) (.cells #[.int .i64 sn] 3))
          have hbY := hbX.trans (hbDD.mono hbX.size)
          have HT2 := Lib.hid (HT9.out.below hbY (Nat.lt_of_lt_of_le HvB.out hB9.size))
          rw [hlU.out]
          have hN := Lib.hid (kN.out _ hUi.out wD _ gD cD (mU + 1) hlU.out hbF hoD)
          clear hbE hbDD hB9 hoU9 hoO9 HT9 hcU hbX hbY hc9
          go_wp2_with fail
          refine hN.out.mono ?_
          rintro e wG ⟨gG, cG, rfl, hoG, hbG⟩
          have hb := hbF.trans (hbG.mono hbF.size)
          have hoO := hoO2.below hbG hoO2.lt
          have HT := Lib.hid (HT2.out.below hbG (Nat.lt_of_lt_of_le HvB.out hbF.size))
          have hoU := hoG.mono (Nat.le_trans hB hbF.size)
          have hnG : gG ≠ g8 := by have h1 := hoG.base; have h2 := hoO2.lt; omega
          clear hbF hbG hoO2 HT2 hoG hoD hN
          generalize hU2 : nfI c (((sn : Nat) : Int) :: U) = U2 at *
          have HU2 := Lib.hid hU2; clear hU2
          generalize hmU2 : U2.length = mU2 at *
          have HmU2 := Lib.hid hmU2; clear hmU2
          have hp8 : Hid (xs ++ [(sn : Int)] ++ dropL c V U2 = P) := Lib.hid (by rw [List.append_assoc]; exact Hgq.out)
          by_cases hcap1 : cV = 1
          · obtain rfl : k = 0 := by omega
            have hV0 : V = [] := List.length_eq_zero_iff.1 Hkk.out
            have hc0 : Hid (Cells wG gV0 oV V) := Lib.hid (by rw [hV0]; intro j hj; simp at hj)
            clear hV0
            go_wp2_with fail
            go_roundw
            case rel => exact ⟨m + 1, 0, g8, c8, gG, cG, mU2, oV, 0, U2, V, _, rfl, rfl, by first | rfl | simp, by omega, by omega, Hkk.out, hl8.out, HmU2.out, hS.out, HVn.out, hp8.out, hnG, hc0.out, hoU, hoO, hb⟩
            case measure => simp [lenOfV]
          · go_wp2_with fail
            go_roundw
            case rel => exact ⟨m + 1, k, g8, c8, gG, cG, mU2, oV + 1, cV - 1, U2, V, _, rfl, rfl, by first | rfl | simp, by omega, by omega, Hkk.out, hl8.out, HmU2.out, hS.out, HVn.out, hp8.out, hnG, HT.out, hoU, hoO, hb⟩
            case measure => simp [lenOfV]
        · have hi := hno.out (by omega)
          rw [hi] at Hgq
          generalize (imI c U).getD sn 0 = z at *
          have hp8 : Hid (xs ++ [(sn : Int)] ++ dropL c V U = P) := Lib.hid (by rw [List.append_assoc]; exact Hgq.out)
          clear hi hyes hno
          by_cases hcap1 : cV = 1
          · obtain rfl : k = 0 := by omega
            have hV0 : V = [] := List.length_eq_zero_iff.1 Hkk.out
            have hc0 : Hid (Cells w9 gV0 oV V) := Lib.hid (by rw [hV0]; intro j hj; simp at hj)
            clear hV0
            go_wp2_with fail
            go_roundw
            case rel => exact ⟨m + 1, 0, g8, c8, gU, cU, mU, oV, 0, U, V, _, rfl, rfl, by first | rfl | simp, by omega, by omega, Hkk.out, hl8.out, hmU.out, hU.out, HVn.out, hp8.out, hU8, hc0.out, hoU9, hoO9, hB9⟩
            case measure => simp [lenOfV]
          · go_wp2_with fail
            go_roundw
            case rel => exact ⟨m + 1, k, g8, c8, gU, cU, mU, oV + 1, cV - 1, U, V, _, rfl, rfl, by first | rfl | simp, by omega, by omega, Hkk.out, hl8.out, hmU.out, hU.out, HVn.out, hp8.out, hU8, HT9.out, hoU9, hoO9, hB9⟩
            case measure => simp [lenOfV]
      · rw [if_neg hle] at hgq
        have h2 : xs = P := by rw [← hgq]; simp
        have H2 := Lib.hid h2
        have d1 : (k : Int) + 1 < (mU : Int) := by omega
        clear hgq h2 hle
        go_wp2_with fail
        go_ret
        rw [← H2.out]
        exact GotInts.mk' g3 c3 hml.out hoO hb
end Go.Proofs.YtkjglfafphffiaaGreatDoor
