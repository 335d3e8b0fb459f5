/- Fails Bru -/
import Derived.Test.YtkjglfafphffiaaGreatDoorC22
import Derived.Deep.RegionHeld3
import Derived.Deep.RegionWith
import Derived.Deep.Cut
import Derived.Deep.CutRange
import Derived.Test.YtkjglfafphffiaaGreatDoorC00
namespace Go.Proofs.YtkjglfafphffiaaGreatDoor
set_option maxRecDepth 100000
open Go.RowKit Game
structure Nw (c : List (List Int)) (U : List Int) : Prop where
  lets : Lets c 15 U
  self : nfI c U = U
theorem nw_nf {c : List (List Int)} {v : List Int} (h : WordOk c v) : Nw c (nfI c v) :=
  ⟨(nfI_ok (h.lets.mono (by omega))).lets.mono h.few, nfI_self (h.lets.mono (by omega))⟩
theorem Nw.cons {c : List (List Int)} {U : List Int} (h : Nw c U) {i : Nat} (hi : i < c.length) : Lets c 16 ((i : Int) :: U) :=
  lets_of h.lets.isC (by have := h.lets.few; simp; omega) fun x hx => by
    rcases List.mem_cons.1 hx with g | g
    · subst g; omega
    · exact h.lets.mem x g
theorem Nw.down {c : List (List Int)} {U : List Int} (h : Nw c U) {i : Nat} (hi : i < c.length) (hneg : (imI c U).getD i 0 < 0) : Nw c (nfI c ((i : Int) :: U)) := by
  have h1 := nfI_down (h.lets.mono (by omega)) hi hneg
  rw [h.self] at h1
  have h2 := nfI_ok ((h.cons hi).mono (show 16 ≤ 30 by omega))
  have := h.lets.few
  exact ⟨⟨h2.lets.isC, by omega, h2.lets.inr⟩, nfI_self ((h.cons hi).mono (by omega))⟩
theorem Nw.img {c : List (List Int)} {U : List Int} (h : Nw c U) {i : Nat} (hi : i < c.length) : imI c (nfI c ((i : Int) :: U)) = refl c i (imI c U) := by
  rw [(nfI_ok ((h.cons hi).mono (show 16 ≤ 30 by omega))).img]; rfl
theorem Nw.ne {c : List (List Int)} {U : List Int} (h : Nw c U) {i : Nat} (hi : i < c.length) : (imI c U).getD i 0 ≠ 0 := imI_ne (h.lets.mono (by omega)) hi
def nbGo (c : List (List Int)) : List Int → List Int → List Int → Option (List Int × List Int)
  | [], U, V => some (U, V)
  | s :: ps, U, V => if 0 ≤ s ∧ s < (c.length : Int) ∧ (imI c V).getD s.toNat 0 < 0 then nbGo c ps (if (imI c U).getD s.toNat 0 < 0 then nfI c (s :: U) else U) (nfI c (s :: V)) else none
def nbR (r : Option (List Int × List Int)) : Bool := match r with
  | none => false
  | some (U, V) => decide (V.length < U.length)
def notB (c : List (List Int)) (a b ps : List Int) : Bool := nbR (nbGo c ps (nfI c a) (nfI c b))
theorem nbGo_drop {c : List (List Int)} {ps U V : List Int} {k : Nat} (hk : k < ps.length) : nbGo c (ps.drop k) U V = if 0 ≤ ps.getD k 0 ∧ ps.getD k 0 < (c.length : Int) ∧ (imI c V).getD (ps.getD k 0).toNat 0 < 0 then nbGo c (ps.drop (k + 1)) (if (imI c U).getD (ps.getD k 0).toNat 0 < 0 then nfI c (ps.getD k 0 :: U) else U) (nfI c (ps.getD k 0 :: V)) else none := by
  have e : ps.getD k 0 = ps[k] := by simp [List.getD, hk]
  rw [List.drop_eq_getElem_cons hk, e]
  rfl
theorem nbGo_end (c : List (List Int)) (ps U V : List Int) : nbGo c (ps.drop ps.length) U V = some (U, V) := by rw [List.drop_length]; rfl
set_option maxRecDepth 100000 in
set_option maxHeartbeats 4000000 in
theorem spec_l34Fails_ok (gc oc n cc gU cU mU gV cV mV g4 o4 n4 c4 B : Nat) (c : List (List Int)) (U0 V0 ps : List Int) (w : World) (hn : c.length = n) (hmU : U0.length = mU) (hmV : V0.length = mV) (hn4' : ps.length = n4) (hU : Nw c U0) (hV : Nw c V0) (hB : B ≤ w.heap.size) (hl4 : ps.length ≤ 1048576)
    (hgc : gc < w.heap.size) (hg4 : g4 < w.heap.size) (hr : Rows2 w gc oc c) (hp : Cells w g4 o4 ps) (hoU : Own w B gU cU U0) (hoV : Own w B gV cV V0) :
    Calls Tryz.prog 53 #[(Value.slice (some ⟨gc, oc, none⟩) n cc), (Value.slice (some ⟨gU, 0, none⟩) mU cU), (Value.slice (some ⟨gV, 0, none⟩) mV cV), (Value.slice (some ⟨g4, o4, none⟩) n4 c4)] w (Gives w (.bool (nbR (nbGo c ps U0 V0)))) := by
  subst hn4'
  have hC := hU.lets.isC
  have hn4 := hC.2.1
  have E1 := Lib.hid (IntWalk.i64_in ((c.length : Int) - 1) (by omega))
  have kI := Lib.hid (fun (X : List Int) (hX : Nw c X) (W : World) (g2 c2 m2 : Nat) (hm2 : X.length = m2) (hb : Below w.heap.size w W) (ho : Own W B g2 c2 X) => spec_l8Image_any gc oc n cc g2 0 m2 c2 c X W hn hm2 hC (by have := hX.lets.few; omega) hX.lets.inr (Nat.lt_of_lt_of_le hgc hb.size) ho.lt (hr.below hb hgc) ho.cells)
  have kC := Lib.hid (fun (X : List Int) (hX : Nw c X) (i : Int) (W : World) (g2 c2 m2 : Nat) (hm2 : X.length = m2) (ho : Own W B g2 c2 X) =>
    show Calls Tryz.prog 115 #[(Value.slice (some ⟨W.heap.size, 0, none⟩) 1 1), (Value.slice (some ⟨g2, 0, none⟩) m2 c2)] (W.alloc (.cells #[.int .i64 i] 3)) (GotInts (W.alloc (.cells #[.int .i64 i] 3)) (i :: X)) from
      spec_ConcatWords_any W.heap.size 0 1 1 g2 0 m2 c2 [i] X _ rfl hm2 (by simp) (by have := hX.lets.few; omega) (by simp) (by have := ho.lt; simp; omega) (Own.new (B := W.heap.size) i (Nat.le_refl _)).cells (ho.alloc _).cells)
  have kN := Lib.hid (fun (Y : List Int) (hL : Lets c 16 Y) (W : World) (B2 g2 c2 m2 : Nat) (hm2 : Y.length = m2) (hb : Below w.heap.size w W) (ho : Own W B2 g2 c2 Y) => spec_l8Normal_any gc oc n cc g2 0 m2 c2 c Y (nfI c Y) W hn hm2 hC (by have := hL.few; omega) hL.inr (nfI_ok (hL.mono (by omega))).norm (Nat.lt_of_lt_of_le hgc hb.size) ho.lt (hr.below hb hgc) ho.cells)
  have hR : nbGo c (ps.drop 0) U0 V0 = nbGo c ps U0 V0 := rfl
  generalize nbGo c ps U0 V0 = R at *
  have HR := Lib.hid hR
  have Hn := Lib.hid hn
  subst hn
  clear hr hR
  go_enter Tryz.func53, Tryz.ntmps53
  go_wp2
  go_loopw [1, 2, 9] (fun uv vv kv wr => ∃ (k gU cU mU gV cV mV : Nat) (U V : List Int), k ≤ ps.length ∧ kv = .int .i64 k ∧ uv = (Value.slice (some ⟨gU, 0, none⟩) mU cU) ∧ vv = (Value.slice (some ⟨gV, 0, none⟩) mV cV) ∧ Hid (U.length = mU) ∧ Hid (V.length = mV) ∧ Hid (Nw c U) ∧ Hid (Nw c V) ∧ Hid (nbGo c (ps.drop k) U V = R) ∧ Own wr B gU cU U ∧ Own wr B gV cV V ∧ Below w.heap.size w wr) (fun _ _ kv _ => ps.length - (intOf kv).toNat)
  case atStart => exact ⟨0, gU, cU, mU, gV, cV, mV, U0, V0, Nat.zero_le _, rfl, rfl, rfl, hmU, hmV, hU, hV, HR.out, hoU, hoV, Below.refl _ _⟩
  case round =>
    clear hoU hoV hU hV hmU hmV HR
    obtain ⟨k, gU, cU, mU, gV, cV, mV, U, V, hk, rfl, rfl, rfl, hmU, hmV, hU, hV, hgo, hoU, hoV, hb⟩ := hrel
    by_cases hlt : k < ps.length
    · have p1 := (hp.below hb hg4) k hlt
      have HPk := Lib.hid (fun (W : World) (hbW : Below w.heap.size w W) => (hp.below hbW hg4) k hlt)
      have bA : (0 : Int) ≤ (k : Int) := by omega
      have bB : (k : Int) < (ps.length : Int) := by omega
      have hL0 := fun W => spec_l1In (ps.getD k 0) 0 ((c.length : Int) - 1) W
      have hgd := hgo.out
      rw [nbGo_drop hlt] at hgd
      generalize ps.getD k 0 = p at *
      by_cases hin : 0 ≤ p ∧ p ≤ (c.length : Int) - 1
      case neg =>
        rw [show (decide ((0 : Int) ≤ p) && decide (p ≤ (c.length : Int) - 1)) = false by rw [← Bool.not_eq_true, Bool.and_eq_true, decide_eq_true_eq, decide_eq_true_eq]; exact hin] at hL0
        have hL := Lib.hid hL0
        rw [if_neg (fun h => hin ⟨h.1, by have := h.2.1; omega⟩)] at hgd
        have Hgd := Lib.hid hgd
        clear hL0 hin hgd
        have e1 := E1.out
        have hbD := Lib.hid (show Below w.heap.size w wr.drew from Below.drew hb)
        go_wp2
        go_quiet ((go_at_call 78; first | with_reducible exact Calls.quiet_of (hL.out _) | with_reducible exact Reads.quiet4 (hL.out _)))
        go_wp2_with fail
        go_ret
        exact ⟨ret_bool (by rw [← Hgd.out]; rfl), below_drewN hb _⟩
      rw [show (decide ((0 : Int) ≤ p) && decide (p ≤ (c.length : Int) - 1)) = true by rw [Bool.and_eq_true, decide_eq_true_eq, decide_eq_true_eq]; exact hin] at hL0
      have hL := Lib.hid hL0
      clear hL0
      obtain ⟨sn, rfl⟩ : ∃ t : Nat, p = t := ⟨p.toNat, by omega⟩
      rw [Int.toNat_natCast] at hgd
      have hsn : sn < c.length := by omega
      have kV := Lib.hid (fun (W : World) (hb2 : Below w.heap.size w W) (ho : Own W B gV cV V) => kI.out V hV.out W gV cV mV hmV.out hb2 ho)
      have kU := Lib.hid (fun (W : World) (hb2 : Below w.heap.size w W) (ho : Own W B gU cU U) => kI.out U hU.out W gU cU mU hmU.out hb2 ho)
      have hVl := Lib.hid (imI_length c V); have hUl := Lib.hid (imI_length c U)
      have qV := Lib.hid (fun (W : World) (B2 g2 c2 : Nat) (ho : Own W B2 g2 c2 (imI c V)) => ho.cell sn (by rw [imI_length]; exact hsn))
      have qU := Lib.hid (fun (W : World) (B2 g2 c2 : Nat) (ho : Own W B2 g2 c2 (imI c U)) => ho.cell sn (by rw [imI_length]; exact hsn))
      have hneV := hV.out.ne hsn
      have hneU := hU.out.ne hsn
      have hVd := Lib.hid (fun h => hV.out.down hsn h)
      have hUd := Lib.hid (fun h => hU.out.down hsn h)
      have hVi := Lib.hid (hV.out.cons hsn); have hUi := Lib.hid (hU.out.cons hsn)
      have hVc := Lib.hid (fun (W : World) (ho : Own W B gV cV V) => kC.out V hV.out (sn : Int) W gV cV mV hmV.out ho)
      have hUc := Lib.hid (fun (W : World) (ho : Own W B gU cU U) => kC.out U hU.out (sn : Int) W gU cU mU hmU.out ho)
      generalize (imI c V).getD sn 0 = y at *
      generalize (imI c U).getD sn 0 = z at *
      have b1 : (0 : Int) ≤ (sn : Int) := by omega
      have b2 : (sn : Int) < (c.length : Int) := by omega
      have e1 := E1.out
      have hbD := Lib.hid (show Below w.heap.size w wr.drew from Below.drew hb)
      have hoVD := Lib.hid (show Own wr.drew B gV cV V from hoV)
      have hoUD := Lib.hid (show Own wr.drew B gU cU U from hoU)
      clear hin
      by_cases hy : 0 < y
      · have d1 : decide (0 < y) = true := decide_eq_true hy
        rw [if_neg (fun h => by have := h.2.2; omega)] at hgd
        have Hgd := Lib.hid hgd
        clear hgd hy hneV hneU hoV hoU hb
        go_wp2
        go_region_with (first
            | (go_at_call 78; refine (hL.out _).mono ?_; rintro e w5 ⟨rfl, hs5⟩; have p15 := (cell_still hs5 _).trans p1)
            | (go_at_call 58; refine (kV.out w5 (below_still hbD.out hs5) (hoVD.out.still hs5)).mono ?_; rintro e wA ⟨gA, cA, rfl, hoA, hbA⟩; rw [show (actW c V (onesL c.length)).length = c.length from hVl.out]; have hcA := qV.out _ _ _ _ hoA; have p1A := keepCell hbA p15))
        all_goals (try go_wp2_with fail)
        all_goals
          go_ret
          exact ⟨ret_bool (by rw [← Hgd.out]; rfl), (below_still hbD.out hs5).trans (hbA.mono (below_still hbD.out hs5).size)⟩
      · have d1 : decide (0 < y) = false := decide_eq_false hy
        have hyn : y < 0 := by omega
        rw [if_pos ⟨by omega, by omega, hyn⟩] at hgd
        have Hgd := Lib.hid hgd
        have hVn := hVd.out hyn
        clear hgd hneV hoV hoU hb hVd hy hyn
        go_wp2
        go_cut [36] from 10 to 64 (fun bv wx => bv = .bool false ∧ Own wx B gV cV V ∧ Own wx B gU cU U ∧ Below w.heap.size w wx)
        case first =>
          go_region_with (first
            | (go_at_call 78; refine (hL.out _).mono ?_; rintro e w5 ⟨rfl, hs5⟩; have p15 := (cell_still hs5 _).trans p1)
            | (go_at_call 58; refine (kV.out w5 (below_still hbD.out hs5) (hoVD.out.still hs5)).mono ?_; rintro e wA ⟨gA, cA, rfl, hoA, hbA⟩; rw [show (actW c V (onesL c.length)).length = c.length from hVl.out]; have hcA := qV.out _ _ _ _ hoA; have p1A := keepCell hbA p15))
          all_goals (try go_wp2_with fail)
          all_goals go_meet
          all_goals exact ⟨rfl, (hoVD.out.still hs5).below hbA (hoVD.out.still hs5).lt, (hoUD.out.still hs5).below hbA (hoUD.out.still hs5).lt, (below_still hbD.out hs5).trans (hbA.mono (below_still hbD.out hs5).size)⟩
        case rest =>
          obtain ⟨rfl, hoV, hoU, hb⟩ := hcut
          clear hoVD hoUD hbD kV
          have p1 := HPk.out _ hb
          have p1d : wc.drew.cell? ⟨g4, o4 + k, none⟩ = some (.int .i64 sn) := p1
          have hbD2 := Lib.hid (show Below w.heap.size w wc.drew from Below.drew hb)
          have hoVD2 := Lib.hid (show Own wc.drew B gV cV V from hoV)
          have hoUD2 := Lib.hid (show Own wc.drew B gU cU U from hoU)
          have hgdX := Hgd.out
          have hVn := Lib.hid hVn
          clear Hgd hoV hoU hb
          by_cases hz : z < 0
          · have d2 : decide (z < 0) = true := decide_eq_true hz
            have hgdZ := hgdX; rw [if_pos hz] at hgdZ; have Hgd2 := Lib.hid hgdZ; have hUn := Lib.hid (hUd.out hz); clear hgdZ hz
            clear hgdX hneU
            go_wp2_with fail
            go_cut [46] from 10 to 64 (fun bv wx => bv = .bool true ∧ Own wx B gV cV V ∧ Own wx B gU cU U ∧ Below w.heap.size w wx)
            case first =>
              go_region_with (first
            | (go_at_call 58; refine (kU.out _ hbD2.out hoUD2.out).mono ?_; rintro e wA ⟨gA, cA, rfl, hoA, hbA⟩; rw [show (actW c U (onesL c.length)).length = c.length from hUl.out]; have hcA := qU.out _ _ _ _ hoA; have p1A := keepCell hbA p1d))
              all_goals (try go_wp2_with fail)
              all_goals go_meet
              all_goals exact ⟨rfl, hoVD2.out.below hbA hoVD2.out.lt, hoUD2.out.below hbA hoUD2.out.lt, hbD2.out.trans (hbA.mono hbD2.out.size)⟩
            case rest =>
              obtain ⟨rfl, hoV, hoU, hb⟩ := hcut
              clear hoVD2 hoUD2 hbD2 kU p1d p1
              have p1 := HPk.out _ hb
              have hcU := Lib.hid (hUc.out wc hoU)
              have hlU : Hid ((((sn : Nat) : Int) :: U).length = mU + 1) := Lib.hid (by rw [List.length_cons, hmU.out])
              go_wp2_with fail
              refine hcU.out.mono ?_
              rintro e wD ⟨gD, cD, rfl, hoD, hbDD⟩
              have hbE := hb.alloc hb.size (.cells #[.int .i64 sn] 3)
              have hbF := hbE.trans (hbDD.mono hbE.size)
              have hoV2 := (hoV.alloc (.cells #[.int .i64 sn] 3)).below hbDD (hoV.alloc (.cells #[.int .i64 sn] 3)).lt
              rw [hlU.out]
              have hN := Lib.hid (kN.out _ hUi.out wD _ gD cD (mU + 1) hlU.out hbF hoD)
              clear hbE hbDD hoV hoU hb hcU p1
              go_wp2_with fail
              refine hN.out.mono ?_
              rintro e wG ⟨gG, cG, rfl, hoG, hbG⟩
              have hb := hbF.trans (hbG.mono hbF.size)
              have hoV := hoV2.below hbG hoV2.lt
              have hoU := hoG.mono (Nat.le_trans hB hbF.size)
              have p1 := HPk.out _ hb
              clear hbF hbG hoV2 hoG hoD hN
              generalize hU2 : nfI c (((sn : Nat) : Int) :: U) = U2 at *
              have HU2 := Lib.hid hU2; clear hU2
              generalize hmU2 : U2.length = mU2 at *
              have HmU2 := Lib.hid hmU2; clear hmU2
              have hcV := Lib.hid (hVc.out wG hoV)
              have hlV : Hid ((((sn : Nat) : Int) :: V).length = mV + 1) := Lib.hid (by rw [List.length_cons, hmV.out])
              go_wp2_with fail
              refine hcV.out.mono ?_
              rintro e wH ⟨gH, cH, rfl, hoH, hbH⟩
              have hbE := hb.alloc hb.size (.cells #[.int .i64 sn] 3)
              have hbF := hbE.trans (hbH.mono hbE.size)
              have hoU2 := (hoU.alloc (.cells #[.int .i64 sn] 3)).below hbH (hoU.alloc (.cells #[.int .i64 sn] 3)).lt
              rw [hlV.out]
              have hN := Lib.hid (kN.out _ hVi.out wH _ gH cH (mV + 1) hlV.out hbF hoH)
              clear hbE hbH hoV hoU hb hcV p1
              go_wp2_with fail
              refine hN.out.mono ?_
              rintro e wK ⟨gK, cK, rfl, hoK, hbK⟩
              have hb := hbF.trans (hbK.mono hbF.size)
              have hoU := hoU2.below hbK hoU2.lt
              have hoV := hoK.mono (Nat.le_trans hB hbF.size)
              clear hbF hbK hoU2 hoK hoH hN
              generalize hmV2 : (nfI c (((sn : Nat) : Int) :: V)).length = mV2 at *
              have HmV2 := Lib.hid hmV2; clear hmV2
              go_wp2_with fail
              go_roundw
              case rel => exact ⟨k + 1, gG, cG, mU2, gK, cK, mV2, _, _, by omega, by go_num, rfl, rfl, HmU2.out, HmV2.out, hUn.out, hVn.out, Hgd2.out, hoU, hoV, hb⟩
              case measure => simp [intOf]; omega
          · have d2 : decide (z < 0) = false := decide_eq_false hz
            have hgdZ := hgdX; rw [if_neg hz] at hgdZ; have Hgd2 := Lib.hid hgdZ; clear hgdZ hz
            clear hgdX hneU
            go_wp2_with fail
            go_cut [46] from 10 to 64 (fun bv wx => bv = .bool false ∧ Own wx B gV cV V ∧ Own wx B gU cU U ∧ Below w.heap.size w wx)
            case first =>
              go_region_with (first
            | (go_at_call 58; refine (kU.out _ hbD2.out hoUD2.out).mono ?_; rintro e wA ⟨gA, cA, rfl, hoA, hbA⟩; rw [show (actW c U (onesL c.length)).length = c.length from hUl.out]; have hcA := qU.out _ _ _ _ hoA; have p1A := keepCell hbA p1d))
              all_goals (try go_wp2_with fail)
              all_goals go_meet
              all_goals exact ⟨rfl, hoVD2.out.below hbA hoVD2.out.lt, hoUD2.out.below hbA hoUD2.out.lt, hbD2.out.trans (hbA.mono hbD2.out.size)⟩
            case rest =>
              obtain ⟨rfl, hoV, hoU, hb⟩ := hcut
              clear hoVD2 hoUD2 hbD2 kU p1d p1
              have p1 := HPk.out _ hb
              have hcV := Lib.hid (hVc.out wc hoV)
              have hlV : Hid ((((sn : Nat) : Int) :: V).length = mV + 1) := Lib.hid (by rw [List.length_cons, hmV.out])
              go_wp2_with fail
              refine hcV.out.mono ?_
              rintro e wH ⟨gH, cH, rfl, hoH, hbH⟩
              have hbE := hb.alloc hb.size (.cells #[.int .i64 sn] 3)
              have hbF := hbE.trans (hbH.mono hbE.size)
              have hoU2 := (hoU.alloc (.cells #[.int .i64 sn] 3)).below hbH (hoU.alloc (.cells #[.int .i64 sn] 3)).lt
              rw [hlV.out]
              have hN := Lib.hid (kN.out _ hVi.out wH _ gH cH (mV + 1) hlV.out hbF hoH)
              clear hbE hbH hoV hoU hb hcV p1
              go_wp2_with fail
              refine hN.out.mono ?_
              rintro e wK ⟨gK, cK, rfl, hoK, hbK⟩
              have hb := hbF.trans (hbK.mono hbF.size)
              have hoU := hoU2.below hbK hoU2.lt
              have hoV := hoK.mono (Nat.le_trans hB hbF.size)
              clear hbF hbK hoU2 hoK hoH hN
              generalize hmV2 : (nfI c (((sn : Nat) : Int) :: V)).length = mV2 at *
              have HmV2 := Lib.hid hmV2; clear hmV2
              go_wp2_with fail
              go_roundw
              case rel => exact ⟨k + 1, gU, cU, mU, gK, cK, mV2, _, _, by omega, by go_num, rfl, rfl, hmU.out, HmV2.out, hU.out, hVn.out, Hgd2.out, hoU, hoV, hb⟩
              case measure => simp [intOf]; omega
    · obtain rfl : k = ps.length := by omega
      have he := hgo.out
      rw [nbGo_end] at he
      have He := Lib.hid he
      clear he
      go_wp2_with fail
      go_ret
      exact ⟨ret_bool (by rw [← He.out]; show decide (mV < mU) = decide (V.length < U.length); rw [hmU.out, hmV.out]), hb⟩
end Go.Proofs.YtkjglfafphffiaaGreatDoor
namespace Go.Proofs.YtkjglfafphffiaaGreatDoor
set_option maxRecDepth 100000
open Go.RowKit Game
theorem normG_more {c : List (List Int)} : ∀ {f : Nat} {v x : List Int}, normG c f v = some x → normG c (f + 1) v = some x := by
  intro f
  induction f with
  | zero =>
    intro v x h
    simp only [normG] at h ⊢
    cases hz : nz v with
    | false => rw [hz] at h; simp at h
    | true =>
      cases hf : firstNeg v with
      | none => rw [hz, hf] at h; simpa using h
      | some i => rw [hz, hf] at h; simp at h
  | succ f ih =>
    intro v x h
    rw [normG] at h ⊢
    cases hz : nz v with
    | false => rw [hz] at h; simp at h
    | true =>
      rw [hz] at h
      cases hf : firstNeg v with
      | none => rw [hf] at h; simpa using h
      | some i =>
        rw [hf] at h
        simp only [if_true] at h ⊢
        cases hr : normG c f (refl c i v) with
        | none => rw [hr] at h; simp at h
        | some l => rw [hr] at h; rw [ih hr]; exact h
theorem normG_many {c : List (List Int)} {f : Nat} {v x : List Int} (h : normG c f v = some x) : ∀ k, normG c (f + k) v = some x
  | 0 => h
  | k + 1 => normG_more (normG_many h k)
theorem imI_back {c : List (List Int)} {V : List Int} (h : Lets c 28 V) {i : Nat} (hi : i < c.length) : imI c ((i : Int) :: (i : Int) :: V) = imI c V := by
  have hC := h.isC
  have hf := h.few
  have hlt := h.nats_lt
  have h1 : ∀ k ∈ (i :: i :: V.map Int.toNat), k < c.length := fun k hk => by
    rcases List.mem_cons.1 hk with g | g
    · omega
    · rcases List.mem_cons.1 g with g | g
      · omega
      · exact hlt k g
  have := imgL_of_act hC h1 hlt (by simp; omega) (by simp; omega) (fun u => by
    show s (ent c) i (s (ent c) i (act (ent c) (V.map Int.toNat) u)) = _
    rw [s_s (car_of hC) hi])
  have e : intsOf (i :: i :: V.map Int.toNat) = (i : Int) :: (i : Int) :: V := by
    show (i : Int) :: (i : Int) :: intsOf (V.map Int.toNat) = _
    rw [h.nats]
  unfold imgL at this
  rw [e, h.nats] at this
  exact this
theorem Nw.norm {c : List (List Int)} {U : List Int} (h : Nw c U) : normG c 30 (imI c U) = some U := by
  have := (nfI_ok (h.lets.mono (show 15 ≤ 30 by omega))).norm
  rwa [h.self] at this
theorem Nw.head {c : List (List Int)} {i : Int} {V : List Int} (h : Nw c (i :: V)) : 0 ≤ i ∧ i < (c.length : Int) := h.lets.mem i (by simp)
theorem Nw.tail {c : List (List Int)} {i : Int} {V : List Int} (h : Nw c (i :: V)) : firstNeg (imI c (i :: V)) = some i.toNat ∧ imI c V = refl c i.toNat (imI c (i :: V)) ∧ Nw c V := by
  have hi := h.head
  have hL : Lets c 14 V := lets_of h.lets.isC (by have := h.lets.few; rw [List.length_cons] at this; omega) fun x hx => h.lets.mem x (by simp [hx])
  obtain ⟨k, rfl⟩ : ∃ k : Nat, i = k := ⟨i.toNat, by omega⟩
  rw [Int.toNat_natCast]
  have hn := h.norm
  cases hf : firstNeg (imI c ((k : Int) :: V)) with
  | none => exact absurd (normG_none hn hf) (by simp)
  | some j =>
    obtain ⟨f', rest', e, h1, h2⟩ := normG_some hn hf
    injection h1 with h3 h4
    obtain rfl : k = j := by omega
    subst h4
    have hb : imI c V = refl c k (imI c ((k : Int) :: V)) := (imI_back (hL.mono (by omega)) (by omega)).symm
    refine ⟨rfl, hb, hL.mono (by omega), ?_⟩
    rw [← hb] at h2
    have h5 := normG_many h2 1
    rw [← e] at h5
    have h6 := (nfI_ok (hL.mono (show 14 ≤ 30 by omega))).norm
    rw [h6] at h5
    exact Option.some.inj h5
theorem Nw.none {c : List (List Int)} {U : List Int} (h : Nw c U) : firstNeg (imI c U) = none ↔ U = [] := by
  constructor
  · intro hf; exact normG_none h.norm hf
  · rintro rfl
    cases hf : firstNeg (imI c []) with
    | none => rfl
    | some j =>
      obtain ⟨f', rest', e, h1, h2⟩ := normG_some h.norm hf
      cases h1
def subN (c : List (List Int)) (U : List Int) (i : Int) : List Int := if (imI c U).getD i.toNat 0 < 0 then nfI c (i :: U) else U
def subU (c : List (List Int)) : List Int → List Int → List Int
  | [], U => U
  | i :: y, U => subU c y (subN c U i)
def subP (c : List (List Int)) : List Int → Nat → List Int → List Int
  | [], _, _ => []
  | i :: y, k, U => if (imI c U).getD i.toNat 0 < 0 then (k : Int) :: subP c y (k + 1) (subN c U i) else subP c y (k + 1) (subN c U i)
def bruB (c : List (List Int)) (a b : List Int) : Bool := decide (subU c (nfI c b) (nfI c a) = [])
def subL (c : List (List Int)) (a b : List Int) : List Int := subP c (nfI c b) 0 (nfI c a)
theorem Nw.sub {c : List (List Int)} {U : List Int} (h : Nw c U) {i : Int} (h0 : 0 ≤ i) (h1 : i < (c.length : Int)) : Nw c (subN c U i) := by
  obtain ⟨k, rfl⟩ : ∃ k : Nat, i = k := ⟨i.toNat, by omega⟩
  unfold subN
  rw [Int.toNat_natCast]
  split
  · exact h.down (by omega) (by assumption)
  · exact h
theorem subN_img {c : List (List Int)} {U : List Int} (h : Nw c U) {i : Nat} (h1 : i < c.length) (hneg : (imI c U).getD i 0 < 0) : imI c (subN c U i) = refl c i (imI c U) := by
  unfold subN
  rw [Int.toNat_natCast, if_pos hneg]
  exact h.img h1
theorem subN_neg {c : List (List Int)} {U : List Int} {i : Nat} (hneg : (imI c U).getD i 0 < 0) : subN c U i = nfI c ((i : Int) :: U) := by
  unfold subN
  rw [Int.toNat_natCast, if_pos hneg]
theorem subN_pos {c : List (List Int)} {U : List Int} {i : Nat} (hneg : ¬ (imI c U).getD i 0 < 0) : subN c U i = U := by
  unfold subN
  rw [Int.toNat_natCast, if_neg hneg]
theorem subN_len {c : List (List Int)} {U : List Int} (h : Nw c U) {i : Int} (h0 : 0 ≤ i) (h1 : i < (c.length : Int)) : U.length ≤ (subN c U i).length + 1 := by
  obtain ⟨k, rfl⟩ : ∃ k : Nat, i = k := ⟨i.toNat, by omega⟩
  by_cases hn : (imI c U).getD k 0 < 0
  · rw [subN_neg hn]
    have := nfI_down (h.lets.mono (show 15 ≤ 29 by omega)) (by omega) hn
    rw [h.self] at this
    omega
  · rw [subN_pos hn]; omega
theorem subU_len {c : List (List Int)} : ∀ (y : List Int) {U : List Int}, (∀ x ∈ y, 0 ≤ x ∧ x < (c.length : Int)) → Nw c U → U.length ≤ (subU c y U).length + y.length
  | [], U, _, _ => by simp [subU]
  | i :: y, U, hy, h => by
    have hi := hy i (by simp)
    have h1 := subN_len h hi.1 hi.2
    have h2 := subU_len y (fun x hx => hy x (by simp [hx])) (h.sub hi.1 hi.2)
    show U.length ≤ (subU c y (subN c U i)).length + (y.length + 1)
    omega
theorem subU_drop {c : List (List Int)} {y U : List Int} {k : Nat} (hk : k < y.length) : subU c (y.drop k) U = subU c (y.drop (k + 1)) (subN c U (y.getD k 0)) := by
  have e : y.getD k 0 = y[k] := by simp [List.getD, hk]
  rw [List.drop_eq_getElem_cons hk, e]
  rfl
theorem subP_drop {c : List (List Int)} {y U : List Int} {k : Nat} (hk : k < y.length) : subP c (y.drop k) k U = if (imI c U).getD (y.getD k 0).toNat 0 < 0 then (k : Int) :: subP c (y.drop (k + 1)) (k + 1) (subN c U (y.getD k 0)) else subP c (y.drop (k + 1)) (k + 1) (subN c U (y.getD k 0)) := by
  have e : y.getD k 0 = y[k] := by simp [List.getD, hk]
  rw [List.drop_eq_getElem_cons hk, e]
  rfl
theorem subP_len {c : List (List Int)} : ∀ (y : List Int) (k : Nat) (U : List Int), (subP c y k U).length ≤ y.length
  | [], k, U => by simp [subP]
  | i :: y, k, U => by
    have h := subP_len (c := c) y (k + 1) (subN c U i)
    unfold subP
    split
    · simp; omega
    · simp; omega
def dropL (c : List (List Int)) : List Int → List Int → List Int
  | [], _ => []
  | s :: V, U => if U.length ≤ V.length + 1 then s :: dropL c V (subN c U s) else []
theorem dropL_len {c : List (List Int)} : ∀ (V U : List Int), (dropL c V U).length ≤ V.length
  | [], U => by simp [dropL]
  | s :: V, U => by
    have := dropL_len (c := c) V (subN c U s)
    unfold dropL
    split
    · simp; omega
    · simp
end Go.Proofs.YtkjglfafphffiaaGreatDoor
