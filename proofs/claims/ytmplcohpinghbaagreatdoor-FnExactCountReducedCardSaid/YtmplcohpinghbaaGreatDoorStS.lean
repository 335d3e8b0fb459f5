/- StatesOf by the reference: contract. -/
import Derived.Test.YtmplcohpinghbaaGreatDoorSt
import Derived.Test.YtmplcohpinghbaaGreatDoorAutS3
import Derived.Test.YtmplcohpinghbaaGreatDoorSmL
import Derived.Deep.RegionHeld3
namespace Go.Proofs.YtmplcohpinghbaaGreatDoor
open Go.RowKit Game

def stR (c : List (List Int)) : Option (List (List Int)) := if smallAB c = true then statesR c (smallA c) else none
theorem stGo_over' {c S Q : List (List Int)} {f k i : Nat} (hk : k < Q.length) (hi : i ≤ c.length) (hl : 100 < (stRow c S Q k i).length) : stGo c S (f + 1) k Q = none := by
  obtain ⟨L, hL⟩ := stRow_pre (c := c) (S := S) (Q := Q) (k := k) i c.length hi
  refine stGo_over hk ?_
  rw [hL, List.length_append]; omega
theorem GotRowsB.none {w w' : World} {R : Option (List (List Int))} {e : Ending} (hR : R = none) (h : GotRowsB w [] false e w') : GotRowsB w (R.getD []) R.isSome e w' := by subst hR; exact h
theorem GotRowsB.some' {w w' : World} {R : Option (List (List Int))} {Q : List (List Int)} {e : Ending} (hR : R = some Q) (h : GotRowsB w Q true e w') : GotRowsB w (R.getD []) R.isSome e w' := by subst hR; exact h
theorem rowAt {w : World} {B g cap : Nat} {rs : List RowRef} (h : OwnRows w B g cap rs) {k : Nat} (hk : k < rs.length) : ∃ b c, w.cell? ⟨g, k, none⟩ = some (Value.slice (some ⟨b, 0, none⟩) (((contents rs).getD k []).length) c) ∧ Own w B b c ((contents rs).getD k []) := by
  have e : (contents rs).getD k [] = rs[k].2.2 := by simp [contents, List.getD, hk]
  rw [e]
  refine ⟨rs[k].1, rs[k].2.1, ?_, h.2.1 _ (List.getElem_mem hk)⟩
  rw [h.1.cell k (by simpa using hk)]
  simp [rowVal]

set_option maxRecDepth 100000 in
set_option maxHeartbeats 8000000 in
theorem spec_StatesOf_any (gc oc n cc : Nat) (c : List (List Int)) (w : World) (hn : c.length = n) (hl : c.length ≤ 1048576) (hrl : ∀ j, j < c.length → (c.getD j []).length ≤ 1048576) (hgc : gc < w.heap.size) (hr : Rows2 w gc oc c) :
    Calls Tryz.prog 6 #[(Value.slice (some ⟨gc, oc, none⟩) n cc)] w (GotRowsB w ((stR c).getD []) (stR c).isSome) := by
  subst hn
  have hcall := spec_SmallRoots_any gc oc _ cc c w rfl hl hrl hgc hr
  have Hcall := Lib.hid hcall; have Hr := Lib.hid hr
  clear hcall hr hrl
  rcases smallA_cases c with ⟨hAB, hS⟩ | ⟨hC, hAB, hok⟩
  · have Hv : Hid (stR c = none) := if_neg (by rw [hAB]; simp)
    rw [hAB, hS] at Hcall
    generalize stR c = R at *
    clear hAB hS
    go_enter Tryz.func6, Tryz.ntmps6
    go_wp2_with fail
    refine Hcall.out.mono ?_
    rintro e w1 ⟨gR, cR, rsR, rfl, -, -, hb1⟩
    go_wp2_with fail
    go_ret2
    exact GotRowsB.none Hv.out (GotRowsB.nil hb1)
  · rw [hAB] at Hcall
    have HR0 : Hid (statesR c (smallA c) = stR c) := (if_pos hAB).symm
    generalize stR c = R at *
    have hS40 := hok.len
    have hn4 := hC.2.1
    generalize smallA c = S at *
    have HR : Hid (stGo c S (101 - 0) 0 [[]] = R) := HR0.out
    clear hAB HR0
    go_enter Tryz.func6, Tryz.ntmps6
    go_wp2_with fail
    refine Hcall.out.mono ?_
    rintro e w1 ⟨gR, cR, rsR, rfl, hcon, hOR, hb1⟩
    have hRS : Rows2 w1 gR 0 S := by have := hOR.rows2; rw [hcon] at this; exact this
    have hgR := hOR.lt
    have HRS := Lib.hid hRS
    clear hcon hOR hRS Hcall
    go_wp2_with fail
    have hO0 := start_rows w1
    have hbx : Below w1.heap.size w1 ((w1.alloc (.cells #[] 3)).alloc (.cells #[(Value.slice (some ⟨w1.heap.size, 0, none⟩) 0 0)] 31)) := (by repeat (first | with_reducible exact Below.refl _ _ | with_reducible assumption | with_reducible refine below_drewN ?_ _ | with_reducible refine Below.drew ?_ | (with_reducible refine Below.alloc ?_ ?_ _; rotate_left; · first | (simp; done) | (simp; omega) | exact Below.size (by assumption) | (have hsz := Below.size (by assumption : Below _ _ _); simp at hsz ⊢; omega)) | (with_reducible refine Below.setCell ?_ ?_ _; rotate_left; · first | (simp; done) | (simp; omega))))
    go_loopw [6, 7] (fun ov kv wr => ∃ (k gO cO m : Nat) (rs : List RowRef) (Q : List (List Int)), kv = .int .i64 k ∧ ov = (Value.slice (some ⟨gO, 0, none⟩) m cO) ∧ k ≤ m ∧ m ≤ 100 ∧ Hid (rs.length = m) ∧ Hid (contents rs = Q) ∧ Hid (StOk S Q) ∧ Hid (stGo c S (101 - k) k Q = R) ∧ OwnRows wr w1.heap.size gO cO rs ∧ Below w1.heap.size w1 wr) (fun _ kv _ => 101 - (intOf kv).toNat)
    case atStart => exact ⟨0, _, 1, 1, [(w1.heap.size, 0, [])], [[]], rfl, rfl, by omega, by omega, rfl, rfl, StOk.start S, HR.out, hO0, hbx⟩
    case round =>
      clear hO0 hbx
      obtain ⟨k, gO, cO, m, rs, Q, rfl, rfl, hk, hm, hrl, hcon, hst, hgo, hO, hb⟩ := hrel
      by_cases hlt : k < m
      · have hkQ : k < Q.length := by rw [← hcon.out, contents_length, hrl.out]; exact hlt
        have hk100 : k ≤ 100 := by omega
        have HkQ := Lib.hid hkQ
        clear hkQ
        obtain ⟨wo, rfl⟩ : ∃ wo : World, wo = wr := ⟨_, rfl⟩
        go_wp2_with fail
        go_loopw [6, 8] (fun ov iv wi => ∃ (i gO cO m : Nat) (rs : List RowRef), iv = .int .i64 i ∧ i ≤ c.length ∧ ov = (Value.slice (some ⟨gO, 0, none⟩) m cO) ∧ k < m ∧ m ≤ 100 ∧ Hid (rs.length = m) ∧ Hid (contents rs = stRow c S Q k i) ∧ OwnRows wi w1.heap.size gO cO rs ∧ Below w1.heap.size w1 wi) (fun _ iv _ => c.length - (intOf iv).toNat)
        case atStart => exact ⟨0, gO, cO, m, rs, rfl, Nat.zero_le _, rfl, hlt, hm, hrl, hcon, hO, hb⟩
        case round =>
          clear hO hb hrl hcon hlt hm hk
          obtain ⟨i, gO, cO, m, rs, rfl, hi, rfl, hkm, hm, hrl, hcon, hO, hb⟩ := hrel
          by_cases hil : i < c.length
          · have hkr : k < rs.length := by rw [hrl.out]; exact hkm
            obtain ⟨bo, co, q1, ho⟩ := rowAt hO hkr
            rw [hcon.out, stRow_getD HkQ.out] at q1 ho
            have hstR : StOk S (stRow c S Q k i) := hst.out.row hok i (by omega)
            have hfin : FineS S.length (Q.getD k []) := hst.out.fine _ (by simp [List.getD, HkQ.out])
            have hstep : stRow c S Q k (i + 1) = stStep c S (stRow c S Q k i) k i := rfl
            unfold stStep at hstep
            rw [stRow_getD HkQ.out] at hstep
            have hB := hb1.trans (hb.mono hb1.size)
            generalize Q.getD k [] = st at *
            obtain ⟨a, ha⟩ : ∃ a, st.length = a := ⟨_, rfl⟩
            rw [ha] at q1
            have ha40 : a ≤ 40 := by have := hfin.len; omega
            have hsl := simpL_length c.length i
            have hown : ownI c S i = idxL S (simpL c.length i) := rfl
            have K1 : ∀ W, Below w.heap.size w W → Calls Tryz.prog 18 #[(Value.slice (some ⟨gc, oc, none⟩) c.length cc), .int .i64 i] W (GotInts W (simpL c.length i)) := fun W hW => spec_SimpleRoot_any gc oc _ cc i c W rfl hC hil (Hr.out.below hW hgc)
            have K2 : ∀ (W : World) (B g1 c1 : Nat), Below w1.heap.size w1 W → Own W B g1 c1 (simpL c.length i) → Calls Tryz.prog 17 #[(Value.slice (some ⟨gR, 0, none⟩) S.length cR), (Value.slice (some ⟨g1, 0, none⟩) c.length c1)] W (Reads W (.int .i64 (ownI c S i))) := fun W B g1 c1 hW ho1 => spec_IndexOf_any gR 0 _ cR g1 0 _ c1 S (simpL c.length i) W rfl hsl (by omega) (fun j hj => by rw [hok.lenAt hj]; omega) (HRS.out.below hW hgR) ho1.cells
            have K3 : ∀ (W : World), Own W w1.heap.size bo co st → Calls Tryz.prog 16 #[(Value.slice (some ⟨bo, 0, none⟩) a co), .int .i64 (ownI c S i)] W (Reads W (.bool (decide (ownI c S i ∈ st)))) := fun W ho => aut_l3Has bo 0 a co st (ownI c S i) W ha (by rw [ha]; omega) ho.cells
            generalize simpL c.length i = r0 at *
            generalize ownI c S i = ow at *
            have hlast : 100 < (stRow c S Q k (i + 1)).length → R = none := fun h => by
              rw [← hgo.out, show 101 - k = (100 - k) + 1 by omega]
              exact stGo_over' HkQ.out (by omega) h
            have Hlast := Lib.hid hlast; have Ha := Lib.hid ha; have Hsl := Lib.hid hsl; have k1 := Lib.hid K1; have k2 := Lib.hid K2; have Hstep := Lib.hid hstep; have HstR := Lib.hid hstR; have Hfin := Lib.hid hfin
            clear hlast ha hsl hown K1 K2 hstep hstR hfin
            have hX : Below wr.heap.size wr wr.drew := Below.drew (Below.refl _ _)
            have x0 : wr.drew.cell? ⟨gO, k, none⟩ = some (Value.slice (some ⟨bo, 0, none⟩) a co) := q1
            by_cases hmem : ow ∈ st
            · rw [decide_eq_true hmem] at K3
              have hst2 := Hstep.out
              rw [if_pos hmem] at hst2
              have k3 := Lib.hid K3; have Hst2 := Lib.hid hst2
              clear K3 hst2 Hstep hmem
              go_wp2_with fail
              go_region_held3 (fun W => W.cell? ⟨gO, k, none⟩ = some (Value.slice (some ⟨bo, 0, none⟩) a co))
                (first | with_reducible exact x0 | with_reducible exact keepCell hbA x0 | (obtain ⟨qq, rfl⟩ := hsD; with_reducible exact keepCell hbA x0) | exact (cell_still hsE _).trans ((cell_still hsD _).trans (keepCell hbA x0)) | exact (cell_still hsD _).trans (keepCell hbA x0))
                (first
                  | (go_at_call 18; (with_reducible refine (k1.out _ (hB.trans (hX.mono hB.size))).mono ?_); rintro e wA ⟨gA, cA, rfl, hoA, hbA⟩; rw [Hsl.out])
                  | (go_at_call 17; (with_reducible refine (k2.out _ _ gA cA (hb.trans ((hX.trans (hbA.mono hX.size)).mono hb.size)) hoA).mono ?_); rintro e wD ⟨rfl, hsD⟩)
                  | (go_at_call 16; (with_reducible refine (k3.out _ ((ho.below (hX.trans (hbA.mono hX.size)) ho.lt).still hsD)).mono ?_); rintro e wE ⟨rfl, hsE⟩))
              have hBE : Below wr.heap.size wr wE := below_still (below_still (hX.trans (hbA.mono hX.size)) hsD) hsE
              have hO2 := hO.below hBE
              have hb2 := hb.trans (hBE.mono hb.size)
              clear hX x0 hbA hsD hsE hoA hO hb hBE k1 k2 k3 ho q1 hB
              go_wp2_with fail
              go_roundw
              case rel => exact ⟨i + 1, gO, cO, m, rs, by go_num, by omega, rfl, hkm, hm, hrl, by show _ = _; rw [hcon.out, Hst2.out], hO2, hb2⟩
              case measure => simp [intOf]; omega
            · rw [decide_eq_false hmem] at K3
              have hst2 := Hstep.out
              rw [if_neg hmem] at hst2
              have k3 := Lib.hid K3; have Hst2 := Lib.hid hst2
              clear K3 hst2 Hstep hmem
              go_wp2_with fail
              go_region_held3 (fun W => W.cell? ⟨gO, k, none⟩ = some (Value.slice (some ⟨bo, 0, none⟩) a co))
                (first | with_reducible exact x0 | with_reducible exact keepCell hbA x0 | (obtain ⟨qq, rfl⟩ := hsD; with_reducible exact keepCell hbA x0) | exact (cell_still hsE _).trans ((cell_still hsD _).trans (keepCell hbA x0)) | exact (cell_still hsD _).trans (keepCell hbA x0))
                (first
                  | (go_at_call 18; (with_reducible refine (k1.out _ (hB.trans (hX.mono hB.size))).mono ?_); rintro e wA ⟨gA, cA, rfl, hoA, hbA⟩; rw [Hsl.out])
                  | (go_at_call 17; (with_reducible refine (k2.out _ _ gA cA (hb.trans ((hX.trans (hbA.mono hX.size)).mono hb.size)) hoA).mono ?_); rintro e wD ⟨rfl, hsD⟩)
                  | (go_at_call 16; (with_reducible refine (k3.out _ ((ho.below (hX.trans (hbA.mono hX.size)) ho.lt).still hsD)).mono ?_); rintro e wE ⟨rfl, hsE⟩))
              have hBE : Below wr.heap.size wr wE := below_still (below_still (hX.trans (hbA.mono hX.size)) hsD) hsE
              have hO2 := hO.below hBE
              have hb2 := hb.trans (hBE.mono hb.size)
              have hB2 := hB.trans (hBE.mono hB.size)
              have ho2 := ho.below hBE ho.lt
              have q2 := (hBE.cell (p := ⟨gO, k, none⟩) hO.lt).trans q1
              have hgR2 := Nat.lt_of_lt_of_le hgR hb2.size
              clear hX x0 hbA hsD hsE hoA hO hb hBE k1 k2 k3 ho q1 hB
              have hnx := spec_l32Next_any gc oc _ cc gR 0 _ cR bo 0 a co i c S st wE rfl rfl Ha.out hC hok Hfin.out hil (Nat.lt_of_lt_of_le hgc hB2.size) hgR2 ho2.lt (Hr.out.below hB2 hgc) (HRS.out.below hb2 hgR) ho2.cells
              have hfn : FineS S.length (nextL c S i st) := nextL_fine (hok.simp' i hil)
              have Hnx := Lib.hid hnx; have Hfn := Lib.hid hfn
              clear hnx hfn
              generalize nextL c S i st = s at *
              go_wp2_with fail
              refine Hnx.out.mono ?_
              rintro e w5 ⟨g5, c5, rfl, ho5, hb5⟩
              obtain ⟨b, hbl⟩ : ∃ b, s.length = b := ⟨_, rfl⟩
              rw [hbl]
              have hb40 : b ≤ 40 := by have := Hfn.out.len; omega
              have hO5 := hO2.below hb5
              have hB5 := hb2.trans (hb5.mono hb2.size)
              have hne : ∀ r ∈ rs, r.1 ≠ g5 := fun r hr e => by
                have h1 := (hO2.2.1 r hr).lt
                have h2 := ho5.base
                omega
              have hin := spec_l7In_any gO 0 m cO g5 0 b c5 (contents rs) s w5 (by rw [contents_length]; exact hrl.out) hbl (by rw [contents_length, hrl.out]; omega) (fun j hj => by
                have h1 : (contents rs).getD j [] ∈ contents rs := by simp [List.getD, hj]
                rw [hcon.out] at h1 ⊢
                have := (HstR.out.fine _ h1).len
                omega) hO5.rows2 ho5.cells
              rw [hcon.out] at hin
              have ho55 := ho5.mono hb2.size
              have Hbl := Lib.hid hbl; have Hne := Lib.hid hne
              clear hbl hne hO2 hb2 hB2 ho2 q2 hb5 ho5 Hnx
              by_cases hmem2 : s ∈ stRow c S Q k i
              · have hst3 := Hst2.out
                rw [if_pos hmem2] at hst3
                rw [decide_eq_true hmem2] at hin
                have Hin := Lib.hid hin; have Hst3 := Lib.hid hst3
                clear hin hst3 hmem2
                go_wp2_with fail
                refine Hin.out.mono ?_
                rintro e w6 ⟨rfl, hs6⟩
                have hO6 := hO5.still hs6
                have hB6 := below_still hB5 hs6
                clear hs6 hO5 hB5 ho55
                go_wp2_with fail
                go_roundw
                case rel => exact ⟨i + 1, gO, cO, m, rs, by go_num, by omega, rfl, hkm, hm, hrl, by show _ = _; rw [hcon.out, Hst3.out], hO6, hB6⟩
                case measure => simp [intOf]; omega
              · have hst3 := Hst2.out
                rw [if_neg hmem2] at hst3
                rw [decide_eq_false hmem2] at hin
                have Hin := Lib.hid hin; have Hst3 := Lib.hid hst3
                have hlen : (stRow c S Q k i).length = m := by rw [← hcon.out, contents_length]; exact hrl.out
                have hlen2 : (stRow c S Q k (i + 1)).length = m + 1 := by rw [hst3, List.length_append, hlen]; rfl
                have Hlen2 := Lib.hid hlen2
                clear hin hst3 hmem2 hlen hlen2
                by_cases hm100 : m = 100
                · have hv := Hlast.out (by rw [Hlen2.out]; omega)
                  have Hv := Lib.hid hv
                  have hmI : (100 : Int) ≤ (m : Int) := by omega
                  clear hv hm100
                  go_wp2_with fail
                  refine Hin.out.mono ?_
                  rintro e w6 ⟨rfl, hs6⟩
                  have hB6 := hb1.trans ((below_still hB5 hs6).mono hb1.size)
                  clear hs6 hB5
                  go_wp2_with fail
                  go_ret2
                  exact GotRowsB.none Hv.out (GotRowsB.nil hB6)
                · have hmI : (m : Int) < 100 := by omega
                  go_wp2_with fail
                  refine Hin.out.mono ?_
                  rintro e w6 ⟨rfl, hs6⟩
                  have hO6 := hO5.still hs6
                  have hB6 := below_still hB5 hs6
                  have ho6 := ho55.still hs6
                  clear hs6 hO5 hB5 ho55
                  go_wp2_with (at_builtin; refine wpList_append_row (w := w6) rfl _ _ rfl w1.heap.size gO cO m w6.heap.size rs (g5, c5, s) _ hrl.out (by unfold rowVal; rw [Hbl.out]) rfl hO6 ho6 Hne.out rfl rfl (by omega) ?_)
                  intro g7 c7 w7 hO7 hg7 hor7
                  have hB7 : Below w1.heap.size w1 w7 := hB6.grown hg7 hB6.size (by intro t ht; cases ht; exact hO6.base)
                  clear hO6 hB6 ho6 hg7
                  go_wp2_with fail
                  go_roundw
                  case rel => exact ⟨i + 1, g7, c7, m + 1, rs ++ [(g5, c5, s)], by go_num, by omega, rfl, by omega, by omega, by show _ = _; rw [List.length_append, hrl.out]; rfl, by show _ = _; rw [Hst3.out, ← hcon.out]; simp [contents], hO7, hB7⟩
                  case measure => simp [intOf]; omega
          · obtain rfl : i = c.length := by omega
            have hrow : (stRow c S Q k c.length).length = m := by rw [← hcon.out, contents_length]; exact hrl.out
            have hgo2 : stGo c S (101 - (k + 1)) (k + 1) (stRow c S Q k c.length) = R := by
              rw [← hgo.out, show 101 - k = (101 - (k + 1)) + 1 by omega]
              exact (stGo_next HkQ.out (by rw [hrow]; exact hm)).symm
            have hst2 := hst.out.row hok (k := k) c.length (Nat.le_refl _)
            have Hgo2 := Lib.hid hgo2; have Hst2 := Lib.hid hst2
            clear hrow hgo2 hst2
            go_wp2_with fail
            go_roundw
            case rel => exact ⟨k + 1, gO, cO, m, rs, stRow c S Q k c.length, by go_num, rfl, by omega, hm, hrl, hcon, Hst2.out, Hgo2.out, hO, hb⟩
            case measure => simp [intOf]; omega
      · obtain rfl : k = m := by omega
        have hv : R = some Q := by rw [← hgo.out]; exact stGo_done (by rw [← hcon.out, contents_length, hrl.out]; exact Nat.le_refl _)
        have Hv := Lib.hid hv
        clear hv hgo hst
        go_wp2_with fail
        go_ret2
        exact GotRowsB.some' Hv.out (GotRowsB.mk' gO cO rs hrl.out hcon.out (hO.mono hb1.size) (hb1.trans (hb.mono hb1.size)))
end Go.Proofs.YtmplcohpinghbaaGreatDoor
