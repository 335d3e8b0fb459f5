/- The program's DemazureStep: contract. -/
import Derived.Test.YtihfbbpkgmkbcaaG32
import Derived.Test.YtihfbbpkgmkbcaaG43
namespace Go.Proofs.Ytihfbbpkgmkbcaa
set_option maxRecDepth 100000
open Go.RowKit Game

theorem shift_set (V R : List Int) (K : Int) (n j : Nat) (hV : V.length = n) (hj : j < n) : (shiftTo V R K j ++ V.drop j).set j (V.getD j 0 + K * R.getD j 0) = shiftTo V R K (j + 1) ++ V.drop (j + 1) := by
  have e : V.drop j = V[j] :: V.drop (j + 1) := List.drop_eq_getElem_cons (by omega)
  rw [List.set_append_right _ _ (by rw [shiftTo_length]; omega), shiftTo_length, Nat.sub_self, e, List.set_cons_zero, shiftTo_succ, List.append_assoc]
  rfl
theorem shift_at (V R : List Int) (K : Int) (n j : Nat) (hV : V.length = n) (hj : j < n) : (shiftTo V R K j ++ V.drop j).getD j 0 = V.getD j 0 ∧ (shiftTo V R K j ++ V.drop j).length = n := by
  refine ⟨?_, by rw [List.length_append, shiftTo_length, List.length_drop]; omega⟩
  have h1 : (shiftTo V R K j).length ≤ j := by rw [shiftTo_length]; exact Nat.le_refl _
  simp only [List.getD, List.getElem?_append_right h1, shiftTo_length, Nat.sub_self, List.getElem?_drop, Nat.add_zero]
/-- while the list is put together: beside the box of the element -/
structure InSt (n N : Nat) (w3 : World) (bb gj oj cj : Nat) (L : List Wt) (wr : World) (gO cO : Nat) (rs : List WRef) : Prop where
  cont : contW rs = L
  ok : PutOk n N L
  own : OwnW wr w3.heap.size gO cO rs
  bel : Below w3.heap.size w3 wr
  bl : bb < wr.heap.size
  nO : gO ≠ bb
  b1 : wr.cell? ⟨bb, 0, none⟩ = some (Value.slice (some ⟨gj, oj, none⟩) n cj)
theorem InSt.step {n N : Nat} {w3 : World} {bb gj oj cj : Nat} {L : List Wt} {wr W : World} {gO cO : Nat} {rs : List WRef} (h : InSt n N w3 bb gj oj cj L wr gO cO rs) (hb : Below wr.heap.size wr W) : InSt n N w3 bb gj oj cj L W gO cO rs :=
  ⟨h.cont, h.ok, h.own.below hb, h.bel.trans (hb.mono h.bel.size), Nat.lt_of_lt_of_le h.bl hb.size, h.nO, (hb.cell (p := ⟨bb, 0, none⟩) h.bl).trans h.b1⟩
theorem InSt.push {n N : Nat} {w3 : World} {bb gj oj cj : Nat} {L : List Wt} {W w' : World} {gO cO gv cv g' c' : Nat} {rs : List WRef} {Y : List Int} {z : Int} (h : InSt n N w3 bb gj oj cj L W gO cO rs)
    (ho : OwnW w' w3.heap.size g' c' (rs ++ [((gv, cv, Y), z)])) (hg : W.grownBy w' (some gO)) (hor : g' = gO ∨ W.heap.size < g') (hY : Y.length = n) (hz : -1000 ≤ z ∧ z ≤ 1000) : InSt n (N + 1) w3 bb gj oj cj (L ++ [(Y, z)]) w' g' c' (rs ++ [((gv, cv, Y), z)]) :=
  ⟨by rw [← h.cont]; simp [contW], h.ok.snoc hY hz, ho, h.bel.grown hg h.bel.size (by intro j hj; cases hj; exact h.own.base), Nat.lt_of_lt_of_le h.bl hg.size, by
    rcases hor with e | e
    · rw [e]; exact h.nO
    · have := h.bl; omega, hg.cell (a := ⟨bb, 0, none⟩) h.b1 (fun e => h.nO (Option.some.inj e).symm)⟩
structure ListSt (n N : Nat) (w3 : World) (L : List Wt) (wr : World) (gO cO : Nat) (rs : List WRef) : Prop where
  cont : contW rs = L
  ok : PutOk n N L
  own : OwnW wr w3.heap.size gO cO rs
  bel : Below w3.heap.size w3 wr
theorem ListSt.box {n N : Nat} {w3 : World} {L : List Wt} {wr W : World} {gO cO gj oj cj q : Nat} {C : Int} {rs : List WRef} (h : ListSt n N w3 L wr gO cO rs) (hW : W = (wr.alloc (.cells #[(Value.slice (some ⟨gj, oj, none⟩) n cj), .int .i64 C] 48)).drewN q) : InSt n N w3 wr.heap.size gj oj cj L W gO cO rs := by
  subst hW
  have hB : Below wr.heap.size wr ((wr.alloc (.cells #[(Value.slice (some ⟨gj, oj, none⟩) n cj), .int .i64 C] 48)).drewN q) := below_drewN ((Below.refl _ _).alloc (Nat.le_refl _) _) q
  refine ⟨h.cont, h.ok, h.own.below hB, h.bel.trans (hB.mono h.bel.size), by simp, by have := h.own.lt; omega, ?_⟩
  show (wr.alloc _).cell? _ = _
  simp [World.cell?_alloc_new]
theorem InSt.list {n N : Nat} {w3 : World} {bb gj oj cj : Nat} {L : List Wt} {wr : World} {gO cO : Nat} {rs : List WRef} (h : InSt n N w3 bb gj oj cj L wr gO cO rs) : ListSt n N w3 L wr gO cO rs := ⟨h.cont, h.ok, h.own, h.bel⟩
theorem demQ_ok {r : List Int} {i n : Nat} {l : List Wt} (h : ∀ x ∈ l, okW n x) : PutOk n (l.length * 21) (demQ r i l) := (demP_ok h).perm (demQ_perm r i l)
theorem PutOk.few' {n N : Nat} {l : List Wt} (h : PutOk n N l) (hN : N ≤ 1000000) (hn : n ≤ 1048576) : wFew l ∧ l.length ≤ 1000000 ∧ CtW 1000000000000 l :=
  ⟨⟨by have := h.few; omega, fun j hj => by have := h.len (l.getD j ([], 0)) (by simp [List.getD, hj]); unfold wOf; omega⟩, by have := h.few; omega, h.ct.mono (by omega)⟩

set_option maxHeartbeats 2000000 in
theorem impl_DemazureStep_ok (gc oc n cc g o m cp : Nat) (i : Int) (c : List (List Int)) (l : List Wt) (w : World) (hn : c.length = n) (hm : l.length = m) (hx : c.length ≤ 1048576) (hrl : ∀ j, j < c.length → (c.getD j []).length ≤ 1048576) (hf : wFew l)
    (hgc : gc < w.heap.size) (hg : g < w.heap.size) (hr : Rows2 w gc oc c) (hl : WRows w g o l) :
    Calls Try.prog 11 #[(Value.slice (some ⟨gc, oc, none⟩) n cc), .int .i64 i, (Value.slice (some ⟨g, o, none⟩) m cp)] w (GotWB w (demL c i l) (demB c i l)) := by
  subst hn; subst hm
  have hf1 := hf.1
  have hcart := impl_IsCartan gc oc _ cc c w rfl (by omega) (fun j hj => by have := hrl j hj; omega) hr
  have hpt := fun W => impl_isPoint_any gc oc c.length cc i W
  by_cases hC : IsC c
  · rw [decide_eq_true hC] at hcart
    have Hcart := Lib.hid hcart
    clear hcart
    by_cases h2 : 0 ≤ i ∧ i < c.length
    · have Hpt : Hid (∀ W, Calls Try.prog 34 #[(Value.slice (some ⟨gc, oc, none⟩) c.length cc), .int .i64 i] W (Reads W (.bool true))) := fun W => by
        have := hpt W
        rwa [decide_eq_true h2.1, decide_eq_true h2.2] at this
      clear hpt
      have Hgood := Lib.hid (fun W (hs : ∃ n, W = w.drewN n) => impl_goodCharacter_ok gc oc c.length cc g o _ cp l W rfl hf (by obtain ⟨q, rfl⟩ := hs; exact hg) (by obtain ⟨q, rfl⟩ := hs; exact hl))
      by_cases h3 : goodL c.length l
      · rw [decide_eq_true h3] at Hgood
        have hok : demOk c i l := ⟨hC, h2, h3⟩
        obtain ⟨iN, rfl⟩ := Int.eq_ofNat_of_zero_le h2.1
        rw [(demL_yes hok).1, (demL_yes hok).2, show ((iN : Int)).toNat = iN by omega]
        have hn4 := hC.2.1
        have hin : iN < c.length := by omega
        have Hent := Lib.hid (fun k (hk : k < c.length) => ent_small hC hk hin)
        have HR := Lib.hid (fun W (hW : Below w.heap.size w W) => impl_column_ok gc oc _ cc iN (iN : Int) c W rfl rfl hC hin (Nat.lt_of_lt_of_le hgc hW.size) (hr.below hW hgc))
        have Hl := Lib.hid hl
        have HG := Lib.hid h3
        have hl200 : l.length ≤ 200 := h3.1
        clear h2 h3 hok hC hl hr hrl hf hx
        generalize hn : c.length = n at *
        have Hcl : Hid ((colL c iN).length = n) := by rw [colL_length]; exact hn
        have HcD : Hid (∀ j, j < n → -1000 ≤ (colL c iN).getD j 0 ∧ (colL c iN).getD j 0 ≤ 1000) := fun j hj => by rw [colL_getD c iN (by omega)]; exact Hent.out j hj
        clear hn Hent
        generalize colL c iN = R at *
        go_enter Try.func11, Try.ntmps11
        go_wp2_with fail
        refine Hcart.out.mono ?_
        rintro e w1 ⟨rfl, hs1⟩
        clear Hcart
        go_wp2_with fail
        refine (Hpt.out _).mono ?_
        rintro e w2 ⟨rfl, hs2⟩
        have hs := still_trans hs1 hs2
        clear hs1 hs2 Hpt
        have Hgd := Lib.hid (Hgood.out w2 hs)
        clear Hgood
        go_wp2_with fail
        refine Hgd.out.mono ?_
        rintro e w4 ⟨rfl, hb4⟩
        have hb5 := (below_still (Below.refl w.heap.size w) hs).trans (hb4.mono (below_still (Below.refl w.heap.size w) hs).size)
        clear hs hb4 Hgd
        go_wp2_with fail
        refine (HR.out _ hb5).mono ?_
        rintro e w3 ⟨gr, cr, rfl, hor, hb3⟩
        rw [Hcl.out]
        have hb3' := hb5.trans (hb3.mono hb5.size)
        have hor' := Lib.hid (hor.mono hb5.size)
        clear HR hb3 hor hb5
        go_wp2_with fail
        go_loopw [9, 11, 12, 13, 14, 15, 16, 17, 18, 41] (fun ov _ _ _ _ _ _ _ _ kv wr => ∃ (k gO cO p : Nat) (rs : List WRef), k ≤ l.length ∧ kv = .int .i64 k ∧ ov = (Value.slice (some ⟨gO, 0, none⟩) p cO) ∧ Hid (rs.length = p) ∧ Hid (ListSt n (k * 21) w3 (demQ R iN (l.take k)) wr gO cO rs)) (fun _ _ _ _ _ _ _ _ _ kv _ => l.length - (intOf kv).toNat)
        case atStart => exact ⟨0, w3.heap.size, 0, 0, [], Nat.zero_le _, rfl, rfl, rfl, Lib.hid ⟨rfl, ⟨by simp [demQ], by intro x hx; simp [demQ] at hx, by intro x hx; simp [demQ] at hx⟩, OwnW.empty (Nat.le_refl _), (Below.refl _ _).alloc (Nat.le_refl _) _⟩⟩
        case round =>
          obtain ⟨k, gO, cO, p, rs, hk, rfl, rfl, hp, hS⟩ := hrel
          by_cases hlt : k < l.length
          · obtain ⟨gj, oj, cj, q1, q2, q3, q4, q5⟩ := Hl.out.below hb3' hg k hlt
            have hxk := HG.out.2 k hlt
            have htk := Lib.hid (demQ_take_succ (r := R) (i := iN) hlt)
            have e1 : wOf l k = (l.getD k ([], 0)).1 := rfl
            have e2 : ctOf l k = (l.getD k ([], 0)).2 := rfl
            rw [e1] at q1 q3 q5
            rw [e2] at q2
            clear e1 e2
            generalize l.getD k ([], 0) = x at *
            have hlen : x.1.length = n := hxk.1
            have hct := hxk.2.1
            have hVi := hxk.2.2 iN (by rw [hlen]; exact hin)
            have HV := Lib.hid hxk.2.2
            have p1 := q5 iN (by rw [hlen]; exact hin)
            rw [hlen] at q1 q3
            have hg3 : g < w3.heap.size := Nat.lt_of_lt_of_le hg hb3'.size
            have HD := Lib.hid (fun t => riseT_succ R iN x t)
            have HU := Lib.hid (fun t => upT_succ R x t)
            have Hneg := Lib.hid (demU_up R (i := iN) (x := x))
            have Hpos := Lib.hid (demU_down R (i := iN) (x := x))
            have hnd : (nDown iN x : Int) = max (x.1.getD iN 0 + 1) 0 := by unfold nDown; omega
            have hnu : (nUp iN x : Int) = max (-(x.1.getD iN 0) - 1) 0 := by unfold nUp; omega
            have HD0 : Hid (riseT R iN x 0 = []) := rfl
            have HU0 : Hid (upT R x 0 = []) := rfl
            have hND : nDown iN x ≤ 21 := by omega
            have hNU : nUp iN x ≤ 21 := by omega
            have Hnd := Lib.hid hnd; have Hnu := Lib.hid hnu
            clear hnd hnu
            have Hlen := Lib.hid hlen
            clear hxk hlen
            generalize x.1.getD iN 0 = vi at *
            generalize nDown iN x = ND at *
            generalize nUp iN x = NU at *
            generalize riseT R iN x = dT at *
            generalize upT R x = uT at *
            generalize demU R iN x = tT at *
            generalize hPP : demQ R iN (l.take (k + 1)) = PP at *
            have HPP := Lib.hid hPP; clear hPP
            generalize demQ R iN (l.take k) = P0 at *
            obtain ⟨V, C⟩ := x
            have hct' : -1000 ≤ C ∧ C ≤ 1000 := hct
            have HD' : Hid (∀ t : Nat, dT (t + 1) = dT t ++ [(shiftL V R (-vi + (t : Int)), C)]) := HD
            have HU' : Hid (∀ t : Nat, uT (t + 1) = uT t ++ [(shiftL V R ((t : Int) + 1), -C)]) := HU
            have HV' : Hid (∀ j, j < V.length → -20 ≤ V.getD j 0 ∧ V.getD j 0 ≤ 20) := HV
            have Hlen' : Hid (V.length = n) := Hlen
            have q5' : Hid (Cells w3 gj oj V) := q5
            have c1 : wr.cell? ⟨g, o + k * 2, none⟩ = some (Value.slice (some ⟨gj, oj, none⟩) n cj) := (hS.out.bel.cell (p := ⟨g, o + k * 2, none⟩) hg3).trans q1
            have c2 : wr.cell? ⟨g, o + k * 2 + 1, none⟩ = some (.int .i64 C) := (hS.out.bel.cell (p := ⟨g, o + k * 2 + 1, none⟩) hg3).trans q2
            have c3 : wr.cell? ⟨gj, oj + iN, none⟩ = some (.int .i64 vi) := (hS.out.bel.cell (p := ⟨gj, oj + iN, none⟩) q4).trans p1
            have HB := Lib.hid (fun W q (hW : W = (wr.alloc (.cells #[(Value.slice (some ⟨gj, oj, none⟩) n cj), .int .i64 C] 48)).drewN q) => hS.out.box hW)
            have c4 : ∀ ob, (wr.alloc ob).cell? ⟨gj, oj + iN, none⟩ = some (.int .i64 vi) := fun ob => (World.cell?_alloc_old (w := wr) (o := ob) (a := ⟨gj, oj + iN, none⟩) (by have := Nat.lt_of_lt_of_le q4 hS.out.bel.size; show gj ≠ _; omega)).trans c3
            have hwv : IntKind.i64.wrap (-vi) = -vi := IntWalk.i64_in _ ⟨by omega, by omega⟩
            have hwc : IntKind.i64.wrap (-C) = -C := IntWalk.i64_in _ ⟨by omega, by omega⟩
            have hwv2 : IntKind.i64.wrap (-vi - 1) = -vi - 1 := IntWalk.i64_in _ ⟨by omega, by omega⟩
            clear HD HU HV Hlen q1 q2 hct p1 q3 q5 hS
            obtain ⟨bb, hbb⟩ : ∃ bb, wr.heap.size = bb := ⟨_, rfl⟩
            rw [hbb] at HB
            by_cases hneg : vi < 0
            · have hTT := Hneg.out hneg
              rw [hTT] at htk
              clear hTT Hneg Hpos Hnd HD' HD0
              have hNUe : (NU : Int) = -vi - 1 := by have := Hnu.out; omega
              have HNU := Lib.hid hNUe
              clear hNUe Hnu
              go_wp2_with fail
              go_quiet (fail)
              go_wp2_with fail
              go_quiet (fail)
              go_wp2_with fail
              generalize hW6 : ((wr.alloc (.cells #[(Value.slice (some ⟨gj, oj, none⟩) n cj), .int .i64 C] 48)).drewN _).drewN _ = W6 at *
              have hI := Lib.hid (HB.out W6 _ (by rw [← hW6, World.drewN_drewN]))
              clear HB c1 c2 c3 c4 hW6
              go_loopw [9, 16, 17, 18] (fun ov kv _ _ wr => ∃ (t gO cO p : Nat) (rs : List WRef), t ≤ NU ∧ kv = .int .i64 (1 + (t : Int)) ∧ ov = (Value.slice (some ⟨gO, 0, none⟩) p cO) ∧ Hid (rs.length = p) ∧ Hid (InSt n (k * 21 + t) w3 bb gj oj cj (P0 ++ uT t) wr gO cO rs)) (fun _ kv _ _ _ => NU - (intOf kv - (1)).toNat)
              case atStart => exact ⟨0, gO, cO, p, rs, Nat.zero_le _, by go_num, rfl, hp, by rw [HU0.out, List.append_nil]; exact hI⟩
              case round =>
                clear hI hp
                obtain ⟨t, gO, cO, p, rs, ht, rfl, rfl, hp, hS⟩ := hrel
                rename World => wo
                have b1 : ∀ ob, (wo.alloc ob).cell? ⟨bb, 0, none⟩ = some (Value.slice (some ⟨gj, oj, none⟩) n cj) := fun ob => (World.cell?_alloc_old (w := wo) (o := ob) (a := ⟨bb, 0, none⟩) (by have := hS.out.bl; show bb ≠ _; omega)).trans hS.out.b1
                by_cases hlt2 : t < NU
                · have hz : 1 + (t : Int) ≤ -vi - 1 := by have := HNU.out; omega
                  have hdd := Lib.hid (HU'.out t)
                  have hpb : p ≤ 5000 := by
                    have h1 := hS.out.ok.few
                    have h2 := congrArg List.length hS.out.cont
                    rw [contW_length, hp.out] at h2
                    omega
                  have q5w := q5'.out.below hS.out.bel q4
                  have hgw : gj < wo.heap.size := Nat.lt_of_lt_of_le q4 hS.out.bel.size
                  obtain ⟨K, hK⟩ : ∃ K : Int, 1 + (t : Int) = K := ⟨_, rfl⟩
                  have hKb : -1000 ≤ K ∧ K ≤ 1000 := by omega
                  have Hmul := Lib.hid (fun j hj => mul_bound hKb (HcD.out j hj))
                  have HR3 := Lib.hid (fun W (hW : Below wo.heap.size wo W) => hor'.out.below (hS.out.bel.trans (hW.mono hS.out.bel.size)) hor'.out.lt)
                  have HK := Lib.hid hK
                  rw [hK] at hz
                  rw [hK]
                  have hdd2 : Hid (uT (t + 1) = uT t ++ [(shiftL V R K, -C)]) := Lib.hid (by rw [hdd.out, ← hK, Int.add_comm 1])
                  clear hK hdd
                  go_wp2_with (at_builtin; refine wpList_clone (w := wo) rfl _ _ rfl gj oj n cj V Hlen'.out hgw q5w rfl rfl (by rw [Hlen'.out]; omega) ?_)
                  intro gv cv wc hov hbc
                  clear q5w b1
                  go_wp2_with fail
                  go_loopw [18, 74] (fun _ jv wr => ∃ j : Nat, j ≤ n ∧ jv = .int .i64 j ∧ Own wr wo.heap.size gv cv (shiftTo V R K j ++ V.drop j) ∧ Below wo.heap.size wo wr) (fun _ jv _ => n - (intOf jv).toNat)
                  case atStart => exact ⟨0, Nat.zero_le _, rfl, hov, hbc⟩
                  case round =>
                    clear hov hbc
                    obtain ⟨j, hj, rfl, hov, hbc⟩ := hrel
                    by_cases hlt3 : j < n
                    · obtain ⟨s1, s2⟩ := shift_at V R K n j Hlen'.out hlt3
                      have d1 := hov.cell j (by rw [s2]; exact hlt3)
                      rw [s1] at d1
                      have d2 := (HR3.out wr hbc).cell j (by rw [Hcl.out]; exact hlt3)
                      have d3 := hov.frozen j
                      have hs := hov.set j (V.getD j 0 + K * R.getD j 0)
                      rw [shift_set V R K n j Hlen'.out hlt3] at hs
                      have m1 := Hmul.out j hlt3
                      have m2 := HV'.out j (by rw [Hlen'.out]; exact hlt3)
                      have hs1 := Lib.hid hs.1
                      have hs2 := Lib.hid (hbc.grown hs.2 hbc.size (by intro q hq; cases hq; exact hov.base))
                      clear hs s1 s2 hov hbc
                      generalize V.getD j 0 = Vj at *
                      generalize R.getD j 0 = Rj at *
                      have hw1 : IntKind.i64.wrap (K * Rj) = K * Rj := IntWalk.i64_in _ ⟨by omega, by omega⟩
                      have hw2 : IntKind.i64.wrap (Vj + K * Rj) = Vj + K * Rj := IntWalk.i64_in _ ⟨by omega, by omega⟩
                      go_wp2_with fail
                      go_region
                      go_wp2_with fail
                      go_roundw
                      case rel => exact ⟨j + 1, by omega, by go_num, hs1.out, Below.drew hs2.out⟩
                      case measure => simp [intOf]; omega
                    · obtain rfl : n = j := by omega
                      have hS3 := hS.out.step hbc
                      have hE : shiftTo V R K n ++ V.drop n = shiftL V R K := by
                        rw [List.drop_of_length_le (by have := Hlen'.out; omega), List.append_nil]
                        have := Hlen'.out
                        unfold shiftL; rw [this]; rfl
                      rw [hE] at hov
                      have hYl : (shiftL V R K).length = n := by rw [shiftL_length]; exact Hlen'.out
                      have HYl := Lib.hid hYl
                      have hov' : Own wr w3.heap.size gv cv (shiftL V R K) := hov.mono hS.out.bel.size
                      have hnev : ∀ s ∈ rs, s.1.1 ≠ gv := fun s hs e => by
                        have h1 := (hS.out.own.ofMem hs).lt
                        have h2 := hov.base
                        omega
                      clear hE hov hYl hS
                      go_wp2_with (at_builtin; refine wpList_append_wt (w := wr) rfl _ _ rfl w3.heap.size gO cO p wr.heap.size gv cv n rs (shiftL V R K) (-C) _ hp.out HYl.out rfl rfl hS3.own hov' hnev rfl rfl (by omega) ?_)
                      intro g9 c9 w9 ho9 hg9 hor9
                      have hS9 := hS3.push ho9 hg9 hor9 HYl.out ⟨by omega, by omega⟩
                      rw [List.append_assoc, ← hdd2.out] at hS9
                      have HS9 := Lib.hid hS9
                      clear hS9 hS3 ho9 hg9 hor9 hnev hov'
                      go_wp2_with fail
                      go_roundw
                      case rel => exact ⟨t + 1, g9, c9, p + 1, _, by omega, by have := HK.out; simp only [Value.int.injEq, true_and]; omega, rfl, by show _ = _; rw [List.length_append, hp.out]; rfl, HS9⟩
                      case measure => have := HK.out; simp [intOf]; omega
                · obtain rfl : t = NU := by omega
                  have hz : ¬ 1 + (t : Int) ≤ -vi - 1 := by have := HNU.out; omega
                  have hS9 : Hid (ListSt n ((k + 1) * 21) w3 PP wo gO cO rs) := Lib.hid (by
                    have h := hS.out.list
                    rw [← htk.out] at h
                    exact ⟨h.cont, h.ok.mono (by omega), h.own, h.bel⟩)
                  clear hS b1
                  go_wp2_with fail
                  go_roundw
                  case rel => exact ⟨k + 1, gO, cO, p, rs, by omega, by go_num, rfl, hp, by rw [HPP.out]; exact hS9⟩
                  case measure => simp [intOf]; omega
            · have hTT := Hpos.out (by omega)
              rw [hTT] at htk
              clear hTT Hneg Hpos Hnu HU' HU0
              have hNDe : (ND : Int) = vi + 1 := by have := Hnd.out; omega
              have HND := Lib.hid hNDe
              clear hNDe Hnd
              go_wp2_with fail
              go_quiet (fail)
              go_wp2_with fail
              skip
              generalize hW6 : (wr.alloc (.cells #[(Value.slice (some ⟨gj, oj, none⟩) n cj), .int .i64 C] 48)).drewN _ = W6 at *
              have hI := Lib.hid (HB.out W6 _ hW6.symm)
              clear HB c1 c2 c3 c4 hW6
              go_loopw [9, 16, 17, 18] (fun ov kv _ _ wr => ∃ (t gO cO p : Nat) (rs : List WRef), t ≤ ND ∧ kv = .int .i64 (-vi + (t : Int)) ∧ ov = (Value.slice (some ⟨gO, 0, none⟩) p cO) ∧ Hid (rs.length = p) ∧ Hid (InSt n (k * 21 + t) w3 bb gj oj cj (P0 ++ dT t) wr gO cO rs)) (fun _ kv _ _ _ => ND - (intOf kv - (-vi)).toNat)
              case atStart => exact ⟨0, gO, cO, p, rs, Nat.zero_le _, by go_num, rfl, hp, by rw [HD0.out, List.append_nil]; exact hI⟩
              case round =>
                clear hI hp
                obtain ⟨t, gO, cO, p, rs, ht, rfl, rfl, hp, hS⟩ := hrel
                rename World => wo
                have b1 : ∀ ob, (wo.alloc ob).cell? ⟨bb, 0, none⟩ = some (Value.slice (some ⟨gj, oj, none⟩) n cj) := fun ob => (World.cell?_alloc_old (w := wo) (o := ob) (a := ⟨bb, 0, none⟩) (by have := hS.out.bl; show bb ≠ _; omega)).trans hS.out.b1
                by_cases hlt2 : t < ND
                · have hz : -vi + (t : Int) ≤ 0 := by have := HND.out; omega
                  have hdd := Lib.hid (HD'.out t)
                  have hpb : p ≤ 5000 := by
                    have h1 := hS.out.ok.few
                    have h2 := congrArg List.length hS.out.cont
                    rw [contW_length, hp.out] at h2
                    omega
                  have q5w := q5'.out.below hS.out.bel q4
                  have hgw : gj < wo.heap.size := Nat.lt_of_lt_of_le q4 hS.out.bel.size
                  obtain ⟨K, hK⟩ : ∃ K : Int, -vi + (t : Int) = K := ⟨_, rfl⟩
                  have hKb : -1000 ≤ K ∧ K ≤ 1000 := by omega
                  have Hmul := Lib.hid (fun j hj => mul_bound hKb (HcD.out j hj))
                  have HR3 := Lib.hid (fun W (hW : Below wo.heap.size wo W) => hor'.out.below (hS.out.bel.trans (hW.mono hS.out.bel.size)) hor'.out.lt)
                  have HK := Lib.hid hK
                  rw [hK] at hz
                  rw [hK]
                  have hdd2 : Hid (dT (t + 1) = dT t ++ [(shiftL V R K, C)]) := Lib.hid (by rw [hdd.out, ← hK])
                  clear hK hdd
                  go_wp2_with (at_builtin; refine wpList_clone (w := wo) rfl _ _ rfl gj oj n cj V Hlen'.out hgw q5w rfl rfl (by rw [Hlen'.out]; omega) ?_)
                  intro gv cv wc hov hbc
                  clear q5w b1
                  go_wp2_with fail
                  go_loopw [18, 74] (fun _ jv wr => ∃ j : Nat, j ≤ n ∧ jv = .int .i64 j ∧ Own wr wo.heap.size gv cv (shiftTo V R K j ++ V.drop j) ∧ Below wo.heap.size wo wr) (fun _ jv _ => n - (intOf jv).toNat)
                  case atStart => exact ⟨0, Nat.zero_le _, rfl, hov, hbc⟩
                  case round =>
                    clear hov hbc
                    obtain ⟨j, hj, rfl, hov, hbc⟩ := hrel
                    by_cases hlt3 : j < n
                    · obtain ⟨s1, s2⟩ := shift_at V R K n j Hlen'.out hlt3
                      have d1 := hov.cell j (by rw [s2]; exact hlt3)
                      rw [s1] at d1
                      have d2 := (HR3.out wr hbc).cell j (by rw [Hcl.out]; exact hlt3)
                      have d3 := hov.frozen j
                      have hs := hov.set j (V.getD j 0 + K * R.getD j 0)
                      rw [shift_set V R K n j Hlen'.out hlt3] at hs
                      have m1 := Hmul.out j hlt3
                      have m2 := HV'.out j (by rw [Hlen'.out]; exact hlt3)
                      have hs1 := Lib.hid hs.1
                      have hs2 := Lib.hid (hbc.grown hs.2 hbc.size (by intro q hq; cases hq; exact hov.base))
                      clear hs s1 s2 hov hbc
                      generalize V.getD j 0 = Vj at *
                      generalize R.getD j 0 = Rj at *
                      have hw1 : IntKind.i64.wrap (K * Rj) = K * Rj := IntWalk.i64_in _ ⟨by omega, by omega⟩
                      have hw2 : IntKind.i64.wrap (Vj + K * Rj) = Vj + K * Rj := IntWalk.i64_in _ ⟨by omega, by omega⟩
                      go_wp2_with fail
                      go_region
                      go_wp2_with fail
                      go_roundw
                      case rel => exact ⟨j + 1, by omega, by go_num, hs1.out, Below.drew hs2.out⟩
                      case measure => simp [intOf]; omega
                    · obtain rfl : n = j := by omega
                      have hS3 := hS.out.step hbc
                      have hE : shiftTo V R K n ++ V.drop n = shiftL V R K := by
                        rw [List.drop_of_length_le (by have := Hlen'.out; omega), List.append_nil]
                        have := Hlen'.out
                        unfold shiftL; rw [this]; rfl
                      rw [hE] at hov
                      have hYl : (shiftL V R K).length = n := by rw [shiftL_length]; exact Hlen'.out
                      have HYl := Lib.hid hYl
                      have hov' : Own wr w3.heap.size gv cv (shiftL V R K) := hov.mono hS.out.bel.size
                      have hnev : ∀ s ∈ rs, s.1.1 ≠ gv := fun s hs e => by
                        have h1 := (hS.out.own.ofMem hs).lt
                        have h2 := hov.base
                        omega
                      clear hE hov hYl hS
                      go_wp2_with (at_builtin; refine wpList_append_wt (w := wr) rfl _ _ rfl w3.heap.size gO cO p wr.heap.size gv cv n rs (shiftL V R K) (C) _ hp.out HYl.out rfl rfl hS3.own hov' hnev rfl rfl (by omega) ?_)
                      intro g9 c9 w9 ho9 hg9 hor9
                      have hS9 := hS3.push ho9 hg9 hor9 HYl.out ⟨by omega, by omega⟩
                      rw [List.append_assoc, ← hdd2.out] at hS9
                      have HS9 := Lib.hid hS9
                      clear hS9 hS3 ho9 hg9 hor9 hnev hov'
                      go_wp2_with fail
                      go_roundw
                      case rel => exact ⟨t + 1, g9, c9, p + 1, _, by omega, by have := HK.out; simp only [Value.int.injEq, true_and]; omega, rfl, by show _ = _; rw [List.length_append, hp.out]; rfl, HS9⟩
                      case measure => have := HK.out; simp [intOf]; omega
                · obtain rfl : t = ND := by omega
                  have hz : ¬ -vi + (t : Int) ≤ 0 := by have := HND.out; omega
                  have hS9 : Hid (ListSt n ((k + 1) * 21) w3 PP wo gO cO rs) := Lib.hid (by
                    have h := hS.out.list
                    rw [← htk.out] at h
                    exact ⟨h.cont, h.ok.mono (by omega), h.own, h.bel⟩)
                  clear hS b1
                  go_wp2_with fail
                  go_roundw
                  case rel => exact ⟨k + 1, gO, cO, p, rs, by omega, by go_num, rfl, hp, by rw [HPP.out]; exact hS9⟩
                  case measure => simp [intOf]; omega
          · obtain rfl : k = l.length := by omega
            have hfin := hS.out
            rw [List.take_length] at hfin
            have h9 := hfin.ok.few' (by omega) (by omega)
            have hsum := impl_summed_ok gO 0 p cO (demQ R iN l) wr (by rw [← hfin.cont, contW_length]; exact hp.out) h9.1 h9.2.1 h9.2.2 hfin.own.lt (by rw [← hfin.cont]; exact hfin.own.wrows)
            have Hsum := Lib.hid hsum
            have HB := Lib.hid (hb3'.trans (hfin.bel.mono hb3'.size))
            have HPm := Lib.hid (canW_perm (demQ_perm R iN l))
            clear hS hfin h9 hsum
            go_wp2_with fail
            refine Hsum.out.mono ?_
            rintro e w6 ⟨gz, cz, rz, rfl, hz1, hz2, hz3⟩
            have HZ1 := Lib.hid hz1
            have HZ2 := Lib.hid (hz2.mono HB.out.size)
            have HZ3 := Lib.hid (HB.out.trans (hz3.mono HB.out.size))
            clear Hsum hz1 hz2 hz3
            go_wp2_with fail
            go_ret2
            exact GotWB.mk' gz cz rz rfl (by rw [HZ1.out]; exact HPm.out) HZ2.out HZ3.out
      · rw [decide_eq_false h3] at Hgood
        have hno : ¬ demOk c i l := fun h => h3 h.2.2
        rw [(demL_no hno).1, (demL_no hno).2]
        clear h2 h3 hno hC
        go_enter Try.func11, Try.ntmps11
        go_wp2_with fail
        refine Hcart.out.mono ?_
        rintro e w1 ⟨rfl, hs1⟩
        go_wp2_with fail
        refine (Hpt.out _).mono ?_
        rintro e w2 ⟨rfl, hs2⟩
        have hs := still_trans hs1 hs2
        have Hgd := Lib.hid (Hgood.out w2 hs)
        go_wp2_with fail
        refine Hgd.out.mono ?_
        rintro e w4 ⟨rfl, hb4⟩
        have hb5 := (below_still (Below.refl w.heap.size w) hs).trans (hb4.mono (below_still (Below.refl w.heap.size w) hs).size)
        clear hs1 hs2 hs hb4 Hgd Hgood
        go_wp2_with fail
        go_ret2
        exact GotWB.mk' _ 0 [] rfl rfl (OwnW.empty hb5.size) (hb5.alloc hb5.size _)
    · have Hpt : Hid (∀ W, Calls Try.prog 34 #[(Value.slice (some ⟨gc, oc, none⟩) c.length cc), .int .i64 i] W (Reads W (.bool false))) := fun W => by
        have := hpt W
        rwa [show (decide (0 ≤ i) && decide (i < (c.length : Int))) = false by rw [← Bool.decide_and]; exact decide_eq_false h2] at this
      have hno : ¬ demOk c i l := fun h => h2 h.2.1
      rw [(demL_no hno).1, (demL_no hno).2]
      clear h2 hno hC hpt
      go_enter Try.func11, Try.ntmps11
      go_wp2_with fail
      refine Hcart.out.mono ?_
      rintro e w1 ⟨rfl, hs1⟩
      go_wp2_with fail
      refine (Hpt.out _).mono ?_
      rintro e w2 ⟨rfl, hs2⟩
      have hb5 := below_still (Below.refl w.heap.size w) (still_trans hs1 hs2)
      clear hs1 hs2
      go_wp2_with fail
      go_ret2
      exact GotWB.mk' _ 0 [] rfl rfl (OwnW.empty hb5.size) (hb5.alloc hb5.size _)
  · rw [decide_eq_false hC] at hcart
    have Hcart := Lib.hid hcart
    have hno : ¬ demOk c i l := fun h => hC h.1
    rw [(demL_no hno).1, (demL_no hno).2]
    clear hcart hno hC hpt
    go_enter Try.func11, Try.ntmps11
    go_wp2_with fail
    refine Hcart.out.mono ?_
    rintro e w1 ⟨rfl, hs1⟩
    have hb5 := below_still (Below.refl w.heap.size w) hs1
    clear hs1
    go_wp2_with fail
    go_ret2
    exact GotWB.mk' _ 0 [] rfl rfl (OwnW.empty hb5.size) (hb5.alloc hb5.size _)
end Go.Proofs.Ytihfbbpkgmkbcaa
