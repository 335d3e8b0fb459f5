/- Coordinates of weights, the order of weights, depths (the reference's): contracts. KostantMultiplicity (the reference's): contract. The table of the longest slice, from the world's shape. -/
import Derived.Test.YtnpechcnmchneaaGreatDoorG49
import Derived.Test.YtnpechcnmchneaaGreatDoorG11
import Derived.Test.YtnpechcnmchneaaGreatDoorG06
import Derived.Test.YtnpechcnmchneaaGreatDoorG46
import Derived.Test.YtnpechcnmchneaaGreatDoorG48
import Derived.Test.YtnpechcnmchneaaGreatDoorG15
import Derived.Shelf.Vars
namespace Go.Proofs.YtnpechcnmchneaaGreatDoor
set_option maxRecDepth 100000
open Go.RowKit Game

def colTo (c : List (List Int)) (j : Nat) (v : List Int) (k : Nat) : List (List Int) := (List.range c.length).map fun r => if r < k then (c.getD r []).set j (v.getD r 0) else c.getD r []
theorem colTo_zero (c : List (List Int)) (j : Nat) (v : List Int) : colTo c j v 0 = c := by
  unfold colTo
  apply List.ext_getElem (by simp)
  intro i h1 h2
  simp [List.getD, h2]
theorem colTo_all (c : List (List Int)) (j : Nat) (v : List Int) : colTo c j v c.length = colL c j v := by
  unfold colTo colL
  apply List.map_congr_left
  intro r hr
  rw [if_pos (List.mem_range.1 hr)]
theorem colTo_length (c : List (List Int)) (j : Nat) (v : List Int) (k : Nat) : (colTo c j v k).length = c.length := by simp [colTo]
theorem colTo_row {c : List (List Int)} {j : Nat} {v : List Int} {k : Nat} (hk : k < c.length) : (colTo c j v k).getD k [] = c.getD k [] := by simp [colTo, List.getD, hk]
theorem colTo_set {c : List (List Int)} {j : Nat} {v : List Int} {k : Nat} (hk : k < c.length) : setM (colTo c j v k) k j (v.getD k 0) = colTo c j v (k + 1) := by
  unfold setM
  rw [colTo_row hk]
  unfold colTo
  apply List.ext_getElem (by simp)
  intro i h1 h2
  have hi : i < c.length := by simpa using h2
  rw [List.getElem_set]
  by_cases e : k = i
  · subst e
    rw [if_pos rfl]
    simp [hk]
  · rw [if_neg e]
    simp only [List.getElem_map, List.getElem_range]
    by_cases h : i < k
    · rw [if_pos h, if_pos (by omega)]
    · rw [if_neg h, if_neg (by omega)]
theorem crd_take {c : List (List Int)} {v : List Int} {j : Nat} (hj : j < c.length) : (crd c v).take (j + 1) = (crd c v).take j ++ [(crd c v).getD j 0] := by
  have hl : j < (crd c v).length := by rw [crd_length]; exact hj
  rw [List.take_succ_eq_append_getElem hl]
  simp [List.getD, hl]

set_option maxHeartbeats 4000000 in
theorem spec_l25Coordinates_any (gc oc n cc g o cv : Nat) (c : List (List Int)) (v : List Int) (w : World) (hn : c.length = n) (hC : IsC c) (hv : SmW n v)
    (hgc : gc < w.heap.size) (hg : g < w.heap.size) (hr : Rows2 w gc oc c) (hcv : Cells w g o v) :
    Calls Tryz.prog 91 #[(Value.slice (some ⟨gc, oc, none⟩) n cc), (Value.slice (some ⟨g, o, none⟩) n cv)] w (GotInts w (crd c v)) := by
  subst hn
  have hn4 := hC.2.1
  have hvl := hv.1
  have HX := Lib.hid (fun (i : Nat) (hi : i < c.length) (W : World) (B gm cm : Nat) (rs : List RowRef) (ho : OwnRows W B gm cm rs) (hcon : contents rs = colL c i v) => by
    have h1 := spec_l4DetM_any c.length hn4 gm 0 cm (colL c i v) W (colL_sq hC hv hi) ho.lt (by rw [← hcon]; exact ho.rows2)
    have e : det c.length (colL c i v) = (crd c v).getD i 0 := by simp [crd, List.getD, hi]
    rw [e] at h1
    exact h1)
  have HQ := Lib.hid (fun (j : Nat) (hj : j < c.length) => crd_take (v := v) hj)
  have HXL := Lib.hid (crd_length c v)
  have HC := Lib.hid (fun W (hW : Below w.heap.size w W) => spec_l2Copy_any gc oc c.length cc c W rfl (by omega) (fun j hj => by rw [hC.2.2.1 j hj]; omega) (Nat.lt_of_lt_of_le hgc hW.size) (hr.below hW hgc))
  have HL := Lib.hid (fun j (hj : j < c.length) => hC.2.2.1 j hj)
  have H0 := Lib.hid (fun j => colTo_zero c j v)
  have H1 := Lib.hid (fun j => colTo_all c j v)
  have H2 := Lib.hid (fun (j k : Nat) (hk : k < c.length) => colTo_row (j := j) (v := v) hk)
  have H3 := Lib.hid (fun (j k : Nat) (hk : k < c.length) => colTo_set (j := j) (v := v) hk)
  have H4 := Lib.hid (fun j k => colTo_length c j v k)
  clear hC hv
  generalize crd c v = X at *
  go_enter Tryz.func91, Tryz.ntmps91
  go_wp2_with fail
  go_loopw [5, 6] (fun ov iv wr => ∃ (i g' c' : Nat), i ≤ c.length ∧ iv = .int .i64 i ∧ ov = (Value.slice (some ⟨g', 0, none⟩) i c') ∧ Own wr w.heap.size g' c' (X.take i) ∧ Below w.heap.size w wr) (fun _ iv _ => c.length - (intOf iv).toNat)
  case atStart => exact ⟨0, w.heap.size, 0, Nat.zero_le _, rfl, rfl, Own.empty (w := w) (Nat.le_refl _), (Below.refl _ _).alloc (Nat.le_refl _) _⟩
  case round =>
    obtain ⟨i, g', c', hi, rfl, rfl, ho, hb⟩ := hrel
    by_cases hil : i < c.length
    · obtain ⟨wo, rfl⟩ : ∃ wo : World, wo = wr := ⟨_, rfl⟩
      go_wp2_with fail
      refine (HC.out wo hb).mono ?_
      rintro e w2 ⟨gm, cm, rs, rfl, hcm, hom, hb2⟩
      go_wp2_with fail
      go_loopw [8] (fun kv wi => ∃ (k : Nat) (rs : List RowRef), k ≤ c.length ∧ kv = .int .i64 k ∧ Hid (contents rs = colTo c i v k) ∧ OwnRows wi wo.heap.size gm cm rs ∧ Below wo.heap.size wo wi) (fun kv _ => c.length - (intOf kv).toNat)
      case atStart => exact ⟨0, rs, Nat.zero_le _, rfl, by show _ = _; rw [H0.out, hcm], hom, hb2⟩
      case round =>
        obtain ⟨k, rs, hk, rfl, hcon, hR, hbi⟩ := hrel
        have hBB := hb.trans (hbi.mono hb.size)
        by_cases hlk : k < c.length
        · obtain ⟨gr, cr, ⟨r0, hr0, her⟩, hge, hgl, hne, hc, hcl, hset⟩ := hR.setMat hcon.out k (by rw [H4.out]; exact hlk)
          rw [H2.out i k hlk, HL.out k hlk] at hc
          rw [H2.out i k hlk, HL.out k hlk] at hcl
          have hvk := (hcv.below hBB hg) k (by rw [hvl]; exact hlk)
          obtain ⟨rs2, hsub, hc2, hl2, hO2, hg2⟩ := hset i (v.getD k 0)
          rw [H3.out i k hlk] at hc2
          have hci := (hcl i hil).1
          have hfi := (hcl i hil).2
          have hB2 : Below wo.heap.size wo (wr.setCell ⟨gr, i, none⟩ (.int .i64 (v.getD k 0))) := hbi.grown hg2 hbi.size (by intro j hj; cases hj; exact hge)
          have Hc2 := Lib.hid hc2
          clear hset hcl hsub hl2 hg2 hc2 hr0 her hR hbi
          generalize v.getD k 0 = x at *
          go_wp2_with fail
          go_region
          go_wp2_with fail
          go_roundw
          case rel => exact ⟨k + 1, rs2, by omega, by go_num, Hc2.out, hO2.drewN 1, below_drewN hB2 1⟩
          case measure => simp [intOf]; omega
        · obtain rfl : k = c.length := by omega
          have hcc := hcon.out
          rw [H1.out i] at hcc
          have hcall := HX.out i hil wr wo.heap.size gm cm rs hR hcc
          have hq := HQ.out i hil
          have ho' := ho.below hbi ho.lt
          have hgl := ho.base
          generalize X.getD i 0 = x at *
          have Hcall := Lib.hid hcall; have Hq := Lib.hid hq
          have hQl : (X.take i).length = i := by rw [List.length_take, HXL.out]; omega
          have HQl := Lib.hid hQl
          clear hcall hq hcc hcon hR hQl
          go_wp2_with fail
          refine Hcall.out.mono ?_
          rintro e w2 ⟨rfl, hb3⟩
          have ho2 := ho'.below hb3 ho'.lt
          have hB2 : Below w.heap.size w w2 := hBB.trans (hb3.mono hBB.size)
          clear hb3 ho' hBB hbi ho
          go_wp2_with (at_builtin; refine wpList_append_int_n rfl _ _ rfl w.heap.size g' c' i (X.take i) x HQl.out ho2 rfl rfl (by omega) ?_)
          intro g3 c3 w3 ho3 hg3 _
          rw [← Hq.out] at ho3
          go_wp2_with fail
          go_roundw
          case rel => exact ⟨i + 1, g3, c3, by omega, by go_num, rfl, ho3, hB2.grown hg3 hB2.size (by intro j hj; cases hj; exact hgl)⟩
          case measure => simp [intOf]; omega
    · obtain rfl : i = c.length := by omega
      have hq : X.take c.length = X := List.take_of_length_le (by rw [HXL.out]; exact Nat.le_refl _)
      rw [hq] at ho
      clear hq
      go_wp2_with fail
      go_ret
      exact ⟨g', c', by rw [HXL.out]; rfl, ho, hb⟩

/-- numbers of the difference, in simple roots -/
theorem difB_false {c : List (List Int)} {v : List Int} {j : Nat} (hj : j < c.length) (h : (crd c v).getD j 0 < 0 ∨ ((crd c v).getD j 0).tmod (dC c) ≠ 0) : difB c v = false := by
  cases hd : difB c v with
  | false => rfl
  | true =>
    unfold difB at hd
    rw [List.all_eq_true] at hd
    have h4 := hd ((crd c v).getD j 0) (by simp [List.getD, crd_length, hj])
    rw [Bool.and_eq_true] at h4
    have h5 := of_decide_eq_true h4.1
    have h6 := of_decide_eq_true h4.2
    rcases h with h | h
    · omega
    · exact absurd h6 h
theorem difB_true {c : List (List Int)} {v : List Int} (h : ∀ j, j < c.length → 0 ≤ (crd c v).getD j 0 ∧ ((crd c v).getD j 0).tmod (dC c) = 0) : difB c v = true := by
  unfold difB
  rw [List.all_eq_true]
  intro x hx
  obtain ⟨j, hj, rfl⟩ := List.mem_iff_getElem.1 hx
  have hj' : j < c.length := by rw [crd_length] at hj; exact hj
  have := h j hj'
  have e : (crd c v)[j] = (crd c v).getD j 0 := by simp [List.getD, hj]
  rw [e, decide_eq_true this.1, decide_eq_true this.2]; rfl

set_option maxHeartbeats 4000000 in
/-- of two weights, in a finite type -/
theorem spec_IsWeightBelow_ok (gc oc n cc g1 o1 c1 g2 o2 c2 : Nat) (c : List (List Int)) (a b : List Int) (w : World) (hn : c.length = n) (ha : wtOk c a) (hb : wtOk c b) (hbs : ∀ j, j < n → -900 ≤ b.getD j 0 ∧ b.getD j 0 ≤ 900) (hK : CrOk c) (hf : finB c = true)
    (hgc : gc < w.heap.size) (hg1 : g1 < w.heap.size) (hg2 : g2 < w.heap.size) (hr : Rows2 w gc oc c) (hc1 : Cells w g1 o1 a) (hc2 : Cells w g2 o2 b) :
    Calls Tryz.prog 43 #[(Value.slice (some ⟨gc, oc, none⟩) n cc), (Value.slice (some ⟨g1, o1, none⟩) n c1), (Value.slice (some ⟨g2, o2, none⟩) n c2)] w (Gives w (.bool (difB c (shiftL b a (-1))))) := by
  subst hn
  have hC := hK.hC
  have hn4 := hC.2.1
  have hx : c.length ≤ 1048576 := by omega
  have hrl : ∀ j, j < c.length → (c.getD j []).length ≤ 1048576 := fun j hj => by rw [hC.2.2.1 j hj]; exact hx
  have hal := ha.2.1
  have hbl := hb.2.1
  have hab := ha.2.2
  rw [hal] at hab
  have hWa := fun W (hW : Below w.heap.size w W) => spec_IsWeight_any gc oc c.length cc g1 o1 c.length c1 c a W rfl hal hx (by omega) hrl (hr.below hW hgc) (hc1.below hW hg1)
  have hWb := fun W (hW : Below w.heap.size w W) => spec_IsWeight_any gc oc c.length cc g2 o2 c.length c2 c b W rfl hbl hx (by omega) hrl (hr.below hW hgc) (hc2.below hW hg2)
  rw [decide_eq_true ha] at hWa
  rw [decide_eq_true hb] at hWb
  have hF := fun W (hW : Below w.heap.size w W) => spec_IsFinite_any gc oc c.length cc c W rfl hx hrl (Nat.lt_of_lt_of_le hgc hW.size) (hr.below hW hgc)
  rw [hf] at hF
  have hV : SmW c.length (shiftL b a (-1)) := ⟨by rw [shiftL_length]; exact hbl, fun j hj => by
    rw [shiftL_getD _ _ _ (by omega)]
    have := hbs j hj; have := hab j hj; omega⟩
  have HX := Lib.hid (fun W (hW : Below w.heap.size w W) g3 c3 (ho : Own W w.heap.size g3 c3 (shiftL b a (-1))) => spec_l25Coordinates_any gc oc c.length cc g3 0 c3 c _ W rfl hC hV (Nat.lt_of_lt_of_le hgc hW.size) ho.lt (hr.below hW hgc) ho.cells)
  have HD := Lib.hid (fun W (hW : Below w.heap.size w W) => show Calls Tryz.prog 68 #[(Value.slice (some ⟨gc, oc, none⟩) c.length cc)] W (Gives W (.int .i64 (dC c))) from spec_l4DetM_any c.length hn4 gc oc cc c W (Sq.toM ⟨rfl, hC.2.2.1, ent_bound hC⟩) (Nat.lt_of_lt_of_le hgc hW.size) (hr.below hW hgc))
  have HBD := Lib.hid (fun (i : Nat) (hi : i < c.length) => crd_bound hC hV hi)
  have hdb := dC_bound hC
  have hd0 := hK.pos
  have HN := Lib.hid (fun (j : Nat) (hj : j < c.length) => difB_false (v := shiftL b a (-1)) hj)
  have HY := Lib.hid (difB_true (c := c) (v := shiftL b a (-1)))
  have HXL := Lib.hid (crd_length c (shiftL b a (-1)))
  have HA := Lib.hid (shiftTo_all b a (-1))
  have HS := Lib.hid (shiftTo_succ b a (-1))
  have HT := Lib.hid (shiftTo_length b a (-1))
  have HWa := Lib.hid hWa; have HWb := Lib.hid hWb; have HF := Lib.hid hF
  have Hbs := Lib.hid hbs; have Hab := Lib.hid hab
  clear hWa hWb hF hV hrl ha hb hbs hab hK hf
  generalize dC c = d at *
  generalize crd c (shiftL b a (-1)) = X at *
  generalize difB c (shiftL b a (-1)) = R at *
  generalize shiftL b a (-1) = V at *
  go_enter Tryz.func43, Tryz.ntmps43
  go_wp2_with fail
  refine (HWa.out w (Below.refl _ _)).mono ?_
  rintro e w1 ⟨rfl, hs1⟩
  have hB1 := below_still (Below.refl w.heap.size w) hs1
  clear hs1
  go_wp2_with fail
  refine (HWb.out w1 hB1).mono ?_
  rintro e w2 ⟨rfl, hs2⟩
  have hB2 := below_still hB1 hs2
  clear hs2 hB1
  go_wp2_with fail
  refine (HF.out w2 hB2).mono ?_
  rintro e w3 ⟨rfl, hb3⟩
  have hB3 := hB2.trans (hb3.mono hB2.size)
  clear hb3 hB2
  go_wp2_with fail
  go_loopw [7, 8] (fun s kv wr => ∃ t g' c' : Nat, t ≤ c.length ∧ kv = .int .i64 t ∧ s = (Value.slice (some ⟨g', 0, none⟩) t c') ∧ Own wr w.heap.size g' c' (shiftTo b a (-1) t) ∧ Below w.heap.size w wr) (fun _ kv _ => c.length - (intOf kv).toNat)
  case atStart => exact ⟨0, w3.heap.size, 0, Nat.zero_le _, rfl, rfl, (Own.empty (w := w3) (Nat.le_refl _)).mono hB3.size, hB3.alloc hB3.size _⟩
  case round =>
    obtain ⟨t, g', c', ht, rfl, rfl, ho, hbw⟩ := hrel
    by_cases hlt : t < c.length
    · have k1 := (hbw.cell (p := ⟨g1, o1 + t, none⟩) hg1).trans (hc1 t (by rw [hal]; exact hlt))
      have k2 := (hbw.cell (p := ⟨g2, o2 + t, none⟩) hg2).trans (hc2 t (by rw [hbl]; exact hlt))
      have hsucc := HS.out t
      have hl := HT.out t
      have b1 := Hbs.out t hlt
      have b2 := Hab.out t hlt
      have hBg := ho.base
      have ne1 : some g1 ≠ some g' := by intro e; cases e; omega
      have ne2 : some g2 ≠ some g' := by intro e; cases e; omega
      generalize b.getD t 0 = x at *
      generalize a.getD t 0 = y at *
      have hw2 : IntKind.i64.wrap (x - y) = x - y := IntWalk.i64_in _ ⟨by omega, by omega⟩
      rw [show x + (-1) * y = x - y by omega] at hsucc
      generalize shiftTo b a (-1) t = ys at *
      have Hs := Lib.hid hsucc; clear hsucc
      go_wp2_with fail
      go_region_held3 (fun W => W.cell? ⟨g1, o1 + t, none⟩ = some (.int .i64 y) ∧ W.cell? ⟨g2, o2 + t, none⟩ = some (.int .i64 x))
        (first | go_keep | exact ⟨hg3.cell (a := ⟨g1, o1 + t, none⟩) k1 ne1, hg3.cell (a := ⟨g2, o2 + t, none⟩) k2 ne2⟩)
        ((refine step_append_int (w := wr.drew) (by rfl) _ _ (by rfl) w.heap.size g' c' t wr.heap.size ys _ _ hl (by rfl) (by rfl) ho.drew (by rfl) (by rfl) (by omega) ?_; intro g3 c3 w3 ho3 hg3 hor))
      go_wp2_with fail
      go_roundw
      case rel =>
        rw [← Hs.out] at ho3
        exact ⟨t + 1, g3, c3, by omega, by go_num, rfl, ho3, (Below.drew hbw).grown hg3 hbw.size (by intro j hj; cases hj; exact ho.base)⟩
      case measure => simp [intOf]; omega
    · obtain rfl : t = c.length := by omega
      have ho' : Own wr w.heap.size g' c' V := by
        have e := HA.out
        rw [hbl] at e
        rw [← e]; exact ho
      have Hcall := Lib.hid (HX.out wr hbw g' c' ho')
      clear ho'
      go_wp2_with fail
      refine Hcall.out.mono ?_
      rintro e w4 ⟨g4, c4, rfl, ho4, hb4⟩
      rw [HXL.out]
      have hB4 := hbw.trans (hb4.mono hbw.size)
      clear hb4 ho
      go_wp2_with fail
      go_loopw [10] (fun iv wr => ∃ i : Nat, i ≤ c.length ∧ iv = .int .i64 i ∧ Hid (∀ j, j < i → 0 ≤ X.getD j 0 ∧ (X.getD j 0).tmod d = 0) ∧ Below w4.heap.size w4 wr) (fun iv _ => c.length - (intOf iv).toNat)
      case atStart => exact ⟨0, Nat.zero_le _, rfl, fun j hj => absurd hj (by omega), Below.refl _ _⟩
      case round =>
        obtain ⟨i, hi, rfl, hall, hb5⟩ := hrel
        have hB5 := hB4.trans (hb5.mono hB4.size)
        by_cases hil : i < c.length
        · have hq := (ho4.cells.below hb5 ho4.lt) i (by rw [HXL.out]; exact hil)
          have hbx := HBD.out i hil
          have hno := HN.out i hil
          have hyes : 0 ≤ X.getD i 0 ∧ (X.getD i 0).tmod d = 0 → ∀ j, j < i + 1 → 0 ≤ X.getD j 0 ∧ (X.getD j 0).tmod d = 0 := fun h j hj => by
            by_cases e : j = i
            · rw [e]; exact h
            · exact hall.out j (by omega)
          generalize X.getD i 0 = x at *
          have Hno := Lib.hid hno; have Hyes := Lib.hid hyes
          clear hno hyes
          rw [Nat.zero_add] at hq
          have u1 : wr.drew.cell? ⟨g4, i, none⟩ = some (.int .i64 x) := hq
          have hBd : Below w.heap.size w wr.drew := Below.drew hB5
          have hBr : Below w4.heap.size w4 wr.drew := Below.drew hb5
          by_cases hx0 : x < 0
          · have hR := Hno.out (.inl hx0)
            have HR := Lib.hid hR; clear hR
            have hx1 : decide (x < 0) = true := decide_eq_true hx0
            go_wp2_with fail
            go_quiet (fail)
            go_wp2_with fail
            go_ret
            exact ⟨ret_bool HR.out.symm, below_still hB5 (by first | exact ⟨_, rfl⟩ | exact ⟨0, rfl⟩ | exact still2 _ _ _ | exact still3 _ _ _ _)⟩
          · have hx1 : decide (x < 0) = false := decide_eq_false hx0
            have hdz : (d == 0) = false := by simp; omega
            have hdn : ¬ d = 0 := by omega
            have hdn2 : (d = 0) = False := by simp; omega
            have hcd := Lib.hid (HD.out wr.drew hBd)
            by_cases hm0 : x.tmod d = 0
            · have hm1 : (x.tmod d != 0) = false := by rw [hm0]; rfl
              have hm2 : (x % d != 0) = false := by rw [← Int.tmod_eq_emod_of_nonneg (by omega)]; exact hm1
              have hm3 : x % d = 0 := by rw [← Int.tmod_eq_emod_of_nonneg (by omega)]; exact hm0
              have hy := Hyes.out ⟨by omega, hm0⟩
              have Hy := Lib.hid hy; have Hm0 := Lib.hid hm0
              clear hy hm0
              go_wp2_with fail
              go_region_held3 (fun W => W.cell? ⟨g4, i, none⟩ = some (.int .i64 x))
                (first | exact u1 | exact keepCell hbA u1)
                (first | (go_at_call 68; refine hcd.out.mono ?_; rintro e wA ⟨rfl, hbA⟩))
              have hBA := hBr.trans (hbA.mono hBr.size)
              clear hbA
              go_wp2_with fail
              go_roundw
              case rel => exact ⟨i + 1, by omega, by go_num, Hy.out, hBA⟩
              case measure => simp [intOf]; omega
            · have hm1 : (x.tmod d != 0) = true := by simpa using hm0
              have hm2 : (x % d != 0) = true := by rw [← Int.tmod_eq_emod_of_nonneg (by omega)]; exact hm1
              have hR := Hno.out (.inr hm0)
              have HR := Lib.hid hR
              clear hR hm0
              go_wp2_with fail
              go_region_held3 (fun W => W.cell? ⟨g4, i, none⟩ = some (.int .i64 x))
                (first | exact u1 | exact keepCell hbA u1)
                (first | (go_at_call 68; refine hcd.out.mono ?_; rintro e wA ⟨rfl, hbA⟩))
              have hBA := hBd.trans (hbA.mono hBd.size)
              clear hbA
              go_wp2_with fail
              go_ret
              exact ⟨ret_bool HR.out.symm, hBA⟩
        · obtain rfl : i = c.length := by omega
          have hR := HY.out hall.out
          have HR := Lib.hid hR
          clear hR
          go_wp2_with fail
          go_ret
          exact ⟨ret_bool HR.out.symm, hB5⟩

theorem qTo_take {c : List (List Int)} {v : List Int} {j : Nat} (hj : j < c.length) : (qL c v).getD j 0 = ((crd c v).getD j 0).tdiv (dC c) := by
  simp [qL, List.getD, crd_length, hj]
def qTo (c : List (List Int)) (v : List Int) (k : Nat) : List Int := (List.range c.length).map fun j => if j < k then (qL c v).getD j 0 else (crd c v).getD j 0
theorem qTo_length (c : List (List Int)) (v : List Int) (k : Nat) : (qTo c v k).length = c.length := by simp [qTo]
theorem qTo_zero (c : List (List Int)) (v : List Int) : qTo c v 0 = crd c v := by
  apply List.ext_getElem (by simp [qTo, crd_length])
  intro i h1 h2
  simp [qTo, List.getD, h2]
theorem qTo_all (c : List (List Int)) (v : List Int) : qTo c v c.length = qL c v := by
  apply List.ext_getElem (by simp [qTo, qL_length])
  intro i h1 h2
  have hi : i < c.length := by simpa [qTo] using h1
  simp [qTo, List.getD, hi, h2]
theorem qTo_at {c : List (List Int)} {v : List Int} {k : Nat} (hk : k < c.length) : (qTo c v k).getD k 0 = (crd c v).getD k 0 := by simp [qTo, List.getD, hk]
theorem qTo_set {c : List (List Int)} {v : List Int} {k : Nat} (hk : k < c.length) : (qTo c v k).set k (((crd c v).getD k 0).tdiv (dC c)) = qTo c v (k + 1) := by
  rw [← qTo_take hk]
  apply List.ext_getElem (by simp [qTo])
  intro i h1 h2
  have hi : i < c.length := by simpa [qTo] using h2
  rw [List.getElem_set]
  by_cases e : k = i
  · subst e
    rw [if_pos rfl]
    simp [qTo]
  · rw [if_neg e]
    simp only [qTo, List.getElem_map, List.getElem_range]
    by_cases h : i < k
    · rw [if_pos h, if_pos (by omega)]
    · rw [if_neg h, if_neg (by omega)]

set_option maxHeartbeats 4000000 in
theorem spec_l27Depth_ok (gc oc n cc g1 o1 c1 g2 o2 c2 : Nat) (c : List (List Int)) (b a : List Int) (w : World) (hn : c.length = n) (ha : a.length = n) (hb : b.length = n) (hbs : ∀ j, j < n → -900 ≤ b.getD j 0 ∧ b.getD j 0 ≤ 900) (hab : ∀ j, j < n → -1000 ≤ a.getD j 0 ∧ a.getD j 0 ≤ 1000) (hK : CrOk c)
    (hgc : gc < w.heap.size) (hg1 : g1 < w.heap.size) (hg2 : g2 < w.heap.size) (hr : Rows2 w gc oc c) (hc1 : Cells w g1 o1 b) (hc2 : Cells w g2 o2 a) :
    Calls Tryz.prog 46 #[(Value.slice (some ⟨gc, oc, none⟩) n cc), (Value.slice (some ⟨g1, o1, none⟩) n c1), (Value.slice (some ⟨g2, o2, none⟩) n c2)] w (GotInts w (qL c (shiftL b a (-1)))) := by
  subst hn
  have hC := hK.hC
  have hn4 := hC.2.1
  have hV : SmW c.length (shiftL b a (-1)) := ⟨by rw [shiftL_length]; exact hb, fun j hj => by
    rw [shiftL_getD _ _ _ (by omega)]
    have := hbs j hj; have := hab j hj; omega⟩
  have HL := Lib.hid (spec_l27Add_shift g1 o1 c.length c1 g2 o2 c2 b a (-1) w hb ha (by omega) (fun j hj => by have := hbs j hj; omega) hab (by omega) hg1 hg2 hc1 hc2)
  have HX := Lib.hid (fun W (hW : Below w.heap.size w W) g3 c3 (ho : Own W w.heap.size g3 c3 (shiftL b a (-1))) => spec_l25Coordinates_any gc oc c.length cc g3 0 c3 c _ W rfl hC hV (Nat.lt_of_lt_of_le hgc hW.size) ho.lt (hr.below hW hgc) ho.cells)
  have HD := Lib.hid (fun W (hW : Below w.heap.size w W) => show Calls Tryz.prog 68 #[(Value.slice (some ⟨gc, oc, none⟩) c.length cc)] W (Gives W (.int .i64 (dC c))) from spec_l4DetM_any c.length hn4 gc oc cc c W (Sq.toM ⟨rfl, hC.2.2.1, ent_bound hC⟩) (Nat.lt_of_lt_of_le hgc hW.size) (hr.below hW hgc))
  have HVL := Lib.hid hV.1
  have HBD := Lib.hid (fun (i : Nat) (hi : i < c.length) => crd_bound hC hV hi)
  have hdb := dC_bound hC
  have hd0 := hK.pos
  have HXL := Lib.hid (crd_length c (shiftL b a (-1)))
  have Q0 := Lib.hid (qTo_zero c (shiftL b a (-1)))
  have Q1 := Lib.hid (qTo_all c (shiftL b a (-1)))
  have Q2 := Lib.hid (fun k (hk : k < c.length) => qTo_at (v := shiftL b a (-1)) hk)
  have Q3 := Lib.hid (fun k (hk : k < c.length) => qTo_set (v := shiftL b a (-1)) hk)
  have Q4 := Lib.hid (fun k => qTo_length c (shiftL b a (-1)) k)
  rw [← Q1.out]
  clear hV ha hb hbs hab hK Q1
  generalize dC c = d at *
  generalize qTo c (shiftL b a (-1)) = Q at *
  generalize crd c (shiftL b a (-1)) = X at *
  generalize shiftL b a (-1) = V at *
  go_enter Tryz.func46, Tryz.ntmps46
  go_wp2_with fail
  refine HL.out.mono ?_
  rintro e w1 ⟨g3, c3, rfl, ho3, hb1⟩
  rw [HVL.out]
  go_wp2_with fail
  refine (HX.out w1 hb1 g3 c3 ho3).mono ?_
  rintro e w2 ⟨g4, c4, rfl, ho4, hb2⟩
  rw [HXL.out]
  have hB2 := hb1.trans (hb2.mono hb1.size)
  have ho4 := ho4.mono hb1.size
  clear hb2 ho3
  go_wp2_with fail
  refine (HD.out w2 hB2).mono ?_
  rintro e w3 ⟨rfl, hb3⟩
  have hB3 := hB2.trans (hb3.mono hB2.size)
  have ho5 := ho4.below hb3 ho4.lt
  clear hb3 ho4 hB2
  go_wp2_with fail
  go_loopw [9] (fun iv wr => ∃ i : Nat, i ≤ c.length ∧ iv = .int .i64 i ∧ Own wr w.heap.size g4 c4 (Q i) ∧ Below w.heap.size w wr) (fun iv _ => c.length - (intOf iv).toNat)
  case atStart => exact ⟨0, Nat.zero_le _, rfl, by rw [Q0.out]; exact ho5, hB3⟩
  case round =>
    obtain ⟨i, hi, rfl, ho, hb⟩ := hrel
    by_cases hil : i < c.length
    · have x0 := ho.cell i (by rw [Q4.out]; exact hil)
      rw [Q2.out i hil] at x0
      have y0 := ho.frozen i
      have hbx := HBD.out i hil
      have s1 := ho.set i ((X.getD i 0).tdiv d)
      rw [Q3.out i hil] at s1
      have hB1 : Below w.heap.size w (wr.setCell ⟨g4, i, none⟩ (.int .i64 ((X.getD i 0).tdiv d))) := hb.grown s1.2 hb.size (by intro j hj; cases hj; exact ho.base)
      generalize X.getD i 0 = x at *
      obtain ⟨s1, -⟩ := s1
      have hdz : (d == 0) = false := by simp; omega
      go_wp2_with fail
      go_roundw
      case rel => exact ⟨i + 1, by omega, by go_num, s1, hB1⟩
      case measure => simp [intOf]; omega
    · obtain rfl : i = c.length := by omega
      go_wp2_with fail
      go_ret
      exact ⟨g4, c4, by rw [Q4.out]; rfl, ho, hb⟩
end Go.Proofs.YtnpechcnmchneaaGreatDoor
namespace Go.Proofs.YtnpechcnmchneaaGreatDoor
set_option maxRecDepth 100000
open Go.RowKit Game

theorem sml_wt {c : List (List Int)} (hC : IsC c) {v : List Int} (hv : Sml c.length v) : wtOk c v := ⟨hC, hv.1, fun j hj => by have := hv.2 j hj; omega⟩

set_option maxHeartbeats 4000000 in
theorem spec_Kostant_yes (gc oc n cc g1 o1 c1 g2 o2 c2 : Nat) (c : List (List Int)) (v u : List Int) (w : World) (hn : c.length = n) (hk : kosOk c v u)
    (hgc : gc < w.heap.size) (hg1 : g1 < w.heap.size) (hg2 : g2 < w.heap.size) (hr : Rows2 w gc oc c) (hc1 : Cells w g1 o1 v) (hc2 : Cells w g2 o2 u) :
    Calls Tryz.prog 10 #[(Value.slice (some ⟨gc, oc, none⟩) n cc), (Value.slice (some ⟨g1, o1, none⟩) n c1), (Value.slice (some ⟨g2, o2, none⟩) n c2)] w (Gives w (kosV c v u)) := by
  subst hn
  obtain ⟨hf, hR, hS, hU⟩ := hk
  have hfin := fewB_fin hf
  have hG := grp_few hf
  have hK := crOk_fin hfin
  have hC := hG.hC
  have hn4 := hC.2.1
  have hx : c.length ≤ 1048576 := by omega
  have hrl : ∀ j, j < c.length → (c.getD j []).length ≤ 1048576 := fun j hj => by rw [hC.2.2.1 j hj]; exact hx
  have hul := hU.2.1
  have hub := hU.2.2
  rw [hul] at hub
  have hpl : (posA c).length ≤ 9 := by rw [posA_of hR]; exact hR.2
  have HF := spec_l18Small_any gc oc c.length cc c w rfl hx hrl hgc hr
  rw [hf, show fewL c = elemL c from if_pos hf] at HF
  have HR := fun W (hW : Below w.heap.size w W) => spec_PositiveRoots_any gc oc c.length cc c W rfl hx hrl (Nat.lt_of_lt_of_le hgc hW.size) (hr.below hW hgc)
  have HS := fun W (hW : Below w.heap.size w W) => spec_l25Small_any gc oc c.length cc g1 o1 c.length c1 c v W rfl hS.1 hx (by rw [hS.1]; exact hx) hrl (Nat.lt_of_lt_of_le hgc hW.size) (hr.below hW hgc) (hc1.below hW hg1)
  rw [hfin, decide_eq_true hS] at HS
  have HU := fun W (hW : Below w.heap.size w W) => spec_IsWeight_any gc oc c.length cc g2 o2 c.length c2 c u W rfl hul hx (by rw [hul]; exact hx) hrl (hr.below hW hgc) (hc2.below hW hg2)
  rw [decide_eq_true hU] at HU
  have HW := fun W (hW : Below w.heap.size w W) => spec_IsWeightBelow_ok gc oc c.length cc g2 o2 c2 g1 o1 c1 c u v W rfl hU (sml_wt hC hS) (fun j hj => by have := hS.2 j (by rw [hS.1]; exact hj); omega) hK hfin (Nat.lt_of_lt_of_le hgc hW.size) (Nat.lt_of_lt_of_le hg2 hW.size) (Nat.lt_of_lt_of_le hg1 hW.size) (hr.below hW hgc) (hc2.below hW hg2) (hc1.below hW hg1)
  have HD := fun (N : Nat) (W : List Nat) (hW : Elt c N W) (hN : N ≤ 9) gW cW n1 Wd (hB : Below w.heap.size w Wd) (hn1 : (intsOf W).length = n1) (hlt : gW < Wd.heap.size) (hc : Cells Wd gW 0 (intsOf W)) =>
    spec_DotAction_ok gc oc c.length cc gW 0 n1 cW g1 o1 c1 c v W N Wd rfl hG hS hW hN hn1 (Nat.lt_of_lt_of_le hgc hB.size) hlt (Nat.lt_of_lt_of_le hg1 hB.size) (hr.below hB hgc) hc (hc1.below hB hg1)
  have HE := fun (X : List Int) (hX : wtOk c X) (hbd : ∀ j, j < c.length → -900 ≤ X.getD j 0 ∧ X.getD j 0 ≤ 900) gW cW Wd (hB : Below w.heap.size w Wd) (hlt : gW < Wd.heap.size) (hc : Cells Wd gW 0 X) =>
    spec_IsWeightBelow_ok gc oc c.length cc g2 o2 c2 gW 0 cW c u X Wd rfl hU hX hbd hK hfin (Nat.lt_of_lt_of_le hgc hB.size) (Nat.lt_of_lt_of_le hg2 hB.size) hlt (hr.below hB hgc) (hc2.below hB hg2) hc
  have HL := fun (X : List Int) (hX : X.length = c.length) (hbd : ∀ j, j < c.length → -900 ≤ X.getD j 0 ∧ X.getD j 0 ≤ 900) gW cW Wd (hB : Below w.heap.size w Wd) (hlt : gW < Wd.heap.size) (hc : Cells Wd gW 0 X) =>
    spec_l27Depth_ok gc oc c.length cc gW 0 cW g2 o2 c2 c X u Wd rfl hul hX hbd hub hK (Nat.lt_of_lt_of_le hgc hB.size) hlt (Nat.lt_of_lt_of_le hg2 hB.size) (hr.below hB hgc) hc (hc2.below hB hg2)
  have HP := fun (Y : List Int) (hY : Y.length = c.length) gW cW Wd (hB : Below w.heap.size w Wd) (hlt : gW < Wd.heap.size) (hc : Cells Wd gW 0 Y) =>
    spec_PartitionCount_any gc oc c.length cc gW 0 c.length cW c Y Wd rfl hY hx (by rw [hY]; exact hx) hrl (Nat.lt_of_lt_of_le hgc hB.size) hlt (hr.below hB hgc) hc
  have HRow := fun k (hk : k < (elemL c).length) => kos_row hf hS hk
  have HWt := fun N W (hW : Elt c N W) => (dot_wt hG hS hW).1
  have HGo := fun k (hk : k < (elemL c).length) (s : Int) => kosGo_step (c := c) (v := v) (u := u) hk s
  have hfew := hG.few
  have HOut := kos_out ⟨hf, hR, hS, hU⟩
  have HF := Lib.hid HF; have HR := Lib.hid HR; have HS := Lib.hid HS; have HU := Lib.hid HU; have HW := Lib.hid HW; have HD := Lib.hid HD; have HE := Lib.hid HE; have HL := Lib.hid HL; have HP := Lib.hid HP; have HRow := Lib.hid HRow; have HGo := Lib.hid HGo; have HWt := Lib.hid HWt
  cases hd : difB c (shiftL v u (-1)) with
  | false =>
    have HOut := Lib.hid (HOut hd)
    rw [hd] at HW
    rw [HOut.out]
    clear hub hrl hK hR hS hU hf hG hC hd hfin HRow HGo HWt HP HL HE HD HOut
    generalize elemL c = L at *
    generalize posA c = A at *
    go_enter Tryz.func10, Tryz.ntmps10
    go_wp2_with fail
    refine HF.out.mono ?_
    rintro e w1 ⟨g3, c3, rs, rfl, -, -, hb1⟩
    go_wp2_with fail
    refine (HR.out w1 hb1).mono ?_
    rintro e w2 ⟨g4, c4, rs4, rfl, -, -, hb2⟩
    have hB2 := hb1.trans (hb2.mono hb1.size)
    clear hb1 hb2
    go_wp2_with fail
    refine (HS.out w2 hB2).mono ?_
    rintro e w3 ⟨rfl, hb3⟩
    have hB3 := hB2.trans (hb3.mono hB2.size)
    clear hB2 hb3
    go_wp2_with fail
    refine (HU.out w3 hB3).mono ?_
    rintro e w4 ⟨rfl, hs4⟩
    have hB4 := below_still hB3 hs4
    clear hB3 hs4
    go_wp2_with fail
    refine (HW.out w4 hB4).mono ?_
    rintro e w5 ⟨rfl, hb5⟩
    go_wp2_with fail
    go_ret2
    exact ⟨rfl, hB4.trans (hb5.mono hB4.size)⟩
  | true =>
    rw [hd] at HW
    rw [kosV_yes ⟨hf, hR, hS, hU⟩]
    clear hub hrl hK hR hS hU hf hG hC hd hfin HOut
    generalize elemL c = L at *
    obtain ⟨R, hR⟩ : ∃ R, kosGo c v u L 0 = R := ⟨_, rfl⟩
    rw [hR]
    have HR0 := Lib.hid hR; clear hR
    generalize posA c = A at *
    go_enter Tryz.func10, Tryz.ntmps10
    go_wp2_with fail
    refine HF.out.mono ?_
    rintro e w1 ⟨g3, c3, rs, rfl, hcon, hO, hb1⟩
    have Hcon := Lib.hid hcon; clear hcon
    go_wp2_with fail
    refine (HR.out w1 hb1).mono ?_
    rintro e w2 ⟨g4, c4, rs4, rfl, -, -, hb2⟩
    have hO2 := hO.below hb2
    have hB2 := hb1.trans (hb2.mono hb1.size)
    clear hO hb1 hb2
    go_wp2_with fail
    refine (HS.out w2 hB2).mono ?_
    rintro e w3 ⟨rfl, hb3⟩
    have hO3 := hO2.below hb3
    have hB3 := hB2.trans (hb3.mono hB2.size)
    clear hO2 hB2 hb3
    go_wp2_with fail
    refine (HU.out w3 hB3).mono ?_
    rintro e w4 ⟨rfl, hs4⟩
    have hO4 := hO3.still hs4
    have hB4 := below_still hB3 hs4
    clear hO3 hB3 hs4
    go_wp2_with fail
    refine (HW.out w4 hB4).mono ?_
    rintro e w5 ⟨rfl, hb5⟩
    have hO5 := hO4.below hb5
    have hB5 := hB4.trans (hb5.mono hB4.size)
    clear hO4 hB4 hb5
    go_wp2_with fail
    go_loopw [12, 13] (fun sv kv wr => ∃ (k : Nat) (s : Int), k ≤ L.length ∧ kv = .int .i64 k ∧ sv = .int .i64 s ∧ Hid (kosGo c v u (L.drop k) s = R) ∧ Below w5.heap.size w5 wr) (fun _ kv _ => L.length - (intOf kv).toNat)
    case atStart => exact ⟨0, 0, Nat.zero_le _, rfl, rfl, by show _ = _; rw [List.drop_zero]; exact HR0.out, Below.refl _ _⟩
    case round =>
      obtain ⟨k, s, hk, rfl, rfl, hgo, hbr⟩ := hrel
      have hBr := hB5.trans (hbr.mono hB5.size)
      by_cases hlt : k < L.length
      · have hstep := HGo.out k hlt s
        rw [hgo.out] at hstep
        obtain ⟨N, W, hW, hWe, h9, hWl, hbd⟩ := HRow.out k hlt
        have hwt := HWt.out N W hW
        have hOr := hO5.below hbr
        have hrsl : rs.length = L.length := by rw [← Hcon.out, contents_length]
        have hkr : k < rs.length := by rw [hrsl]; exact hlt
        have hcr : rs[k].2.2 = intsOf W := by rw [← hWe, ← Hcon.out]; simp [contents, List.getD, hkr]
        have hRo := hOr.2.1 rs[k] (List.getElem_mem _)
        have hqk : wr.cell? ⟨g3, k, none⟩ = some (rowVal rs[k]) := by rw [hOr.1.cell k (by simpa using hkr)]; simp
        generalize rs[k] = RR at *
        obtain ⟨gW, cW, WW⟩ := RR
        simp only at hcr hRo
        subst hcr
        have hwl : (intsOf W).length = N := by rw [intsOf_length]; exact hWl
        have hqk' : wr.cell? ⟨g3, k, none⟩ = some (Value.slice (some ⟨gW, 0, none⟩) N cW) := by rw [hqk]; unfold rowVal; simp only [hwl]
        have hg3 := hOr.lt
        rw [hWe] at hstep
        have hdot := HD.out N W hW h9 gW cW N wr hBr hwl hRo.lt hRo.cells
        have hdl := dotL_length (c := c) (w := intsOf W) (v := v)
        have hka : kosAt c v u (intsOf W) = shiftL (dotL c (intsOf W) v) u (-1) := rfl
        have hsg := fun Wd => spec_SignOf_any gW 0 N cW (intsOf W) Wd hwl
        clear hqk hWe hrsl hkr hW hWl
        generalize intsOf W = WI at *
        have Hstep := Lib.hid hstep; have Hdot := Lib.hid hdot; have Hdl := Lib.hid hdl; have Hka := Lib.hid hka; have Hsg := Lib.hid hsg; have Hbd := Lib.hid hbd; have Hwt := Lib.hid hwt
        clear hstep hdot hdl hka hsg hbd hRo hwt
        go_wp2_with fail
        refine Hdot.out.mono ?_
        rintro e w6 ⟨g6, c6, rfl, ho6, hb6⟩
        rw [Hdl.out]
        have hB6 := hBr.trans (hb6.mono hBr.size)
        have hdif := HE.out (dotL c WI v) Hwt.out Hbd.out g6 c6 w6 hB6 ho6.lt ho6.cells
        rw [← Hka.out] at hdif
        have q6 := (hb6.cell (p := ⟨g3, k, none⟩) hg3).trans hqk'
        cases hdv : difB c (kosAt c v u WI) with
        | true =>
          have hst := Hstep.out
          rw [if_pos hdv] at hst
          rw [hdv] at hdif
          have hdep := fun Wd (hB : Below w6.heap.size w6 Wd) => HL.out (dotL c WI v) Hdl.out Hbd.out g6 c6 Wd (hB6.trans (hB.mono hB6.size)) (Nat.lt_of_lt_of_le ho6.lt hB.size) (ho6.cells.below hB ho6.lt)
          rw [← Hka.out] at hdep
          have Hdif := Lib.hid hdif; have Hdep := Lib.hid hdep
          clear hdif hdep Hdot hdv Hstep
          go_wp2_with fail
          refine Hdif.out.mono ?_
          rintro e w7 ⟨rfl, hb7⟩
          have q7 := (hb7.cell (p := ⟨g3, k, none⟩) (Nat.lt_of_lt_of_le hg3 hb6.size)).trans q6
          have hb67 : Below wr.heap.size wr w7 := hb6.trans (hb7.mono hb6.size)
          have HdepW := Lib.hid (Hdep.out w7 hb7)
          clear hb6 hb7 q6
          go_wp2_with fail
          refine HdepW.out.mono ?_
          rintro e w8 ⟨g8, c8, rfl, ho8, hb8⟩
          rw [qL_length]
          have hb78 : Below wr.heap.size wr w8 := hb67.trans (hb8.mono hb67.size)
          have hB8 := hBr.trans (hb78.mono hBr.size)
          have q8 := (hb78.cell (p := ⟨g3, k, none⟩) hg3).trans hqk'
          have hpc := HP.out (qL c (kosAt c v u WI)) (qL_length _ _) g8 c8 w8 hB8 ho8.lt ho8.cells
          rw [pcV_eq] at hpc
          clear hb8 hb67 q7 HdepW Hdep
          by_cases hok : pcOk c (qL c (kosAt c v u WI))
          · rw [if_pos hok] at hst
            rw [decide_eq_true hok] at hpc
            have Hst := Lib.hid hst; have Hpc := Lib.hid hpc
            clear hst hpc hok ho8 ho6
            generalize pcI c (qL c (kosAt c v u WI)) = p at *
            go_wp2_with fail
            refine Hpc.out.mono ?_
            rintro e w9 ⟨rfl, hb9⟩
            have hb89 := hb78.trans (hb9.mono hb78.size)
            have q9 := (hb89.cell (p := ⟨g3, k, none⟩) hg3).trans hqk'
            clear q8
            go_wp2_with fail
            refine (Hsg.out w9).mono ?_
            rintro e w10 ⟨rfl, hs10⟩
            have hb10 : Below w5.heap.size w5 w10 := below_still (hbr.trans (hb89.mono hbr.size)) hs10
            clear hs10 hb89 hb78 hb9
            generalize sgnW WI = sg at *
            go_wp2_with fail
            go_roundw
            case rel => exact ⟨k + 1, _, by omega, by go_num, rfl, by show _ = _; simp only [wrap64] at *; exact Hst.out.symm, hb10⟩
            case measure => simp [intOf]; omega
          · rw [if_neg hok] at hst
            rw [decide_eq_false hok] at hpc
            have Hst := Lib.hid hst; have Hpc := Lib.hid hpc
            clear hst hpc hok ho8 ho6
            generalize pcI c (qL c (kosAt c v u WI)) = p at *
            go_wp2_with fail
            refine Hpc.out.mono ?_
            rintro e w9 ⟨rfl, hb9⟩
            go_wp2_with fail
            go_ret2
            exact ⟨by rw [Hst.out]; rfl, hB8.trans (hb9.mono hB8.size)⟩
        | false =>
          have hst := Hstep.out
          rw [hdv, if_neg (by decide)] at hst
          rw [hdv] at hdif
          have Hst := Lib.hid hst; have Hdif := Lib.hid hdif
          clear hdif Hdot hdv hst Hstep
          go_wp2_with fail
          refine Hdif.out.mono ?_
          rintro e w7 ⟨rfl, hb7⟩
          have hb7' : Below w5.heap.size w5 w7 := hbr.trans ((hb6.trans (hb7.mono hb6.size)).mono hbr.size)
          clear hb6 hb7 q6 ho6
          go_wp2_with fail
          go_roundw
          case rel => exact ⟨k + 1, s, by omega, by go_num, rfl, Hst.out.symm, hb7'⟩
          case measure => simp [intOf]; omega
      · obtain rfl : k = L.length := by omega
        have hend := hgo.out
        rw [List.drop_length] at hend
        have hend2 : R = (s, true) := hend.symm
        have Hend := Lib.hid hend2
        clear hend hend2
        go_wp2_with fail
        go_ret2
        exact ⟨by rw [Hend.out]; rfl, hBr⟩

set_option maxHeartbeats 2000000 in
theorem spec_KostantMultiplicity_any (gc oc n cc g1 o1 m1 c1 g2 o2 m2 c2 : Nat) (c : List (List Int)) (v u : List Int) (w : World) (hn : c.length = n) (hm1 : v.length = m1) (hm2 : u.length = m2) (hx : c.length ≤ 1048576) (hvx : v.length ≤ 1048576) (hux : u.length ≤ 1048576)
    (hrl : ∀ j, j < c.length → (c.getD j []).length ≤ 1048576) (hgc : gc < w.heap.size) (hg1 : g1 < w.heap.size) (hg2 : g2 < w.heap.size) (hr : Rows2 w gc oc c) (hc1 : Cells w g1 o1 v) (hc2 : Cells w g2 o2 u) :
    Calls Tryz.prog 10 #[(Value.slice (some ⟨gc, oc, none⟩) n cc), (Value.slice (some ⟨g1, o1, none⟩) m1 c1), (Value.slice (some ⟨g2, o2, none⟩) m2 c2)] w (Gives w (kosV c v u)) := by
  by_cases hk : kosOk c v u
  · have h1 := hk.2.2.1.1
    have h2 := hk.2.2.2.2.1
    rw [h1, hn] at hm1
    rw [h2, hn] at hm2
    subst hm1; subst hm2
    exact spec_Kostant_yes gc oc n cc g1 o1 c1 g2 o2 c2 c v u w hn hk hgc hg1 hg2 hr hc1 hc2
  · rw [kosV_no hk]
    have HF := spec_l18Small_any gc oc n cc c w hn hx hrl hgc hr
    have HR := fun W (hW : Below w.heap.size w W) => spec_PositiveRoots_any gc oc n cc c W hn hx hrl (Nat.lt_of_lt_of_le hgc hW.size) (hr.below hW hgc)
    have HS := fun W (hW : Below w.heap.size w W) => spec_l25Small_any gc oc n cc g1 o1 m1 c1 c v W hn hm1 hx hvx hrl (Nat.lt_of_lt_of_le hgc hW.size) (hr.below hW hgc) (hc1.below hW hg1)
    have HU := fun W (hW : Below w.heap.size w W) => spec_IsWeight_any gc oc n cc g2 o2 m2 c2 c u W hn hm2 hx hux hrl (hr.below hW hgc) (hc2.below hW hg2)
    have HRL := Lib.hid (posA_few c)
    by_cases hf : fewB c = true
    · have hfin := fewB_fin hf
      rw [hf] at HF
      rw [hfin] at HS
      have hR' : pcRoots c ↔ (posA c).length ≤ 9 := by rw [posA_fin hfin]; exact ⟨fun h => h.2, fun h => ⟨hfin, h⟩⟩
      by_cases hS : Sml c.length v
      · rw [decide_eq_true hS] at HS
        by_cases hU : wtOk c u
        · rw [decide_eq_true hU] at HU
          have hl : 9 < (posA c).length := by
            rcases Nat.lt_or_ge 9 (posA c).length with h | h
            · exact h
            · exact absurd ⟨hf, hR'.2 h, hS, hU⟩ hk
          have hl24 := HRL.out.1
          have HF := Lib.hid HF; have HR := Lib.hid HR; have HS := Lib.hid HS; have HU := Lib.hid HU
          clear hk hf hfin hR' hS hU hrl hr hc1 hc2 hn hm1 hm2 HRL
          generalize fewL c = L at *
          generalize posA c = A at *
          go_enter Tryz.func10, Tryz.ntmps10
          go_wp2_with fail
          refine HF.out.mono ?_
          rintro e w1 ⟨g3, c3, rs, rfl, -, -, hb1⟩
          go_wp2_with fail
          refine (HR.out w1 hb1).mono ?_
          rintro e w2 ⟨g4, c4, rs4, rfl, -, -, hb2⟩
          have hB2 := hb1.trans (hb2.mono hb1.size)
          clear hb1 hb2
          go_wp2_with fail
          refine (HS.out w2 hB2).mono ?_
          rintro e w3 ⟨rfl, hb3⟩
          have hB3 := hB2.trans (hb3.mono hB2.size)
          clear hB2 hb3
          go_wp2_with fail
          refine (HU.out w3 hB3).mono ?_
          rintro e w4 ⟨rfl, hs4⟩
          have hB4 := below_still hB3 hs4
          clear hB3 hs4
          go_wp2_with fail
          go_ret2
          exact ⟨rfl, hB4⟩
        · rw [decide_eq_false hU] at HU
          have HF := Lib.hid HF; have HR := Lib.hid HR; have HS := Lib.hid HS; have HU := Lib.hid HU
          clear hk hf hfin hR' hS hU hrl hr hc1 hc2 hn hm1 hm2 HRL
          generalize fewL c = L at *
          generalize posA c = A at *
          go_enter Tryz.func10, Tryz.ntmps10
          go_wp2_with fail
          refine HF.out.mono ?_
          rintro e w1 ⟨g3, c3, rs, rfl, -, -, hb1⟩
          go_wp2_with fail
          refine (HR.out w1 hb1).mono ?_
          rintro e w2 ⟨g4, c4, rs4, rfl, -, -, hb2⟩
          have hB2 := hb1.trans (hb2.mono hb1.size)
          clear hb1 hb2
          go_wp2_with fail
          refine (HS.out w2 hB2).mono ?_
          rintro e w3 ⟨rfl, hb3⟩
          have hB3 := hB2.trans (hb3.mono hB2.size)
          clear hB2 hb3
          go_wp2_with fail
          refine (HU.out w3 hB3).mono ?_
          rintro e w4 ⟨rfl, hs4⟩
          have hB4 := below_still hB3 hs4
          clear hB3 hs4
          go_wp2_with fail
          go_ret2
          exact ⟨rfl, hB4⟩
      · rw [decide_eq_false hS] at HS
        have HF := Lib.hid HF; have HR := Lib.hid HR; have HS := Lib.hid HS
        clear hk hf hfin hR' hS hrl hr hc1 hc2 hn hm1 hm2 HRL HU
        generalize fewL c = L at *
        generalize posA c = A at *
        go_enter Tryz.func10, Tryz.ntmps10
        go_wp2_with fail
        refine HF.out.mono ?_
        rintro e w1 ⟨g3, c3, rs, rfl, -, -, hb1⟩
        go_wp2_with fail
        refine (HR.out w1 hb1).mono ?_
        rintro e w2 ⟨g4, c4, rs4, rfl, -, -, hb2⟩
        have hB2 := hb1.trans (hb2.mono hb1.size)
        clear hb1 hb2
        go_wp2_with fail
        refine (HS.out w2 hB2).mono ?_
        rintro e w3 ⟨rfl, hb3⟩
        have hB3 := hB2.trans (hb3.mono hB2.size)
        clear hB2 hb3
        go_wp2_with fail
        go_ret2
        exact ⟨rfl, hB3⟩
    · have hf' : fewB c = false := by simpa using hf
      rw [hf'] at HF
      have HF := Lib.hid HF; have HR := Lib.hid HR
      clear hk hf hf' hrl hr hc1 hc2 hn hm1 hm2 HU HS HRL
      generalize fewL c = L at *
      generalize posA c = A at *
      generalize finB c = fb at *
      go_enter Tryz.func10, Tryz.ntmps10
      go_wp2_with fail
      refine HF.out.mono ?_
      rintro e w1 ⟨g3, c3, rs, rfl, -, -, hb1⟩
      go_wp2_with fail
      refine (HR.out w1 hb1).mono ?_
      rintro e w2 ⟨g4, c4, rs4, rfl, -, -, hb2⟩
      go_wp2_with fail
      go_ret2
      exact ⟨rfl, hb1.trans (hb2.mono hb1.size)⟩
end Go.Proofs.YtnpechcnmchneaaGreatDoor
namespace Go.Proofs.YtnpechcnmchneaaGreatDoor
set_option maxRecDepth 100000
open Go.RowKit

theorem maxL_shape {w : World} (h : w.ShapedOpen Tryz.prog) : MaxL w :=
  cell_of_shapedOpen_int (zero := #[.int .i64 0]) (t := 3) (k := .i64) (g := 0) h (of_decide_eq_true (by kernel_rfl)) (by kernel_rfl) (by kernel_rfl) (by kernel_rfl) (by kernel_rfl) Tryz.underlying3
end Go.Proofs.YtnpechcnmchneaaGreatDoor
