/- The program's ReducedWords: contract. -/
import Derived.Test.YtjhoimdfmcjkbaaGreatDoorG39
import Derived.Test.YtjhoimdfmcjkbaaGreatDoorG40
import Derived.Test.YtjhoimdfmcjkbaaGreatDoorG41
import Derived.Test.YtjhoimdfmcjkbaaGreatDoorG42
namespace Go.Proofs.YtjhoimdfmcjkbaaGreatDoor
set_option maxRecDepth 100000
open Go.RowKit Game

theorem wordsL_fuel {c : List (List Int)} {U : List Int} (hU : Nw c U) {f : Nat} (hf : U.length ≤ f) : allW c f (imI c U) = wordsL c U :=
  Asc.uniq (allW_asc f U hU hf) (wordsL_asc hU) fun y => by rw [mem_allW f U hU hf, mem_wordsL hU]
theorem wordsL_nil {c : List (List Int)} (h : Nw c []) : wordsL c [] = [[]] := by
  unfold wordsL allW
  rw [if_pos ((descL_nil h).2 rfl)]
/-- the words that begin with the first j descents -/
def partW (c : List (List Int)) (U head : List Int) (j : Nat) : List (List Int) :=
  ((descL (imI c U)).take j).flatMap fun i : Nat => (wordsL c (subN c U (i : Int))).map fun y => (head ++ [(i : Int)]) ++ y
theorem partW_succ {c : List (List Int)} {U head : List Int} {j : Nat} (hj : j < (descL (imI c U)).length) : partW c U head (j + 1) = partW c U head j ++ (wordsL c (subN c U (((descL (imI c U)).getD j 0 : Nat) : Int))).map fun y => (head ++ [(((descL (imI c U)).getD j 0 : Nat) : Int)]) ++ y := by
  unfold partW
  rw [List.take_succ_eq_append_getElem hj, List.flatMap_append]
  simp [List.getD, hj]
theorem partW_all {c : List (List Int)} {U : List Int} (hU : Nw c U) (hne : U ≠ []) (head : List Int) : partW c U head (descL (imI c U)).length = (wordsL c U).map fun y => head ++ y := by
  have hd : descL (imI c U) ≠ [] := fun e => hne ((descL_nil hU).1 e)
  have hfew := hU.lets.few
  have e : wordsL c U = (descL (imI c U)).flatMap fun i : Nat => (wordsL c (subN c U (i : Int))).map fun y => (i : Int) :: y := by
    unfold wordsL
    rw [allW, if_neg hd]
    rw [List.flatMap_def, List.flatMap_def]
    congr 1
    refine List.map_congr_left fun i hi => ?_
    obtain ⟨h1, h2⟩ := mem_descL.1 hi
    rw [imI_length] at h1
    rw [← subN_img hU h1 h2]
    have := hU.len_sub h1 h2
    rw [wordsL_fuel (hU.sub (i := (i : Int)) (by omega) (by omega)) (f := 14) (by omega)]
    rfl
  rw [e]
  unfold partW
  rw [List.take_length, List.map_flatMap]
  rw [List.flatMap_def, List.flatMap_def]
  congr 1
  refine List.map_congr_left fun i _ => ?_
  rw [List.map_map]
  refine List.map_congr_left fun y _ => ?_
  simp
theorem partW_pre (c : List (List Int)) (U head : List Int) {j L : Nat} (h : j ≤ L) : ∃ Z, partW c U head L = partW c U head j ++ Z := by
  unfold partW
  have e : (descL (imI c U)).take L = (descL (imI c U)).take j ++ ((descL (imI c U)).take L).drop j := by
    have := (List.take_append_drop j ((descL (imI c U)).take L)).symm
    rwa [List.take_take, Nat.min_eq_left h] at this
  rw [e, List.flatMap_append]
  exact ⟨_, rfl⟩
theorem take_take_app {α : Type} (X Y : List α) (n : Nat) : (X.take n ++ Y).take n = (X ++ Y).take n := by
  by_cases h : X.length ≤ n
  · rw [List.take_of_length_le h]
  · rw [List.take_append_of_le_length (by rw [List.length_take]; omega), List.take_take, Nat.min_self, List.take_append_of_le_length (by omega)]
theorem take_full {α : Type} {X : List α} (Y : List α) {n : Nat} (h : (X.take n).length = n) : (X ++ Y).take n = X.take n := by
  rw [List.length_take] at h
  rw [List.take_append_of_le_length (by omega)]

/-- words are collected -/
def SpGot (w : World) (B : Nat) (og : Option Nat) (R : List (List Int)) (e : Ending) (w' : World) : Prop :=
  ∃ og' v' rs', e = .returned v' ∧ MovO w' B og' v' rs' ∧ contents rs' = R ∧ w.grownBy w' og ∧ (og' = og ∨ ∃ g, og' = some g ∧ w.heap.size ≤ g)

set_option maxHeartbeats 1000000 in
theorem impl_spelled_any (w0 : World) (gc oc n cc : Nat) (c : List (List Int)) (hn : c.length = n) (hgc : gc < w0.heap.size) (hr : Rows2 w0 gc oc c) :
    ∀ (k : Nat) (U head : List Int) (gv cv gh mh ch : Nat) (og : Option Nat) (vo : Value) (rs : List RowRef) (w : World), U.length = k → Nw c U → head.length = mh → mh + k ≤ 15 → Below w0.heap.size w0 w →
      Own w w0.heap.size gv cv (imI c U) → Own w w0.heap.size gh ch head → MovO w w0.heap.size og vo rs → og ≠ some gv → og ≠ some gh → rs.length ≤ 120 →
      Calls Tryz.prog 49 #[(Value.slice (some ⟨gc, oc, none⟩) n cc), (Value.slice (some ⟨gv, 0, none⟩) n cv), (Value.slice (some ⟨gh, 0, none⟩) mh ch), vo, .int .i64 120] w (SpGot w w0.heap.size og ((contents rs ++ (wordsL c U).map fun y => head ++ y).take 121)) := by
  intro k
  induction k using Nat.strongRecOn with
  | ind k ih =>
  intro U head gv cv gh mh ch og vo rs w hk hU hmh hmk hb0 hov hoh hM hgv hgh hr120
  have hC := hU.lets.isC
  have hn4 := hC.2.1
  have hcl := hC.2.2.1
  have hil : (imI c U).length = n := by rw [imI_length]; exact hn
  have kD := impl_descents_any gv 0 n cv (imI c U) w hil (by rw [hil]; omega) hov.lt hov.cells
  by_cases hU0 : U = []
  · have hds : descI (imI c U) = [] := by rw [descI_eq, (descL_nil hU).2 hU0]; rfl
    rw [hds] at kD
    subst hU0
    rw [wordsL_nil hU]
    have e : ((contents rs ++ ([([] : List Int)].map fun y => head ++ y)).take 121) = contents rs ++ [head] := by
      rw [List.take_of_length_le (by simp; rw [contents_length]; omega)]
      simp
    rw [e]
    have KD := Lib.hid kD
    obtain ⟨pa, pc, hsh⟩ := hM.shape
    obtain ⟨m, hm⟩ : ∃ m, rs.length = m := ⟨_, rfl⟩
    rw [hm] at hsh
    subst hsh
    have Hm := Lib.hid hm
    have hm120 : m ≤ 120 := by omega
    have HK := Lib.hid (fun (W : World) (ho : Own W w0.heap.size gh ch head) => slices_Clone_any gh 0 mh ch head W hmh (by omega) ho.lt ho.cells)
    have Hmh := Lib.hid hmh
    clear kD hds e hil hcl hn4 hC hU ih hov hm hmh
    go_enter Tryz.func49, Tryz.ntmps49
    go_wp2_with fail
    refine KD.out.mono ?_
    rintro e w1 ⟨g1, c1, rfl, ho1, hb1⟩
    rw [show (([] : List Int)).length = 0 from rfl]
    have hM1 := hM.below hb1
    have hoh1 := hoh.below hb1 hoh.lt
    have hB1 := hb0.trans (hb1.mono hb0.size)
    have HK1 := Lib.hid (HK.out w1 hoh1)
    clear KD hM hoh HK ho1
    go_wp2_with fail
    refine HK1.out.mono ?_
    rintro e w2 ⟨g2, c2, rfl, ho2, hb2⟩
    rw [Hmh.out]
    have hM2 := hM1.below hb2
    have hB2 := hB1.trans (hb2.mono hB1.size)
    have hne : ∀ s ∈ rs, s.1 ≠ g2 := fun s hs e => by
      have h1 := ho2.base
      rcases hM1 with ⟨-, -, q⟩ | ⟨g, cap, -, -, ho⟩
      · rw [q] at hs; cases hs
      · have := (ho.2.1 s hs).lt; omega
    have Hne := Lib.hid hne
    have hoB := ho2.mono hB1.size
    have hb12 := hb1.trans (hb2.mono hb1.size)
    have HK1' := Lib.hid hb12
    clear hM1 hoh1 HK1 ho2 hne hb2 hb1
    go_wp2_with (at_builtin; refine wpList_append_movO rfl _ _ rfl w0.heap.size w2.heap.size m og _ rs (g2, c2, head) w2 _ Hm.out (by unfold rowVal; rw [Hmh.out]) rfl hB2.size hM2 hoB Hne.out rfl rfl (by omega) ?_)
    intro g3 c3 w3 ho3 hg3 hor3
    go_wp2_with fail
    go_ret
    refine ⟨some g3, _, rs ++ [(g2, c2, head)], rfl, .inr ⟨g3, c3, rfl, by rw [List.length_append, Hm.out]; rfl, ho3⟩, by rw [contents_push], ?_, ?_⟩
    · exact ⟨hg3.os.trans HK1'.out.os, hg3.tape.trans HK1'.out.tape, hg3.output.trans HK1'.out.output, Nat.le_trans HK1'.out.size hg3.size, fun j hj hne => (hg3.block j (Nat.lt_of_lt_of_le hj HK1'.out.size) hne).trans (HK1'.out.block j hj)⟩
    · rcases hor3 with h | h
      · exact .inl h.symm
      · exact .inr ⟨g3, rfl, Nat.le_trans HK1'.out.size h⟩
  · have hPA := partW_all hU hU0 head
    have hDl := descI_eq (imI c U)
    have hlen : (descI (imI c U)).length = (descL (imI c U)).length := by rw [hDl, List.length_map]
    have hL4 : (descI (imI c U)).length ≤ 4 := by have := desTo_len (imI c U) (imI c U).length; unfold descI; omega
    have hL0 : (descL (imI c U)).length ≠ 0 := fun e => hU0 ((descL_nil hU).1 (List.eq_nil_of_length_eq_zero e))
    have hat : ∀ j, j < (descL (imI c U)).length → ∃ i : Nat, (descI (imI c U)).getD j 0 = (i : Int) ∧ i < c.length ∧ Nw c (subN c U (i : Int)) ∧ (subN c U (i : Int)).length < k ∧ mh + 1 + (subN c U (i : Int)).length ≤ 15 ∧ imI c (subN c U (i : Int)) = refl c i (imI c U) ∧ partW c U head (j + 1) = partW c U head j ++ (wordsL c (subN c U (i : Int))).map fun y => (head ++ [(i : Int)]) ++ y := fun j hj => by
      have hi : (descL (imI c U)).getD j 0 ∈ descL (imI c U) := by simp [List.getD, hj]
      have e1 : (descI (imI c U)).getD j 0 = (((descL (imI c U)).getD j 0 : Nat) : Int) := by rw [hDl]; simp [List.getD, hj]
      have hps := partW_succ (c := c) (U := U) (head := head) hj
      generalize (descL (imI c U)).getD j 0 = i at *
      obtain ⟨h1, h2⟩ := mem_descL.1 hi
      rw [imI_length] at h1
      have := hU.len_sub h1 h2
      exact ⟨i, e1, h1, hU.sub (by omega) (by omega), by omega, by omega, subN_img hU h1 h2, hps⟩
    rw [← hPA]
    have hp0 : partW c U head 0 = [] := by unfold partW; rfl
    obtain ⟨L, hL⟩ : ∃ L, (descL (imI c U)).length = L := ⟨_, rfl⟩
    rw [hL] at hlen hL0 hat
    rw [hL]
    have hL4' : L ≤ 4 := by omega
    obtain ⟨pa, pc, hsh⟩ := hM.shape
    obtain ⟨m0, hm0⟩ : ∃ m, rs.length = m := ⟨_, rfl⟩
    rw [hm0] at hsh
    have hm120 : m0 ≤ 120 := by omega
    have Hat := Lib.hid hat; have KD := Lib.hid kD; have Hlen := Lib.hid hlen; have Hmh := Lib.hid hmh; have Hil := Lib.hid hil; have Hp0 := Lib.hid hp0; have Hm0 := Lib.hid hm0
    have HF := Lib.hid (fun (W : World) (hb : Below w0.heap.size w0 W) (i : Nat) (hi : i < c.length) (g6 c6 : Nat) (ho : Own W w0.heap.size g6 c6 (imI c U)) => impl_reflected_any w0 gc oc n cc g6 c6 i n c (imI c U) W hn hil (by rw [imI_length]) (by omega) hcl hi hgc hr hb ho)
    have HK := Lib.hid (fun (W : World) (ho : Own W w0.heap.size gh ch head) => slices_Clone_any gh 0 mh ch head W hmh (by omega) ho.lt ho.cells)
    have HI := Lib.hid (fun (U' : List Int) (hlt : U'.length < k) (hU' : Nw c U') (hm' : mh + 1 + U'.length ≤ 15) (head' : List Int) (hh' : head'.length = mh + 1) (W : World) (gv' cv' gh' ch' : Nat) (og' : Option Nat) (vo' : Value) (rs' : List RowRef) (hb : Below w0.heap.size w0 W) (h1 : Own W w0.heap.size gv' cv' (imI c U')) (h2 : Own W w0.heap.size gh' ch' head') (h3 : MovO W w0.heap.size og' vo' rs') (n1 : og' ≠ some gv') (n2 : og' ≠ some gh') (hl : rs'.length ≤ 120) => ih U'.length hlt U' head' gv' cv' gh' (mh + 1) ch' og' vo' rs' W rfl hU' hh' hm' hb h1 h2 h3 n1 n2 hl)
    have hmh15 : mh ≤ 15 := by omega
    have hn4' : n ≤ 4 := by omega
    have hfit : ∀ (X : List (List Int)), X.length ≤ 120 → ((contents rs ++ partW c U head 0).take 121) = contents rs := fun _ _ => by rw [hp0, List.append_nil, List.take_of_length_le (by rw [contents_length]; omega)]
    have Hfit := Lib.hid (hfit [] (by simp))
    clear hat kD hlen hmh hil hp0 hm0 ih hPA hDl hL hfit hU hU0 hr hcl hC hn4 hk hmk hr120
    subst hsh
    have Hgv := Lib.hid hgv; have Hgh := Lib.hid hgh
    clear hgv hgh
    go_enter Tryz.func49, Tryz.ntmps49
    go_wp2_with fail
    refine KD.out.mono ?_
    rintro e w1 ⟨gd, cd, rfl, hod, hb1⟩
    rw [Hlen.out]
    have hB1 := hb0.trans (hb1.mono hb0.size)
    have hM1 := hM.below hb1
    have hov1 := hov.below hb1 hov.lt
    have hoh1 := hoh.below hb1 hoh.lt
    have hod1 := hod.mono hb0.size
    have hgr1 : w.grownBy w1 og := ⟨hb1.os, hb1.tape, hb1.output, hb1.size, fun j hj _ => hb1.block j hj⟩
    have hngd : og ≠ some gd := fun e => by have h1 := (hM.lt e).2; have h2 := hod.base; omega
    have hLz : ((L : Int) == 0) = false := by simp; omega
    clear hb1 hB1 hod KD
    have hB1 : Below w0.heap.size w0 w1 := ⟨hgr1.os.trans hb0.os, hgr1.tape.trans hb0.tape, hgr1.output.trans hb0.output, Nat.le_trans hb0.size hgr1.size, fun j hj => (hgr1.block j (Nat.lt_of_lt_of_le hj hb0.size) (fun e => by have := (hM.lt e.symm).1; omega)).trans (hb0.block j hj)⟩
    go_wp2_with fail
    go_loopw [3, 27] (fun ov jv wr => ∃ (j : Nat) (og' : Option Nat) (vr : Value) (rs' : List RowRef), jv = .int .i64 j ∧ j ≤ L ∧ ov = vr ∧ MovO wr w0.heap.size og' vr rs' ∧ Hid (contents rs' = (contents rs ++ partW c U head j).take 121) ∧ Own wr w0.heap.size gv cv (imI c U) ∧ Own wr w0.heap.size gh ch head ∧ Own wr w0.heap.size gd cd (descI (imI c U)) ∧ og' ≠ some gv ∧ og' ≠ some gh ∧ og' ≠ some gd ∧ w.grownBy wr og ∧ (og' = og ∨ ∃ g, og' = some g ∧ w.heap.size ≤ g) ∧ Below w0.heap.size w0 wr) (fun _ jv _ => L - (intOf jv).toNat)
    case atStart => exact ⟨0, og, _, rs, rfl, Nat.zero_le _, rfl, hM1, Hfit.out.symm, hov1, hoh1, hod1, Hgv.out, Hgh.out, hngd, hgr1, .inl rfl, hB1⟩
    case round =>
      clear hM1 hov1 hoh1 hod1 hngd hgr1 hB1
      obtain ⟨j, og', vr, rs', rfl, hjL, rfl, hM', hcon, hov', hoh', hod', hngv, hngh, hngd, hgr, hog, hB⟩ := hrel
      obtain ⟨pa', pc', hsh'⟩ := hM'.shape
      obtain ⟨m, hm⟩ : ∃ m, rs'.length = m := ⟨_, rfl⟩
      rw [hm] at hsh'
      subst hsh'
      have Hm := Lib.hid hm
      have hm121 : m ≤ 121 := by
        have h1 := congrArg List.length hcon.out
        rw [contents_length, hm, List.length_take] at h1
        omega
      clear hm
      by_cases hlt : j < L
      · obtain ⟨i, e1, hi, hUi, hUlt, hUm, him, hps⟩ := Hat.out j hlt
        have q1 := hod'.cell j (by rw [Hlen.out]; exact hlt)
        rw [e1] at q1
        by_cases hfull : m ≤ 120
        · have dF : ¬ (120 : Int) < (m : Int) := by omega
          have Hps := Lib.hid hps; have Him := Lib.hid him; have HUi := Lib.hid hUi
          have hgvl := hov'.lt
          have hghl := hoh'.lt
          have hgdl := hod'.lt
          have hcv := Lib.hid hov'.cells
          clear hps him hUi e1
          go_wp2_with (at_builtin; refine wpList_clone rfl _ _ rfl gv 0 n cv (imI c U) Hil.out hgvl hcv.out rfl rfl (by rw [Hil.out]; omega) ?_)
          intro gN cN w2 hoN hb2
          have hN2 := hoN.mono hB.size
          have hB2 := hB.trans (hb2.mono hB.size)
          have hrf := Lib.hid (HF.out w2 hB2 i hi gN cN hN2)
          have hoh2 := hoh'.below hb2 hoh'.lt
          have hNb := hoN.base
          clear hcv hN2
          go_wp2_with fail
          refine hrf.out.mono ?_
          rintro e w3 ⟨rfl, hN3, hg3⟩
          have hb3 : Below wr.heap.size wr w3 := hb2.grown hg3 hb2.size (by intro z hz; cases hz; exact hNb)
          have hoh3 := hoh'.below hb3 hoh'.lt
          have hkc := Lib.hid (HK.out w3 hoh3)
          clear hb2 hoh2 hrf hg3 hoN hB2
          rw [← Him.out] at hN3
          go_wp2_with fail
          refine hkc.out.mono ?_
          rintro e w4 ⟨gH, cH, rfl, hoH, hb4⟩
          rw [Hmh.out]
          have hb4' : Below wr.heap.size wr w4 := hb3.trans (hb4.mono hb3.size)
          have hN4 := hN3.below hb4 hN3.lt
          have hHb : wr.heap.size ≤ gH := Nat.le_trans hb3.size hoH.base
          have hNH : gN ≠ gH := by have h1 := hN3.lt; have h2 := hoH.base; omega
          have hB4 := hB.trans (hb4'.mono hB.size)
          have hoH4 := hoH.mono (show w0.heap.size ≤ w3.heap.size from Nat.le_trans hB.size hb3.size)
          clear hb3 hoh3 hkc hN3 hb4 hoH
          go_wp2_with (at_builtin; refine wpList_append_int_n (w := w4) rfl _ _ rfl w0.heap.size gH cH mh head (i : Int) Hmh.out hoH4 rfl rfl (by omega) ?_)
          intro gA cA w5 hA5 hg5 hor5
          have hb5 : Below wr.heap.size wr w5 := hb4'.grown hg5 hb4'.size (by intro z hz; cases hz; exact hHb)
          have hB5 := hB.trans (hb5.mono hB.size)
          have hN5 := hN4.grown hg5 (by intro e; cases e; exact hNH rfl)
          have hM5 := hM'.below hb5
          have hAb : wr.heap.size ≤ gA := by
            have := hb4'.size
            rcases hor5 with rfl | q
            · exact hHb
            · omega
          have hov5 := hov'.below hb5 hov'.lt
          have hoh5 := hoh'.below hb5 hoh'.lt
          have hod5 := hod'.below hb5 hod'.lt
          have hal : (head ++ [(i : Int)]).length = mh + 1 := by rw [List.length_append, Hmh.out]; rfl
          have hrec := Lib.hid (HI.out _ hUlt HUi.out hUm (head ++ [(i : Int)]) hal w5 gN cN gA cA og' _ rs' hB5 hN5 hA5 hM5 (fun e => by have := (hM'.lt e).2; omega) (fun e => by have := (hM'.lt e).2; omega) (by rw [Hm.out]; exact hfull))
          have HB5 := Lib.hid hb5
          have Hv5 := Lib.hid hov5; have Hh5 := Lib.hid hoh5; have Hd5 := Lib.hid hod5
          have Hml := Lib.hid (fun k (hk : og' = some k) => hM'.lt hk)
          have hwr := hgr.size
          have hb0s := hb0.size
          clear hb4' hN4 hB4 hoH4 hg5 hor5 hN5 hA5 hM5 hov5 hoh5 hod5 hM' hov' hoh' hod' hal hb5 q1
          go_wp2_with fail
          refine hrec.out.mono ?_
          rintro e w6 ⟨og6, v6, rs6, rfl, hM6, hc6, hg6, hor6⟩
          have hnew : ∀ g, g < wr.heap.size → og' ≠ some g → og6 ≠ some g := fun g hg hne e => by
            rcases hor6 with h | ⟨g', h, hge⟩
            · exact hne (h.symm.trans e)
            · rw [h] at e
              injection e with e
              have := HB5.out.size
              omega
          have hgv6 := Hv5.out.grown hg6 (by intro e; exact hngv e.symm)
          have hgh6 := Hh5.out.grown hg6 (by intro e; exact hngh e.symm)
          have hgd6 := Hd5.out.grown hg6 (by intro e; exact hngd e.symm)
          have hgr6 : w.grownBy w6 og := ⟨hg6.os.trans (HB5.out.os.trans hgr.os), hg6.tape.trans (HB5.out.tape.trans hgr.tape), hg6.output.trans (HB5.out.output.trans hgr.output), Nat.le_trans hgr.size (Nat.le_trans HB5.out.size hg6.size), fun q hq hne => by
            have h1 : q < wr.heap.size := Nat.lt_of_lt_of_le hq hgr.size
            refine ((hg6.block q (Nat.lt_of_lt_of_le h1 HB5.out.size) ?_).trans (HB5.out.block q h1)).trans (hgr.block q hq hne)
            intro e
            rcases hog with h | ⟨g', h, hge⟩
            · exact hne (e.trans h)
            · rw [h] at e
              injection e with e
              omega⟩
          have hog6 : og6 = og ∨ ∃ g, og6 = some g ∧ w.heap.size ≤ g := by
            rcases hor6 with h | ⟨g', h, hge⟩
            · rw [h]; exact hog
            · exact .inr ⟨g', h, by have := HB5.out.size; omega⟩
          have hB6 : Below w0.heap.size w0 w6 := ⟨hg6.os.trans hB5.os, hg6.tape.trans hB5.tape, hg6.output.trans hB5.output, Nat.le_trans hB5.size hg6.size, fun q hq => (hg6.block q (Nat.lt_of_lt_of_le hq hB5.size) (fun e => by have := (Hml.out q e.symm).1; omega)).trans (hB5.block q hq)⟩
          have hc6' : Hid (contents rs6 = (contents rs ++ partW c U head (j + 1)).take 121) := Lib.hid (by
            rw [hc6, hcon.out, take_take_app, List.append_assoc, Hps.out])
          have hn6v := hnew gv hgvl hngv
          have hn6h := hnew gh hghl hngh
          have hn6d := hnew gd hgdl hngd
          clear hrec hc6 hor6 hg6 hnew hB5 HB5 Hv5 Hh5 Hd5
          go_wp2_with fail
          go_roundw
          case rel => exact ⟨j + 1, og6, v6, rs6, by go_num, by omega, rfl, hM6, hc6'.out, hgv6, hgh6, hgd6, hn6v, hn6h, hn6d, hgr6, hog6, hB6⟩
          case measure => simp [intOf]; omega
        · have dF : (120 : Int) < (m : Int) := by omega
          have hfin : contents rs' = (contents rs ++ partW c U head L).take 121 := by
            obtain ⟨Z, hZ⟩ := partW_pre c U head (Nat.le_of_lt hlt)
            rw [hZ, ← List.append_assoc, take_full Z (by rw [← hcon.out, contents_length, Hm.out]; omega)]
            exact hcon.out
          have Hfin := Lib.hid hfin
          clear hfin hps him hUi e1
          go_wp2_with fail
          go_ret
          exact ⟨og', _, rs', rfl, hM', Hfin.out, hgr, hog⟩
      · obtain rfl : j = L := by omega
        go_wp2_with fail
        go_ret
        exact ⟨og', _, rs', rfl, hM', hcon.out, hgr, hog⟩

set_option maxHeartbeats 1000000 in
theorem impl_ReducedWords_any (gc oc n cc g o m cp : Nat) (c : List (List Int)) (v : List Int) (w : World) (hn : c.length = n) (hm : v.length = m) (hx : c.length ≤ 1048576) (hrl : ∀ j, j < c.length → (c.getD j []).length ≤ 1048576) (hl : v.length ≤ 1048576)
    (hgc : gc < w.heap.size) (hg : g < w.heap.size) (hr : Rows2 w gc oc c) (hv : Cells w g o v) :
    Calls Tryz.prog 27 #[(Value.slice (some ⟨gc, oc, none⟩) n cc), (Value.slice (some ⟨g, o, none⟩) m cp)] w (GotRowsB w (rwL c v) (rwB c v)) := by
  have kW := impl_IsWord_any gc oc n cc g o m cp c v w hn hm hx hrl hl hr hv
  cases hw : isWordB c v with
  | false =>
    rw [hw] at kW
    have e1 : rwL c v = [] := by unfold rwL; rw [if_neg (by rw [hw]; decide)]
    have e2 : rwB c v = false := by unfold rwB; rw [hw]; rfl
    rw [e1, e2]
    have KW := Lib.hid kW
    clear kW hr hv e1 e2 hw
    go_enter Tryz.func27, Tryz.ntmps27
    go_wp2_with fail
    refine KW.out.mono ?_
    rintro e w1 ⟨rfl, m1, rfl⟩
    go_wp2_with fail
    go_ret2
    exact ⟨_, 0, [], rfl, rfl, OwnRows.empty (w := w.drewN m1) (Nat.le_refl _), (by repeat (first | with_reducible exact Below.refl _ _ | with_reducible assumption | with_reducible refine below_drewN ?_ _ | with_reducible refine Below.drew ?_ | (with_reducible refine Below.alloc ?_ ?_ _; rotate_left; · first | (simp; done) | (simp; omega) | exact Below.size (by assumption) | (have hsz := Below.size (by assumption : Below _ _ _); simp at hsz ⊢; omega)) | (with_reducible refine Below.setCell ?_ ?_ _; rotate_left; · first | (simp; done) | (simp; omega))))⟩
  | true =>
  rw [hw] at kW
  have hA := wordOk_of hw
  have hU := nw_nf hA
  have hC := hA.isC
  have hn4 := hC.2.1
  have e1 : rwL c v = if (wordsL c (nfI c v)).length ≤ 120 then wordsL c (nfI c v) else [] := by unfold rwL; rw [if_pos hw]
  have e2 : rwB c v = decide ((wordsL c (nfI c v)).length ≤ 120) := by unfold rwB; rw [hw, Bool.true_and]
  have him : actW c v (onesL c.length) = imI c (nfI c v) := (nfI_ok (hA.lets.mono (show 15 ≤ 30 by omega))).img.symm
  rw [e1, e2]
  obtain ⟨R, hR⟩ : ∃ R, (if (wordsL c (nfI c v)).length ≤ 120 then wordsL c (nfI c v) else []) = R := ⟨_, rfl⟩
  obtain ⟨Bv, hBv⟩ : ∃ b, decide ((wordsL c (nfI c v)).length ≤ 120) = b := ⟨_, rfl⟩
  rw [hR, hBv]
  have kI := fun (W : World) (hs : ∃ q, W = w.drewN q) => impl_image_any gc oc n cc g o m cp c v W hn hm hC hl hA.inr (by rw [size_still hs]; exact hgc) (by rw [size_still hs]; exact hg) (hr.still hs) (hv.still hs)
  rw [him] at kI
  have KI := Lib.hid kI
  have HR := Lib.hid hR; have HBv := Lib.hid hBv
  have hne : 0 < (wordsL c (nfI c v)).length := List.length_pos_of_mem ((mem_wordsL hU _).2 (⟨hU.lets.word, hU.self, rfl⟩ : RedOf c (nfI c v) (nfI c v)))
  have hU15 := hU.lets.few
  clear hR hBv him kI
  generalize nfI c v = U at *
  have hil : (imI c U).length = n := by rw [imI_length]; exact hn
  have Hil := Lib.hid hil
  have HS := Lib.hid (fun (W : World) (gv cv gh ch : Nat) (hb : Below w.heap.size w W) (h1 : Own W w.heap.size gv cv (imI c U)) (h2 : Own W w.heap.size gh ch []) => impl_spelled_any w gc oc n cc c hn hgc hr U.length U [] gv cv gh 0 ch none (.slice none 0 0) [] W rfl hU rfl (by omega) hb h1 h2 (.inl ⟨rfl, rfl, rfl⟩) (by intro e; cases e) (by intro e; cases e) (by simp))
  have KW := Lib.hid kW
  have Hne := Lib.hid hne
  clear kW hr hv hA hU hC hw e1 e2 hil hne hU15 hn4
  go_enter Tryz.func27, Tryz.ntmps27
  go_wp2_with fail
  refine KW.out.mono ?_
  rintro e w1 ⟨rfl, hs1⟩
  have hb1 : Below w.heap.size w w1 := below_still (Below.refl _ _) hs1
  have kI1 := Lib.hid (KI.out w1 hs1)
  clear hs1 KI KW
  go_wp2_with fail
  refine kI1.out.mono ?_
  rintro e w2 ⟨gv, cv, rfl, hov, hb2⟩
  rw [Hil.out]
  have hB2 := hb1.trans (hb2.mono hb1.size)
  have hE : Own (w2.alloc (.cells #[] 3)) w.heap.size w2.heap.size 0 [] := Own.empty hB2.size
  have bE := (Below.refl w2.heap.size w2).alloc (Nat.le_refl _) (.cells #[] 3)
  have hov2 := (hov.mono hb1.size).below bE hov.lt
  have hB3 := hB2.trans (bE.mono hB2.size)
  have hsp := Lib.hid (HS.out _ gv cv w2.heap.size 0 hB3 hov2 hE)
  have HB3 := Lib.hid hB3
  clear hb1 hb2 hB2 hE bE hov hov2 hB3 kI1 HS
  go_wp2_with fail
  refine hsp.out.mono ?_
  rintro e w4 ⟨og, v4, rs, rfl, hM, hcon, hgr, hor⟩
  have hB4 : Below w.heap.size w w4 := HB3.out.trans ⟨hgr.os, hgr.tape, hgr.output, hgr.size, fun q hq => hgr.block q (Nat.lt_of_lt_of_le hq HB3.out.size) (by intro e; cases e)⟩
  have hcon' : contents rs = (wordsL c U).take 121 := by
    have e : (wordsL c U).map (fun y => ([] : List Int) ++ y) = wordsL c U := by simp
    have e0 : contents ([] : List RowRef) = [] := rfl
    rw [e0, List.nil_append, e] at hcon
    exact hcon
  have hlen : rs.length = min 121 (wordsL c U).length := by
    have := congrArg List.length hcon'
    rw [contents_length, List.length_take] at this
    exact this
  have hpos := Hne.out
  rcases hM with ⟨-, -, q⟩ | ⟨g5, c5, -, rfl, hO⟩
  · exfalso
    rw [q] at hlen
    simp at hlen
    omega
  obtain ⟨l5, hl5⟩ : ∃ l, rs.length = l := ⟨_, rfl⟩
  rw [hl5]
  rw [hl5] at hlen
  have Hl5 := Lib.hid hl5; have Hcon := Lib.hid hcon'
  clear hl5 hcon hcon' hsp HB3 hgr hor
  by_cases hfull : (wordsL c U).length ≤ 120
  · have e5 : ¬ (120 : Int) < (l5 : Int) := by omega
    have H1 := Lib.hid hfull
    clear hlen hfull
    go_wp2_with fail
    go_ret2
    rw [← HR.out, ← HBv.out, if_pos H1.out, decide_eq_true H1.out]
    refine GotRowsB.mk' g5 c5 rs Hl5.out ?_ hO hB4
    rw [Hcon.out, List.take_of_length_le (by have := H1.out; omega)]
  · have e5 : (120 : Int) < (l5 : Int) := by omega
    have H1 := Lib.hid hfull
    clear hlen hfull hO
    go_wp2_with fail
    go_ret2
    rw [← HR.out, ← HBv.out, if_neg H1.out, decide_eq_false H1.out]
    exact ⟨_, 0, [], rfl, rfl, OwnRows.empty hB4.size, hB4.alloc hB4.size _⟩
end Go.Proofs.YtjhoimdfmcjkbaaGreatDoor
