/- Braids Bp -/
import Derived.Test.YtkjglfafphffiaaGreatDoorC23
namespace Go.Proofs.YtkjglfafphffiaaGreatDoor
set_option maxRecDepth 100000
open Go.RowKit
set_option maxHeartbeats 1000000 in
theorem impl_BraidAt_any (gc oc n cc g o m cp : Nat) (a : Int) (c : List (List Int)) (v : List Int) (w : World) (hn : c.length = n) (hm : v.length = m) (hx : c.length ≤ 1048576) (hrl : ∀ j, j < c.length → (c.getD j []).length ≤ 1048576) (hl : v.length ≤ 1048576) (hcap : v.length ≤ cp) (ha : -9223372036854775808 ≤ a ∧ a ≤ 9223372036854775807)
    (hgc : gc < w.heap.size) (hg : g < w.heap.size) (hr : Rows2 w gc oc c) (hv : Cells w g o v) :
    Calls Tryz.prog 88 #[(Value.slice (some ⟨gc, oc, none⟩) n cc), (Value.slice (some ⟨g, o, none⟩) m cp), .int .i64 a] w (GotIntsB w ((braidA c v a).getD v) (braidA c v a).isSome) := by
  have hIW := impl_IsWord_any gc oc n cc g o m cp c v w hn hm hx hrl hl hr hv
  cases hw : isWordB c v with
  | false =>
    rw [hw] at hIW
    rw [braidA_not hw]
    have Hi := Lib.hid hIW
    subst hm
    clear hIW hw hr hrl
    go_enter Tryz.func88, Tryz.ntmps88
    go_wp2_with fail
    refine Hi.out.mono ?_
    rintro e w1 ⟨rfl, hs1⟩
    have hb1 := below_still (Below.refl w.heap.size w) hs1
    have hv1 := hv.still hs1
    have hg1 := Nat.lt_of_lt_of_le hg hb1.size
    go_wp2_with (at_builtin; refine wpList_clone rfl _ _ rfl g o _ cp v rfl hg1 hv1 rfl rfl (by omega) ?_)
    intro g3 c3 w3 ho3 hb3
    go_wp2_with fail
    go_ret2
    exact ⟨g3, c3, rfl, ho3.mono hb1.size, hb1.trans (hb3.mono hb1.size)⟩
  | true =>
    rw [hw] at hIW
    have hW := wordOk_of hw
    rw [braidA_word hw]
    have Hi := Lib.hid hIW
    have Hb := Lib.hid (fun W (hs : ∃ q, W = w.drewN q) => impl_braided_any gc oc n cc g o m cp a c v W hn hm hcap hW ha (Nat.lt_of_lt_of_le hgc (below_still (Below.refl w.heap.size w) hs).size) (Nat.lt_of_lt_of_le hg (below_still (Below.refl w.heap.size w) hs).size) (hr.still hs) (hv.still hs))
    have hlen : ∀ y, braidM c v a = some y → y.length = m := fun y h => by rw [← hm]; exact braidA_length (a := a) (by rw [braidA_word hw]; exact h)
    have Hlen := Lib.hid hlen
    subst hm
    clear hIW hw hr hrl hW hlen
    generalize braidM c v a = r at *
    go_enter Tryz.func88, Tryz.ntmps88
    go_wp2_with fail
    refine Hi.out.mono ?_
    rintro e w1 ⟨rfl, hs1⟩
    have hb1 := below_still (Below.refl w.heap.size w) hs1
    go_wp2_with fail
    refine (Hb.out w1 hs1).mono ?_
    intro e w2 hp
    rcases hp with ⟨rfl, rfl, hb2⟩ | ⟨y, rfl, g2, c2, rfl, ho2, hb2⟩
    · have hb := hb1.trans (hb2.mono hb1.size)
      have hv2 := hv.below hb hg
      have hg2 := Nat.lt_of_lt_of_le hg hb.size
      go_wp2_with (at_builtin; refine wpList_clone rfl _ _ rfl g o _ cp v rfl hg2 hv2 rfl rfl (by omega) ?_)
      intro g3 c3 w3 ho3 hb3
      go_wp2_with fail
      go_ret2
      exact ⟨g3, c3, rfl, ho3.mono hb.size, hb.trans (hb3.mono hb.size)⟩
    · have hyl := Hlen.out y rfl
      have hb := hb1.trans (hb2.mono hb1.size)
      have ho := ho2.mono hb1.size
      have Hyl := Lib.hid hyl
      rw [hyl]
      clear hyl ho2 hb2
      go_wp2_with fail
      go_ret2
      exact GotIntsB.mk' g2 c2 Hyl.out ho hb
def applyA (c : List (List Int)) : List Int → List Int → Option (List Int)
  | v, [] => some v
  | v, a :: ps => match braidA c v a with
    | none => none
    | some y => applyA c y ps
def applyB (c : List (List Int)) (v ps : List Int) : Option (List Int) := if isWordB c v = true then applyA c v ps else none
theorem applyA_none {c : List (List Int)} {y ps : List Int} {k : Nat} (hk : k < ps.length) (h : braidA c y (ps.getD k 0) = none) : applyA c y (ps.drop k) = none := by
  rw [List.drop_eq_getElem_cons hk]
  have e : ps.getD k 0 = ps[k] := by simp [List.getD, hk]
  rw [e] at h
  simp only [applyA, h]
theorem applyA_some {c : List (List Int)} {y z ps : List Int} {k : Nat} (hk : k < ps.length) (h : braidA c y (ps.getD k 0) = some z) : applyA c y (ps.drop k) = applyA c z (ps.drop (k + 1)) := by
  rw [List.drop_eq_getElem_cons hk]
  have e : ps.getD k 0 = ps[k] := by simp [List.getD, hk]
  rw [e] at h
  simp only [applyA, h]
theorem applyA_end (c : List (List Int)) (y ps : List Int) : applyA c y (ps.drop ps.length) = some y := by rw [List.drop_length]; rfl
theorem applyB_true {c : List (List Int)} {v ps : List Int} (h : isWordB c v = true) : applyB c v ps = applyA c v ps := if_pos h
theorem applyB_false {c : List (List Int)} {v ps : List Int} (h : isWordB c v = false) : applyB c v ps = none := if_neg (by rw [h]; decide)
set_option maxHeartbeats 2000000 in
theorem impl_ApplyBraids_any (gc oc n cc g o m cp g2 o2 n2 c2 : Nat) (c : List (List Int)) (v ps : List Int) (w : World) (hn : c.length = n) (hm : v.length = m) (hn2 : ps.length = n2) (hx : c.length ≤ 1048576) (hrl : ∀ j, j < c.length → (c.getD j []).length ≤ 1048576) (hl : v.length ≤ 1048576) (hl2 : ps.length ≤ 1048576)
    (hps : ∀ k, k < ps.length → -9223372036854775808 ≤ ps.getD k 0 ∧ ps.getD k 0 ≤ 9223372036854775807)
    (hgc : gc < w.heap.size) (hg : g < w.heap.size) (hg2 : g2 < w.heap.size) (hr : Rows2 w gc oc c) (hv : Cells w g o v) (hp : Cells w g2 o2 ps) :
    Calls Tryz.prog 40 #[(Value.slice (some ⟨gc, oc, none⟩) n cc), (Value.slice (some ⟨g, o, none⟩) m cp), (Value.slice (some ⟨g2, o2, none⟩) n2 c2)] w (GotIntsB w ((applyB c v ps).getD v) (applyB c v ps).isSome) := by
  subst hn2; subst hm
  have HIW := Lib.hid (fun W (hb : Below w.heap.size w W) => impl_IsWord_any gc oc n cc g o _ cp c v W hn rfl hx hrl hl (hr.below hb hgc) (hv.below hb hg))
  have Hr := Lib.hid hr; have Hrl := Lib.hid hrl; have Hps := Lib.hid hps; have Hp := Lib.hid hp
  have HB := Lib.hid (fun (y : List Int) (a : Int) (W : World) (g3 c3 : Nat) (hyl : y.length = v.length) (ha : -9223372036854775808 ≤ a ∧ a ≤ 9223372036854775807) (hb : Below w.heap.size w W) (ho : Own W w.heap.size g3 c3 y) => impl_BraidAt_any gc oc n cc g3 0 v.length c3 a c y W hn hyl hx hrl (by omega) ho.capLe ha (Nat.lt_of_lt_of_le hgc hb.size) ho.lt (hr.below hb hgc) ho.cells)
  clear hr hrl hps hp
  go_enter Tryz.func40, Tryz.ntmps40
  go_wp2_with (at_builtin; refine wpList_clone rfl _ _ rfl g o _ cp v rfl hg hv rfl rfl (by omega) ?_)
  intro g3 c3 w3 ho3 hb3
  have hI := Lib.hid (HIW.out w3 hb3)
  go_wp2_with fail
  refine hI.out.mono ?_
  rintro e w4 ⟨rfl, hs4⟩
  have hb4 := below_still hb3 hs4
  have ho4 := ho3.still hs4
  go_wp2_with fail
  clear hI HIW ho3 hb3 hs4
  go_loopw [8, 9, 20] (fun xv bv kv wr => ∃ (k g3 c3 : Nat) (y : List Int) (b : Bool), k ≤ ps.length ∧ kv = .int .i64 k ∧ xv = (Value.slice (some ⟨g3, 0, none⟩) v.length c3) ∧ bv = .bool b ∧ Hid (y.length = v.length) ∧ Hid (b = true → isWordB c v = true ∧ applyA c y (ps.drop k) = applyA c v ps) ∧ Hid (b = false → applyB c v ps = none) ∧ Own wr w.heap.size g3 c3 y ∧ Below w.heap.size w wr) (fun _ _ kv _ => ps.length - (intOf kv).toNat)
  case atStart => exact ⟨0, g3, c3, v, isWordB c v, Nat.zero_le _, rfl, rfl, rfl, rfl, fun h => ⟨h, rfl⟩, fun h => applyB_false h, ho4, hb4⟩
  case round =>
    clear ho4 hb4
    obtain ⟨k, g3, c3, y, b, hk, rfl, rfl, rfl, hyl, hyes, hno, ho, hb⟩ := hrel
    by_cases hlt : k < ps.length
    · have p1 := (Hp.out.below hb hg2) k hlt
      have hpk := Hps.out k hlt
      cases b with
      | false =>
        have hN := hno.out rfl
        have HN := Lib.hid hN
        clear hyes hno hN
        have hvb := hv.below hb hg
        have hgb := Nat.lt_of_lt_of_le hg hb.size
        go_wp2_with (at_builtin; refine wpList_clone rfl _ _ rfl g o _ cp v rfl hgb hvb rfl rfl (by omega) ?_)
        intro g5 c5 w5 ho5 hb5
        go_wp2_with fail
        go_ret2
        rw [HN.out]
        exact ⟨g5, c5, rfl, ho5.mono hb.size, hb.trans (hb5.mono hb.size)⟩
      | true =>
        have hY := hyes.out rfl
        have hcall := HB.out y (ps.getD k 0) wr g3 c3 hyl.out hpk hb ho
        have hnone : braidA c y (ps.getD k 0) = none → applyB c v ps = none := fun h => by rw [applyB_true hY.1, ← hY.2]; exact applyA_none hlt h
        have hsome : ∀ z, braidA c y (ps.getD k 0) = some z → applyA c z (ps.drop (k + 1)) = applyA c v ps := fun z h => by rw [← hY.2]; exact (applyA_some hlt h).symm
        have hlen : ∀ z, braidA c y (ps.getD k 0) = some z → z.length = v.length := fun z h => by rw [braidA_length h]; exact hyl.out
        generalize braidA c y (ps.getD k 0) = r at *
        generalize ps.getD k 0 = a at *
        have Hw := Lib.hid hY.1
        have Hnone := Lib.hid hnone; have Hsome := Lib.hid hsome; have Hlen := Lib.hid hlen; have Hcall := Lib.hid hcall
        clear hY hnone hsome hlen hcall hyes hno hpk
        have hrl : (r.getD y).length = v.length := by
          cases r with
          | none => exact hyl.out
          | some z => exact Hlen.out z rfl
        have Hrl := Lib.hid hrl
        clear hrl
        go_wp2_with fail
        refine Hcall.out.mono ?_
        rintro e w5 ⟨g5, c5, rfl, ho5, hb5⟩
        rw [Hrl.out]
        have hB5 := hb.trans (hb5.mono hb.size)
        have hO5 := ho5.mono hb.size
        clear ho5 hb5 Hcall
        go_wp2_with fail
        go_roundw
        case rel =>
          refine ⟨k + 1, g5, c5, r.getD y, r.isSome, by omega, by go_num, rfl, rfl, Hrl.out, ?_, ?_, hO5, hB5⟩
          · intro h
            cases r with
            | none => cases h
            | some z => exact ⟨Hw.out, Hsome.out z rfl⟩
          · intro h
            cases r with
            | none => exact Hnone.out rfl
            | some z => cases h
        case measure => simp [intOf]; omega
    · obtain rfl : k = ps.length := by omega
      cases b with
      | false =>
        have hN := hno.out rfl
        have HN := Lib.hid hN
        clear hyes hno hN
        have hvb := hv.below hb hg
        have hgb := Nat.lt_of_lt_of_le hg hb.size
        go_wp2_with (at_builtin; refine wpList_clone rfl _ _ rfl g o _ cp v rfl hgb hvb rfl rfl (by omega) ?_)
        intro g5 c5 w5 ho5 hb5
        go_wp2_with fail
        go_ret2
        rw [HN.out]
        exact ⟨g5, c5, rfl, ho5.mono hb.size, hb.trans (hb5.mono hb.size)⟩
      | true =>
        have hY := hyes.out rfl
        have hN : applyB c v ps = some y := by rw [applyB_true hY.1, ← hY.2]; exact applyA_end _ _ _
        have HN := Lib.hid hN
        clear hyes hno hN hY
        go_wp2_with fail
        go_ret2
        rw [HN.out]
        exact GotIntsB.mk' g3 c3 hyl.out ho hb
set_option maxHeartbeats 2000000 in
theorem spec_ApplyBraids_any (gc oc n cc g o m cp g2 o2 n2 c2 : Nat) (c : List (List Int)) (v ps : List Int) (w : World) (hn : c.length = n) (hm : v.length = m) (hn2 : ps.length = n2) (hx : c.length ≤ 1048576) (hrl : ∀ j, j < c.length → (c.getD j []).length ≤ 1048576) (hl : v.length ≤ 1048576) (hl2 : ps.length ≤ 1048576)
    (hps : ∀ k, k < ps.length → -9223372036854775808 ≤ ps.getD k 0 ∧ ps.getD k 0 ≤ 9223372036854775807)
    (hgc : gc < w.heap.size) (hg : g < w.heap.size) (hg2 : g2 < w.heap.size) (hr : Rows2 w gc oc c) (hv : Cells w g o v) (hp : Cells w g2 o2 ps) :
    Calls Tryz.prog 50 #[(Value.slice (some ⟨gc, oc, none⟩) n cc), (Value.slice (some ⟨g, o, none⟩) m cp), (Value.slice (some ⟨g2, o2, none⟩) n2 c2)] w (GotIntsB w ((applyB c v ps).getD v) (applyB c v ps).isSome) := by
  subst hn2; subst hm
  have HIW := Lib.hid (fun W (hb : Below w.heap.size w W) => spec_IsWord_any gc oc n cc g o _ cp c v W hn rfl hx hrl hl (hr.below hb hgc) (hv.below hb hg))
  have Hr := Lib.hid hr; have Hrl := Lib.hid hrl; have Hps := Lib.hid hps; have Hp := Lib.hid hp
  have HB := Lib.hid (fun (y : List Int) (a : Int) (W : World) (g3 c3 : Nat) (hyl : y.length = v.length) (ha : -9223372036854775808 ≤ a ∧ a ≤ 9223372036854775807) (hb : Below w.heap.size w W) (ho : Own W w.heap.size g3 c3 y) => spec_BraidAt_any gc oc n cc g3 0 v.length c3 a c y W hn hyl hx hrl (by omega) ho.capLe ha (Nat.lt_of_lt_of_le hgc hb.size) ho.lt (hr.below hb hgc) ho.cells)
  clear hr hrl hps hp
  go_enter Tryz.func50, Tryz.ntmps50
  go_wp2_with (at_builtin; refine wpList_clone rfl _ _ rfl g o _ cp v rfl hg hv rfl rfl (by omega) ?_)
  intro g3 c3 w3 ho3 hb3
  go_wp2_with fail
  go_loopw [8, 9] (fun xv kv wr => ∃ (k g3 c3 : Nat) (y : List Int), k ≤ ps.length ∧ kv = .int .i64 k ∧ xv = (Value.slice (some ⟨g3, 0, none⟩) v.length c3) ∧ Hid (y.length = v.length) ∧ Hid (applyA c y (ps.drop k) = applyA c v ps) ∧ Hid (isWordB c v = false → y = v) ∧ Own wr w.heap.size g3 c3 y ∧ Below w.heap.size w wr) (fun _ kv _ => ps.length - (intOf kv).toNat)
  case atStart => exact ⟨0, g3, c3, v, Nat.zero_le _, rfl, rfl, rfl, rfl, fun _ => rfl, ho3, hb3⟩
  case round =>
    clear ho3 hb3
    obtain ⟨k, g3, c3, y, hk, rfl, rfl, hyl, hyes, hno, ho, hb⟩ := hrel
    by_cases hlt : k < ps.length
    · have p1 := (Hp.out.below hb hg2) k hlt
      have hpk := Hps.out k hlt
      have hcall := HB.out y (ps.getD k 0) wr g3 c3 hyl.out hpk hb ho
      have hnone : braidA c y (ps.getD k 0) = none → applyB c v ps = none := fun h => by
        cases hw : isWordB c v with
        | false => exact applyB_false hw
        | true => rw [applyB_true hw, ← hyes.out]; exact applyA_none hlt h
      have hsome : ∀ z, braidA c y (ps.getD k 0) = some z → applyA c z (ps.drop (k + 1)) = applyA c v ps := fun z h => by rw [← hyes.out]; exact (applyA_some hlt h).symm
      have hlen : ∀ z, braidA c y (ps.getD k 0) = some z → z.length = v.length := fun z h => by rw [braidA_length h]; exact hyl.out
      have hnw : ∀ z, braidA c y (ps.getD k 0) = some z → isWordB c v = false → z = v := fun z h hw => by
        rw [hno.out hw, braidA_not hw] at h
        cases h
      generalize braidA c y (ps.getD k 0) = r at *
      generalize ps.getD k 0 = a at *
      have Hcall := Lib.hid hcall
      clear hcall hyes hno hpk
      cases r with
      | none =>
        have hN := hnone rfl
        have HN := Lib.hid hN
        clear hN hnone hsome hlen hnw
        have hyl2 : ((none : Option (List Int)).getD y).length = v.length := hyl.out
        have Hyl2 := Lib.hid hyl2; clear hyl2
        go_wp2_with fail
        refine Hcall.out.mono ?_
        rintro e w5 ⟨g5, c5, rfl, ho5, hb5⟩
        rw [Hyl2.out]
        have hB5 := hb.trans (hb5.mono hb.size)
        have hvb := hv.below hB5 hg
        have hgb := Nat.lt_of_lt_of_le hg hB5.size
        go_wp2_with (at_builtin; refine wpList_clone rfl _ _ rfl g o _ cp v rfl hgb hvb rfl rfl (by omega) ?_)
        intro g6 c6 w6 ho6 hb6
        go_wp2_with fail
        go_ret2
        rw [HN.out]
        exact ⟨g6, c6, rfl, ho6.mono hB5.size, hB5.trans (hb6.mono hB5.size)⟩
      | some z =>
        have h1 := Lib.hid (hsome z rfl); have h2 := Lib.hid (hnw z rfl); have h3 := Lib.hid (show ((some z).getD y).length = v.length from hlen z rfl)
        clear hnone hsome hlen hnw
        go_wp2_with fail
        refine Hcall.out.mono ?_
        rintro e w5 ⟨g5, c5, rfl, ho5, hb5⟩
        rw [h3.out]
        have hB5 := hb.trans (hb5.mono hb.size)
        have hO5 := ho5.mono hb.size
        clear ho5 hb5 Hcall
        go_wp2_with fail
        go_roundw
        case rel => exact ⟨k + 1, g5, c5, z, by omega, by go_num, rfl, h3.out, h1.out, h2.out, hO5, hB5⟩
        case measure => simp [intOf]; omega
    · obtain rfl : k = ps.length := by omega
      have he : applyA c v ps = some y := by rw [← hyes.out]; exact applyA_end _ _ _
      have hI := Lib.hid (HIW.out wr hb)
      have hres : (applyB c v ps).getD v = y ∧ (applyB c v ps).isSome = isWordB c v := by
        cases hw : isWordB c v with
        | false => rw [applyB_false hw]; exact ⟨(hno.out hw).symm, rfl⟩
        | true => rw [applyB_true hw, he]; exact ⟨rfl, rfl⟩
      have Hres := Lib.hid hres
      clear hyes hno he hres
      go_wp2_with fail
      refine hI.out.mono ?_
      rintro e w5 ⟨rfl, hs5⟩
      have hB5 := below_still hb hs5
      have hO5 := ho.still hs5
      go_wp2_with fail
      go_ret2
      rw [Hres.out.1, Hres.out.2]
      exact GotIntsB.mk' g3 c3 hyl.out hO5 hB5
end Go.Proofs.YtkjglfafphffiaaGreatDoor
namespace Go.Proofs.YtkjglfafphffiaaGreatDoor
set_option maxRecDepth 100000
open Go.RowKit
def placesTo (c : List (List Int)) (v : List Int) (k : Nat) : List Int := ((List.range k).filter fun t : Nat => (braidA c v (t : Int)).isSome).map fun t : Nat => (t : Int)
def placesL (c : List (List Int)) (v : List Int) : List Int := placesTo c v v.length
theorem placesTo_yes {c : List (List Int)} {v : List Int} {k : Nat} (h : (braidA c v (k : Int)).isSome = true) : placesTo c v (k + 1) = placesTo c v k ++ [(k : Int)] := by
  unfold placesTo
  rw [List.range_succ, List.filter_append, List.map_append]
  simp [h]
theorem placesTo_no {c : List (List Int)} {v : List Int} {k : Nat} (h : (braidA c v (k : Int)).isSome = false) : placesTo c v (k + 1) = placesTo c v k := by
  unfold placesTo
  rw [List.range_succ, List.filter_append, List.map_append]
  simp [h]
theorem placesTo_len (c : List (List Int)) (v : List Int) (k : Nat) : (placesTo c v k).length ≤ k := by
  unfold placesTo
  rw [List.length_map]
  exact Nat.le_trans (List.length_filter_le _ _) (by simp)
theorem placesL_mem {c : List (List Int)} {v : List Int} {x : Int} (h : x ∈ placesL c v) : (0 ≤ x ∧ x < (v.length : Int)) ∧ (braidA c v x).isSome = true := by
  unfold placesL placesTo at h
  obtain ⟨t, ht, rfl⟩ := List.mem_map.1 h
  obtain ⟨h1, h2⟩ := List.mem_filter.1 ht
  have := List.mem_range.1 h1
  exact ⟨⟨by omega, by omega⟩, h2⟩
theorem altL_mem {i j x : Int} {n : Nat} (h : x ∈ altL i j n) : x = i ∨ x = j := by
  unfold altL at h
  obtain ⟨k, -, rfl⟩ := List.mem_map.1 h
  split
  · exact .inl rfl
  · exact .inr rfl
theorem braidK_mem {c : List (List Int)} {v y : List Int} {k : Nat} (h : braidK c v k = some y) : ∀ x ∈ y, x ∈ v := by
  unfold braidK at h
  simp only at h
  split at h
  · rename_i hc
    injection h with h
    subst h
    have e1 : v.getD k 0 ∈ v := by simp [List.getD, show k < v.length by omega]
    have e2 : v.getD (k + 1) 0 ∈ v := by simp [List.getD, hc.1]
    intro x hx
    rcases List.mem_append.1 hx with g | g
    · rcases List.mem_append.1 g with g | g
      · exact List.mem_of_mem_take g
      · rcases altL_mem g with g | g
        · rw [g]; exact e2
        · rw [g]; exact e1
    · exact List.mem_of_mem_drop g
  · cases h
theorem braidA_mem {c : List (List Int)} {v y : List Int} {a : Int} (h : braidA c v a = some y) : ∀ x ∈ y, x ∈ v := by
  unfold braidA at h
  split at h
  · unfold braidM at h
    split at h
    · exact braidK_mem h
    · cases h
  · cases h
theorem braidA_ok {c : List (List Int)} {v y : List Int} {a : Int} (hW : WordOk c v) (h : braidA c v a = some y) : WordOk c y := by
  have h1 := braidA_length h
  have h2 := braidA_mem h
  refine ⟨hW.isC, by have := hW.few; omega, fun k hk => ?_⟩
  have hm : y.getD k 0 ∈ v := h2 _ (by simp [List.getD, hk])
  obtain ⟨t, ht, e⟩ := List.mem_iff_getElem.1 hm
  have := hW.inr t ht
  rw [← e]
  simpa [List.getD, ht] using this
abbrev BNode := List Int × List Int
def wordsB (Q : List BNode) : List (List Int) := Q.map (·.1)
def pathsB (Q : List BNode) : List (List Int) := Q.map (·.2)
def bpStep (c : List (List Int)) (N : BNode) (Q : List BNode) (a : Int) : List BNode :=
  if (braidA c N.1 a).getD N.1 ∈ wordsB Q ∨ 120 ≤ Q.length then Q else Q ++ [((braidA c N.1 a).getD N.1, N.2 ++ [a])]
def bpRow (c : List (List Int)) (N : BNode) (Q : List BNode) (t : Nat) : List BNode := ((placesL c N.1).take t).foldl (bpStep c N) Q
def bpGo (c : List (List Int)) (b : List Int) : Nat → Nat → List BNode → Option (List Int)
  | 0, _, _ => none
  | f + 1, k, Q => if k < Q.length then (if (Q.getD k ([], [])).1 = b then some (Q.getD k ([], [])).2 else bpGo c b f (k + 1) (bpRow c (Q.getD k ([], [])) Q (placesL c (Q.getD k ([], [])).1).length)) else none
def bpR (c : List (List Int)) (a b : List Int) : Option (List Int) := bpGo c b 121 0 [(a, [])]
theorem bpRow_succ {c : List (List Int)} {N : BNode} {Q : List BNode} {t : Nat} (ht : t < (placesL c N.1).length) : bpRow c N Q (t + 1) = bpStep c N (bpRow c N Q t) ((placesL c N.1).getD t 0) := by
  unfold bpRow
  rw [List.take_succ_eq_append_getElem ht, List.foldl_append]
  have e : (placesL c N.1).getD t 0 = (placesL c N.1)[t] := by simp [List.getD, ht]
  rw [e]
  rfl
structure BpOk (c : List (List Int)) (l : Nat) (Q : List BNode) : Prop where
  few : Q.length ≤ 120
  word : ∀ N ∈ Q, WordOk c N.1 ∧ N.1.length = l
  path : ∀ k, k < Q.length → (Q.getD k ([], [])).2.length ≤ k
  places : ∀ N ∈ Q, ∀ x ∈ N.2, 0 ≤ x ∧ x < 16
theorem getD_memI {l : List Int} {t : Nat} (h : t < l.length) : l.getD t 0 ∈ l := by simp [List.getD, h]
theorem getD_mem {Q : List BNode} {k : Nat} (hk : k < Q.length) : Q.getD k ([], []) ∈ Q := by simp [List.getD, hk]
theorem bpStep_cases (c : List (List Int)) (N : BNode) (Q : List BNode) (a : Int) : (bpStep c N Q a = Q ∧ ((braidA c N.1 a).getD N.1 ∈ wordsB Q ∨ 120 ≤ Q.length)) ∨ (bpStep c N Q a = Q ++ [((braidA c N.1 a).getD N.1, N.2 ++ [a])] ∧ (braidA c N.1 a).getD N.1 ∉ wordsB Q ∧ Q.length < 120) := by
  unfold bpStep
  split
  · exact .inl ⟨rfl, by assumption⟩
  · rename_i h
    exact .inr ⟨rfl, fun g => h (.inl g), by have : ¬ 120 ≤ Q.length := fun g => h (.inr g); omega⟩
theorem BpOk.step {c : List (List Int)} {l : Nat} {Q : List BNode} (h : BpOk c l Q) {k : Nat} (hk : k < Q.length) {a : Int} (ha : a ∈ placesL c (Q.getD k ([], [])).1) : BpOk c l (bpStep c (Q.getD k ([], [])) Q a) := by
  have hN := h.word _ (getD_mem hk)
  have hP := h.path k hk
  have hPl := h.places _ (getD_mem hk)
  obtain ⟨ha1, ha2⟩ := placesL_mem ha
  rcases bpStep_cases c (Q.getD k ([], [])) Q a with ⟨e, -⟩ | ⟨e, h1, h2⟩
  · rw [e]; exact h
  · rw [e]
    obtain ⟨y, hy⟩ := Option.isSome_iff_exists.1 ha2
    rw [hy]
    refine ⟨by simp; omega, fun N hm => ?_, fun t ht => ?_, fun N hm => ?_⟩
    · rcases List.mem_append.1 hm with g | g
      · exact h.word N g
      · rw [List.mem_singleton] at g
        subst g
        exact ⟨braidA_ok hN.1 hy, by rw [← hN.2]; exact braidA_length hy⟩
    · by_cases e : t < Q.length
      · have := h.path t e
        simpa [List.getD, List.getElem?_append_left e] using this
      · have : t = Q.length := by simp at ht; omega
        subst this
        simp [List.getD] at hP ⊢
        omega
    · rcases List.mem_append.1 hm with g | g
      · exact h.places N g
      · rw [List.mem_singleton] at g
        subst g
        intro x hx
        rcases List.mem_append.1 hx with g | g
        · exact hPl x g
        · rw [List.mem_singleton] at g
          subst g
          have := hN.1.few
          omega
theorem bpStep_pre (c : List (List Int)) (N : BNode) (Q : List BNode) (a : Int) : ∃ L, bpStep c N Q a = Q ++ L := by
  rcases bpStep_cases c N Q a with ⟨e, -⟩ | ⟨e, -⟩
  · exact ⟨[], by rw [e]; simp⟩
  · exact ⟨_, e⟩
theorem getD_pre {Q L : List BNode} {k : Nat} (hk : k < Q.length) : (Q ++ L).getD k ([], []) = Q.getD k ([], []) := by
  simp [List.getD, List.getElem?_append_left hk]
theorem BpOk.row {c : List (List Int)} {l : Nat} {Q : List BNode} (h : BpOk c l Q) {k : Nat} (hk : k < Q.length) : ∀ t, t ≤ (placesL c (Q.getD k ([], [])).1).length → BpOk c l (bpRow c (Q.getD k ([], [])) Q t) ∧ k < (bpRow c (Q.getD k ([], [])) Q t).length ∧ (bpRow c (Q.getD k ([], [])) Q t).getD k ([], []) = Q.getD k ([], [])
  | 0, _ => ⟨h, hk, rfl⟩
  | t + 1, ht => by
    obtain ⟨h1, h2, h3⟩ := h.row hk t (by omega)
    rw [bpRow_succ (by omega)]
    have hm : (placesL c (Q.getD k ([], [])).1).getD t 0 ∈ placesL c (Q.getD k ([], [])).1 := getD_memI (by omega)
    have h4 := h1.step h2 (a := (placesL c (Q.getD k ([], [])).1).getD t 0) (by rw [h3]; exact hm)
    rw [h3] at h4
    obtain ⟨L, hL⟩ := bpStep_pre c (Q.getD k ([], [])) (bpRow c (Q.getD k ([], [])) Q t) ((placesL c (Q.getD k ([], [])).1).getD t 0)
    refine ⟨h4, ?_, ?_⟩
    · rw [hL, List.length_append]; omega
    · rw [hL, getD_pre h2, h3]
theorem BpOk.start {c : List (List Int)} {a : List Int} (h : WordOk c a) : BpOk c a.length [(a, [])] :=
  ⟨by simp, fun N hm => by rw [List.mem_singleton] at hm; subst hm; exact ⟨h, rfl⟩, fun k hk => by simp at hk; subst hk; simp [List.getD], fun N hm => by rw [List.mem_singleton] at hm; subst hm; simp⟩
theorem bpGo_found {c : List (List Int)} {b : List Int} {f k : Nat} {Q : List BNode} (hk : k < Q.length) (h : (Q.getD k ([], [])).1 = b) : bpGo c b (f + 1) k Q = some (Q.getD k ([], [])).2 := by
  unfold bpGo; rw [if_pos hk, if_pos h]
theorem bpGo_next {c : List (List Int)} {b : List Int} {f k : Nat} {Q : List BNode} (hk : k < Q.length) (h : (Q.getD k ([], [])).1 ≠ b) : bpGo c b (f + 1) k Q = bpGo c b f (k + 1) (bpRow c (Q.getD k ([], [])) Q (placesL c (Q.getD k ([], [])).1).length) := by
  rw [bpGo, if_pos hk, if_neg h]
theorem bpGo_done {c : List (List Int)} {b : List Int} {f k : Nat} {Q : List BNode} (hk : Q.length ≤ k) : bpGo c b f k Q = none := by
  cases f with
  | zero => rfl
  | succ f => rw [bpGo, if_neg (by omega)]
theorem bpGo_len {c : List (List Int)} {b : List Int} {l : Nat} : ∀ (f k : Nat) (Q : List BNode) (p : List Int), BpOk c l Q → bpGo c b f k Q = some p → p.length ≤ 120 ∧ ∀ x ∈ p, 0 ≤ x ∧ x < 16
  | 0, _, _, _, _, h => by cases h
  | f + 1, k, Q, p, hok, h => by
    by_cases hk : k < Q.length
    · by_cases e : (Q.getD k ([], [])).1 = b
      · rw [bpGo_found hk e] at h
        injection h with h
        subst h
        have := hok.path k hk
        have := hok.few
        exact ⟨by omega, hok.places _ (getD_mem hk)⟩
      · rw [bpGo_next hk e] at h
        exact bpGo_len f (k + 1) _ p (hok.row hk _ (Nat.le_refl _)).1 h
    · rw [bpGo_done (by omega)] at h
      cases h
end Go.Proofs.YtkjglfafphffiaaGreatDoor
