/- The program's weakBelow at two words that hold no letter: slices.Concat gives no slice there. Contract. The program's subword, below, SubwordOf, notBelow: contracts. -/
import Derived.Test.YtdedkfbiookofaaGreatDoorM41
import Derived.Test.YtdedkfbiookofaaGreatDoorM17
import Derived.Test.YtdedkfbiookofaaGreatDoorM14
import Derived.Test.YtdedkfbiookofaaGreatDoorM22
namespace Go.Proofs.YtdedkfbiookofaaGreatDoor
set_option maxRecDepth 100000
open Go.RowKit Game
theorem run_append_no_no (w : World) (ty : TypeId) (a : Option Addr) (c : Nat) : (Builtin.append_ #[25, 25] ty #[.slice none 0 0, .slice a 0 c]).run Tryz.prog w = .ok (.slice none 0 0) w := by
  obtain ⟨i0, hi, hz0, hz1, hz2⟩ := info_parts info3
  cases a <;> simp [Builtin.append_, run_underlying (Tryz.underlying25), sizeOf, typeInfo, hi, Builtin.lenOf, Builtin.firstCells, loadCells, loadCellsFrom]
set_option maxHeartbeats 1000000 in
theorem slices_Grow_zero (w : World) : Calls Tryz.prog 168 #[.slice none 0 0, .int .i64 0] w (Reads w (.slice none 0 0)) := by
  go_enter Tryz.func168, Tryz.ntmps168
  go_wp2_with fail
  go_ret
  exact ⟨rfl, 0, rfl⟩
set_option maxHeartbeats 2000000 in
theorem slices_Concat_none (g o : Nat) (w : World) (hg : g < w.heap.size) (hr : ∀ j, j < 3 → ∃ a cj, w.cell? ⟨g, o + j, none⟩ = some (.slice a 0 cj)) :
    Calls Tryz.prog 142 #[(Value.slice (some ⟨g, o, none⟩) 3 3)] w (Gives w (.slice none 0 0)) := by
  have Hr := Lib.hid hr; clear hr
  have hG := Lib.hid slices_Grow_zero
  go_enter Tryz.func142, Tryz.ntmps142
  go_wp2
  go_loopw [3, 11] (fun sv kv wr => ∃ k q : Nat, k ≤ 3 ∧ kv = .int .i64 (k : Int) ∧ sv = .int .i64 0 ∧ wr = w.drewN q) (fun _ kv _ => 3 - (intOf kv).toNat)
  case atStart => exact ⟨0, 0, Nat.zero_le _, rfl, rfl, rfl⟩
  case round =>
    obtain ⟨k, q, hk, rfl, rfl, rfl⟩ := hrel
    by_cases hlt : k < 3
    · obtain ⟨a, cj, q1⟩ := Hr.out k hlt
      go_wp2_with fail
      go_roundw
      case rel => exact ⟨k + 1, q, by omega, by go_num, rfl, rfl⟩
      case measure => simp [intOf]; omega
    · obtain rfl : k = 3 := by omega
      go_wp2_with fail
      refine (hG.out _).mono ?_
      rintro e w1 ⟨rfl, hs1⟩
      have hb1 := below_still (below_drewN' (B := w.heap.size) w q) hs1
      go_wp2_with fail
      go_loopw [6, 27] (fun ov kv wi => ∃ k : Nat, k ≤ 3 ∧ kv = .int .i64 (k : Int) ∧ ov = .slice none 0 0 ∧ Below w.heap.size w wi) (fun _ kv _ => 3 - (intOf kv).toNat)
      case atStart => exact ⟨0, Nat.zero_le _, rfl, rfl, hb1⟩
      case round =>
        clear hb1
        obtain ⟨k, hk, rfl, rfl, hb⟩ := hrel
        by_cases hlt : k < 3
        · obtain ⟨a, cj, q1⟩ := Hr.out k hlt
          have q2 := (hb.cell (p := ⟨g, o + k, none⟩) hg).trans q1
          clear q1
          have happ := fun W ty => run_append_no_no W ty a cj
          go_wp2_with (at_builtin; refine Lib.wpList_append_run _ rfl _ _ _ _ rfl _ _ rfl rfl _ _ (run_append_no_no _ _ a cj) ?_)
          go_wp2_with fail
          go_roundw
          case rel => exact ⟨k + 1, by omega, by go_num, rfl, hb⟩
          case measure => simp [intOf]; omega
        · obtain rfl : k = 3 := by omega
          go_wp2
          go_ret
          exact ⟨rfl, hb⟩
theorem impl_ConcatWords_none (g1 o1 c1 g2 o2 c2 : Nat) (w : World) : Calls Tryz.prog 114 #[(Value.slice (some ⟨g1, o1, none⟩) 0 c1), (Value.slice (some ⟨g2, o2, none⟩) 0 c2)] w (Gives w (.slice none 0 0)) := by
  let W := w.alloc (.cells #[] 3)
  have hbW : Below w.heap.size w W := (Below.refl _ _).alloc (Nat.le_refl _) _
  have hszW : W.heap.size = w.heap.size + 1 := by simp [W]
  have hC := Lib.hid (show Calls Tryz.prog 142 #[(Value.slice (some ⟨W.heap.size, 0, none⟩) 3 3)] (W.alloc (.cells #[(Value.slice (some ⟨w.heap.size, 0, none⟩) 0 0), (Value.slice (some ⟨g1, o1, none⟩) 0 c1), (Value.slice (some ⟨g2, o2, none⟩) 0 c2)] 25)) (Gives (W.alloc (.cells #[(Value.slice (some ⟨w.heap.size, 0, none⟩) 0 0), (Value.slice (some ⟨g1, o1, none⟩) 0 c1), (Value.slice (some ⟨g2, o2, none⟩) 0 c2)] 25)) (.slice none 0 0)) by
    have hnew := heap_alloc_new W (.cells #[(Value.slice (some ⟨w.heap.size, 0, none⟩) 0 0), (Value.slice (some ⟨g1, o1, none⟩) 0 c1), (Value.slice (some ⟨g2, o2, none⟩) 0 c2)] 25)
    refine slices_Concat_none W.heap.size 0 _ (by simp) ?_
    intro j hj
    have hj' : j = 0 ∨ j = 1 ∨ j = 2 := by omega
    rcases hj' with rfl | rfl | rfl
    · exact ⟨_, _, (threeCells hnew).1⟩
    · exact ⟨_, _, (threeCells hnew).2.1⟩
    · exact ⟨_, _, (threeCells hnew).2.2⟩)
  have hb2 : Below w.heap.size w (W.alloc (.cells #[(Value.slice (some ⟨w.heap.size, 0, none⟩) 0 0), (Value.slice (some ⟨g1, o1, none⟩) 0 c1), (Value.slice (some ⟨g2, o2, none⟩) 0 c2)] 25)) := hbW.alloc hbW.size _
  have Hb2 := Lib.hid hb2
  rw [hszW] at hC
  clear hb2 hbW hszW
  go_enter Tryz.func114, Tryz.ntmps114
  go_wp2_with fail
  refine hC.out.mono ?_
  rintro e w4 ⟨rfl, hb4⟩
  go_wp2_with fail
  go_ret
  exact ⟨rfl, Hb2.out.trans (hb4.mono Hb2.out.size)⟩
set_option maxHeartbeats 1000000 in
theorem impl_acted_none (cv : Value) (g2 o2 n2 c2 : Nat) (v : List Int) (w : World) (hn2 : v.length = n2) (hv : v.length ≤ 4) (hg2 : g2 < w.heap.size) (hc2 : Cells w g2 o2 v) :
    Calls Tryz.prog 140 #[cv, .slice none 0 0, (Value.slice (some ⟨g2, o2, none⟩) n2 c2)] w (GotInts w v) := by
  subst hn2
  have Hv := Lib.hid hv; clear hv
  have hv4 := Hv.out
  go_enter Tryz.func140, Tryz.ntmps140
  go_wp2_with (at_builtin; refine wpList_clone rfl _ _ rfl g2 o2 _ c2 v rfl hg2 hc2 rfl rfl (by omega) ?_)
  intro gv cv1 w1 ho1 hb1
  go_wp2
  go_loopw [8] (fun i wr => i = .int .i64 (-1) ∧ wr = w1) (fun _ _ => 0)
  case atStart => exact ⟨rfl, rfl⟩
  case round =>
    obtain ⟨rfl, rfl⟩ := hrel
    go_wp2
    go_ret
    exact ⟨gv, cv1, rfl, ho1, hb1⟩
set_option maxHeartbeats 1000000 in
theorem impl_image_none (gc oc n cc : Nat) (c : List (List Int)) (w : World) (hn : c.length = n) (hn4 : n ≤ 4) :
    Calls Tryz.prog 112 #[(Value.slice (some ⟨gc, oc, none⟩) n cc), .slice none 0 0] w (GotInts w (onesL c.length)) := by
  subst hn
  go_enter Tryz.func112, Tryz.ntmps112
  go_wp2_with fail
  refine (impl_ones_any c.length w (by omega)).mono ?_
  rintro e w1 ⟨g2, c2, rfl, ho2, hb2⟩
  have hol : (onesL c.length).length = c.length := by simp [onesL]
  rw [hol]
  go_wp2_with fail
  refine (impl_acted_none _ g2 0 _ c2 (onesL c.length) w1 hol (by omega) ho2.lt ho2.cells).mono ?_
  rintro e w3 ⟨g3, c3, rfl, ho3, hb3⟩
  go_wp2_with fail
  go_ret
  exact GotInts.mk' g3 c3 hol (ho3.mono hb2.size) (hb2.trans (hb3.mono hb2.size))
theorem lets_none {c : List (List Int)} (hC : IsC c) : Lets c 30 [] := ⟨hC, by simp, by simp⟩
set_option maxHeartbeats 1000000 in
theorem impl_lengthOf_none (gc oc n cc : Nat) (c : List (List Int)) (w : World) (hn : c.length = n) (hC : IsC c) (hgc : gc < w.heap.size) (hr : Rows2 w gc oc c) :
    Calls Tryz.prog 113 #[(Value.slice (some ⟨gc, oc, none⟩) n cc), .slice none 0 0] w (Gives w (.int .i64 ((nfI c []).length : Int))) := by
  have hn4 := hC.2.1
  have hR : Calls Tryz.prog 91 #[(Value.slice (some ⟨gc, oc, none⟩) n cc), .slice none 0 0] w (GotInts w (nfI c [])) := by
    have k1 := Lib.hid (impl_image_none gc oc n cc c w hn (by omega))
    have k2 := Lib.hid (fun (W : World) (B g2 c2 : Nat) (hb : Below w.heap.size w W) (ho : Own W B g2 c2 (onesL c.length)) => impl_normal_any gc oc n cc g2 0 c.length c2 30 c (onesL c.length) (nfI c []) W hn (by simp [onesL]) hC (by simp [onesL]) (by omega) (nfI_ok (lets_none hC)).norm (Nat.lt_of_lt_of_le hgc hb.size) ho.lt (hr.below hb hgc) ho.cells)
    have Hl := Lib.hid (show (onesL c.length).length = c.length by simp [onesL])
    clear hr hn
    generalize nfI c [] = y at *
    go_enter Tryz.func91, Tryz.ntmps91
    go_wp2_with fail
    refine k1.out.mono ?_
    rintro e w1 ⟨g1, c1, rfl, ho1, hb1⟩
    rw [Hl.out]
    go_wp2_with fail
    refine (k2.out w1 _ g1 c1 hb1 ho1).mono ?_
    rintro e w2 ⟨g2, c2, rfl, ho2, hb2⟩
    go_wp2_with fail
    go_ret
    exact ⟨g2, c2, rfl, ho2.mono hb1.size, hb1.trans (hb2.mono hb1.size)⟩
  have Hn := Lib.hid hR
  clear hR hr
  generalize nfI c [] = y at *
  go_enter Tryz.func113, Tryz.ntmps113
  go_wp2_with fail
  refine Hn.out.mono ?_
  rintro e w1 ⟨g1, c1, rfl, ho1, hb1⟩
  go_wp2_with fail
  go_ret
  exact ⟨rfl, hb1⟩
private theorem len_ok0 (gc oc n cc g o m cp : Nat) (c : List (List Int)) (v : List Int) (w : World) (hn : c.length = n) (hm : v.length = m) (hL : Lets c 30 v) (hgc : gc < w.heap.size) (hg : g < w.heap.size) (hr : Rows2 w gc oc c) (hv : Cells w g o v) :
    Calls Tryz.prog 113 #[(Value.slice (some ⟨gc, oc, none⟩) n cc), (Value.slice (some ⟨g, o, none⟩) m cp)] w (Gives w (.int .i64 ((nfI c v).length : Int))) := by
  have Hn := Lib.hid (impl_reduced_any gc oc n cc g o m cp c v w hn hm hL hgc hg hr hv)
  clear hr hv
  generalize nfI c v = y at *
  go_enter Tryz.func113, Tryz.ntmps113
  go_wp2_with fail
  refine Hn.out.mono ?_
  rintro e w1 ⟨g1, c1, rfl, ho1, hb1⟩
  go_wp2_with fail
  go_ret
  exact ⟨rfl, hb1⟩
set_option maxHeartbeats 1000000 in
theorem impl_weakBelow_ok (gc oc n cc g1 o1 n1 c1 g2 o2 n2 c2 : Nat) (c : List (List Int)) (a b : List Int) (w : World) (hn : c.length = n) (hn1 : a.length = n1) (hn2 : b.length = n2) (hA : WordOk c a) (hB : WordOk c b) (hcap : n2 ≤ c2) (hgc : gc < w.heap.size) (hg1 : g1 < w.heap.size) (hg2 : g2 < w.heap.size)
    (hr : Rows2 w gc oc c) (h1 : Cells w g1 o1 a) (h2 : Cells w g2 o2 b) :
    Calls Tryz.prog 77 #[(Value.slice (some ⟨gc, oc, none⟩) n cc), (Value.slice (some ⟨g1, o1, none⟩) n1 c1), (Value.slice (some ⟨g2, o2, none⟩) n2 c2)] w (Gives w (.bool (wkB c a b))) := by
  by_cases hs : 1 ≤ a.length + b.length
  · exact impl_weakBelow_some gc oc n cc g1 o1 n1 c1 g2 o2 n2 c2 c a b w hn hn1 hn2 hA hB hs hcap hgc hg1 hg2 hr h1 h2
  obtain rfl : a = [] := List.length_eq_zero_iff.1 (by omega)
  obtain rfl : b = [] := List.length_eq_zero_iff.1 (by omega)
  obtain rfl : n1 = 0 := by simpa using hn1.symm
  obtain rfl : n2 = 0 := by simpa using hn2.symm
  have hC := hA.isC
  have L1 := Lib.hid (fun (W : World) (hb : Below w.heap.size w W) => len_ok0 gc oc n cc g1 o1 0 c1 c [] W hn rfl (lets_none hC) (Nat.lt_of_lt_of_le hgc hb.size) (Nat.lt_of_lt_of_le hg1 hb.size) (hr.below hb hgc) (h1.below hb hg1))
  have L2 := Lib.hid (fun (W : World) (hb : Below w.heap.size w W) => len_ok0 gc oc n cc g2 o2 0 c2 c [] W hn rfl (lets_none hC) (Nat.lt_of_lt_of_le hgc hb.size) (Nat.lt_of_lt_of_le hg2 hb.size) (hr.below hb hgc) (h2.below hb hg2))
  have kR := Lib.hid (fun (W : World) (hb : Below w.heap.size w W) => impl_ReverseWord_any g1 o1 0 c1 [] W rfl (by simp) (Nat.lt_of_lt_of_le hg1 hb.size) (h1.below hb hg1))
  have kC := Lib.hid (fun (W : World) (g cp : Nat) => impl_ConcatWords_none g 0 cp g2 o2 c2 W)
  have L3 := Lib.hid (fun (W : World) (hb : Below w.heap.size w W) => impl_lengthOf_none gc oc n cc c W hn hC (Nat.lt_of_lt_of_le hgc hb.size) (hr.below hb hgc))
  have hz := (nfI_ok (lets_none hC)).len
  have hb0 : Below w.heap.size w w := Below.refl _ _
  rw [show wkB c [] [] = decide ((nfI c []).length + (nfI c []).length = (nfI c []).length) from rfl]
  generalize (nfI c []).length = mA at *
  obtain rfl : mA = 0 := by simpa using hz
  clear hr h1 h2 hA hB hn hn1 hn2 hC hz hs
  go_enter Tryz.func77, Tryz.ntmps77
  go_wp2_with fail
  refine (L1.out w hb0).mono ?_
  rintro e v1 ⟨rfl, hb1⟩
  go_wp2_with fail
  refine (kR.out v1 hb1).mono ?_
  rintro e v2 ⟨gR, cR, rfl, hoR, hb2⟩
  have hB2 := hb1.trans (hb2.mono hb1.size)
  rw [show ([] : List Int).reverse.length = 0 from rfl]
  go_wp2_with fail
  refine (kC.out v2 gR cR).mono ?_
  rintro e v3 ⟨rfl, hb3⟩
  have hB3 := hB2.trans (hb3.mono hB2.size)
  go_wp2_with fail
  refine (L3.out v3 hB3).mono ?_
  rintro e v4 ⟨rfl, hb4⟩
  have hB4 := hB3.trans (hb4.mono hB3.size)
  go_wp2_with fail
  refine (L2.out v4 hB4).mono ?_
  rintro e v5 ⟨rfl, hb5⟩
  go_wp2_with fail
  go_ret
  exact ⟨by first | rfl | simp, hB4.trans (hb5.mono hB4.size)⟩
end Go.Proofs.YtdedkfbiookofaaGreatDoor
namespace Go.Proofs.YtdedkfbiookofaaGreatDoor
set_option maxRecDepth 100000
open Go.RowKit Game
theorem firstNegI_neg {v : List Int} : decide (firstNegI v < 0) = decide (firstNeg v = none) := by
  unfold firstNegI
  cases firstNeg v with
  | none => rfl
  | some i => simp
theorem empty_iff {c : List (List Int)} {U : List Int} (h : Nw c U) : decide (firstNegI (imI c U) < 0) = decide (U = []) := by
  rw [firstNegI_neg]
  exact decide_eq_decide.2 h.none
set_option maxHeartbeats 4000000 in
theorem impl_subword_any (gc oc n cc g1 o1 c1 g2 o2 n2 c2 : Nat) (c : List (List Int)) (U0 y : List Int) (w : World) (hn : c.length = n) (hn2 : y.length = n2) (hU : Nw c U0) (hy : Lets c 15 y) (hgc : gc < w.heap.size) (hg1 : g1 < w.heap.size) (hg2 : g2 < w.heap.size)
    (hr : Rows2 w gc oc c) (hv : Cells w g1 o1 (imI c U0)) (hyc : Cells w g2 o2 y) :
    Calls Tryz.prog 115 #[(Value.slice (some ⟨gc, oc, none⟩) n cc), (Value.slice (some ⟨g1, o1, none⟩) c.length c1), (Value.slice (some ⟨g2, o2, none⟩) n2 c2)] w (GotIntsB w (subP c y 0 U0) (decide (subU c y U0 = []))) := by
  subst hn; subst hn2
  have hC := hU.lets.isC
  have hn4 := hC.2.1
  have hcl := hC.2.2.1
  have hy15 := hy.few
  have hiy := Lib.hid hy.inr
  have kF := Lib.hid (fun (X : List Int) (i : Nat) (hi : i < c.length) (W : World) (g6 c6 : Nat) (hb : Below w.heap.size w W) (ho : Own W w.heap.size g6 c6 (imI c X)) => impl_reflected_any w gc oc _ cc g6 c6 i c.length c (imI c X) W rfl (imI_length c X) (imI_length c X) hn4 hcl hi hgc hr hb ho)
  have kD := Lib.hid (fun (X : List Int) (W : World) (g6 c6 : Nat) (ho : Own W w.heap.size g6 c6 (imI c X)) => impl_firstDescent_any g6 0 c.length c6 (imI c X) W (imI_length c X) (by rw [imI_length]; omega) ho.cells)
  have hR : subU c (y.drop 0) U0 = subU c y U0 := rfl
  have hP : [] ++ subP c (y.drop 0) 0 U0 = subP c y 0 U0 := rfl
  generalize subU c y U0 = R at *
  generalize subP c y 0 U0 = P at *
  have HR := Lib.hid hR; have HP := Lib.hid hP; have HU := Lib.hid hU; have Hl := Lib.hid (imI_length c U0)
  clear hR hP hU hy hr hC hcl
  go_enter Tryz.func115, Tryz.ntmps115
  go_wp2_with (at_builtin; refine wpList_clone rfl _ _ rfl g1 o1 _ c1 (imI c U0) Hl.out hg1 hv rfl rfl (by rw [Hl.out]; omega) ?_)
  intro gV cV w1 hoV0 hb1
  have hoV1 := hoV0.alloc (.cells #[] 3)
  have hX := (Below.refl w1.heap.size w1).alloc (Nat.le_refl _) (.cells #[] 3)
  have hB1 := hb1.trans (hX.mono hb1.size)
  have hoO1 : Own (w1.alloc (.cells #[] 3)) w.heap.size w1.heap.size 0 [] := Own.empty hb1.size
  have hne1 : gV ≠ w1.heap.size := by have := hoV0.lt; omega
  clear hoV0 hb1 hX hv
  go_wp2_with fail
  go_loopw [8, 17] (fun ov kv wr => ∃ (k m g3 c3 : Nat) (U xs : List Int), k ≤ y.length ∧ kv = .int .i64 k ∧ ov = (Value.slice (some ⟨g3, 0, none⟩) m c3) ∧ m ≤ k ∧ Hid (xs.length = m) ∧ Hid (Nw c U) ∧ Hid (subU c (y.drop k) U = R) ∧ Hid (xs ++ subP c (y.drop k) k U = P) ∧ gV ≠ g3 ∧ Own wr w.heap.size gV cV (imI c U) ∧ Own wr w.heap.size g3 c3 xs ∧ Below w.heap.size w wr) (fun _ kv _ => y.length - (intOf kv).toNat)
  case atStart => exact ⟨0, 0, _, 0, U0, [], Nat.zero_le _, rfl, rfl, Nat.le_refl _, rfl, HU.out, HR.out, HP.out, hne1, hoV1, hoO1, hB1⟩
  case round =>
    clear hoV1 hoO1 hB1 hne1 HU HR HP
    obtain ⟨k, m, g3, c3, U, xs, hk, rfl, rfl, hmk, hml, hU, hgo, hgp, hne, hoV, hoO, hb⟩ := hrel
    by_cases hlt : k < y.length
    · have q1 := (hyc.below hb hg2) k hlt
      have hin := hiy.out k hlt
      have hgd := hgo.out
      have hgq := hgp.out
      rw [subU_drop hlt] at hgd
      rw [subP_drop hlt] at hgq
      generalize y.getD k 0 = p at *
      obtain ⟨sn, rfl⟩ : ∃ t : Nat, p = t := ⟨p.toNat, by omega⟩
      rw [Int.toNat_natCast] at hgq
      have hsn : sn < c.length := by omega
      have hnS := hU.out.sub (i := (sn : Int)) (by omega) (by omega)
      have v1 := hoV.cell sn (by rw [imI_length]; exact hsn)
      have hyes := fun h => subN_img hU.out hsn h
      have hno := fun h => subN_pos (c := c) (U := U) (i := sn) h
      have kV := Lib.hid (fun (W : World) (hb2 : Below w.heap.size w W) (ho : Own W w.heap.size gV cV (imI c U)) => kF.out U sn hsn W gV cV hb2 ho)
      by_cases hz : (imI c U).getD sn 0 < 0
      · rw [if_pos hz] at hgq
        have hi := hyes hz
        rw [← hi] at kV
        have Hgd := Lib.hid hgd; have Hgq := Lib.hid hgq; have HnS := Lib.hid hnS
        generalize (imI c U).getD sn 0 = z at *
        generalize subN c U (sn : Int) = U' at *
        clear hgd hgq hnS hyes hno hi hgo hgp hU hin
        go_wp2_with fail
        refine (kV.out _ hb hoV).mono ?_
        rintro e w6 ⟨rfl, hoV6, hg6⟩
        have hb6 := hb.grown hg6 hb.size (by intro j hj; cases hj; exact hoV.base)
        have hoO6 := hoO.grown hg6 (by intro e; cases e; exact hne rfl)
        clear hb hoV hoO hg6 q1 v1
        go_wp2_with (at_builtin; refine wpList_append_int_n (w := w6) rfl _ _ rfl w.heap.size g3 c3 m xs (k : Int) hml.out hoO6 rfl rfl (by omega) ?_)
        intro g7 c7 w7 hoO7 hg7 hor7
        have hb7 : Below w.heap.size w w7 := hb6.grown hg7 hb6.size (by intro t ht; cases ht; exact hoO6.base)
        have hoV7 := hoV6.grown hg7 (by intro e; cases e; exact hne rfl)
        have hne7 : gV ≠ g7 := fun e => by
          rcases hor7 with h | h
          · exact hne (e.trans h)
          · have := hoV6.lt; omega
        have hl7 : Hid ((xs ++ [(k : Int)]).length = m + 1) := Lib.hid (by rw [List.length_append, hml.out]; rfl)
        have hp7 : Hid (xs ++ [(k : Int)] ++ subP c (y.drop (k + 1)) (k + 1) U' = P) := Lib.hid (by rw [List.append_assoc]; exact Hgq.out)
        clear hb6 hoV6 hoO6 hg7 hor7 hml
        go_wp2_with fail
        go_roundw
        case rel => exact ⟨k + 1, m + 1, g7, c7, U', _, by omega, by go_num, rfl, by omega, hl7.out, HnS.out, Hgd.out, hp7.out, hne7, hoV7, hoO7, hb7⟩
        case measure => simp [intOf]; omega
      · rw [if_neg hz] at hgq
        have hi := hno hz
        rw [hi] at hgd hgq
        have Hgd := Lib.hid hgd; have Hgq := Lib.hid hgq
        generalize (imI c U).getD sn 0 = z at *
        clear hgd hgq hnS hyes hno hi hgo hgp hin kV
        go_wp2_with fail
        go_roundw
        case rel => exact ⟨k + 1, m, g3, c3, U, xs, by omega, by go_num, rfl, by omega, hml.out, hU.out, Hgd.out, Hgq.out, hne, hoV, hoO, hb⟩
        case measure => simp [intOf]; omega
    · obtain rfl : k = y.length := by omega
      have h1 := hgo.out
      have h2 := hgp.out
      rw [List.drop_length] at h1 h2
      have h1' : U = R := h1
      have h2' : xs = P := by rw [← h2]; simp [subP]
      have hd := empty_iff hU.out
      rw [h1'] at hd
      have hdd := Lib.hid (kD.out U wr gV cV hoV)
      rw [h1'] at hdd
      generalize firstNegI (imI c R) = fd at *
      have H2 := Lib.hid h2'; have Hd := Lib.hid hd
      clear h1 h2 h1' h2' hd hgo hgp
      go_wp2_with fail
      refine hdd.out.mono ?_
      rintro e w5 ⟨rfl, hs5⟩
      have hb5 := below_still hb hs5
      have hoO5 := hoO.still hs5
      go_wp2_with fail
      go_ret2
      rw [← H2.out]
      rw [Hd.out]
      exact GotIntsB.mk' g3 c3 hml.out hoO5 hb5
theorem subU_def (c : List (List Int)) (a b : List Int) : bruB c a b = decide (subU c (nfI c b) (nfI c a) = []) := rfl
set_option maxHeartbeats 2000000 in
theorem impl_below_ok (gc oc n cc g1 o1 n1 c1 g2 o2 n2 c2 : Nat) (c : List (List Int)) (a b : List Int) (w : World) (hn : c.length = n) (hn1 : a.length = n1) (hn2 : b.length = n2) (hA : WordOk c a) (hB : WordOk c b) (hgc : gc < w.heap.size) (hg1 : g1 < w.heap.size) (hg2 : g2 < w.heap.size)
    (hr : Rows2 w gc oc c) (h1 : Cells w g1 o1 a) (h2 : Cells w g2 o2 b) :
    Calls Tryz.prog 78 #[(Value.slice (some ⟨gc, oc, none⟩) n cc), (Value.slice (some ⟨g1, o1, none⟩) n1 c1), (Value.slice (some ⟨g2, o2, none⟩) n2 c2)] w (Gives w (.bool (bruB c a b))) := by
  have hla := hA.few
  have hnA := nw_nf hA
  have hnB := nw_nf hB
  have hiA := (nfI_ok (hA.lets.mono (show 15 ≤ 30 by omega))).img
  have k1 := impl_image_any gc oc n cc g1 o1 n1 c1 c a w hn hn1 hA.isC (by omega) hA.inr hgc hg1 hr h1
  rw [show actW c a (onesL c.length) = imI c (nfI c a) from hiA.symm] at k1
  have k2 := Lib.hid (fun (W : World) (hb : Below w.heap.size w W) => impl_reduced_any gc oc n cc g2 o2 n2 c2 c b W hn hn2 (hB.lets.mono (show 15 ≤ 30 by omega)) (Nat.lt_of_lt_of_le hgc hb.size) (Nat.lt_of_lt_of_le hg2 hb.size) (hr.below hb hgc) (h2.below hb hg2))
  have k3 := Lib.hid (fun (W : World) (gA cA gB cB B1 B2 : Nat) (hb : Below w.heap.size w W) (hoA : Own W B1 gA cA (imI c (nfI c a))) (hoB : Own W B2 gB cB (nfI c b)) => impl_subword_any gc oc n cc gA 0 cA gB 0 _ cB c (nfI c a) (nfI c b) W hn rfl hnA hnB.lets (Nat.lt_of_lt_of_le hgc hb.size) hoA.lt hoB.lt (hr.below hb hgc) hoA.cells hoB.cells)
  rw [subU_def]
  have K1 := Lib.hid k1; have Hl := Lib.hid (imI_length c (nfI c a))
  generalize subP c (nfI c b) 0 (nfI c a) = P at *
  generalize decide (subU c (nfI c b) (nfI c a) = []) = r at *
  clear k1 hr h1 h2 hA hB hnA hnB hiA hn hn1 hn2 hla
  go_enter Tryz.func78, Tryz.ntmps78
  go_wp2_with fail
  refine K1.out.mono ?_
  rintro e w1 ⟨gA, cA, rfl, hoA, hb1⟩
  rw [Hl.out]
  go_wp2_with fail
  refine (k2.out w1 hb1).mono ?_
  rintro e w2 ⟨gB, cB, rfl, hoB, hb2⟩
  have hB2 := hb1.trans (hb2.mono hb1.size)
  go_wp2_with fail
  refine (k3.out w2 gA cA gB cB _ _ hB2 (hoA.below hb2 hoA.lt) hoB).mono ?_
  rintro e w3 ⟨gC, cC, rfl, hoC, hb3⟩
  have hB3 := hB2.trans (hb3.mono hB2.size)
  go_wp2_with fail
  go_ret
  exact ⟨rfl, hB3⟩
end Go.Proofs.YtdedkfbiookofaaGreatDoor
