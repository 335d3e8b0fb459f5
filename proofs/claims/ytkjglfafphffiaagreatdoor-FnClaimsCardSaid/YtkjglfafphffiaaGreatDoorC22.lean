/- Nfc -/
import Derived.Test.YtkjglfafphffiaaGreatDoorC17
import Derived.Test.YtkjglfafphffiaaGreatDoorC18
import Derived.Test.YtkjglfafphffiaaGreatDoorC19
import Derived.Test.YtkjglfafphffiaaGreatDoorC21
namespace Go.Proofs.YtkjglfafphffiaaGreatDoor
set_option maxRecDepth 100000
open Go.RowKit Game
section
variable {w : World} {gc oc n cc : Nat} {c : List (List Int)}
set_option maxHeartbeats 1000000 in
theorem impl_reduced_any (gc oc n cc g o m cp : Nat) (c : List (List Int)) (v : List Int) (w : World) (hn : c.length = n) (hm : v.length = m) (hL : Lets c 30 v) (hgc : gc < w.heap.size) (hg : g < w.heap.size) (hr : Rows2 w gc oc c) (hv : Cells w g o v) :
    Calls Tryz.prog 91 #[(Value.slice (some ⟨gc, oc, none⟩) n cc), (Value.slice (some ⟨g, o, none⟩) m cp)] w (GotInts w (nfI c v)) := by
  have hl := hL.few
  have k1 := Lib.hid (impl_image_any gc oc n cc g o m cp c v w hn hm hL.isC (by omega) hL.inr hgc hg hr hv)
  have k2 := Lib.hid (fun (W : World) (B g2 c2 : Nat) (hb : Below w.heap.size w W) (ho : Own W B g2 c2 (imI c v)) => impl_normal_any gc oc n cc g2 0 c.length c2 30 c (imI c v) (nfI c v) W hn (imI_length c v) hL.isC (imI_length c v) (by omega) (nfI_ok hL).norm (Nat.lt_of_lt_of_le hgc hb.size) ho.lt (hr.below hb hgc) ho.cells)
  have Hl := Lib.hid (imI_length c v)
  clear hr hv hL hl hn hm
  generalize nfI c v = y at *
  go_enter Tryz.func91, Tryz.ntmps91
  go_wp2_with fail
  refine k1.out.mono ?_
  rintro e w1 ⟨g1, c1, rfl, ho1, hb1⟩
  rw [show (actW c v (onesL c.length)).length = c.length from Hl.out]
  go_wp2_with fail
  refine (k2.out w1 _ g1 c1 hb1 ho1).mono ?_
  rintro e w2 ⟨g2, c2, rfl, ho2, hb2⟩
  go_wp2_with fail
  go_ret
  exact ⟨g2, c2, rfl, ho2.mono hb1.size, hb1.trans (hb2.mono hb1.size)⟩
set_option maxHeartbeats 1000000 in
theorem impl_same_any (gc oc n cc g1 o1 n1 c1 g2 o2 n2 c2 : Nat) (c : List (List Int)) (a b : List Int) (w : World) (hn : c.length = n) (hn1 : a.length = n1) (hn2 : b.length = n2) (hA : Lets c 30 a) (hB : Lets c 30 b) (hgc : gc < w.heap.size) (hg1 : g1 < w.heap.size) (hg2 : g2 < w.heap.size) (hr : Rows2 w gc oc c) (h1 : Cells w g1 o1 a) (h2 : Cells w g2 o2 b) :
    Calls Tryz.prog 106 #[(Value.slice (some ⟨gc, oc, none⟩) n cc), (Value.slice (some ⟨g1, o1, none⟩) n1 c1), (Value.slice (some ⟨g2, o2, none⟩) n2 c2)] w (Gives w (.bool (decide (imI c a = imI c b)))) := by
  have hn4 := hA.isC.2.1
  have la := hA.few
  have lb := hB.few
  have k1 := Lib.hid (impl_image_any gc oc n cc g1 o1 n1 c1 c a w hn hn1 hA.isC (by omega) hA.inr hgc hg1 hr h1)
  have k2 := Lib.hid (fun (W : World) (hb : Below w.heap.size w W) => impl_image_any gc oc n cc g2 o2 n2 c2 c b W hn hn2 hB.isC (by omega) hB.inr (Nat.lt_of_lt_of_le hgc hb.size) (Nat.lt_of_lt_of_le hg2 hb.size) (hr.below hb hgc) (h2.below hb hg2))
  have Ha := Lib.hid (imI_length c a); have Hb := Lib.hid (imI_length c b)
  have k3 := Lib.hid (fun (W : World) (ga ca gb cb : Nat) (x1 : Cells W ga 0 (imI c a)) (x2 : Cells W gb 0 (imI c b)) => slices_Equal_any ga 0 c.length ca gb 0 c.length cb (imI c a) (imI c b) W (imI_length c a) (imI_length c b) (by rw [imI_length]; omega) (by rw [imI_length]; omega) x1 x2)
  clear hr h1 h2 hA hB la lb hn hn1 hn2
  generalize decide (imI c a = imI c b) = r at *
  go_enter Tryz.func106, Tryz.ntmps106
  go_wp2_with fail
  refine k1.out.mono ?_
  rintro e w1 ⟨ga, ca, rfl, ho1, hb1⟩
  rw [show (actW c a (onesL c.length)).length = c.length from Ha.out]
  go_wp2_with fail
  refine (k2.out w1 hb1).mono ?_
  rintro e w2 ⟨gb, cb, rfl, ho2, hb2⟩
  rw [show (actW c b (onesL c.length)).length = c.length from Hb.out]
  go_wp2_with fail
  refine (k3.out w2 ga ca gb cb (ho1.below hb2 ho1.lt).cells ho2.cells).mono ?_
  rintro e w3 ⟨rfl, hs3⟩
  go_wp2_with fail
  go_ret
  exact ⟨rfl, below_still (hb1.trans (hb2.mono hb1.size)) hs3⟩
def nfA (c : List (List Int)) (v : List Int) : List Int := if isWordB c v = true then nfI c v else []
set_option maxHeartbeats 1000000 in
theorem spec_NormalForm_any (gc oc n cc g o m cp : Nat) (c : List (List Int)) (v : List Int) (w : World) (hn : c.length = n) (hm : v.length = m) (hx : c.length ≤ 1048576) (hrl : ∀ j, j < c.length → (c.getD j []).length ≤ 1048576) (hl : v.length ≤ 1048576)
    (hgc : gc < w.heap.size) (hg : g < w.heap.size) (hr : Rows2 w gc oc c) (hv : Cells w g o v) :
    Calls Tryz.prog 51 #[(Value.slice (some ⟨gc, oc, none⟩) n cc), (Value.slice (some ⟨g, o, none⟩) m cp)] w (GotIntsB w (nfA c v) (isWordB c v)) := by
  have hIW := spec_IsWord_any gc oc n cc g o m cp c v w hn hm hx hrl hl hr hv
  cases hw : isWordB c v with
  | false =>
    rw [hw] at hIW
    rw [show nfA c v = [] from if_neg (by rw [hw]; decide)]
    have Hi := Lib.hid hIW
    clear hIW hw hr hv
    go_enter Tryz.func51, Tryz.ntmps51
    go_wp2_with fail
    refine Hi.out.mono ?_
    rintro e w1 ⟨rfl, hs1⟩
    have hb1 := below_still (Below.refl w.heap.size w) hs1
    go_wp2_with fail
    go_ret2
    exact ⟨_, 0, rfl, Own.empty hb1.size, hb1.alloc hb1.size _⟩
  | true =>
    rw [hw] at hIW
    have hW := wordOk_of hw
    have hL := hW.lets.mono (show 15 ≤ 30 by omega)
    rw [show nfA c v = nfI c v from if_pos hw]
    have Hi := Lib.hid hIW
    have Hn := Lib.hid (fun W (hs : ∃ q, W = w.drewN q) => spec_l8Normal_any gc oc n cc g o m cp c v (nfI c v) W hn hm hW.isC hl hW.inr (nfI_ok hL).norm (Nat.lt_of_lt_of_le hgc (below_still (Below.refl w.heap.size w) hs).size) (Nat.lt_of_lt_of_le hg (below_still (Below.refl w.heap.size w) hs).size) (hr.still hs) (hv.still hs))
    clear hIW hw hr hv hW hL
    generalize nfI c v = y at *
    go_enter Tryz.func51, Tryz.ntmps51
    go_wp2_with fail
    refine Hi.out.mono ?_
    rintro e w1 ⟨rfl, hs1⟩
    have hb1 := below_still (Below.refl w.heap.size w) hs1
    go_wp2_with fail
    refine (Hn.out w1 hs1).mono ?_
    rintro e w2 ⟨g2, c2, rfl, ho2, hb2⟩
    go_wp2_with fail
    go_ret2
    exact ⟨g2, c2, rfl, ho2.mono hb1.size, hb1.trans (hb2.mono hb1.size)⟩
set_option maxHeartbeats 1000000 in
theorem spec_AreSame_ok (gc oc n cc g1 o1 n1 c1 g2 o2 n2 c2 : Nat) (c : List (List Int)) (a b : List Int) (w : World) (hn : c.length = n) (hn1 : a.length = n1) (hn2 : b.length = n2) (hA : WordOk c a) (hB : WordOk c b) (hgc : gc < w.heap.size) (hg1 : g1 < w.heap.size) (hg2 : g2 < w.heap.size) (hr : Rows2 w gc oc c) (h1 : Cells w g1 o1 a) (h2 : Cells w g2 o2 b) :
    Calls Tryz.prog 13 #[(Value.slice (some ⟨gc, oc, none⟩) n cc), (Value.slice (some ⟨g1, o1, none⟩) n1 c1), (Value.slice (some ⟨g2, o2, none⟩) n2 c2)] w (Gives w (.bool (decide (imI c a = imI c b)))) := by
  have hn4 := hA.isC.2.1
  have hcl := hA.isC.2.2.1
  have la := hA.few
  have lb := hB.few
  have i1 := spec_IsWord_any gc oc n cc g1 o1 n1 c1 c a w hn hn1 (by omega) (fun j hj => by have := hcl j hj; omega) (by omega) hr h1
  have i2 := fun W (hb : Below w.heap.size w W) => spec_IsWord_any gc oc n cc g2 o2 n2 c2 c b W hn hn2 (by omega) (fun j hj => by have := hcl j hj; omega) (by omega) (hr.below hb hgc) (h2.below hb hg2)
  rw [hA.isWord] at i1
  rw [hB.isWord] at i2
  have I1 := Lib.hid i1; have I2 := Lib.hid i2
  have k1 := Lib.hid (fun (W : World) (hb : Below w.heap.size w W) => spec_l8Image_any gc oc n cc g1 o1 n1 c1 c a W hn hn1 hA.isC (by omega) hA.inr (Nat.lt_of_lt_of_le hgc hb.size) (Nat.lt_of_lt_of_le hg1 hb.size) (hr.below hb hgc) (h1.below hb hg1))
  have k2 := Lib.hid (fun (W : World) (hb : Below w.heap.size w W) => spec_l8Image_any gc oc n cc g2 o2 n2 c2 c b W hn hn2 hB.isC (by omega) hB.inr (Nat.lt_of_lt_of_le hgc hb.size) (Nat.lt_of_lt_of_le hg2 hb.size) (hr.below hb hgc) (h2.below hb hg2))
  have Ha := Lib.hid (imI_length c a); have Hb := Lib.hid (imI_length c b)
  have k3 := Lib.hid (fun (W : World) (ga ca gb cb : Nat) (x1 : Cells W ga 0 (imI c a)) (x2 : Cells W gb 0 (imI c b)) => spec_EqualWords_any ga 0 c.length ca gb 0 c.length cb (imI c a) (imI c b) W (imI_length c a) (imI_length c b) (by rw [imI_length]; omega) x1 x2)
  clear hr h1 h2 hA hB la lb hn hn1 hn2 i1 i2 hcl
  generalize decide (imI c a = imI c b) = r at *
  go_enter Tryz.func13, Tryz.ntmps13
  go_wp2_with fail
  refine I1.out.mono ?_
  rintro e v1 ⟨rfl, hs1⟩
  have hB1 := below_still (Below.refl w.heap.size w) hs1
  go_wp2_with fail
  refine (I2.out v1 hB1).mono ?_
  rintro e v2 ⟨rfl, hs2⟩
  have hB2 := below_still hB1 hs2
  go_wp2_with fail
  refine (k1.out v2 hB2).mono ?_
  rintro e w1 ⟨ga, ca, rfl, ho1, hb1⟩
  have hB3 := hB2.trans (hb1.mono hB2.size)
  rw [show (actW c a (onesL c.length)).length = c.length from Ha.out]
  go_wp2_with fail
  refine (k2.out w1 hB3).mono ?_
  rintro e w2 ⟨gb, cb, rfl, ho2, hb2⟩
  rw [show (actW c b (onesL c.length)).length = c.length from Hb.out]
  go_wp2_with fail
  refine (k3.out w2 ga ca gb cb (ho1.below hb2 ho1.lt).cells ho2.cells).mono ?_
  rintro e w3 ⟨rfl, hs3⟩
  go_wp2_with fail
  go_ret
  exact ⟨rfl, below_still (hB3.trans (hb2.mono hB3.size)) hs3⟩
def GotOwn (w : World) (B : Nat) (y : List Int) (e : Ending) (w' : World) : Prop := ∃ g cap, e = .returned (Value.slice (some ⟨g, 0, none⟩) y.length cap) ∧ Own w' B g cap y ∧ Below w.heap.size w w'
set_option maxHeartbeats 1000000 in
theorem impl_starred_any (gc oc n cc B g m cp : Nat) (i : Int) (c : List (List Int)) (x : List Int) (w : World) (hn : c.length = n) (hm : x.length = m) (hL : Lets c 29 x) (h0 : 0 ≤ i) (h1 : i < (c.length : Int)) (hB : B ≤ w.heap.size) (hgc : gc < w.heap.size) (hr : Rows2 w gc oc c) (ho : Own w B g cp x) :
    Calls Tryz.prog 142 #[(Value.slice (some ⟨gc, oc, none⟩) n cc), (Value.slice (some ⟨g, 0, none⟩) m cp), .int .i64 i] w (GotOwn w B (starS c x i)) := by
  have hl := hL.few
  have hL2 := (hL.app (Lets.one hL.isC h0 h1)).mono (show 29 + 1 ≤ 30 by omega)
  have k1 := Lib.hid (slices_Clone_any g 0 m cp x w hm (by omega) ho.lt ho.cells)
  have k2 := Lib.hid (fun (W : World) (B2 g2 c2 : Nat) (hb : Below w.heap.size w W) (ho2 : Own W B2 g2 c2 (x ++ [i])) => impl_reduced_any gc oc n cc g2 0 (m + 1) c2 c (x ++ [i]) W hn (by rw [List.length_append, hm]; rfl) hL2 (Nat.lt_of_lt_of_le hgc hb.size) ho2.lt (hr.below hb hgc) ho2.cells)
  have hst : starS c x i = if (nfI c (x ++ [i])).length < x.length then x else nfI c (x ++ [i]) := rfl
  have Ho := Lib.hid ho; have Hst := Lib.hid hst; have Hm := Lib.hid hm
  have hm30 : m ≤ 30 := by omega
  clear hr hL hL2 ho hst hm hl
  generalize nfI c (x ++ [i]) = y at *
  go_enter Tryz.func142, Tryz.ntmps142
  go_wp2_with fail
  refine k1.out.mono ?_
  rintro e w1 ⟨g1, c1, rfl, ho1, hb1⟩
  rw [Hm.out]
  go_wp2_with (at_builtin; refine wpList_append_int_n rfl _ _ rfl w.heap.size g1 c1 m x i Hm.out ho1 rfl rfl (by omega) ?_)
  intro g3 c3 w3 ho3 hg3 _
  have hb3 := hb1.grown hg3 hb1.size (by intro j hj; cases hj; exact ho1.base)
  clear ho1 hg3
  go_wp2_with fail
  refine (k2.out w3 _ g3 c3 hb3 ho3).mono ?_
  rintro e w4 ⟨g4, c4, rfl, ho4, hb4⟩
  have hb := hb3.trans (hb4.mono hb3.size)
  have hoy := ho4.mono (Nat.le_trans hB hb3.size)
  have hox := Ho.out.below hb Ho.out.lt
  clear ho3 ho4 hb3 hb4
  by_cases hlt : y.length < x.length
  · have hltI : (y.length : Int) < (m : Int) := by have := Hm.out; omega
    have hz : starS c x i = x := by rw [Hst.out, if_pos hlt]
    have Hz := Lib.hid hz
    clear hz hlt
    go_wp2_with fail
    go_ret
    exact ⟨g, cp, by rw [Hz.out, Hm.out]; rfl, by rw [Hz.out]; exact hox, hb⟩
  · have hltI : ¬ ((y.length : Int) < (m : Int)) := by have := Hm.out; omega
    have hz : starS c x i = y := by rw [Hst.out, if_neg hlt]
    have Hz := Lib.hid hz
    clear hz hlt
    go_wp2_with fail
    go_ret
    exact ⟨g4, c4, by rw [Hz.out]; rfl, by rw [Hz.out]; exact hoy, hb⟩
set_option maxHeartbeats 1000000 in
theorem impl_StarWord_ok (gc oc n cc g o m cp : Nat) (c : List (List Int)) (v : List Int) (w : World) (hn : c.length = n) (hm : v.length = m) (hW : WordOk c v) (hgc : gc < w.heap.size) (hg : g < w.heap.size) (hr : Rows2 w gc oc c) (hv : Cells w g o v) :
    Calls Tryz.prog 97 #[(Value.slice (some ⟨gc, oc, none⟩) n cc), (Value.slice (some ⟨g, o, none⟩) m cp)] w (GotIntsB w (starL c v) true) := by
  subst hm
  have hn4 := hW.isC.2.1
  have hcl := hW.isC.2.2.1
  have hl := hW.few
  have hIW := impl_IsWord_any gc oc n cc g o _ cp c v w hn rfl (by omega) (fun j hj => by have := hcl j hj; omega) (by omega) hr hv
  rw [hW.isWord] at hIW
  have Hi := Lib.hid hIW; have HW := Lib.hid hW
  have Ks := Lib.hid (fun (k : Nat) (hk : k < v.length) (W : World) (g2 c2 : Nat) (hb : Below w.heap.size w W) (ho : Own W w.heap.size g2 c2 (starTo c v k)) => impl_starred_any gc oc n cc w.heap.size g2 (starTo c v k).length c2 (v.getD k 0) c (starTo c v k) W hn rfl ((starTo_lets hW k (by omega)).mono (by omega)) (hW.inr k hk).1 (hW.inr k hk).2 hb.size (Nat.lt_of_lt_of_le hgc hb.size) (hr.below hb hgc) ho)
  clear hIW hW hr hcl
  go_enter Tryz.func97, Tryz.ntmps97
  go_wp2_with fail
  refine Hi.out.mono ?_
  rintro e w1 ⟨rfl, hs1⟩
  have hb1 := below_still (Below.refl w.heap.size w) hs1
  go_wp2_with fail
  go_loopw [6, 17] (fun xv kv wr => ∃ (k g2 c2 : Nat), k ≤ v.length ∧ kv = .int .i64 k ∧ xv = (Value.slice (some ⟨g2, 0, none⟩) ((starTo c v k).length) c2) ∧ Own wr w.heap.size g2 c2 (starTo c v k) ∧ Below w.heap.size w wr) (fun _ kv _ => v.length - (intOf kv).toNat)
  case atStart => exact ⟨0, _, 0, Nat.zero_le _, rfl, rfl, Own.empty hb1.size, hb1.alloc hb1.size _⟩
  case round =>
    clear hb1 hs1
    obtain ⟨k, g2, c2, hk, rfl, rfl, ho, hb⟩ := hrel
    by_cases hlt : k < v.length
    · have q1 := (hv.below hb hg) k hlt
      have hcall := Ks.out k hlt wr g2 c2 hb ho
      have hsx : starTo c v (k + 1) = starS c (starTo c v k) (v.getD k 0) := rfl
      rw [← hsx] at hcall
      have Hcall := Lib.hid hcall
      clear hcall hsx
      generalize v.getD k 0 = i at *
      generalize (starTo c v k).length = ml at *
      go_wp2_with fail
      refine Hcall.out.mono ?_
      rintro e w3 ⟨g3, c3, rfl, ho3, hb3⟩
      have hB := hb.trans (hb3.mono hb.size)
      clear Hcall hb3
      generalize hml : (starTo c v (k + 1)).length = ml2 at *
      have Hml := Lib.hid hml; clear hml
      go_wp2_with fail
      go_roundw
      case rel => exact ⟨k + 1, g3, c3, by omega, by go_num, by rw [Hml.out], ho3, hB⟩
      case measure => simp [intOf]; omega
    · obtain rfl : k = v.length := by omega
      go_wp2_with fail
      go_ret2
      exact ⟨g2, c2, rfl, ho, hb⟩
set_option maxHeartbeats 1000000 in
theorem spec_l20Star_ok (gc oc n cc g o m cp g1 c1 : Nat) (c : List (List Int)) (v : List Int) (w : World) (B : Nat) (hn : c.length = n) (hm : v.length = m) (hW : WordOk c v) (hB : B ≤ w.heap.size) (hgc : gc < w.heap.size) (hg : g < w.heap.size) (hr : Rows2 w gc oc c) (hv : Cells w g o v) (ho0 : Own w B g1 c1 []) :
    Calls Tryz.prog 122 #[(Value.slice (some ⟨gc, oc, none⟩) n cc), (Value.slice (some ⟨g1, 0, none⟩) 0 c1), (Value.slice (some ⟨g, o, none⟩) m cp)] w (GotOwn w B (starL c v)) := by
  subst hm
  have HW := Lib.hid hW
  have kC := Lib.hid (fun (x : List Int) (i : Int) (W : World) (g2 c2 ml : Nat) (hml : x.length = ml) (h30 : ml ≤ 30) (ho : Own W B g2 c2 x) =>
    show Calls Tryz.prog 115 #[(Value.slice (some ⟨g2, 0, none⟩) ml c2), (Value.slice (some ⟨W.heap.size, 0, none⟩) 1 1)] (W.alloc (.cells #[.int .i64 i] 3)) (GotInts (W.alloc (.cells #[.int .i64 i] 3)) (x ++ [i])) from
      spec_ConcatWords_any g2 0 ml c2 W.heap.size 0 1 1 x [i] _ hml rfl (by omega) (by simp) (by have := ho.lt; simp; omega) (by simp) (ho.alloc _).cells (Own.new (B := W.heap.size) i (Nat.le_refl _)).cells)
  have kN := Lib.hid (fun (y : List Int) (W : World) (B2 g2 c2 ml : Nat) (hml : y.length = ml) (hL : Lets c 30 y) (hb : Below w.heap.size w W) (ho : Own W B2 g2 c2 y) => spec_l8Normal_any gc oc n cc g2 0 ml c2 c y (nfI c y) W hn hml hL.isC (by have := hL.few; omega) hL.inr (nfI_ok hL).norm (Nat.lt_of_lt_of_le hgc hb.size) ho.lt (hr.below hb hgc) ho.cells)
  have hl15 := hW.few
  clear hW hr
  go_enter Tryz.func122, Tryz.ntmps122
  go_wp2
  go_loopw [1, 7] (fun xv kv wr => ∃ (k g2 c2 : Nat), k ≤ v.length ∧ kv = .int .i64 k ∧ xv = (Value.slice (some ⟨g2, 0, none⟩) ((starTo c v k).length) c2) ∧ Own wr B g2 c2 (starTo c v k) ∧ Below w.heap.size w wr) (fun _ kv _ => v.length - (intOf kv).toNat)
  case atStart => exact ⟨0, g1, c1, Nat.zero_le _, rfl, rfl, ho0, Below.refl _ _⟩
  case round =>
    clear ho0
    obtain ⟨k, g2, c2, hk, rfl, rfl, ho, hb⟩ := hrel
    by_cases hlt : k < v.length
    · have q1 := (hv.below hb hg) k hlt
      have hit := HW.out.inr k hlt
      have hL := starTo_lets HW.out k (by omega)
      have hL2 := (hL.app (Lets.one HW.out.isC hit.1 hit.2)).mono (show k + 1 ≤ 30 by omega)
      have hne := star_ne hL (by omega) hit.1 hit.2
      have hsx : starTo c v (k + 1) = if (nfI c (starTo c v k ++ [v.getD k 0])).length < (starTo c v k).length then starTo c v k else nfI c (starTo c v k ++ [v.getD k 0]) := rfl
      have hxl := hL.few
      generalize v.getD k 0 = i at *
      generalize hml : (starTo c v k).length = ml at *
      have hcall := kC.out (starTo c v k) i wr g2 c2 ml hml (by omega) ho
      have hcall2 := fun (W : World) (B2 g3 c3 : Nat) (hb : Below w.heap.size w W) (ho : Own W B2 g3 c3 (starTo c v k ++ [i])) => kN.out (starTo c v k ++ [i]) W B2 g3 c3 (ml + 1) (by rw [List.length_append, hml]; rfl) hL2 hb ho
      have hyl : (starTo c v k ++ [i]).length = ml + 1 := by rw [List.length_append, hml]; rfl
      have Hcall := Lib.hid hcall; have Hcall2 := Lib.hid hcall2; have Hyl := Lib.hid hyl; have Hsx := Lib.hid hsx; have Hne := Lib.hid hne; have Hml := Lib.hid hml
      clear hcall hcall2 hyl hsx hne hml hL hL2 hit
      generalize nfI c (starTo c v k ++ [i]) = y at *
      go_wp2_with fail
      refine Hcall.out.mono ?_
      rintro e w3 ⟨g3, c3, rfl, ho3, hb3⟩
      have hbA := hb.alloc hb.size (.cells #[.int .i64 i] 3)
      have hb3' := hbA.trans (hb3.mono hbA.size)
      have hox := (ho.alloc (.cells #[.int .i64 i] 3)).below hb3 (ho.alloc (.cells #[.int .i64 i] 3)).lt
      rw [Hyl.out]
      clear hb3 hbA ho hb Hcall
      go_wp2_with fail
      refine (Hcall2.out w3 _ g3 c3 hb3' ho3).mono ?_
      rintro e w4 ⟨g4, c4, rfl, ho4, hb4⟩
      have hB4 := hb3'.trans (hb4.mono hb3'.size)
      have hox4 := hox.below hb4 hox.lt
      have hoy4 := ho4.mono (Nat.le_trans hB hb3'.size)
      clear ho3 ho4 hb4 hox hb3' Hcall2
      by_cases hgt : ml < y.length
      · have hI : (ml : Int) < (y.length : Int) := by omega
        have hz : starTo c v (k + 1) = y := by rw [Hsx.out, if_neg (by omega)]
        have Hz := Lib.hid hz
        clear hz hgt
        go_wp2_with fail
        go_roundw
        case rel => exact ⟨k + 1, g4, c4, by omega, by go_num, by rw [Hz.out], by rw [Hz.out]; exact hoy4, hB4⟩
        case measure => simp [intOf]; omega
      · have hI : ¬ ((ml : Int) < (y.length : Int)) := by omega
        have hz : starTo c v (k + 1) = starTo c v k := by rw [Hsx.out, if_pos (by have := Hne.out; omega)]
        have Hz := Lib.hid hz
        clear hz hgt
        go_wp2_with fail
        go_roundw
        case rel => exact ⟨k + 1, g2, c2, by omega, by go_num, by rw [Hz.out, Hml.out], by rw [Hz.out]; exact hox4, hB4⟩
        case measure => simp [intOf]; omega
    · obtain rfl : k = v.length := by omega
      go_wp2_with fail
      go_ret
      exact ⟨g2, c2, rfl, ho, hb⟩
set_option maxHeartbeats 1000000 in
theorem spec_StarWord_ok (gc oc n cc g o m cp : Nat) (c : List (List Int)) (v : List Int) (w : World) (hn : c.length = n) (hm : v.length = m) (hW : WordOk c v) (hgc : gc < w.heap.size) (hg : g < w.heap.size) (hr : Rows2 w gc oc c) (hv : Cells w g o v) :
    Calls Tryz.prog 62 #[(Value.slice (some ⟨gc, oc, none⟩) n cc), (Value.slice (some ⟨g, o, none⟩) m cp)] w (GotIntsB w (starL c v) true) := by
  subst hm
  have hn4 := hW.isC.2.1
  have hcl := hW.isC.2.2.1
  have hl := hW.few
  have hIW := spec_IsWord_any gc oc n cc g o _ cp c v w hn rfl (by omega) (fun j hj => by have := hcl j hj; omega) (by omega) hr hv
  rw [hW.isWord] at hIW
  have Hi := Lib.hid hIW
  have Ks := Lib.hid (fun (W : World) (g1 c1 : Nat) (hb : Below w.heap.size w W) (ho : Own W w.heap.size g1 c1 []) => spec_l20Star_ok gc oc n cc g o _ cp g1 c1 c v W w.heap.size hn rfl hW hb.size (Nat.lt_of_lt_of_le hgc hb.size) (Nat.lt_of_lt_of_le hg hb.size) (hr.below hb hgc) (hv.below hb hg) ho)
  clear hIW hW hr hcl hv
  go_enter Tryz.func62, Tryz.ntmps62
  go_wp2_with fail
  refine Hi.out.mono ?_
  rintro e w1 ⟨rfl, hs1⟩
  have hb1 := below_still (Below.refl w.heap.size w) hs1
  have hA := hb1.alloc hb1.size (.cells #[] 3)
  have hE : Own (w1.alloc (.cells #[] 3)) w.heap.size w1.heap.size 0 [] := Own.empty hb1.size
  have hcall := Ks.out _ _ _ hA hE
  have Hcall := Lib.hid hcall; have HA := Lib.hid hA
  clear hcall hE hA
  generalize starL c v = y at *
  go_wp2_with fail
  refine Hcall.out.mono ?_
  rintro e w3 ⟨g3, c3, rfl, ho3, hb3⟩
  go_wp2_with fail
  go_ret2
  exact ⟨g3, c3, rfl, ho3, HA.out.trans (hb3.mono HA.out.size)⟩
end
end Go.Proofs.YtkjglfafphffiaaGreatDoor
