/- The weak order: what both compute is one. Plain law. Contracts of both. The reference's l15Below, IsBruhatBelow, SubwordOf, l34Drops: contracts. Printed by mkbrus.py. -/
import Derived.Test.YtdedkfbiookofaaGreatDoorM31
import Derived.Test.YtdedkfbiookofaaGreatDoorM40
import Derived.Test.YtdedkfbiookofaaGreatDoorM17
import Derived.Test.YtdedkfbiookofaaGreatDoorM14
import Derived.Test.YtdedkfbiookofaaGreatDoorM22
import Derived.Deep.RegionWith
import Derived.Deep.Cut
import Derived.Deep.CutRange
namespace Go.Proofs.YtdedkfbiookofaaGreatDoor
set_option maxRecDepth 100000
open Go.RowKit Game
theorem rev_act {A : Mat} {n : Nat} (hC : Car A n) {a b : List Nat} (ha : ∀ i ∈ a, i < n) (hb : ∀ i ∈ b, i < n) (h : ∀ u, Game.act A a u = Game.act A b u) (u : Vec) : Game.act A a.reverse u = Game.act A b.reverse u := by
  have h1 := act_rev hC (y := b.reverse) (fun i hi => hb i (List.mem_reverse.1 hi)) u
  rw [List.reverse_reverse] at h1
  have h2 := act_rev hC ha (Game.act A b.reverse u)
  rw [h, h1] at h2
  exact h2
/-- the rest behind a prefix, as both see it -/
theorem weak_nf {c : List (List Int)} {a b : List Int} (hA : WordOk c a) (hB : WordOk c b) : nfI c (a.reverse ++ b) = nfI c ((nfI c a).reverse ++ nfI c b) := by
  obtain ⟨W, hW, eW⟩ := nfI_ex (hA.lets.mono (show 15 ≤ 30 by omega))
  obtain ⟨X, hX, eX⟩ := nfI_ex (hB.lets.mono (show 15 ≤ 30 by omega))
  have hC := hA.isC
  have hnA := (nw_nf hA).lets
  have hnB := (nw_nf hB).lets
  have rv : ∀ {z : List Int}, Lets c 15 z → Lets c 15 z.reverse := fun hz => lets_of hC (by rw [List.length_reverse]; exact hz.few) fun x hx => hz.mem x (List.mem_reverse.1 hx)
  apply nfI_img
  apply toV_inj (by rw [imI_length, imI_length])
  rw [imI_act ((rv hA.lets).app hB.lets) (by decide), imI_act ((rv hnA).app hnB) (by decide), List.map_append, List.map_append, act_append, act_append, List.map_reverse, List.map_reverse, eW, eX]
  have e1 : ∀ l : List Nat, (intsOf l).map Int.toNat = l := fun l => by
    induction l with
    | nil => rfl
    | cons x l ih => show Int.toNat (x : Int) :: (intsOf l).map Int.toNat = _; rw [ih, Int.toNat_natCast]
  rw [e1, e1, hX.act, rev_act (car_of hC) hA.lets.nats_lt hW.lt hW.act]
/-- whether an element begins another one -/
def wkB (c : List (List Int)) (a b : List Int) : Bool := decide ((nfI c a).length + (nfI c (a.reverse ++ b)).length = (nfI c b).length)
set_option maxHeartbeats 1000000 in
theorem spec_IsWeakBelow_ok (gc oc n cc g1 o1 n1 c1 g2 o2 n2 c2 : Nat) (c : List (List Int)) (a b : List Int) (w : World) (hn : c.length = n) (hn1 : a.length = n1) (hn2 : b.length = n2) (hA : WordOk c a) (hB : WordOk c b) (hgc : gc < w.heap.size) (hg1 : g1 < w.heap.size) (hg2 : g2 < w.heap.size)
    (hr : Rows2 w gc oc c) (h1 : Cells w g1 o1 a) (h2 : Cells w g2 o2 b) :
    Calls Tryz.prog 73 #[(Value.slice (some ⟨gc, oc, none⟩) n cc), (Value.slice (some ⟨g1, o1, none⟩) n1 c1), (Value.slice (some ⟨g2, o2, none⟩) n2 c2)] w (Gives w (.bool (wkB c a b))) := by
  have hla := hA.few
  have hlb := hB.few
  have hC := hA.isC
  have hn4 := hC.2.1
  have hcl := hC.2.2.1
  have hnA := (nw_nf hA).lets
  have hnB := (nw_nf hB).lets
  have hfa := hnA.few; have hfb := hnB.few
  have hrv : Lets c 15 (nfI c a).reverse := lets_of hC (by rw [List.length_reverse]; exact hfa) fun x hx => hnA.mem x (List.mem_reverse.1 hx)
  have hap := (hrv.app hnB).mono (show 15 + 15 ≤ 30 by omega)
  have i1 := spec_IsWord_any gc oc n cc g1 o1 n1 c1 c a w hn hn1 (by omega) (fun j hj => by have := hcl j hj; omega) (by omega) hr h1
  have i2 := fun W (hs : ∃ q, W = w.drewN q) => spec_IsWord_any gc oc n cc g2 o2 n2 c2 c b W hn hn2 (by omega) (fun j hj => by have := hcl j hj; omega) (by omega) (hr.still hs) (h2.still hs)
  rw [hA.isWord] at i1
  rw [hB.isWord] at i2
  have I1 := Lib.hid i1; have I2 := Lib.hid i2
  have K1 := Lib.hid (fun (W : World) (hb : Below w.heap.size w W) => spec_l8Normal_any gc oc n cc g1 o1 n1 c1 c a (nfI c a) W hn hn1 hC (by omega) hA.inr (nfI_ok (hA.lets.mono (show 15 ≤ 30 by omega))).norm (Nat.lt_of_lt_of_le hgc hb.size) (Nat.lt_of_lt_of_le hg1 hb.size) (hr.below hb hgc) (h1.below hb hg1))
  have K2 := Lib.hid (fun (W : World) (hb : Below w.heap.size w W) => spec_l8Normal_any gc oc n cc g2 o2 n2 c2 c b (nfI c b) W hn hn2 hC (by omega) hB.inr (nfI_ok (hB.lets.mono (show 15 ≤ 30 by omega))).norm (Nat.lt_of_lt_of_le hgc hb.size) (Nat.lt_of_lt_of_le hg2 hb.size) (hr.below hb hgc) (h2.below hb hg2))
  have e := weak_nf hA hB
  have hwk : wkB c a b = decide ((nfI c a).length + (nfI c ((nfI c a).reverse ++ nfI c b)).length = (nfI c b).length) := by unfold wkB; rw [e]
  rw [hwk]
  have Hn := (nfI_ok hap).norm
  have hZl := (nfI_ok hap).len
  have hapf := hap.few
  have hin := hap.inr
  generalize nfI c a = x at *
  generalize nfI c b = y at *
  obtain ⟨Z, hZ⟩ : ∃ Z, nfI c (x.reverse ++ y) = Z := ⟨_, rfl⟩
  rw [hZ] at Hn hZl ⊢
  obtain ⟨mA, hmA⟩ : ∃ m, x.length = m := ⟨_, rfl⟩
  obtain ⟨mB, hmB⟩ : ∃ m, y.length = m := ⟨_, rfl⟩
  obtain ⟨mZ, hmZ⟩ : ∃ m, Z.length = m := ⟨_, rfl⟩
  have kR := Lib.hid (fun (W : World) (B g cp : Nat) (ho : Own W B g cp x) => spec_ReverseWord_any g 0 mA cp x W hmA (by omega) ho.lt ho.cells)
  have hrl : x.reverse.length = mA := by rw [List.length_reverse]; exact hmA
  have kC := Lib.hid (fun (W : World) (B B2 g cp g' cp' : Nat) (ho : Own W B g cp x.reverse) (ho' : Own W B2 g' cp' y) => spec_ConcatWords_any g 0 mA cp g' 0 mB cp' x.reverse y W hrl hmB (by omega) (by omega) ho.lt ho'.lt ho.cells ho'.cells)
  have hcl2 : (x.reverse ++ y).length = mA + mB := by rw [List.length_append, hrl, hmB]
  have K3 := Lib.hid (fun (W : World) (B g cp : Nat) (hb : Below w.heap.size w W) (ho : Own W B g cp (x.reverse ++ y)) => spec_l8Normal_any gc oc n cc g 0 (mA + mB) cp c (x.reverse ++ y) Z W hn hcl2 hC (by omega) hin Hn (Nat.lt_of_lt_of_le hgc hb.size) ho.lt (hr.below hb hgc) ho.cells)
  have hd : (((mA : Int) + (mZ : Int)) == (mB : Int)) = decide (x.length + Z.length = y.length) := by rw [Bool.eq_iff_iff, beq_iff_eq, decide_eq_true_eq]; omega
  have w1 : wrap64 ((mA : Int) + (mZ : Int)) = (mA : Int) + (mZ : Int) := by
    exact IntWalk.wrap64_in _ ⟨by omega, by omega⟩
  generalize decide (x.length + Z.length = y.length) = r at *
  have HmA := Lib.hid hmA; have HmB := Lib.hid hmB; have HmZ := Lib.hid hmZ; have Hrl := Lib.hid hrl; have Hcl := Lib.hid hcl2
  clear i1 i2 hr h1 h2 hA hB hnA hnB hn hn1 hn2 hla hlb hcl hn4 hmA hmB hmZ hrl hcl2 hrv hap Hn hin hZ e hwk hC hZl hapf
  go_enter Tryz.func73, Tryz.ntmps73
  go_wp2_with fail
  refine I1.out.mono ?_
  rintro e v1 ⟨rfl, hs1⟩
  go_wp2_with fail
  refine (I2.out v1 hs1).mono ?_
  rintro e v2 ⟨rfl, hs2⟩
  have hb0 := below_still (below_still (Below.refl w.heap.size w) hs1) hs2
  go_wp2_with fail
  refine (K1.out v2 hb0).mono ?_
  rintro e w1 ⟨gA, cA, rfl, hoA, hb1⟩
  have hB1 := hb0.trans (hb1.mono hb0.size)
  rw [HmA.out]
  go_wp2_with fail
  refine (K2.out w1 hB1).mono ?_
  rintro e w2 ⟨gB, cB, rfl, hoB, hb2⟩
  have hB2 := hB1.trans (hb2.mono hB1.size)
  rw [HmB.out]
  have hoA2 := hoA.below hb2 hoA.lt
  go_wp2_with fail
  refine (kR.out w2 _ gA cA hoA2).mono ?_
  rintro e w3 ⟨gR, cR, rfl, hoR, hb3⟩
  have hB3 := hB2.trans (hb3.mono hB2.size)
  rw [Hrl.out]
  go_wp2_with fail
  refine (kC.out w3 _ _ gR cR gB cB hoR (hoB.below hb3 hoB.lt)).mono ?_
  rintro e w4 ⟨gQ, cQ, rfl, hoQ, hb4⟩
  have hB4 := hB3.trans (hb4.mono hB3.size)
  rw [Hcl.out]
  go_wp2_with fail
  refine (K3.out w4 _ gQ cQ hB4 hoQ).mono ?_
  rintro e w5 ⟨gZ, cZ, rfl, hoZ, hb5⟩
  have hB5 := hB4.trans (hb5.mono hB4.size)
  rw [HmZ.out]
  go_wp2_with fail
  go_ret
  exact ⟨by first | rfl | exact ret_bool hd, hB5⟩
private theorem len_ok (gc oc n cc g o m cp : Nat) (c : List (List Int)) (v : List Int) (w : World) (hn : c.length = n) (hm : v.length = m) (hL : Lets c 30 v) (hgc : gc < w.heap.size) (hg : g < w.heap.size) (hr : Rows2 w gc oc c) (hv : Cells w g o v) :
    Calls Tryz.prog 113 #[(Value.slice (some ⟨gc, oc, none⟩) n cc), (Value.slice (some ⟨g, o, none⟩) m cp)] w (Gives w (.int .i64 ((nfI c v).length : Int))) := by
  have Hn := Lib.hid (impl_reduced_any gc oc n cc g o m cp c v w hn hm hL hgc hg hr hv)
  clear hr hv
  generalize nfI c v = y at *
  go_enter Tryz.func113, Tryz.ntmps113
  go_wp2_with fail
  refine Hn.out.mono ?_
  rintro e w1 ⟨g1, c1, rfl, ho1, hb1⟩
  go_wp2_with fail
  go_ret
  exact ⟨rfl, hb1⟩
set_option maxHeartbeats 1000000 in
theorem impl_weakBelow_some (gc oc n cc g1 o1 n1 c1 g2 o2 n2 c2 : Nat) (c : List (List Int)) (a b : List Int) (w : World) (hn : c.length = n) (hn1 : a.length = n1) (hn2 : b.length = n2) (hA : WordOk c a) (hB : WordOk c b) (hsome : 1 ≤ a.length + b.length) (hcap : n2 ≤ c2) (hgc : gc < w.heap.size) (hg1 : g1 < w.heap.size) (hg2 : g2 < w.heap.size)
    (hr : Rows2 w gc oc c) (h1 : Cells w g1 o1 a) (h2 : Cells w g2 o2 b) :
    Calls Tryz.prog 77 #[(Value.slice (some ⟨gc, oc, none⟩) n cc), (Value.slice (some ⟨g1, o1, none⟩) n1 c1), (Value.slice (some ⟨g2, o2, none⟩) n2 c2)] w (Gives w (.bool (wkB c a b))) := by
  have hla := hA.few
  have hlb := hB.few
  have hC := hA.isC
  have hrv : Lets c 15 a.reverse := lets_of hC (by rw [List.length_reverse]; exact hla) fun x hx => hA.lets.mem x (List.mem_reverse.1 hx)
  have hap := (hrv.app hB.lets).mono (show 15 + 15 ≤ 30 by omega)
  have L1 := Lib.hid (fun (W : World) (hb : Below w.heap.size w W) => len_ok gc oc n cc g1 o1 n1 c1 c a W hn hn1 (hA.lets.mono (show 15 ≤ 30 by omega)) (Nat.lt_of_lt_of_le hgc hb.size) (Nat.lt_of_lt_of_le hg1 hb.size) (hr.below hb hgc) (h1.below hb hg1))
  have L2 := Lib.hid (fun (W : World) (hb : Below w.heap.size w W) => len_ok gc oc n cc g2 o2 n2 c2 c b W hn hn2 (hB.lets.mono (show 15 ≤ 30 by omega)) (Nat.lt_of_lt_of_le hgc hb.size) (Nat.lt_of_lt_of_le hg2 hb.size) (hr.below hb hgc) (h2.below hb hg2))
  have kR := Lib.hid (fun (W : World) (hb : Below w.heap.size w W) => impl_ReverseWord_any g1 o1 n1 c1 a W hn1 (by omega) (Nat.lt_of_lt_of_le hg1 hb.size) (h1.below hb hg1))
  have hrl : a.reverse.length = n1 := by rw [List.length_reverse]; exact hn1
  have kC := Lib.hid (fun (W : World) (B g cp : Nat) (hb : Below w.heap.size w W) (ho : Own W B g cp a.reverse) => impl_ConcatWords_any g 0 n1 cp g2 o2 n2 c2 a.reverse b W hrl hn2 (by rw [List.length_reverse]; exact hsome) (by omega) (by omega) (by have := ho.capLe; omega) hcap ho.lt (Nat.lt_of_lt_of_le hg2 hb.size) ho.cells (h2.below hb hg2))
  have hcl2 : (a.reverse ++ b).length = n1 + n2 := by rw [List.length_append, hrl, hn2]
  have L3 := Lib.hid (fun (W : World) (B g cp : Nat) (hb : Below w.heap.size w W) (ho : Own W B g cp (a.reverse ++ b)) => len_ok gc oc n cc g 0 (n1 + n2) cp c (a.reverse ++ b) W hn hcl2 hap (Nat.lt_of_lt_of_le hgc hb.size) ho.lt (hr.below hb hgc) ho.cells)
  have hz1 := (nfI_ok (hA.lets.mono (show 15 ≤ 30 by omega))).len
  have hz3 := (nfI_ok hap).len
  have hapf := hap.few
  have hb0 : Below w.heap.size w w := Below.refl _ _
  unfold wkB
  generalize (nfI c a).length = mA at *
  generalize (nfI c b).length = mB at *
  generalize (nfI c (a.reverse ++ b)).length = mZ at *
  have hd : (((mA : Int) + (mZ : Int)) == (mB : Int)) = decide (mA + mZ = mB) := by rw [Bool.eq_iff_iff, beq_iff_eq, decide_eq_true_eq]; omega
  have w1 : wrap64 ((mA : Int) + (mZ : Int)) = (mA : Int) + (mZ : Int) := IntWalk.wrap64_in _ ⟨by omega, by omega⟩
  generalize decide (mA + mZ = mB) = r at *
  have Hrl := Lib.hid hrl; have Hcl := Lib.hid hcl2
  clear hr h1 h2 hA hB hn hn1 hn2 hla hlb hrl hcl2 hrv hap hC hz1 hz3 hapf hsome
  go_enter Tryz.func77, Tryz.ntmps77
  go_wp2_with fail
  refine (L1.out w hb0).mono ?_
  rintro e v1 ⟨rfl, hb1⟩
  go_wp2_with fail
  refine (kR.out v1 hb1).mono ?_
  rintro e v2 ⟨gR, cR, rfl, hoR, hb2⟩
  have hB2 := hb1.trans (hb2.mono hb1.size)
  rw [Hrl.out]
  go_wp2_with fail
  refine (kC.out v2 _ gR cR hB2 hoR).mono ?_
  rintro e v3 ⟨gQ, cQ, rfl, hoQ, hb3⟩
  have hB3 := hB2.trans (hb3.mono hB2.size)
  rw [Hcl.out]
  go_wp2_with fail
  refine (L3.out v3 _ gQ cQ hB3 hoQ).mono ?_
  rintro e v4 ⟨rfl, hb4⟩
  have hB4 := hB3.trans (hb4.mono hB3.size)
  go_wp2_with fail
  refine (L2.out v4 hB4).mono ?_
  rintro e v5 ⟨rfl, hb5⟩
  go_wp2_with fail
  go_ret
  exact ⟨by first | rfl | exact ret_bool hd, hB4.trans (hb5.mono hB4.size)⟩
end Go.Proofs.YtdedkfbiookofaaGreatDoor
namespace Go.Proofs.YtdedkfbiookofaaGreatDoor
set_option maxRecDepth 100000
open Go.RowKit Game
/-- the reference's way to the answer -/
theorem below_far {c : List (List Int)} {V U : List Int} (hU : Nw c U) (hV : Lets c 15 V) (h : V.length < U.length) : decide (subU c V U = []) = false := by
  apply decide_eq_false
  intro e
  have := subU_len V hV.mem hU
  rw [e] at this
  simp at this
  omega
set_option maxHeartbeats 1500000 in
theorem spec_l15Below_any (c : List (List Int)) (gc oc n cc : Nat) (hn : c.length = n) : ∀ (k : Nat) (U V : List Int) (gU oU mU cU gV oV cV : Nat) (w : World), V.length = k → U.length = mU → Nw c U → Lets c 15 V → k ≤ cV → gc < w.heap.size → gU < w.heap.size → gV < w.heap.size → Rows2 w gc oc c → Cells w gU oU U → Cells w gV oV V →
    Calls Tryz.prog 52 #[(Value.slice (some ⟨gc, oc, none⟩) n cc), (Value.slice (some ⟨gU, oU, none⟩) mU cU), (Value.slice (some ⟨gV, oV, none⟩) k cV)] w (Gives w (.bool (decide (subU c V U = []))))
  | 0, U, V, gU, oU, mU, cU, gV, oV, cV, w, hVk, hmU, hU, hV, hcap, hgc, hgU, hgV, hr, hu, hv => by
    obtain rfl : V = [] := List.length_eq_zero_iff.1 hVk
    have hd : ((mU : Int) == 0) = decide (subU c [] U = []) := by
      rw [Bool.eq_iff_iff, beq_iff_eq, decide_eq_true_eq]
      show _ ↔ U = []
      rw [← List.length_eq_zero_iff, hmU]; omega
    generalize decide (subU c [] U = []) = r at *
    have Hd := Lib.hid hd
    clear hd hr hu hv hU hV hVk hmU
    go_enter Tryz.func52, Tryz.ntmps52
    go_wp2_with fail
    go_ret
    exact ⟨ret_bool Hd.out, Below.refl _ _⟩
  | k + 1, U, V, gU, oU, mU, cU, gV, oV, cV, w, hVk, hmU, hU, hV, hcap, hgc, hgU, hgV, hr, hu, hv => by
    by_cases hfar : k + 1 < mU
    · have hd := below_far hU hV (by omega)
      rw [hd]
      have hb : ((mU : Int) == 0) = false := by rw [beq_eq_false_iff_ne]; omega
      have hI : ((k : Int) + 1) < (mU : Int) := by omega
      clear hd hr hu hv hU hV hVk hmU
      go_enter Tryz.func52, Tryz.ntmps52
      go_wp2_with fail
      go_ret
      exact ⟨ret_bool (by first | rfl | exact hb), Below.refl _ _⟩
    cases V with
    | nil => simp at hVk
    | cons s V =>
    have hsi := hV.mem s (by simp)
    obtain ⟨sn, rfl⟩ : ∃ t : Nat, s = t := ⟨s.toNat, by omega⟩
    have hsn : sn < c.length := by omega
    have hVk' : V.length = k := by simpa using hVk
    have hV' : Lets c 15 V := lets_of hV.isC (by have := hV.few; rw [List.length_cons] at this; omega) fun x hx => hV.mem x (by simp [hx])
    have hC := hV.isC
    have hu15 := hU.lets.few
    have hv15 := hV'.few
    have q1 : w.cell? ⟨gV, oV, none⟩ = some (.int .i64 sn) := hv 0 (by simp)
    have hvT : Cells w gV (oV + 1) V := fun j hj => by
      have := hv (j + 1) (by simpa using hj)
      rw [show oV + 1 + j = oV + (j + 1) by omega, this]; simp [List.getD]
    have hS := hU.sub (i := (sn : Int)) (by omega) (by omega)
    have kI := Lib.hid (spec_l8Image_any gc oc n cc gU oU mU cU c U w hn hmU hC (by omega) hU.lets.inr hgc hgU hr hu)
    have hIl := Lib.hid (imI_length c U)
    have qI := Lib.hid (fun (W : World) (B2 g2 c2 : Nat) (ho : Own W B2 g2 c2 (imI c U)) => ho.cell sn (by rw [imI_length]; exact hsn))
    have hans : subU c ((sn : Int) :: V) U = subU c V (subN c U (sn : Int)) := rfl
    rw [hans]
    have hyes := Lib.hid (fun h => subN_neg (c := c) (U := U) (i := sn) h)
    have hno := Lib.hid (fun h => subN_pos (c := c) (U := U) (i := sn) h)
    have kC := Lib.hid (fun (W : World) (hb : Below w.heap.size w W) =>
      show Calls Tryz.prog 96 #[(Value.slice (some ⟨W.heap.size, 0, none⟩) 1 1), (Value.slice (some ⟨gU, oU, none⟩) mU cU)] (W.alloc (.cells #[.int .i64 sn] 3)) (GotInts (W.alloc (.cells #[.int .i64 sn] 3)) ((sn : Int) :: U)) from
        spec_ConcatWords_any W.heap.size 0 1 1 gU oU mU cU [(sn : Int)] U _ rfl hmU (by simp) (by omega) (by simp) (by have := hb.size; simp; omega) (Own.new (B := W.heap.size) (sn : Int) (Nat.le_refl _)).cells ((hu.below hb hgU).below ((Below.refl W.heap.size W).alloc (Nat.le_refl _) _) (Nat.lt_of_lt_of_le hgU hb.size)))
    have hUc := Lib.hid (hU.cons hsn)
    have kN := Lib.hid (fun (W : World) (B2 g2 c2 m2 : Nat) (hm2 : ((sn : Int) :: U).length = m2) (hb : Below w.heap.size w W) (ho : Own W B2 g2 c2 ((sn : Int) :: U)) => spec_l8Normal_any gc oc n cc g2 0 m2 c2 c ((sn : Int) :: U) (nfI c ((sn : Int) :: U)) W hn hm2 hC (by rw [List.length_cons]; omega) (hUc.out.mono (show 16 ≤ 16 by omega)).inr (nfI_ok (hUc.out.mono (by omega))).norm (Nat.lt_of_lt_of_le hgc hb.size) ho.lt (hr.below hb hgc) ho.cells)
    have hlU : Hid (((sn : Int) :: U).length = mU + 1) := Lib.hid (by rw [List.length_cons, hmU])
    have qv := Lib.hid (fun (W : World) (hb : Below w.heap.size w W) => (hb.cell (p := ⟨gV, oV, none⟩) hgV).trans q1)
    have IH := Lib.hid (fun (X : List Int) (hX : Nw c X) (gX oX mX cX oV2 cV2 : Nat) (W : World) (hmX : X.length = mX) (hcap2 : k ≤ cV2) (hb : Below w.heap.size w W) (hgX : gX < W.heap.size) (hx : Cells W gX oX X) (hv2 : Cells W gV oV2 V) => spec_l15Below_any c gc oc n cc hn k X V gX oX mX cX gV oV2 cV2 W hVk' hmX hX hV' hcap2 (Nat.lt_of_lt_of_le hgc hb.size) hgX (Nat.lt_of_lt_of_le hgV hb.size) (hr.below hb hgc) hx hv2)
    have HvT := Lib.hid (fun (W : World) (hb : Below w.heap.size w W) => hvT.below hb hgV)
    have Hu := Lib.hid (fun (W : World) (hb : Below w.heap.size w W) => hu.below hb hgU)
    have HU := Lib.hid hU; have HS := Lib.hid hS; have HmU := Lib.hid hmU
    have H0 : Hid (cV = 1 → Cells w gV oV V) := Lib.hid (fun h => by
      have : V = [] := List.length_eq_zero_iff.1 (by omega)
      subst this; intro j hj; simp at hj)
    have H0' := Lib.hid (fun (h : cV = 1) (W : World) (hb : Below w.heap.size w W) => (H0.out h).below hb hgV)
    have b1 : (0 : Int) ≤ (sn : Int) := by omega
    have b2 : (sn : Int) < (c.length : Int) := by omega
    have b3 : (mU : Int) ≤ (k : Int) + 1 := by omega
    have bz : (((k : Int) + 1) == 0) = false := by rw [beq_eq_false_iff_ne]; omega
    have hbD : Below w.heap.size w w.drew := Below.drew (Below.refl _ _)
    have q1d : w.drew.cell? ⟨gV, oV, none⟩ = some (.int .i64 sn) := q1
    have kId := Lib.hid (show Calls Tryz.prog 95 #[(Value.slice (some ⟨gc, oc, none⟩) n cc), (Value.slice (some ⟨gU, oU, none⟩) mU cU)] w.drew (GotInts w.drew (actW c U (onesL c.length))) from spec_l8Image_any gc oc n cc gU oU mU cU c U w.drew hn hmU hC (by omega) hU.lets.inr hgc hgU (hr.drewN 1) hu)
    clear hV hV' hVk hVk' hsi hr hu hv hvT hU hS hans hmU hC hfar kI H0
    by_cases hz : (imI c U).getD sn 0 < 0
    · have hi := hyes.out hz
      rw [hi]
      rw [hi] at HS
      generalize (imI c U).getD sn 0 = z at *
      have d1 : decide (z < 0) = true := decide_eq_true (by omega)
      clear hi hyes hno hz
      go_enter Tryz.func52, Tryz.ntmps52
      go_wp2_with fail
      go_cut [28] from 7 (fun bv wx => bv = .bool true ∧ Below w.heap.size w wx)
      case first =>
        go_region_with (first
          | (go_at_call 95; refine kId.out.mono ?_; rintro e wA ⟨gA, cA, rfl, hoA, hbA⟩; rw [show (actW c U (onesL c.length)).length = c.length from hIl.out]; have hcA := qI.out _ _ _ _ hoA; have p1A := keepCell hbA q1d))
        all_goals (try go_wp2_with fail)
        all_goals go_meet
        all_goals exact ⟨rfl, hbD.trans (hbA.mono hbD.size)⟩
      case rest =>
        obtain ⟨rfl, hb⟩ := hcut
        clear kId hbD q1d q1
        by_cases hcap1 : cV = 1
        · obtain rfl : k = 0 := by omega
          have HvV := Lib.hid (fun W hW => H0'.out hcap1 W hW)
          subst hcap1
          have hcC := Lib.hid (kC.out wc hb)
          have p1 := qv.out wc hb
          go_wp2_with fail
          refine hcC.out.mono ?_
          rintro e wD ⟨gD, cD, rfl, hoD, hbD2⟩
          have hbE := hb.alloc hb.size (.cells #[.int .i64 sn] 3)
          have hbF := hbE.trans (hbD2.mono hbE.size)
          rw [hlU.out]
          have hN := Lib.hid (kN.out wD _ gD cD (mU + 1) hlU.out hbF hoD)
          clear hbE hbD2 hb hcC hoD p1
          go_wp2_with fail
          refine hN.out.mono ?_
          rintro e wG ⟨gG, cG, rfl, hoG, hbG⟩
          have hB := hbF.trans (hbG.mono hbF.size)
          obtain ⟨mG, hmG⟩ : ∃ mG, (nfI c ((sn : Int) :: U)).length = mG := ⟨_, rfl⟩
          rw [hmG]
          have HmG := Lib.hid hmG
          clear hbF hbG hN hmG
          have hIH := Lib.hid (IH.out _ HS.out gG 0 mG cG oV 0 wG HmG.out (by omega) hB hoG.lt hoG.cells (HvV.out _ hB))
          go_wp2_with fail
          refine hIH.out.mono ?_
          rintro e wZ ⟨rfl, hbZ⟩
          go_wp2_with fail
          go_ret
          exact ⟨rfl, hB.trans (hbZ.mono hB.size)⟩
        · have hcap3 : ¬ cV = 1 := hcap1
          have hcC := Lib.hid (kC.out wc hb)
          have p1 := qv.out wc hb
          go_wp2_with fail
          refine hcC.out.mono ?_
          rintro e wD ⟨gD, cD, rfl, hoD, hbD2⟩
          have hbE := hb.alloc hb.size (.cells #[.int .i64 sn] 3)
          have hbF := hbE.trans (hbD2.mono hbE.size)
          rw [hlU.out]
          have hN := Lib.hid (kN.out wD _ gD cD (mU + 1) hlU.out hbF hoD)
          clear hbE hbD2 hb hcC hoD p1
          go_wp2_with fail
          refine hN.out.mono ?_
          rintro e wG ⟨gG, cG, rfl, hoG, hbG⟩
          have hB := hbF.trans (hbG.mono hbF.size)
          obtain ⟨mG, hmG⟩ : ∃ mG, (nfI c ((sn : Int) :: U)).length = mG := ⟨_, rfl⟩
          rw [hmG]
          have HmG := Lib.hid hmG
          clear hbF hbG hN hmG
          have hIH := Lib.hid (IH.out _ HS.out gG 0 mG cG (oV + 1) (cV - 1) wG HmG.out (by omega) hB hoG.lt hoG.cells (HvT.out _ hB))
          go_wp2_with fail
          refine hIH.out.mono ?_
          rintro e wZ ⟨rfl, hbZ⟩
          go_wp2_with fail
          go_ret
          exact ⟨rfl, hB.trans (hbZ.mono hB.size)⟩
    · have hi := hno.out hz
      rw [hi]
      generalize (imI c U).getD sn 0 = z at *
      have d1 : decide (z < 0) = false := decide_eq_false (by omega)
      clear hi hyes hno hz
      go_enter Tryz.func52, Tryz.ntmps52
      go_wp2_with fail
      go_cut [28] from 7 (fun bv wx => bv = .bool false ∧ Below w.heap.size w wx)
      case first =>
        go_region_with (first
          | (go_at_call 95; refine kId.out.mono ?_; rintro e wA ⟨gA, cA, rfl, hoA, hbA⟩; rw [show (actW c U (onesL c.length)).length = c.length from hIl.out]; have hcA := qI.out _ _ _ _ hoA; have p1A := keepCell hbA q1d))
        all_goals (try go_wp2_with fail)
        all_goals go_meet
        all_goals exact ⟨rfl, hbD.trans (hbA.mono hbD.size)⟩
      case rest =>
        obtain ⟨rfl, hb⟩ := hcut
        clear kId hbD q1d q1
        by_cases hcap1 : cV = 1
        · obtain rfl : k = 0 := by omega
          have HvV := Lib.hid (fun W hW => H0'.out hcap1 W hW)
          subst hcap1
          have hB := hb
          have hIH := Lib.hid (IH.out _ HU.out gU oU mU cU oV 0 wc HmU.out (by omega) hB (Nat.lt_of_lt_of_le hgU hB.size) (Hu.out _ hB) (HvV.out _ hB))
          go_wp2_with fail
          refine hIH.out.mono ?_
          rintro e wZ ⟨rfl, hbZ⟩
          go_wp2_with fail
          go_ret
          exact ⟨rfl, hB.trans (hbZ.mono hB.size)⟩
        · have hcap3 : ¬ cV = 1 := hcap1
          have hB := hb
          have hIH := Lib.hid (IH.out _ HU.out gU oU mU cU (oV + 1) (cV - 1) wc HmU.out (by omega) hB (Nat.lt_of_lt_of_le hgU hB.size) (Hu.out _ hB) (HvT.out _ hB))
          go_wp2_with fail
          refine hIH.out.mono ?_
          rintro e wZ ⟨rfl, hbZ⟩
          go_wp2_with fail
          go_ret
          exact ⟨rfl, hB.trans (hbZ.mono hB.size)⟩
set_option maxHeartbeats 2000000 in
theorem spec_IsBruhatBelow_ok (gc oc n cc g1 o1 n1 c1 g2 o2 n2 c2 : Nat) (c : List (List Int)) (a b : List Int) (w : World) (hn : c.length = n) (hn1 : a.length = n1) (hn2 : b.length = n2) (hA : WordOk c a) (hB : WordOk c b) (hgc : gc < w.heap.size) (hg1 : g1 < w.heap.size) (hg2 : g2 < w.heap.size)
    (hr : Rows2 w gc oc c) (h1 : Cells w g1 o1 a) (h2 : Cells w g2 o2 b) :
    Calls Tryz.prog 11 #[(Value.slice (some ⟨gc, oc, none⟩) n cc), (Value.slice (some ⟨g1, o1, none⟩) n1 c1), (Value.slice (some ⟨g2, o2, none⟩) n2 c2)] w (Gives w (.bool (bruB c a b))) := by
  have hla := hA.few
  have hlb := hB.few
  have hn4 := hA.isC.2.1
  have hcl := hA.isC.2.2.1
  have hnA := nw_nf hA
  have hnB := nw_nf hB
  have i1 := spec_IsWord_any gc oc n cc g1 o1 n1 c1 c a w hn hn1 (by omega) (fun j hj => by have := hcl j hj; omega) (by omega) hr h1
  have i2 := fun W (hs : ∃ q, W = w.drewN q) => spec_IsWord_any gc oc n cc g2 o2 n2 c2 c b W hn hn2 (by omega) (fun j hj => by have := hcl j hj; omega) (by omega) (hr.still hs) (h2.still hs)
  rw [hA.isWord] at i1
  rw [hB.isWord] at i2
  have I1 := Lib.hid i1; have I2 := Lib.hid i2
  have K1 := Lib.hid (fun (W : World) (hb : Below w.heap.size w W) => spec_l8Normal_any gc oc n cc g1 o1 n1 c1 c a (nfI c a) W hn hn1 hA.isC (by omega) hA.inr (nfI_ok (hA.lets.mono (show 15 ≤ 30 by omega))).norm (Nat.lt_of_lt_of_le hgc hb.size) (Nat.lt_of_lt_of_le hg1 hb.size) (hr.below hb hgc) (h1.below hb hg1))
  have K2 := Lib.hid (fun (W : World) (hb : Below w.heap.size w W) => spec_l8Normal_any gc oc n cc g2 o2 n2 c2 c b (nfI c b) W hn hn2 hB.isC (by omega) hB.inr (nfI_ok (hB.lets.mono (show 15 ≤ 30 by omega))).norm (Nat.lt_of_lt_of_le hgc hb.size) (Nat.lt_of_lt_of_le hg2 hb.size) (hr.below hb hgc) (h2.below hb hg2))
  have K3 := Lib.hid (fun (W : World) (gA cA gB cB B1 B2 : Nat) (hb : Below w.heap.size w W) (hoA : Own W B1 gA cA (nfI c a)) (hoB : Own W B2 gB cB (nfI c b)) => spec_l15Below_any c gc oc n cc hn (nfI c b).length (nfI c a) (nfI c b) gA 0 (nfI c a).length cA gB 0 cB W rfl rfl hnA hnB.lets hoB.capLe (Nat.lt_of_lt_of_le hgc hb.size) hoA.lt hoB.lt (hr.below hb hgc) hoA.cells hoB.cells)
  rw [show bruB c a b = decide (subU c (nfI c b) (nfI c a) = []) from rfl]
  generalize decide (subU c (nfI c b) (nfI c a) = []) = r at *
  obtain ⟨mA, hmA⟩ : ∃ m, (nfI c a).length = m := ⟨_, rfl⟩
  obtain ⟨mB, hmB⟩ : ∃ m, (nfI c b).length = m := ⟨_, rfl⟩
  rw [hmA, hmB] at K3
  have HmA := Lib.hid hmA; have HmB := Lib.hid hmB
  clear i1 i2 hr h1 h2 hA hB hnA hnB hn hn1 hn2 hla hlb hcl hn4 hmA hmB
  go_enter Tryz.func11, Tryz.ntmps11
  go_wp2_with fail
  refine I1.out.mono ?_
  rintro e v1 ⟨rfl, hs1⟩
  go_wp2_with fail
  refine (I2.out v1 hs1).mono ?_
  rintro e v2 ⟨rfl, hs2⟩
  have hb0 := below_still (below_still (Below.refl w.heap.size w) hs1) hs2
  go_wp2_with fail
  refine (K1.out v2 hb0).mono ?_
  rintro e w1 ⟨gA, cA, rfl, hoA, hb1⟩
  have hB1 := hb0.trans (hb1.mono hb0.size)
  rw [HmA.out]
  go_wp2_with fail
  refine (K2.out w1 hB1).mono ?_
  rintro e w2 ⟨gB, cB, rfl, hoB, hb2⟩
  have hB2 := hB1.trans (hb2.mono hB1.size)
  rw [HmB.out]
  go_wp2_with fail
  refine (K3.out w2 gA cA gB cB _ _ hB2 (hoA.below hb2 hoA.lt) hoB).mono ?_
  rintro e w3 ⟨rfl, hb3⟩
  have hB3 := hB2.trans (hb3.mono hB2.size)
  go_wp2_with fail
  go_ret
  exact ⟨rfl, hB3⟩
end Go.Proofs.YtdedkfbiookofaaGreatDoor
