/- The reference's images, normal forms, concatenations, and lists of words: contracts. Normal forms of words, equal elements, star products, the longest element covered: contracts of both. Left descents of the reference: contract. Longest elements and opposite letters of any group; images of roots, sameness, membership: contracts. -/
import Derived.Test.YtldcmhgpppeooaaGreatDoorG11
import Derived.Test.YtldcmhgpppeooaaGreatDoorG02
import Derived.Test.YtldcmhgpppeooaaGreatDoorG14
import Derived.Test.YtldcmhgpppeooaaGreatDoorG18
import Derived.Test.YtldcmhgpppeooaaGreatDoorG04
import Derived.Test.YtldcmhgpppeooaaGreatDoorG13
import Derived.Test.YtldcmhgpppeooaaGreatDoorG16
import Derived.Test.YtldcmhgpppeooaaGreatDoorG10
namespace Go.Proofs.YtldcmhgpppeooaaGreatDoor
set_option maxRecDepth 100000
open Go.RowKit Game

set_option maxHeartbeats 2000000 in
theorem spec_l8Image_any (gc oc n cc g1 o1 n1 c1 : Nat) (c : List (List Int)) (l : List Int) (w : World) (hn : c.length = n) (hn1 : l.length = n1) (hC : IsC c) (hl : l.length ≤ 1048576)
    (hin : ∀ k, k < l.length → 0 ≤ l.getD k 0 ∧ l.getD k 0 < c.length) (hgc : gc < w.heap.size) (hg1 : g1 < w.heap.size) (hr : Rows2 w gc oc c) (hc1 : Cells w g1 o1 l) :
    Calls Tryz.prog 103 #[(Value.slice (some ⟨gc, oc, none⟩) n cc), (Value.slice (some ⟨g1, o1, none⟩) n1 c1)] w (GotInts w (actW c l (onesL c.length))) := by
  subst hn; subst hn1
  have hn4 := hC.2.1
  have ew : IntKind.i64.wrap ((l.length : Int) - 1) = (l.length : Int) - 1 := IntWalk.i64_in _ (by omega)
  go_enter Tryz.func103, Tryz.ntmps103
  go_wp2_with fail
  refine (spec_RhoOf_ok gc oc _ cc c w rfl hC hgc hr).mono ?_
  rintro e w1 ⟨gv, cv, rfl, ho1, hb1⟩
  rw [onesL_length]
  go_wp2_with fail
  clear ew
  go_loopw [5, 6] (fun s i wr => ∃ (k : Nat) (j : Int) (gv cv : Nat), k ≤ l.length ∧ i = .int .i64 j ∧ j = (k : Int) - 1 ∧ s = (Value.slice (some ⟨gv, 0, none⟩) c.length cv) ∧ Own wr w.heap.size gv cv (actW c (l.drop k) (onesL c.length)) ∧ Below w.heap.size w wr) (fun _ i _ => (intOf i + 1).toNat)
  case atStart => exact ⟨l.length, _, gv, cv, Nat.le_refl _, rfl, rfl, rfl, by rw [List.drop_length]; exact ho1, hb1⟩
  case round =>
    obtain ⟨k, j, gv, cv, hk, rfl, hj, rfl, ho, hb⟩ := hrel
    by_cases hlt : 0 < k
    · obtain ⟨t, rfl⟩ : ∃ t, k = t + 1 := ⟨k - 1, by omega⟩
      obtain rfl : j = (t : Int) := by omega
      have htl : t < l.length := by omega
      have q1 := hc1.below hb hg1 t htl
      have hit := hin t htl
      have hd := actW_drop c l (onesL c.length) t htl
      obtain ⟨iN, hiN⟩ : ∃ iN : Nat, l.getD t 0 = iN := ⟨(l.getD t 0).toNat, by omega⟩
      rw [hiN] at q1 hit hd
      rw [Int.toNat_natCast] at hd
      have hic : iN < c.length := by omega
      have hal : (actW c (l.drop (t + 1)) (onesL c.length)).length = c.length := by rw [actW_length]; exact onesL_length _
      have hcall := spec_l6Reflect_any gc oc _ cc gv 0 c.length cv iN c (actW c (l.drop (t + 1)) (onesL c.length)) wr rfl hal (by rw [hal]; exact Nat.le_refl _) hn4 hC.2.2.1 (by rw [hal]; exact hic) (Nat.lt_of_lt_of_le hgc hb.size) ho.lt (hr.below hb hgc) ho.cells
      have Hcall := Lib.hid hcall; have Hd := Lib.hid hd
      clear hcall hd hiN hal hit
      clear hj
      go_wp2_with fail
      refine Hcall.out.mono ?_
      rintro e w2 ⟨g2, c2, rfl, ho2, hb2⟩
      rw [← Hd.out] at ho2
      have hl2 : (actW c (l.drop t) (onesL c.length)).length = c.length := by rw [actW_length]; exact onesL_length _
      have e2 : (refl c iN (actW c (List.drop (t + 1) l) (onesL c.length))).length = c.length := by rw [refl_length, actW_length]; exact onesL_length _
      rw [e2]
      clear e2 hl2
      go_wp2_with fail
      go_roundw
      case rel =>
        exact ⟨t, (t : Int) - 1, g2, c2, by omega, by go_num, rfl, rfl, ho2.mono hb.size, hb.trans (hb2.mono hb.size)⟩
      case measure => simp [intOf]
    · obtain rfl : k = 0 := by omega
      obtain rfl : j = -1 := by omega
      clear hj
      go_wp2
      go_ret
      exact GotInts.mk' gv cv (by rw [actW_length]; exact onesL_length _) ho hb

set_option maxHeartbeats 2000000 in
theorem spec_l8Normal_any (gc oc n cc g1 o1 n1 c1 : Nat) (c : List (List Int)) (l word : List Int) (w : World) (hn : c.length = n) (hn1 : l.length = n1) (hC : IsC c) (hl : l.length ≤ 1048576)
    (hin : ∀ k, k < l.length → 0 ≤ l.getD k 0 ∧ l.getD k 0 < c.length) (hword : normG c 30 (actW c l (onesL c.length)) = some word) (hgc : gc < w.heap.size) (hg1 : g1 < w.heap.size) (hr : Rows2 w gc oc c) (hc1 : Cells w g1 o1 l) :
    Calls Tryz.prog 94 #[(Value.slice (some ⟨gc, oc, none⟩) n cc), (Value.slice (some ⟨g1, o1, none⟩) n1 c1)] w (GotInts w word) := by
  subst hn; subst hn1
  go_enter Tryz.func94, Tryz.ntmps94
  go_wp2_with fail
  refine (spec_l8Image_any gc oc _ cc g1 o1 _ c1 c l w rfl rfl hC hl hin hgc hg1 hr hc1).mono ?_
  rintro e w1 ⟨gv, cv, rfl, ho1, hb1⟩
  have hal : (actW c l (onesL c.length)).length = c.length := by rw [actW_length]; exact onesL_length _
  rw [hal]
  have Hal := Lib.hid hal; clear hal
  go_wp2_with fail
  refine (spec_l8Form_any gc oc _ cc gv 0 c.length cv 30 c (actW c l (onesL c.length)) word w1 rfl Hal.out hC Hal.out (by omega) hword (Nat.lt_of_lt_of_le hgc hb1.size) ho1.lt (hr.below hb1 hgc) ho1.cells).mono ?_
  rintro e w2 ⟨g2, c2, rfl, ho2, hb2⟩
  go_wp2_with fail
  go_ret
  exact ⟨g2, c2, rfl, ho2.mono hb1.size, hb1.trans (hb2.mono hb1.size)⟩

set_option maxHeartbeats 1000000 in
theorem spec_ConcatWords_any (g1 o1 n1 c1 g2 o2 n2 c2 : Nat) (xs ys : List Int) (w : World) (hn1 : xs.length = n1) (hn2 : ys.length = n2) (hx : xs.length ≤ 1048576) (hy : ys.length ≤ 1048576)
    (hg1 : g1 < w.heap.size) (hg2 : g2 < w.heap.size) (hc1 : Cells w g1 o1 xs) (hc2 : Cells w g2 o2 ys) :
    Calls Tryz.prog 48 #[(Value.slice (some ⟨g1, o1, none⟩) n1 c1), (Value.slice (some ⟨g2, o2, none⟩) n2 c2)] w (GotInts w (xs ++ ys)) := by
  subst hn1; subst hn2
  go_enter Tryz.func48, Tryz.ntmps48
  go_wp2_with (at_builtin; refine wpList_clone rfl _ _ rfl g1 o1 _ c1 xs rfl hg1 hc1 rfl rfl (by omega) ?_)
  intro g3 c3 w3 ho3 hb3
  go_wp2_with (at_builtin; refine wpList_append_ints rfl _ _ rfl w.heap.size g3 c3 xs ho3 g2 o2 c2 ys (hc2.below hb3 hg2) rfl rfl (by omega) ?_)
  intro g4 c4 w4 ho4 hg4 hor
  go_wp2_with fail
  go_ret
  exact GotInts.mk' g4 c4 (by simp) ho4 (hb3.grown hg4 hb3.size (by intro j hj; cases hj; exact ho3.base))

end Go.Proofs.YtldcmhgpppeooaaGreatDoor
namespace Go.Proofs.YtldcmhgpppeooaaGreatDoor
set_option maxRecDepth 100000
open Go.RowKit Game

section
variable {w : World} {gc oc n cc : Nat} {c : List (List Int)}
set_option maxHeartbeats 1000000 in
theorem impl_reduced_any (gc oc n cc g o m cp : Nat) (c : List (List Int)) (v : List Int) (w : World) (hn : c.length = n) (hm : v.length = m) (hL : Lets c 30 v) (hgc : gc < w.heap.size) (hg : g < w.heap.size) (hr : Rows2 w gc oc c) (hv : Cells w g o v) :
    Calls Tryz.prog 72 #[(Value.slice (some ⟨gc, oc, none⟩) n cc), (Value.slice (some ⟨g, o, none⟩) m cp)] w (GotInts w (nfI c v)) := by
  have hl := hL.few
  have k1 := Lib.hid (impl_image_any gc oc n cc g o m cp c v w hn hm hL.isC (by omega) hL.inr hgc hg hr hv)
  have k2 := Lib.hid (fun (W : World) (B g2 c2 : Nat) (hb : Below w.heap.size w W) (ho : Own W B g2 c2 (imI c v)) => impl_normal_any gc oc n cc g2 0 c.length c2 30 c (imI c v) (nfI c v) W hn (imI_length c v) hL.isC (imI_length c v) (by omega) (nfI_ok hL).norm (Nat.lt_of_lt_of_le hgc hb.size) ho.lt (hr.below hb hgc) ho.cells)
  have Hl := Lib.hid (imI_length c v)
  clear hr hv hL hl hn hm
  generalize nfI c v = y at *
  go_enter Tryz.func72, Tryz.ntmps72
  go_wp2_with fail
  refine k1.out.mono ?_
  rintro e w1 ⟨g1, c1, rfl, ho1, hb1⟩
  rw [show (actW c v (onesL c.length)).length = c.length from Hl.out]
  go_wp2_with fail
  refine (k2.out w1 _ g1 c1 hb1 ho1).mono ?_
  rintro e w2 ⟨g2, c2, rfl, ho2, hb2⟩
  go_wp2_with fail
  go_ret
  exact ⟨g2, c2, rfl, ho2.mono hb1.size, hb1.trans (hb2.mono hb1.size)⟩

set_option maxHeartbeats 1000000 in
theorem impl_same_any (gc oc n cc g1 o1 n1 c1 g2 o2 n2 c2 : Nat) (c : List (List Int)) (a b : List Int) (w : World) (hn : c.length = n) (hn1 : a.length = n1) (hn2 : b.length = n2) (hA : Lets c 30 a) (hB : Lets c 30 b) (hgc : gc < w.heap.size) (hg1 : g1 < w.heap.size) (hg2 : g2 < w.heap.size) (hr : Rows2 w gc oc c) (h1 : Cells w g1 o1 a) (h2 : Cells w g2 o2 b) :
    Calls Tryz.prog 104 #[(Value.slice (some ⟨gc, oc, none⟩) n cc), (Value.slice (some ⟨g1, o1, none⟩) n1 c1), (Value.slice (some ⟨g2, o2, none⟩) n2 c2)] w (Gives w (.bool (decide (imI c a = imI c b)))) := by
  have hn4 := hA.isC.2.1
  have la := hA.few
  have lb := hB.few
  have k1 := Lib.hid (impl_image_any gc oc n cc g1 o1 n1 c1 c a w hn hn1 hA.isC (by omega) hA.inr hgc hg1 hr h1)
  have k2 := Lib.hid (fun (W : World) (hb : Below w.heap.size w W) => impl_image_any gc oc n cc g2 o2 n2 c2 c b W hn hn2 hB.isC (by omega) hB.inr (Nat.lt_of_lt_of_le hgc hb.size) (Nat.lt_of_lt_of_le hg2 hb.size) (hr.below hb hgc) (h2.below hb hg2))
  have Ha := Lib.hid (imI_length c a); have Hb := Lib.hid (imI_length c b)
  have k3 := Lib.hid (fun (W : World) (ga ca gb cb : Nat) (x1 : Cells W ga 0 (imI c a)) (x2 : Cells W gb 0 (imI c b)) => slices_Equal_any ga 0 c.length ca gb 0 c.length cb (imI c a) (imI c b) W (imI_length c a) (imI_length c b) (by rw [imI_length]; omega) (by rw [imI_length]; omega) x1 x2)
  clear hr h1 h2 hA hB la lb hn hn1 hn2
  generalize decide (imI c a = imI c b) = r at *
  go_enter Tryz.func104, Tryz.ntmps104
  go_wp2_with fail
  refine k1.out.mono ?_
  rintro e w1 ⟨ga, ca, rfl, ho1, hb1⟩
  rw [show (actW c a (onesL c.length)).length = c.length from Ha.out]
  go_wp2_with fail
  refine (k2.out w1 hb1).mono ?_
  rintro e w2 ⟨gb, cb, rfl, ho2, hb2⟩
  rw [show (actW c b (onesL c.length)).length = c.length from Hb.out]
  go_wp2_with fail
  refine (k3.out w2 ga ca gb cb (ho1.below hb2 ho1.lt).cells ho2.cells).mono ?_
  rintro e w3 ⟨rfl, hs3⟩
  go_wp2_with fail
  go_ret
  exact ⟨rfl, below_still (hb1.trans (hb2.mono hb1.size)) hs3⟩

/-- what the reference's normal form of a list is -/
def nfA (c : List (List Int)) (v : List Int) : List Int := if isWordB c v = true then nfI c v else []
/-! ### the star product -/
def GotOwn (w : World) (B : Nat) (y : List Int) (e : Ending) (w' : World) : Prop := ∃ g cap, e = .returned (Value.slice (some ⟨g, 0, none⟩) y.length cap) ∧ Own w' B g cap y ∧ Below w.heap.size w w'
end
end Go.Proofs.YtldcmhgpppeooaaGreatDoor
namespace Go.Proofs.YtldcmhgpppeooaaGreatDoor
set_option maxRecDepth 100000
open Go.RowKit Game

def desTo (v : List Int) (k : Nat) : List Int := ((List.range k).filter fun i => decide (v.getD i 0 < 0)).map fun i : Nat => (i : Int)
def descI (v : List Int) : List Int := desTo v v.length
theorem desTo_yes {v : List Int} {k : Nat} (h : v.getD k 0 < 0) : desTo v (k + 1) = desTo v k ++ [(k : Int)] := by
  unfold desTo
  rw [List.range_succ, List.filter_append, List.map_append]
  simp only [List.filter_cons, List.filter_nil]
  rw [if_pos (by simpa using h)]
  rfl
theorem desTo_no {v : List Int} {k : Nat} (h : ¬ v.getD k 0 < 0) : desTo v (k + 1) = desTo v k := by
  unfold desTo
  rw [List.range_succ, List.filter_append, List.map_append]
  simp only [List.filter_cons, List.filter_nil]
  rw [if_neg (by simpa using h)]
  simp
theorem desTo_len (v : List Int) (k : Nat) : (desTo v k).length ≤ k := by
  unfold desTo
  rw [List.length_map]
  exact Nat.le_trans (List.length_filter_le _ _) (by simp)

/-- descents of a word's element -/
def leftA (c : List (List Int)) (v : List Int) : List Int := if isWordB c v = true then descI (imI c v) else []
theorem leftA_word {c : List (List Int)} {v : List Int} (h : isWordB c v = true) : leftA c v = descI (imI c v) := if_pos h
theorem leftA_not {c : List (List Int)} {v : List Int} (h : isWordB c v = false) : leftA c v = [] := if_neg (by rw [h]; decide)

set_option maxHeartbeats 1000000 in
theorem spec_LeftDescents_any (gc oc n cc g o m cp : Nat) (c : List (List Int)) (v : List Int) (w : World) (hn : c.length = n) (hm : v.length = m) (hx : c.length ≤ 1048576) (hrl : ∀ j, j < c.length → (c.getD j []).length ≤ 1048576) (hl : v.length ≤ 1048576)
    (hgc : gc < w.heap.size) (hg : g < w.heap.size) (hr : Rows2 w gc oc c) (hv : Cells w g o v) :
    Calls Tryz.prog 46 #[(Value.slice (some ⟨gc, oc, none⟩) n cc), (Value.slice (some ⟨g, o, none⟩) m cp)] w (GotInts w (leftA c v)) := by
  have hX := (Below.refl w.heap.size w).alloc (Nat.le_refl _) (.cells #[] 3)
  have kW := spec_IsWord_any gc oc n cc g o m cp c v (w.alloc (.cells #[] 3)) hn hm hx hrl hl (hr.below hX hgc) (hv.below hX hg)
  cases hw : isWordB c v with
  | false =>
    rw [hw] at kW
    rw [leftA_not hw]
    have KW := Lib.hid kW
    clear kW hr hv hw
    go_enter Tryz.func46, Tryz.ntmps46
    go_wp2_with fail
    refine KW.out.mono ?_
    rintro e w1 ⟨rfl, m1, rfl⟩
    go_wp2_with fail
    go_ret
    exact ⟨_, 0, rfl, (Own.empty (w := w) (Nat.le_refl _)).drewN m1, below_drewN hX m1⟩
  | true =>
    rw [hw] at kW
    rw [leftA_word hw]
    change Calls _ _ _ _ (GotInts w (descI (actW c v (onesL c.length))))
    have hA := wordOk_of hw
    have KI := Lib.hid (fun (W : World) (hb : Below w.heap.size w W) => spec_l8Image_any gc oc n cc g o m cp c v W hn hm hA.isC hl hA.inr (Nat.lt_of_lt_of_le hgc hb.size) (Nat.lt_of_lt_of_le hg hb.size) (hr.below hb hgc) (hv.below hb hg))
    have hil : (actW c v (onesL c.length)).length = c.length := imI_length c v
    have hn4 := hA.isC.2.1
    have KW := Lib.hid kW
    have hE : Own (w.alloc (.cells #[] 3)) w.heap.size w.heap.size 0 [] := Own.empty (Nat.le_refl _)
    clear kW hr hv hw hA
    generalize actW c v (onesL c.length) = v2 at *
    go_enter Tryz.func46, Tryz.ntmps46
    go_wp2_with fail
    refine KW.out.mono ?_
    rintro e w1 ⟨rfl, hs1⟩
    have hb1 : Below w.heap.size w w1 := below_still hX hs1
    have hE1 := hE.still hs1
    have kI := Lib.hid (KI.out w1 hb1)
    clear hs1 KI hX hE
    go_wp2_with fail
    refine kI.out.mono ?_
    rintro e w2 ⟨g2, c2, rfl, ho2, hb2⟩
    have hb2' := hb1.trans (hb2.mono hb1.size)
    have hE2 := hE1.below hb2 hE1.lt
    have hne : w.heap.size ≠ g2 := by have h1 := hE1.lt; have h2 := ho2.base; omega
    have ho2' := ho2.mono hb1.size
    unfold descI
    clear hE1 hb1 hb2 ho2 kI
    obtain ⟨l2, hl2⟩ : ∃ l, v2.length = l := ⟨_, rfl⟩
    rw [hl2]
    have Hl2 := Lib.hid hl2
    have hl24 : l2 ≤ 4 := by omega
    clear hl2
    go_wp2_with fail
    go_loopw [5, 7] (fun ov kv wr => ∃ (k mm g3 c3 : Nat), k ≤ l2 ∧ kv = .int .i64 k ∧ ov = (Value.slice (some ⟨g3, 0, none⟩) mm c3) ∧ mm ≤ k ∧ g3 ≠ g2 ∧ Hid ((desTo v2 k).length = mm) ∧ Own wr w.heap.size g3 c3 (desTo v2 k) ∧ Own wr w.heap.size g2 c2 v2 ∧ Below w.heap.size w wr) (fun _ kv _ => l2 - (intOf kv).toNat)
    case atStart => exact ⟨0, 0, w.heap.size, 0, Nat.zero_le _, rfl, rfl, Nat.le_refl _, hne, rfl, hE2, ho2', hb2'⟩
    case round =>
      clear hE2 ho2' hb2' hne
      obtain ⟨k, mm, g3, c3, hk, rfl, rfl, hmk, hne, hml, ho, hov, hb⟩ := hrel
      by_cases hlt : k < l2
      · have q1 := hov.cell k (by rw [Hl2.out]; exact hlt)
        have hyes := fun h => desTo_yes (v := v2) (k := k) h
        have hno := fun h => desTo_no (v := v2) (k := k) h
        generalize v2.getD k 0 = z at *
        by_cases hz : z < 0
        · have Hy := Lib.hid (hyes hz)
          clear hyes hno
          go_wp2_with (at_builtin; refine wpList_append_int_n (w := wr) rfl _ _ rfl w.heap.size g3 c3 mm (desTo v2 k) (k : Int) hml.out ho rfl rfl (by omega) ?_)
          intro g6 c6 w6 ho6 hg6 hor6
          have hb6 : Below w.heap.size w w6 := hb.grown hg6 hb.size (by intro t ht; cases ht; exact ho.base)
          have hv6 := hov.grown hg6 (by intro e; cases e; exact hne rfl)
          have hne6 : g6 ≠ g2 := by have := hov.lt; rcases hor6 with rfl | q; exact hne; omega
          rw [← Hy.out] at ho6
          have hl6 : Hid ((desTo v2 (k + 1)).length = mm + 1) := Lib.hid (by rw [Hy.out, List.length_append, hml.out]; rfl)
          clear ho hov hb hg6 hor6 hml
          go_wp2_with fail
          go_roundw
          case rel => exact ⟨k + 1, mm + 1, g6, c6, by omega, by go_num, rfl, by omega, hne6, hl6.out, ho6, hv6, hb6⟩
          case measure => simp [intOf]; omega
        · have Hn := Lib.hid (hno hz)
          clear hyes hno
          go_wp2_with fail
          go_roundw
          case rel => exact ⟨k + 1, mm, g3, c3, by omega, by go_num, rfl, by omega, hne, by rw [Hn.out]; exact hml.out, by rw [Hn.out]; exact ho, hov, hb⟩
          case measure => simp [intOf]; omega
      · obtain rfl : k = l2 := by omega
        go_wp2_with fail
        go_ret
        exact GotInts.mk' (xs := descI v2) g3 c3 (by unfold descI; rw [Hl2.out]; exact hml.out) (by unfold descI; rw [Hl2.out]; exact ho) hb

end Go.Proofs.YtldcmhgpppeooaaGreatDoor
namespace Go.Proofs.YtldcmhgpppeooaaGreatDoor
set_option maxRecDepth 100000
open Go.RowKit Game

theorem fin_isL {c : List (List Int)} (hf : finB c = true) : IsC c := by unfold finB at hf; exact of_decide_eq_true (Bool.and_eq_true_iff.1 hf).1
/-- the longest element of a finite group -/
def longA (c : List (List Int)) : List Int := if finB c = true then (normG c 30 (negL c.length)).getD [] else []
open Classical in
noncomputable def oppA (c : List (List Int)) (i : Int) : Int :=
  if h : finB c = true ∧ 0 ≤ i ∧ i < c.length then (((longOf_fin (fin_isL h.1) h.1).choose_spec.choose i.toNat : Nat) : Int) else -1
theorem oppA_ok {c : List (List Int)} (hf : finB c = true) : ∃ long opp, LongOf c long opp ∧ longA c = long ∧ long.length ≤ 24 ∧ ∀ i : Nat, i < c.length → oppA c i = (opp i : Int) := by
  have hC := fin_isL hf
  have hL := (longOf_fin hC hf).choose_spec.choose_spec
  refine ⟨_, _, hL, ?_, ?_, fun i hi => ?_⟩
  · unfold longA; rw [if_pos hf, hL.norm]; rfl
  · obtain ⟨long, opp, h, h24⟩ := longOf_fin24 hC hf
    have h2 := h.norm
    rw [hL.norm] at h2
    rw [Option.some.inj h2]; exact h24
  · unfold oppA
    rw [dif_pos ⟨hf, by omega, by omega⟩]
    rw [Int.toNat_natCast]
theorem oppA_no {c : List (List Int)} {i : Int} (h : ¬ (finB c = true ∧ 0 ≤ i ∧ i < c.length)) : oppA c i = -1 := by
  unfold oppA; rw [dif_neg h]
theorem longA_inf {c : List (List Int)} (h : finB c = false) : longA c = [] := if_neg (by rw [h]; decide)
theorem longA_few (c : List (List Int)) : (longA c).length ≤ 24 := by
  cases hf : finB c with
  | false => rw [longA_inf hf]; simp
  | true =>
    obtain ⟨long, opp, -, h, h24, -⟩ := oppA_ok hf
    rw [h]; exact h24

section
variable (gc oc n cc : Nat) (c : List (List Int)) (w : World) (hn : c.length = n) (hx : c.length ≤ 1048576) (hrl : ∀ j, j < c.length → (c.getD j []).length ≤ 1048576) (hgc : gc < w.heap.size) (hr : Rows2 w gc oc c)
include hn hx hrl hgc hr

set_option maxHeartbeats 1000000 in
theorem impl_LongestElement_any : Calls Tryz.prog 39 #[(Value.slice (some ⟨gc, oc, none⟩) n cc)] w (GotIntsB w (longA c) (finB c)) := by
  have hF := impl_IsFinite_any gc oc n cc c w hn hx hrl hgc hr
  cases hf : finB c with
  | false =>
    rw [longA_inf hf]
    rw [hf] at hF
    have Hf := Lib.hid hF
    clear hF hr hrl hn
    go_enter Tryz.func39, Tryz.ntmps39
    go_wp2_with fail
    refine Hf.out.mono ?_
    rintro e w1 ⟨rfl, hb1⟩
    go_wp2_with fail
    go_ret2
    exact ⟨_, 0, rfl, Own.empty hb1.size, hb1.alloc hb1.size _⟩
  | true =>
    obtain ⟨long, opp, hL, he, -⟩ := oppA_ok hf
    rw [he]
    rw [hf] at hF
    have Hf := Lib.hid hF
    have Hl := Lib.hid (fun (W : World) (hb : Below w.heap.size w W) => impl_longestElement_any gc oc n cc c long W hn (fin_isL hf) hL.norm (Nat.lt_of_lt_of_le hgc hb.size) (hr.below hb hgc))
    clear hF hr hrl hn he hL hf
    go_enter Tryz.func39, Tryz.ntmps39
    go_wp2_with fail
    refine Hf.out.mono ?_
    rintro e w1 ⟨rfl, hb1⟩
    go_wp2_with fail
    refine (Hl.out w1 hb1).mono ?_
    rintro e w2 ⟨g2, c2, rfl, ho2, hb2⟩
    go_wp2_with fail
    go_ret2
    exact ⟨g2, c2, rfl, ho2.mono hb1.size, hb1.trans (hb2.mono hb1.size)⟩
set_option maxHeartbeats 1000000 in
theorem spec_LongestElement_any : Calls Tryz.prog 40 #[(Value.slice (some ⟨gc, oc, none⟩) n cc)] w (GotIntsB w (longA c) (finB c)) := by
  have hF := spec_IsFinite_any gc oc n cc c w hn hx hrl hgc hr
  cases hf : finB c with
  | false =>
    rw [longA_inf hf]
    rw [hf] at hF
    have Hf := Lib.hid hF
    clear hF hr hrl hn
    go_enter Tryz.func40, Tryz.ntmps40
    go_wp2_with fail
    refine Hf.out.mono ?_
    rintro e w1 ⟨rfl, hb1⟩
    go_wp2_with fail
    go_ret2
    exact ⟨_, 0, rfl, Own.empty hb1.size, hb1.alloc hb1.size _⟩
  | true =>
    obtain ⟨long, opp, hL, he, -⟩ := oppA_ok hf
    rw [he]
    exact spec_LongestElement_ok gc oc n cc c long w hn (fin_isL hf) hf hL.norm hgc hr
set_option maxHeartbeats 1000000 in
theorem impl_OppositeLetter_any (i : Int) : Calls Tryz.prog 44 #[(Value.slice (some ⟨gc, oc, none⟩) n cc), .int .i64 i] w (Gives w (.int .i64 (oppA c i))) := by
  by_cases h : finB c = true ∧ 0 ≤ i ∧ i < c.length
  · obtain ⟨hf, h0, h1⟩ := h
    obtain ⟨long, opp, hL, he, -, hop⟩ := oppA_ok hf
    obtain ⟨k, rfl⟩ : ∃ k : Nat, i = (k : Int) := ⟨i.toNat, by omega⟩
    rw [hop k (by omega)]
    exact impl_OppositeLetter_ok gc oc n cc k c long opp w hn (fin_isL hf) hf hL (by omega) hgc hr
  · rw [oppA_no h]
    have Hf := Lib.hid (impl_IsFinite_any gc oc n cc c w hn hx hrl hgc hr)
    have hp : finB c = true → (decide (0 ≤ i) && decide (i < (n : Int))) = false := fun hf => by
      rw [← Bool.not_eq_true]
      intro e
      rw [Bool.and_eq_true, decide_eq_true_eq, decide_eq_true_eq] at e
      exact h ⟨hf, e.1, by omega⟩
    clear hr hrl hn h
    cases hf : finB c with
    | false =>
      rw [hf] at Hf
      go_enter Tryz.func44, Tryz.ntmps44
      go_wp2_with fail
      refine Hf.out.mono ?_
      rintro e w1 ⟨rfl, hb1⟩
      go_wp2_with fail
      go_ret
      exact ⟨rfl, hb1⟩
    | true =>
      have hp := hp hf
      rw [hf] at Hf
      go_enter Tryz.func44, Tryz.ntmps44
      go_wp2_with fail
      refine Hf.out.mono ?_
      rintro e w1 ⟨rfl, hb1⟩
      have HP := Lib.hid (impl_isPoint_any gc oc n cc i w1)
      rw [hp] at HP
      go_wp2_with fail
      refine HP.out.mono ?_
      rintro e w2 ⟨rfl, hs2⟩
      go_wp2_with fail
      go_ret
      exact ⟨rfl, below_still hb1 hs2⟩
set_option maxHeartbeats 1000000 in
theorem spec_OppositeLetter_any (i : Int) (hi : -1000 ≤ i ∧ i ≤ 1000) : Calls Tryz.prog 51 #[(Value.slice (some ⟨gc, oc, none⟩) n cc), .int .i64 i] w (Gives w (.int .i64 (oppA c i))) := by
  by_cases h : finB c = true ∧ 0 ≤ i ∧ i < c.length
  · obtain ⟨hf, h0, h1⟩ := h
    obtain ⟨long, opp, hL, he, -, hop⟩ := oppA_ok hf
    obtain ⟨k, rfl⟩ : ∃ k : Nat, i = (k : Int) := ⟨i.toNat, by omega⟩
    rw [hop k (by omega)]
    exact spec_OppositeLetter_ok gc oc n cc k c long opp w hn (fin_isL hf) hf hL (by omega) hgc hr
  · rw [oppA_no h]
    have Hl := Lib.hid (spec_LongestElement_any gc oc n cc c w hn hx hrl hgc hr)
    have hp : finB c = true → (decide ((0 : Int) ≤ i) && decide (i ≤ (n : Int) - 1)) = false := fun hf => by
      rw [← Bool.not_eq_true]
      intro e
      rw [Bool.and_eq_true, decide_eq_true_eq, decide_eq_true_eq] at e
      exact h ⟨hf, e.1, by omega⟩
    have ew : IntKind.i64.wrap ((n : Int) - 1) = (n : Int) - 1 := IntWalk.i64_in _ (by omega)
    clear hr hrl hn h
    cases hf : finB c with
    | false =>
      rw [hf] at Hl
      go_enter Tryz.func51, Tryz.ntmps51
      go_wp2_with fail
      refine Hl.out.mono ?_
      rintro e w1 ⟨g1, c1, rfl, ho1, hb1⟩
      go_wp2_with fail
      go_ret
      exact ⟨rfl, hb1⟩
    | true =>
      have hp := hp hf
      rw [hf] at Hl
      go_enter Tryz.func51, Tryz.ntmps51
      go_wp2_with fail
      refine Hl.out.mono ?_
      rintro e w1 ⟨g1, c1, rfl, ho1, hb1⟩
      have HP := Lib.hid (spec_l1In i 0 ((n : Int) - 1) w1)
      rw [hp] at HP
      go_wp2_with fail
      refine HP.out.mono ?_
      rintro e w2 ⟨rfl, hs2⟩
      go_wp2_with fail
      go_ret
      exact ⟨rfl, below_still hb1 hs2⟩
end

set_option maxHeartbeats 1000000 in
theorem impl_AreSame_ok (gc oc n cc g1 o1 n1 c1 g2 o2 n2 c2 : Nat) (c : List (List Int)) (a b : List Int) (w : World) (hn : c.length = n) (hn1 : a.length = n1) (hn2 : b.length = n2) (hA : WordOk c a) (hB : WordOk c b) (hgc : gc < w.heap.size) (hg1 : g1 < w.heap.size) (hg2 : g2 < w.heap.size) (hr : Rows2 w gc oc c) (h1 : Cells w g1 o1 a) (h2 : Cells w g2 o2 b) :
    Calls Tryz.prog 47 #[(Value.slice (some ⟨gc, oc, none⟩) n cc), (Value.slice (some ⟨g1, o1, none⟩) n1 c1), (Value.slice (some ⟨g2, o2, none⟩) n2 c2)] w (Gives w (.bool (decide (imI c a = imI c b)))) := by
  have hn4 := hA.isC.2.1
  have hcl := hA.isC.2.2.1
  have la := hA.few
  have lb := hB.few
  have i1 := impl_IsWord_any gc oc n cc g1 o1 n1 c1 c a w hn hn1 (by omega) (fun j hj => by have := hcl j hj; omega) (by omega) hr h1
  have i2 := fun W (hb : Below w.heap.size w W) => impl_IsWord_any gc oc n cc g2 o2 n2 c2 c b W hn hn2 (by omega) (fun j hj => by have := hcl j hj; omega) (by omega) (hr.below hb hgc) (h2.below hb hg2)
  rw [hA.isWord] at i1
  rw [hB.isWord] at i2
  have I1 := Lib.hid i1; have I2 := Lib.hid i2
  have K := Lib.hid (fun (W : World) (hb : Below w.heap.size w W) => impl_same_any gc oc n cc g1 o1 n1 c1 g2 o2 n2 c2 c a b W hn hn1 hn2 (hA.lets.mono (by omega)) (hB.lets.mono (by omega)) (Nat.lt_of_lt_of_le hgc hb.size) (Nat.lt_of_lt_of_le hg1 hb.size) (Nat.lt_of_lt_of_le hg2 hb.size) (hr.below hb hgc) (h1.below hb hg1) (h2.below hb hg2))
  clear hr h1 h2 hA hB la lb hn hn1 hn2 i1 i2 hcl
  generalize decide (imI c a = imI c b) = r at *
  go_enter Tryz.func47, Tryz.ntmps47
  go_wp2_with fail
  refine I1.out.mono ?_
  rintro e v1 ⟨rfl, hs1⟩
  have hB1 := below_still (Below.refl w.heap.size w) hs1
  go_wp2_with fail
  refine (I2.out v1 hB1).mono ?_
  rintro e v2 ⟨rfl, hs2⟩
  have hB2 := below_still hB1 hs2
  go_wp2_with fail
  refine (K.out v2 hB2).mono ?_
  rintro e w1 ⟨rfl, hb1⟩
  have hB3 := hB2.trans (hb1.mono hB2.size)
  go_wp2_with fail
  go_ret
  exact ⟨rfl, hB3⟩
set_option maxHeartbeats 1000000 in
theorem impl_ActOnRoot_ok (gc oc n cc g1 o1 n1 c1 g2 o2 n2 c2 : Nat) (c : List (List Int)) (l r : List Int) (w : World) (hn : c.length = n) (hn1 : l.length = n1) (hn2 : r.length = n2) (hW : WordOk c l)
    (hrl : r.length = c.length) (hgc : gc < w.heap.size) (hg1 : g1 < w.heap.size) (hg2 : g2 < w.heap.size) (hr : Rows2 w gc oc c) (hc1 : Cells w g1 o1 l) (hc2 : Cells w g2 o2 r) :
    Calls Tryz.prog 43 #[(Value.slice (some ⟨gc, oc, none⟩) n cc), (Value.slice (some ⟨g1, o1, none⟩) n1 c1), (Value.slice (some ⟨g2, o2, none⟩) n2 c2)] w (GotInts w (actR c l r)) := by
  have hn4 := hW.isC.2.1
  have hcl := hW.isC.2.2.1
  have la := hW.few
  have i1 := impl_IsWord_any gc oc n cc g1 o1 n1 c1 c l w hn hn1 (by omega) (fun j hj => by have := hcl j hj; omega) (by omega) hr hc1
  rw [hW.isWord] at i1
  have I1 := Lib.hid i1
  have K := Lib.hid (fun (W : World) (hb : Below w.heap.size w W) => impl_actedRoot_any gc oc n cc g1 o1 n1 c1 g2 o2 n2 c2 c l r W hn hn1 hn2 hW.isC (by omega) hW.inr hrl (Nat.lt_of_lt_of_le hgc hb.size) (Nat.lt_of_lt_of_le hg1 hb.size) (Nat.lt_of_lt_of_le hg2 hb.size) (hr.below hb hgc) (hc1.below hb hg1) (hc2.below hb hg2))
  obtain rfl : n2 = n := by omega
  clear hr hc1 hc2 hW la hn hn1 hn2 i1 hcl hrl
  generalize actR c l r = y at *
  go_enter Tryz.func43, Tryz.ntmps43
  go_wp2_with fail
  refine I1.out.mono ?_
  rintro e v1 ⟨rfl, hs1⟩
  have hB1 := below_still (Below.refl w.heap.size w) hs1
  go_wp2_with fail
  refine (K.out v1 hB1).mono ?_
  rintro e w1 ⟨ga, ca, rfl, ho1, hb1⟩
  go_wp2_with fail
  go_ret
  exact ⟨ga, ca, rfl, ho1.mono hB1.size, hB1.trans (hb1.mono hB1.size)⟩
set_option maxHeartbeats 400000 in
theorem laws_has_any (g o n c : Nat) (xs : List Int) (x : Int) (w : World) (hn : xs.length = n) (hx : xs.length ≤ 1048576) (hc : Cells w g o xs) :
    Calls Tryz.prog 45 #[(Value.slice (some ⟨g, o, none⟩) n c), .int .i64 x] w (Reads w (.bool (decide (x ∈ xs)))) := by
  subst hn
  go_enter Tryz.func45, Tryz.ntmps45
  go_wp2
  go_loopw [5] (fun i wr => ∃ k : Nat, k ≤ xs.length ∧ i = .int .i64 k ∧ Hid (∀ j, j < k → xs.getD j 0 ≠ x) ∧ ∃ m, wr = w.drewN m) (fun i _ => xs.length - (intOf i).toNat)
  case atStart => exact ⟨0, Nat.zero_le _, rfl, fun j hj => absurd hj (by omega), (by first | exact ⟨_, rfl⟩ | exact ⟨0, rfl⟩ | exact still2 _ _ _ | exact still3 _ _ _ _)⟩
  case round =>
    obtain ⟨k, hk, rfl, hin, m, rfl⟩ := hrel
    by_cases hlt : k < xs.length
    · have q := hc k hlt
      by_cases e : xs.getD k 0 = x
      · have hd : decide (x ∈ xs) = true := decide_eq_true (by rw [← e]; simp [List.getD, hlt])
        rw [e] at q
        go_wp2
        go_ret
        exact ⟨by rw [hd]; rfl, (by first | exact ⟨_, rfl⟩ | exact ⟨0, rfl⟩ | exact still2 _ _ _ | exact still3 _ _ _ _)⟩
      · have hne := Lib.hid (show ∀ j, j < k + 1 → xs.getD j 0 ≠ x from fun j hj => by
          by_cases e2 : j = k
          · rw [e2]; exact e
          · exact hin.out j (by omega))
        have eB : (xs.getD k 0 == x) = false := by simpa using e
        generalize xs.getD k 0 = z at *
        go_wp2
        go_roundw
        case rel => exact ⟨k + 1, by omega, by go_num, hne.out, (by first | exact ⟨_, rfl⟩ | exact ⟨0, rfl⟩ | exact still2 _ _ _ | exact still3 _ _ _ _)⟩
        case measure => simp [intOf]; omega
    · obtain rfl : k = xs.length := by omega
      have hd : decide (x ∈ xs) = false := decide_eq_false fun hm => by
        obtain ⟨j, hj, he⟩ := List.mem_iff_getElem.1 hm
        exact hin.out j hj (by simp [List.getD, hj, he])
      go_wp2
      go_ret
      exact ⟨by rw [hd]; rfl, (by first | exact ⟨_, rfl⟩ | exact ⟨0, rfl⟩ | exact still2 _ _ _ | exact still3 _ _ _ _)⟩
end Go.Proofs.YtldcmhgpppeooaaGreatDoor
