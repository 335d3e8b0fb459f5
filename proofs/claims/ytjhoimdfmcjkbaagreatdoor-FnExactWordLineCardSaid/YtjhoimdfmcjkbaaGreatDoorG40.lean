/- Descents of both; words read backwards: contracts. -/
import Derived.Test.YtjhoimdfmcjkbaaGreatDoorG38
import Derived.Test.YtjhoimdfmcjkbaaGreatDoorG32
import Derived.Test.YtjhoimdfmcjkbaaGreatDoorG39
namespace Go.Proofs.YtjhoimdfmcjkbaaGreatDoor
set_option maxRecDepth 100000
open Go.RowKit Game

def desTo (v : List Int) (k : Nat) : List Int := ((List.range k).filter fun i => decide (v.getD i 0 < 0)).map fun i : Nat => (i : Int)
def descI (v : List Int) : List Int := desTo v v.length
theorem descI_eq (v : List Int) : descI v = (descL v).map fun i : Nat => (i : Int) := rfl
theorem desTo_yes {v : List Int} {k : Nat} (h : v.getD k 0 < 0) : desTo v (k + 1) = desTo v k ++ [(k : Int)] := by
  unfold desTo
  rw [List.range_succ, List.filter_append, List.map_append]
  simp only [List.filter_cons, List.filter_nil]
  rw [if_pos (by simpa using h)]
  rfl
theorem desTo_no {v : List Int} {k : Nat} (h : ¬ v.getD k 0 < 0) : desTo v (k + 1) = desTo v k := by
  unfold desTo
  rw [List.range_succ, List.filter_append, List.map_append]
  simp only [List.filter_cons, List.filter_nil]
  rw [if_neg (by simpa using h)]
  simp
theorem desTo_len (v : List Int) (k : Nat) : (desTo v k).length ≤ k := by
  unfold desTo
  rw [List.length_map]
  exact Nat.le_trans (List.length_filter_le _ _) (by simp)

set_option maxHeartbeats 1000000 in
theorem impl_descents_any (g o m cp : Nat) (v : List Int) (w : World) (hm : v.length = m) (hl : v.length ≤ 1048576) (hg : g < w.heap.size) (hv : Cells w g o v) :
    Calls Tryz.prog 46 #[(Value.slice (some ⟨g, o, none⟩) m cp)] w (GotInts w (descI v)) := by
  subst hm
  have Hv := Lib.hid hv
  clear hv
  unfold descI
  go_enter Tryz.func46, Tryz.ntmps46
  go_wp2
  go_loopw [3, 9] (fun ov kv wr => ∃ (k mm g2 c2 : Nat), k ≤ v.length ∧ kv = .int .i64 k ∧ ov = (Value.slice (some ⟨g2, 0, none⟩) mm c2) ∧ mm ≤ k ∧ Hid ((desTo v k).length = mm) ∧ Own wr w.heap.size g2 c2 (desTo v k) ∧ Below w.heap.size w wr) (fun _ kv _ => v.length - (intOf kv).toNat)
  case atStart => exact ⟨0, 0, w.heap.size, 0, Nat.zero_le _, rfl, rfl, Nat.le_refl _, rfl, Own.empty (Nat.le_refl _), (Below.refl _ _).alloc (Nat.le_refl _) _⟩
  case round =>
    obtain ⟨k, mm, g2, c2, hk, rfl, rfl, hmk, hml, ho, hb⟩ := hrel
    by_cases hlt : k < v.length
    · have q1 := (Hv.out.below hb hg) k hlt
      have hyes := fun h => desTo_yes (v := v) (k := k) h
      have hno := fun h => desTo_no (v := v) (k := k) h
      generalize v.getD k 0 = z at *
      by_cases hz : z < 0
      · have Hy := Lib.hid (hyes hz)
        clear hyes hno
        go_wp2_with (at_builtin; refine wpList_append_int_n (w := wr) rfl _ _ rfl w.heap.size g2 c2 mm (desTo v k) (k : Int) hml.out ho rfl rfl (by omega) ?_)
        intro g6 c6 w6 ho6 hg6 hor6
        have hb6 : Below w.heap.size w w6 := hb.grown hg6 hb.size (by intro t ht; cases ht; exact ho.base)
        rw [← Hy.out] at ho6
        have hl6 : Hid ((desTo v (k + 1)).length = mm + 1) := Lib.hid (by rw [Hy.out, List.length_append, hml.out]; rfl)
        clear ho hb hg6 hor6 hml
        go_wp2_with fail
        go_roundw
        case rel => exact ⟨k + 1, mm + 1, g6, c6, by omega, by go_num, rfl, by omega, hl6.out, ho6, hb6⟩
        case measure => simp [intOf]; omega
      · have Hn := Lib.hid (hno hz)
        clear hyes hno
        go_wp2_with fail
        go_roundw
        case rel => exact ⟨k + 1, mm, g2, c2, by omega, by go_num, rfl, by omega, by rw [Hn.out]; exact hml.out, by rw [Hn.out]; exact ho, hb⟩
        case measure => simp [intOf]; omega
    · obtain rfl : k = v.length := by omega
      go_wp2_with fail
      go_ret
      exact GotInts.mk' g2 c2 hml.out ho hb

/-- descents of a word's element -/
def leftA (c : List (List Int)) (v : List Int) : List Int := if isWordB c v = true then descI (imI c v) else []
theorem leftA_word {c : List (List Int)} {v : List Int} (h : isWordB c v = true) : leftA c v = descI (imI c v) := if_pos h
theorem leftA_not {c : List (List Int)} {v : List Int} (h : isWordB c v = false) : leftA c v = [] := if_neg (by rw [h]; decide)

set_option maxHeartbeats 1000000 in
theorem impl_LeftDescents_any (gc oc n cc g o m cp : Nat) (c : List (List Int)) (v : List Int) (w : World) (hn : c.length = n) (hm : v.length = m) (hx : c.length ≤ 1048576) (hrl : ∀ j, j < c.length → (c.getD j []).length ≤ 1048576) (hl : v.length ≤ 1048576)
    (hgc : gc < w.heap.size) (hg : g < w.heap.size) (hr : Rows2 w gc oc c) (hv : Cells w g o v) :
    Calls Tryz.prog 24 #[(Value.slice (some ⟨gc, oc, none⟩) n cc), (Value.slice (some ⟨g, o, none⟩) m cp)] w (GotInts w (leftA c v)) := by
  have kW := impl_IsWord_any gc oc n cc g o m cp c v w hn hm hx hrl hl hr hv
  cases hw : isWordB c v with
  | false =>
    rw [hw] at kW
    rw [leftA_not hw]
    have KW := Lib.hid kW
    clear kW hr hv hw
    go_enter Tryz.func24, Tryz.ntmps24
    go_wp2_with fail
    refine KW.out.mono ?_
    rintro e w1 ⟨rfl, m1, rfl⟩
    go_wp2_with fail
    go_ret
    exact ⟨_, 0, rfl, Own.empty (w := w.drewN m1) (Nat.le_refl _), (by repeat (first | with_reducible exact Below.refl _ _ | with_reducible assumption | with_reducible refine below_drewN ?_ _ | with_reducible refine Below.drew ?_ | (with_reducible refine Below.alloc ?_ ?_ _; rotate_left; · first | (simp; done) | (simp; omega) | exact Below.size (by assumption) | (have hsz := Below.size (by assumption : Below _ _ _); simp at hsz ⊢; omega)) | (with_reducible refine Below.setCell ?_ ?_ _; rotate_left; · first | (simp; done) | (simp; omega))))⟩
  | true =>
    rw [hw] at kW
    rw [leftA_word hw]
    change Calls _ _ _ _ (GotInts w (descI (actW c v (onesL c.length))))
    have hA := wordOk_of hw
    have KI := Lib.hid (fun (W : World) (hs : ∃ q, W = w.drewN q) => impl_image_any gc oc n cc g o m cp c v W hn hm hA.isC hl hA.inr (by rw [size_still hs]; exact hgc) (by rw [size_still hs]; exact hg) (hr.still hs) (hv.still hs))
    have hil : (actW c v (onesL c.length)).length = c.length := imI_length c v
    have hn4 := hA.isC.2.1
    have KW := Lib.hid kW
    clear kW hr hv hw hA
    generalize actW c v (onesL c.length) = v2 at *
    obtain ⟨l2, hl2⟩ : ∃ l, v2.length = l := ⟨_, rfl⟩
    have hl24 : l2 ≤ 4 := by omega
    have Hl2 := Lib.hid hl2
    clear hil hl2
    go_enter Tryz.func24, Tryz.ntmps24
    go_wp2_with fail
    refine KW.out.mono ?_
    rintro e w1 ⟨rfl, hs1⟩
    have hb1 : Below w.heap.size w w1 := below_still (Below.refl _ _) hs1
    have kI := Lib.hid (KI.out w1 hs1)
    clear hs1 KI
    go_wp2_with fail
    refine kI.out.mono ?_
    rintro e w2 ⟨g2, c2, rfl, ho2, hb2⟩
    rw [Hl2.out]
    have hb2' := hb1.trans (hb2.mono hb1.size)
    go_wp2_with fail
    refine (impl_descents_any g2 0 l2 c2 v2 w2 Hl2.out (by rw [Hl2.out]; omega) ho2.lt ho2.cells).mono ?_
    rintro e w3 ⟨g3, c3, rfl, ho3, hb3⟩
    go_wp2_with fail
    go_ret
    exact ⟨g3, c3, rfl, ho3.mono hb2'.size, hb2'.trans (hb3.mono hb2'.size)⟩

set_option maxHeartbeats 1000000 in
theorem spec_LeftDescents_any (gc oc n cc g o m cp : Nat) (c : List (List Int)) (v : List Int) (w : World) (hn : c.length = n) (hm : v.length = m) (hx : c.length ≤ 1048576) (hrl : ∀ j, j < c.length → (c.getD j []).length ≤ 1048576) (hl : v.length ≤ 1048576)
    (hgc : gc < w.heap.size) (hg : g < w.heap.size) (hr : Rows2 w gc oc c) (hv : Cells w g o v) :
    Calls Tryz.prog 14 #[(Value.slice (some ⟨gc, oc, none⟩) n cc), (Value.slice (some ⟨g, o, none⟩) m cp)] w (GotInts w (leftA c v)) := by
  have hX := (Below.refl w.heap.size w).alloc (Nat.le_refl _) (.cells #[] 3)
  have kW := spec_IsWord_any gc oc n cc g o m cp c v (w.alloc (.cells #[] 3)) hn hm hx hrl hl (hr.below hX hgc) (hv.below hX hg)
  cases hw : isWordB c v with
  | false =>
    rw [hw] at kW
    rw [leftA_not hw]
    have KW := Lib.hid kW
    clear kW hr hv hw
    go_enter Tryz.func14, Tryz.ntmps14
    go_wp2_with fail
    refine KW.out.mono ?_
    rintro e w1 ⟨rfl, m1, rfl⟩
    go_wp2_with fail
    go_ret
    exact ⟨_, 0, rfl, (Own.empty (w := w) (Nat.le_refl _)).drewN m1, below_drewN hX m1⟩
  | true =>
    rw [hw] at kW
    rw [leftA_word hw]
    change Calls _ _ _ _ (GotInts w (descI (actW c v (onesL c.length))))
    have hA := wordOk_of hw
    have KI := Lib.hid (fun (W : World) (hb : Below w.heap.size w W) => spec_l8Image_any gc oc n cc g o m cp c v W hn hm hA.isC hl hA.inr (Nat.lt_of_lt_of_le hgc hb.size) (Nat.lt_of_lt_of_le hg hb.size) (hr.below hb hgc) (hv.below hb hg))
    have hil : (actW c v (onesL c.length)).length = c.length := imI_length c v
    have hn4 := hA.isC.2.1
    have KW := Lib.hid kW
    have hE : Own (w.alloc (.cells #[] 3)) w.heap.size w.heap.size 0 [] := Own.empty (Nat.le_refl _)
    clear kW hr hv hw hA
    generalize actW c v (onesL c.length) = v2 at *
    go_enter Tryz.func14, Tryz.ntmps14
    go_wp2_with fail
    refine KW.out.mono ?_
    rintro e w1 ⟨rfl, hs1⟩
    have hb1 : Below w.heap.size w w1 := below_still hX hs1
    have hE1 := hE.still hs1
    have kI := Lib.hid (KI.out w1 hb1)
    clear hs1 KI hX hE
    go_wp2_with fail
    refine kI.out.mono ?_
    rintro e w2 ⟨g2, c2, rfl, ho2, hb2⟩
    have hb2' := hb1.trans (hb2.mono hb1.size)
    have hE2 := hE1.below hb2 hE1.lt
    have hne : w.heap.size ≠ g2 := by have h1 := hE1.lt; have h2 := ho2.base; omega
    have ho2' := ho2.mono hb1.size
    unfold descI
    clear hE1 hb1 hb2 ho2 kI
    obtain ⟨l2, hl2⟩ : ∃ l, v2.length = l := ⟨_, rfl⟩
    rw [hl2]
    have Hl2 := Lib.hid hl2
    have hl24 : l2 ≤ 4 := by omega
    clear hl2
    go_wp2_with fail
    go_loopw [5, 7] (fun ov kv wr => ∃ (k mm g3 c3 : Nat), k ≤ l2 ∧ kv = .int .i64 k ∧ ov = (Value.slice (some ⟨g3, 0, none⟩) mm c3) ∧ mm ≤ k ∧ g3 ≠ g2 ∧ Hid ((desTo v2 k).length = mm) ∧ Own wr w.heap.size g3 c3 (desTo v2 k) ∧ Own wr w.heap.size g2 c2 v2 ∧ Below w.heap.size w wr) (fun _ kv _ => l2 - (intOf kv).toNat)
    case atStart => exact ⟨0, 0, w.heap.size, 0, Nat.zero_le _, rfl, rfl, Nat.le_refl _, hne, rfl, hE2, ho2', hb2'⟩
    case round =>
      clear hE2 ho2' hb2' hne
      obtain ⟨k, mm, g3, c3, hk, rfl, rfl, hmk, hne, hml, ho, hov, hb⟩ := hrel
      by_cases hlt : k < l2
      · have q1 := hov.cell k (by rw [Hl2.out]; exact hlt)
        have hyes := fun h => desTo_yes (v := v2) (k := k) h
        have hno := fun h => desTo_no (v := v2) (k := k) h
        generalize v2.getD k 0 = z at *
        by_cases hz : z < 0
        · have Hy := Lib.hid (hyes hz)
          clear hyes hno
          go_wp2_with (at_builtin; refine wpList_append_int_n (w := wr) rfl _ _ rfl w.heap.size g3 c3 mm (desTo v2 k) (k : Int) hml.out ho rfl rfl (by omega) ?_)
          intro g6 c6 w6 ho6 hg6 hor6
          have hb6 : Below w.heap.size w w6 := hb.grown hg6 hb.size (by intro t ht; cases ht; exact ho.base)
          have hv6 := hov.grown hg6 (by intro e; cases e; exact hne rfl)
          have hne6 : g6 ≠ g2 := by have := hov.lt; rcases hor6 with rfl | q; exact hne; omega
          rw [← Hy.out] at ho6
          have hl6 : Hid ((desTo v2 (k + 1)).length = mm + 1) := Lib.hid (by rw [Hy.out, List.length_append, hml.out]; rfl)
          clear ho hov hb hg6 hor6 hml
          go_wp2_with fail
          go_roundw
          case rel => exact ⟨k + 1, mm + 1, g6, c6, by omega, by go_num, rfl, by omega, hne6, hl6.out, ho6, hv6, hb6⟩
          case measure => simp [intOf]; omega
        · have Hn := Lib.hid (hno hz)
          clear hyes hno
          go_wp2_with fail
          go_roundw
          case rel => exact ⟨k + 1, mm, g3, c3, by omega, by go_num, rfl, by omega, hne, by rw [Hn.out]; exact hml.out, by rw [Hn.out]; exact ho, hov, hb⟩
          case measure => simp [intOf]; omega
      · obtain rfl : k = l2 := by omega
        go_wp2_with fail
        go_ret
        exact GotInts.mk' (xs := descI v2) g3 c3 (by unfold descI; rw [Hl2.out]; exact hml.out) (by unfold descI; rw [Hl2.out]; exact ho) hb

set_option maxHeartbeats 1000000 in
theorem spec_ReverseWord_any (g o n c : Nat) (xs : List Int) (w : World) (hn : xs.length = n) (hx : xs.length ≤ 1048576) (hg : g < w.heap.size) (hc : Cells w g o xs) :
    Calls Tryz.prog 35 #[(Value.slice (some ⟨g, o, none⟩) n c)] w (GotInts w xs.reverse) := by
  subst hn
  have ew : IntKind.i64.wrap ((xs.length : Int) - 1) = (xs.length : Int) - 1 := IntWalk.i64_in _ (by omega)
  have Hc := Lib.hid hc
  clear hc
  go_enter Tryz.func35, Tryz.ntmps35
  go_wp2_with fail
  go_loopw [3, 4] (fun ov iv wr => ∃ (k g2 c2 : Nat), k ≤ xs.length ∧ iv = .int .i64 ((xs.length : Int) - 1 - k) ∧ ov = (Value.slice (some ⟨g2, 0, none⟩) k c2) ∧ Own wr w.heap.size g2 c2 (xs.reverse.take k) ∧ Below w.heap.size w wr) (fun _ iv _ => (intOf iv + 1).toNat)
  case atStart => exact ⟨0, w.heap.size, 0, Nat.zero_le _, by go_num, rfl, Own.empty (Nat.le_refl _), (Below.refl _ _).alloc (Nat.le_refl _) _⟩
  case round =>
    obtain ⟨k, g2, c2, hk, rfl, rfl, ho, hb⟩ := hrel
    have hrl : (xs.reverse.take k).length = k := by rw [List.length_take, List.length_reverse]; omega
    by_cases hlt : k < xs.length
    · obtain ⟨t, ht⟩ : ∃ t : Nat, (xs.length : Int) - 1 - k = t := ⟨((xs.length : Int) - 1 - k).toNat, by omega⟩
      have htl : t < xs.length := by omega
      have q1 := (Hc.out.below hb hg) t htl
      have hs : xs.reverse.take (k + 1) = xs.reverse.take k ++ [xs.getD t 0] := by
        rw [List.take_succ_eq_append_getElem (by rw [List.length_reverse]; exact hlt)]
        rw [List.getElem_reverse]
        have : xs.length - 1 - k = t := by omega
        simp [this, List.getD, htl]
      generalize xs.getD t 0 = z at *
      have Hs := Lib.hid hs
      have e1 : IntKind.i64.wrap ((t : Int) - 1) = (t : Int) - 1 := IntWalk.i64_in _ (by omega)
      have t0 : (0 : Int) ≤ (t : Int) := by omega
      rw [ht]
      clear hs
      go_wp2_with (at_builtin; refine wpList_append_int_n (w := wr) rfl _ _ rfl w.heap.size g2 c2 k (xs.reverse.take k) z hrl ho rfl rfl (by omega) ?_)
      intro g6 c6 w6 ho6 hg6 hor6
      have hb6 : Below w.heap.size w w6 := hb.grown hg6 hb.size (by intro t ht; cases ht; exact ho.base)
      rw [← Hs.out] at ho6
      clear ho hb hg6 hor6 q1 hrl
      go_wp2_with fail
      go_roundw
      case rel => exact ⟨k + 1, g6, c6, by omega, congrArg _ (by omega), rfl, ho6, hb6⟩
      case measure => simp [intOf]
    · obtain rfl : k = xs.length := by omega
      have d0 : ¬ (0 : Int) ≤ (xs.length : Int) - 1 - (xs.length : Int) := by omega
      rw [List.take_of_length_le (by rw [List.length_reverse]; exact Nat.le_refl _)] at ho
      go_wp2_with fail
      go_ret
      exact GotInts.mk' g2 c2 (by rw [List.length_reverse]) ho hb

theorem impl_RightDescents_any (gc oc n cc g o m cp : Nat) (c : List (List Int)) (v : List Int) (w : World) (hn : c.length = n) (hm : v.length = m) (hx : c.length ≤ 1048576) (hrl : ∀ j, j < c.length → (c.getD j []).length ≤ 1048576) (hl : v.length ≤ 1048576)
    (hgc : gc < w.heap.size) (hg : g < w.heap.size) (hr : Rows2 w gc oc c) (hv : Cells w g o v) :
    Calls Tryz.prog 25 #[(Value.slice (some ⟨gc, oc, none⟩) n cc), (Value.slice (some ⟨g, o, none⟩) m cp)] w (GotInts w (leftA c v.reverse)) := by
  have kR := Lib.hid (impl_ReverseWord_any g o m cp v w hm (by omega) hg hv)
  have kL := Lib.hid (fun (W : World) (g2 c2 : Nat) (hb : Below w.heap.size w W) (ho : Own W w.heap.size g2 c2 v.reverse) => impl_LeftDescents_any gc oc n cc g2 0 v.reverse.length c2 c v.reverse W hn rfl hx hrl (by rw [List.length_reverse]; exact hl) (Nat.lt_of_lt_of_le hgc hb.size) ho.lt (hr.below hb hgc) ho.cells)
  clear hr hv
  generalize v.reverse = r at *
  go_enter Tryz.func25, Tryz.ntmps25
  go_wp2_with fail
  refine kR.out.mono ?_
  rintro e w1 ⟨g1, c1, rfl, ho1, hb1⟩
  go_wp2_with fail
  refine (kL.out w1 g1 c1 hb1 ho1).mono ?_
  rintro e w2 ⟨g2, c2, rfl, ho2, hb2⟩
  go_wp2_with fail
  go_ret
  exact ⟨g2, c2, rfl, ho2.mono hb1.size, hb1.trans (hb2.mono hb1.size)⟩
theorem spec_RightDescents_any (gc oc n cc g o m cp : Nat) (c : List (List Int)) (v : List Int) (w : World) (hn : c.length = n) (hm : v.length = m) (hx : c.length ≤ 1048576) (hrl : ∀ j, j < c.length → (c.getD j []).length ≤ 1048576) (hl : v.length ≤ 1048576)
    (hgc : gc < w.heap.size) (hg : g < w.heap.size) (hr : Rows2 w gc oc c) (hv : Cells w g o v) :
    Calls Tryz.prog 15 #[(Value.slice (some ⟨gc, oc, none⟩) n cc), (Value.slice (some ⟨g, o, none⟩) m cp)] w (GotInts w (leftA c v.reverse)) := by
  have kR := Lib.hid (spec_ReverseWord_any g o m cp v w hm (by omega) hg hv)
  have kL := Lib.hid (fun (W : World) (g2 c2 : Nat) (hb : Below w.heap.size w W) (ho : Own W w.heap.size g2 c2 v.reverse) => spec_LeftDescents_any gc oc n cc g2 0 v.reverse.length c2 c v.reverse W hn rfl hx hrl (by rw [List.length_reverse]; exact hl) (Nat.lt_of_lt_of_le hgc hb.size) ho.lt (hr.below hb hgc) ho.cells)
  clear hr hv
  generalize v.reverse = r at *
  go_enter Tryz.func15, Tryz.ntmps15
  go_wp2_with fail
  refine kR.out.mono ?_
  rintro e w1 ⟨g1, c1, rfl, ho1, hb1⟩
  go_wp2_with fail
  refine (kL.out w1 g1 c1 hb1 ho1).mono ?_
  rintro e w2 ⟨g2, c2, rfl, ho2, hb2⟩
  go_wp2_with fail
  go_ret
  exact ⟨g2, c2, rfl, ho2.mono hb1.size, hb1.trans (hb2.mono hb1.size)⟩
end Go.Proofs.YtjhoimdfmcjkbaaGreatDoor
