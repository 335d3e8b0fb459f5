/- Normal forms of words, equal elements, star products, the longest element covered: contracts of both. CoversAll of both, at words: contracts. -/
import Derived.Test.YtjhoimdfmcjkbaaG30
import Derived.Test.YtjhoimdfmcjkbaaG31
import Derived.Test.YtjhoimdfmcjkbaaG32
import Derived.Test.YtjhoimdfmcjkbaaG35
namespace Go.Proofs.Ytjhoimdfmcjkbaa
set_option maxRecDepth 100000
open Go.RowKit Game

section
variable {w : World} {gc oc n cc : Nat} {c : List (List Int)}
set_option maxHeartbeats 1000000 in
theorem impl_reduced_any (gc oc n cc g o m cp : Nat) (c : List (List Int)) (v : List Int) (w : World) (hn : c.length = n) (hm : v.length = m) (hL : Lets c 30 v) (hgc : gc < w.heap.size) (hg : g < w.heap.size) (hr : Rows2 w gc oc c) (hv : Cells w g o v) :
    Calls Try.prog 62 #[(Value.slice (some ⟨gc, oc, none⟩) n cc), (Value.slice (some ⟨g, o, none⟩) m cp)] w (GotInts w (nfI c v)) := by
  have hl := hL.few
  have k1 := Lib.hid (impl_image_any gc oc n cc g o m cp c v w hn hm hL.isC (by omega) hL.inr hgc hg hr hv)
  have k2 := Lib.hid (fun (W : World) (B g2 c2 : Nat) (hb : Below w.heap.size w W) (ho : Own W B g2 c2 (imI c v)) => impl_normal_any gc oc n cc g2 0 c.length c2 30 c (imI c v) (nfI c v) W hn (imI_length c v) hL.isC (imI_length c v) (by omega) (nfI_ok hL).norm (Nat.lt_of_lt_of_le hgc hb.size) ho.lt (hr.below hb hgc) ho.cells)
  have Hl := Lib.hid (imI_length c v)
  clear hr hv hL hl hn hm
  generalize nfI c v = y at *
  go_enter Try.func62, Try.ntmps62
  go_wp2_with fail
  refine k1.out.mono ?_
  rintro e w1 ⟨g1, c1, rfl, ho1, hb1⟩
  rw [show (actW c v (onesL c.length)).length = c.length from Hl.out]
  go_wp2_with fail
  refine (k2.out w1 _ g1 c1 hb1 ho1).mono ?_
  rintro e w2 ⟨g2, c2, rfl, ho2, hb2⟩
  go_wp2_with fail
  go_ret
  exact ⟨g2, c2, rfl, ho2.mono hb1.size, hb1.trans (hb2.mono hb1.size)⟩

/-- what the reference's normal form of a list is -/
def nfA (c : List (List Int)) (v : List Int) : List Int := if isWordB c v = true then nfI c v else []
/-! ### the star product -/
def GotOwn (w : World) (B : Nat) (y : List Int) (e : Ending) (w' : World) : Prop := ∃ g cap, e = .returned (Value.slice (some ⟨g, 0, none⟩) y.length cap) ∧ Own w' B g cap y ∧ Below w.heap.size w w'
set_option maxHeartbeats 1000000 in
theorem impl_starred_any (gc oc n cc B g m cp : Nat) (i : Int) (c : List (List Int)) (x : List Int) (w : World) (hn : c.length = n) (hm : x.length = m) (hL : Lets c 29 x) (h0 : 0 ≤ i) (h1 : i < (c.length : Int)) (hB : B ≤ w.heap.size) (hgc : gc < w.heap.size) (hr : Rows2 w gc oc c) (ho : Own w B g cp x) :
    Calls Try.prog 54 #[(Value.slice (some ⟨gc, oc, none⟩) n cc), (Value.slice (some ⟨g, 0, none⟩) m cp), .int .i64 i] w (GotOwn w B (starS c x i)) := by
  have hl := hL.few
  have hL2 := (hL.app (Lets.one hL.isC h0 h1)).mono (show 29 + 1 ≤ 30 by omega)
  have k1 := Lib.hid (slices_Clone_any g 0 m cp x w hm (by omega) ho.lt ho.cells)
  have k2 := Lib.hid (fun (W : World) (B2 g2 c2 : Nat) (hb : Below w.heap.size w W) (ho2 : Own W B2 g2 c2 (x ++ [i])) => impl_reduced_any gc oc n cc g2 0 (m + 1) c2 c (x ++ [i]) W hn (by rw [List.length_append, hm]; rfl) hL2 (Nat.lt_of_lt_of_le hgc hb.size) ho2.lt (hr.below hb hgc) ho2.cells)
  have hst : starS c x i = if (nfI c (x ++ [i])).length < x.length then x else nfI c (x ++ [i]) := rfl
  have Ho := Lib.hid ho; have Hst := Lib.hid hst; have Hm := Lib.hid hm
  have hm30 : m ≤ 30 := by omega
  clear hr hL hL2 ho hst hm hl
  generalize nfI c (x ++ [i]) = y at *
  go_enter Try.func54, Try.ntmps54
  go_wp2_with fail
  refine k1.out.mono ?_
  rintro e w1 ⟨g1, c1, rfl, ho1, hb1⟩
  rw [Hm.out]
  go_wp2_with (at_builtin; refine wpList_append_int_n rfl _ _ rfl w.heap.size g1 c1 m x i Hm.out ho1 rfl rfl (by omega) ?_)
  intro g3 c3 w3 ho3 hg3 _
  have hb3 := hb1.grown hg3 hb1.size (by intro j hj; cases hj; exact ho1.base)
  clear ho1 hg3
  go_wp2_with fail
  refine (k2.out w3 _ g3 c3 hb3 ho3).mono ?_
  rintro e w4 ⟨g4, c4, rfl, ho4, hb4⟩
  have hb := hb3.trans (hb4.mono hb3.size)
  have hoy := ho4.mono (Nat.le_trans hB hb3.size)
  have hox := Ho.out.below hb Ho.out.lt
  clear ho3 ho4 hb3 hb4
  by_cases hlt : y.length < x.length
  · have hltI : (y.length : Int) < (m : Int) := by have := Hm.out; omega
    have hz : starS c x i = x := by rw [Hst.out, if_pos hlt]
    have Hz := Lib.hid hz
    clear hz hlt
    go_wp2_with fail
    go_ret
    exact ⟨g, cp, by rw [Hz.out, Hm.out]; rfl, by rw [Hz.out]; exact hox, hb⟩
  · have hltI : ¬ ((y.length : Int) < (m : Int)) := by have := Hm.out; omega
    have hz : starS c x i = y := by rw [Hst.out, if_neg hlt]
    have Hz := Lib.hid hz
    clear hz hlt
    go_wp2_with fail
    go_ret
    exact ⟨g4, c4, by rw [Hz.out]; rfl, by rw [Hz.out]; exact hoy, hb⟩

set_option maxHeartbeats 1000000 in
theorem impl_StarWord_ok (gc oc n cc g o m cp : Nat) (c : List (List Int)) (v : List Int) (w : World) (hn : c.length = n) (hm : v.length = m) (hW : WordOk c v) (hgc : gc < w.heap.size) (hg : g < w.heap.size) (hr : Rows2 w gc oc c) (hv : Cells w g o v) :
    Calls Try.prog 37 #[(Value.slice (some ⟨gc, oc, none⟩) n cc), (Value.slice (some ⟨g, o, none⟩) m cp)] w (GotIntsB w (starL c v) true) := by
  subst hm
  have hn4 := hW.isC.2.1
  have hcl := hW.isC.2.2.1
  have hl := hW.few
  have hIW := impl_IsWord_any gc oc n cc g o _ cp c v w hn rfl (by omega) (fun j hj => by have := hcl j hj; omega) (by omega) hr hv
  rw [hW.isWord] at hIW
  have Hi := Lib.hid hIW; have HW := Lib.hid hW
  have Ks := Lib.hid (fun (k : Nat) (hk : k < v.length) (W : World) (g2 c2 : Nat) (hb : Below w.heap.size w W) (ho : Own W w.heap.size g2 c2 (starTo c v k)) => impl_starred_any gc oc n cc w.heap.size g2 (starTo c v k).length c2 (v.getD k 0) c (starTo c v k) W hn rfl ((starTo_lets hW k (by omega)).mono (by omega)) (hW.inr k hk).1 (hW.inr k hk).2 hb.size (Nat.lt_of_lt_of_le hgc hb.size) (hr.below hb hgc) ho)
  clear hIW hW hr hcl
  go_enter Try.func37, Try.ntmps37
  go_wp2_with fail
  refine Hi.out.mono ?_
  rintro e w1 ⟨rfl, hs1⟩
  have hb1 := below_still (Below.refl w.heap.size w) hs1
  go_wp2_with fail
  go_loopw [6, 17] (fun xv kv wr => ∃ (k g2 c2 : Nat), k ≤ v.length ∧ kv = .int .i64 k ∧ xv = (Value.slice (some ⟨g2, 0, none⟩) ((starTo c v k).length) c2) ∧ Own wr w.heap.size g2 c2 (starTo c v k) ∧ Below w.heap.size w wr) (fun _ kv _ => v.length - (intOf kv).toNat)
  case atStart => exact ⟨0, _, 0, Nat.zero_le _, rfl, rfl, Own.empty hb1.size, hb1.alloc hb1.size _⟩
  case round =>
    clear hb1 hs1
    obtain ⟨k, g2, c2, hk, rfl, rfl, ho, hb⟩ := hrel
    by_cases hlt : k < v.length
    · have q1 := (hv.below hb hg) k hlt
      have hcall := Ks.out k hlt wr g2 c2 hb ho
      have hsx : starTo c v (k + 1) = starS c (starTo c v k) (v.getD k 0) := rfl
      rw [← hsx] at hcall
      have Hcall := Lib.hid hcall
      clear hcall hsx
      generalize v.getD k 0 = i at *
      generalize (starTo c v k).length = ml at *
      go_wp2_with fail
      refine Hcall.out.mono ?_
      rintro e w3 ⟨g3, c3, rfl, ho3, hb3⟩
      have hB := hb.trans (hb3.mono hb.size)
      clear Hcall hb3
      generalize hml : (starTo c v (k + 1)).length = ml2 at *
      have Hml := Lib.hid hml; clear hml
      go_wp2_with fail
      go_roundw
      case rel => exact ⟨k + 1, g3, c3, by omega, by go_num, by rw [Hml.out], ho3, hB⟩
      case measure => simp [intOf]; omega
    · obtain rfl : k = v.length := by omega
      go_wp2_with fail
      go_ret2
      exact ⟨g2, c2, rfl, ho, hb⟩

end
end Go.Proofs.Ytjhoimdfmcjkbaa
namespace Go.Proofs.Ytjhoimdfmcjkbaa
set_option maxRecDepth 100000
open Go.RowKit Game

def longN (c : List (List Int)) : List Int := (normG c 30 (negL c.length)).getD []
def coversB (c : List (List Int)) (v : List Int) : Bool := finB c && decide (starL c v = longN c)
theorem longN_ok {c : List (List Int)} (hC : IsC c) (hf : finB c = true) : normG c 30 (negL c.length) = some (longN c) ∧ (longN c).length ≤ 24 := by
  obtain ⟨long, opp, hL, h24⟩ := longOf_fin24 hC hf
  have e : longN c = long := by unfold longN; rw [hL.norm]; rfl
  rw [e]
  exact ⟨hL.norm, h24⟩

set_option maxHeartbeats 1000000 in
theorem impl_CoversAll_ok (gc oc n cc g o m cp : Nat) (c : List (List Int)) (v : List Int) (w : World) (hn : c.length = n) (hm : v.length = m) (hW : WordOk c v) (hgc : gc < w.heap.size) (hg : g < w.heap.size) (hr : Rows2 w gc oc c) (hv : Cells w g o v) :
    Calls Try.prog 12 #[(Value.slice (some ⟨gc, oc, none⟩) n cc), (Value.slice (some ⟨g, o, none⟩) m cp)] w (Gives w (.bool (coversB c v))) := by
  have hn4 := hW.isC.2.1
  have hcl := hW.isC.2.2.1
  have hl := hW.few
  have hC := hW.isC
  have hsl := (starTo_lets hW v.length (Nat.le_refl _)).few
  have k1 := Lib.hid (impl_StarWord_ok gc oc n cc g o m cp c v w hn hm hW hgc hg hr hv)
  have k2 := fun (W : World) (hb : Below w.heap.size w W) => impl_IsFinite_any gc oc n cc c W hn (by omega) (fun j hj => by have := hcl j hj; omega) (Nat.lt_of_lt_of_le hgc hb.size) (hr.below hb hgc)
  unfold coversB
  cases hf : finB c with
  | false =>
    rw [hf] at k2
    have K2 := Lib.hid k2
    rw [Bool.false_and]
    clear k2 hr hv hW hcl hf hsl
    go_enter Try.func12, Try.ntmps12
    go_wp2_with fail
    refine k1.out.mono ?_
    rintro e w1 ⟨g1, c1, rfl, ho1, hb1⟩
    go_wp2_with fail
    refine (K2.out w1 hb1).mono ?_
    rintro e w2 ⟨rfl, hb2⟩
    go_wp2_with fail
    go_ret
    exact ⟨rfl, hb1.trans (hb2.mono hb1.size)⟩
  | true =>
    rw [hf] at k2
    have K2 := Lib.hid k2
    rw [Bool.true_and]
    obtain ⟨hlong, h24⟩ := longN_ok hC hf
    have K3 := Lib.hid (fun (W : World) (hb : Below w.heap.size w W) => impl_longestElement_any gc oc n cc c (longN c) W hn hC hlong (Nat.lt_of_lt_of_le hgc hb.size) (hr.below hb hgc))
    have K4 := Lib.hid (fun (W : World) (g1 c1 g2 c2 : Nat) (x1 : Cells W g1 0 (starL c v)) (x2 : Cells W g2 0 (longN c)) => impl_EqualWords_any g1 0 (starL c v).length c1 g2 0 (longN c).length c2 (starL c v) (longN c) W rfl rfl (by have : (starL c v).length ≤ v.length := hsl; omega) (by omega) x1 x2)
    clear k2 hr hv hW hcl hf hsl hlong h24
    generalize longN c = y at *
    generalize starL c v = x at *
    generalize decide (x = y) = r at *
    go_enter Try.func12, Try.ntmps12
    go_wp2_with fail
    refine k1.out.mono ?_
    rintro e w1 ⟨g1, c1, rfl, ho1, hb1⟩
    go_wp2_with fail
    refine (K2.out w1 hb1).mono ?_
    rintro e w2 ⟨rfl, hb2⟩
    have hB := hb1.trans (hb2.mono hb1.size)
    have ho2 := ho1.below hb2 ho1.lt
    clear hb1 hb2 ho1
    go_wp2_with fail
    refine (K3.out w2 hB).mono ?_
    rintro e w3 ⟨g3, c3, rfl, ho3, hb3⟩
    have hB3 := hB.trans (hb3.mono hB.size)
    have ho4 := ho2.below hb3 ho2.lt
    clear hB hb3 ho2
    go_wp2_with fail
    refine (K4.out w3 g1 c1 g3 c3 ho4.cells ho3.cells).mono ?_
    rintro e w4 ⟨rfl, hs4⟩
    go_wp2_with fail
    go_ret
    exact ⟨rfl, below_still hB3 hs4⟩

end Go.Proofs.Ytjhoimdfmcjkbaa
