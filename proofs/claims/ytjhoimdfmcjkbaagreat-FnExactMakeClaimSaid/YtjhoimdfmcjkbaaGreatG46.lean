/- CoversAll of both, at words: contracts. -/
import Derived.Test.YtjhoimdfmcjkbaaGreatG32
namespace Go.Proofs.YtjhoimdfmcjkbaaGreat
set_option maxRecDepth 100000
open Go.RowKit Game

def longN (c : List (List Int)) : List Int := (normG c 30 (negL c.length)).getD []
def coversB (c : List (List Int)) (v : List Int) : Bool := finB c && decide (starL c v = longN c)
theorem longN_ok {c : List (List Int)} (hC : IsC c) (hf : finB c = true) : normG c 30 (negL c.length) = some (longN c) ∧ (longN c).length ≤ 24 := by
  obtain ⟨long, opp, hL, h24⟩ := longOf_fin24 hC hf
  have e : longN c = long := by unfold longN; rw [hL.norm]; rfl
  rw [e]
  exact ⟨hL.norm, h24⟩

set_option maxHeartbeats 1000000 in
theorem impl_CoversAll_ok (gc oc n cc g o m cp : Nat) (c : List (List Int)) (v : List Int) (w : World) (hn : c.length = n) (hm : v.length = m) (hW : WordOk c v) (hgc : gc < w.heap.size) (hg : g < w.heap.size) (hr : Rows2 w gc oc c) (hv : Cells w g o v) :
    Calls Tryz.prog 28 #[(Value.slice (some ⟨gc, oc, none⟩) n cc), (Value.slice (some ⟨g, o, none⟩) m cp)] w (Gives w (.bool (coversB c v))) := by
  have hn4 := hW.isC.2.1
  have hcl := hW.isC.2.2.1
  have hl := hW.few
  have hC := hW.isC
  have hsl := (starTo_lets hW v.length (Nat.le_refl _)).few
  have k1 := Lib.hid (impl_StarWord_ok gc oc n cc g o m cp c v w hn hm hW hgc hg hr hv)
  have k2 := fun (W : World) (hb : Below w.heap.size w W) => impl_IsFinite_any gc oc n cc c W hn (by omega) (fun j hj => by have := hcl j hj; omega) (Nat.lt_of_lt_of_le hgc hb.size) (hr.below hb hgc)
  unfold coversB
  cases hf : finB c with
  | false =>
    rw [hf] at k2
    have K2 := Lib.hid k2
    rw [Bool.false_and]
    clear k2 hr hv hW hcl hf hsl
    go_enter Tryz.func28, Tryz.ntmps28
    go_wp2_with fail
    refine k1.out.mono ?_
    rintro e w1 ⟨g1, c1, rfl, ho1, hb1⟩
    go_wp2_with fail
    refine (K2.out w1 hb1).mono ?_
    rintro e w2 ⟨rfl, hb2⟩
    go_wp2_with fail
    go_ret
    exact ⟨rfl, hb1.trans (hb2.mono hb1.size)⟩
  | true =>
    rw [hf] at k2
    have K2 := Lib.hid k2
    rw [Bool.true_and]
    obtain ⟨hlong, h24⟩ := longN_ok hC hf
    have K3 := Lib.hid (fun (W : World) (hb : Below w.heap.size w W) => impl_longestElement_any gc oc n cc c (longN c) W hn hC hlong (Nat.lt_of_lt_of_le hgc hb.size) (hr.below hb hgc))
    have K4 := Lib.hid (fun (W : World) (g1 c1 g2 c2 : Nat) (x1 : Cells W g1 0 (starL c v)) (x2 : Cells W g2 0 (longN c)) => impl_EqualWords_any g1 0 (starL c v).length c1 g2 0 (longN c).length c2 (starL c v) (longN c) W rfl rfl (by have : (starL c v).length ≤ v.length := hsl; omega) (by omega) x1 x2)
    clear k2 hr hv hW hcl hf hsl hlong h24
    generalize longN c = y at *
    generalize starL c v = x at *
    generalize decide (x = y) = r at *
    go_enter Tryz.func28, Tryz.ntmps28
    go_wp2_with fail
    refine k1.out.mono ?_
    rintro e w1 ⟨g1, c1, rfl, ho1, hb1⟩
    go_wp2_with fail
    refine (K2.out w1 hb1).mono ?_
    rintro e w2 ⟨rfl, hb2⟩
    have hB := hb1.trans (hb2.mono hb1.size)
    have ho2 := ho1.below hb2 ho1.lt
    clear hb1 hb2 ho1
    go_wp2_with fail
    refine (K3.out w2 hB).mono ?_
    rintro e w3 ⟨g3, c3, rfl, ho3, hb3⟩
    have hB3 := hB.trans (hb3.mono hB.size)
    have ho4 := ho2.below hb3 ho2.lt
    clear hB hb3 ho2
    go_wp2_with fail
    refine (K4.out w3 g1 c1 g3 c3 ho4.cells ho3.cells).mono ?_
    rintro e w4 ⟨rfl, hs4⟩
    go_wp2_with fail
    go_ret
    exact ⟨rfl, below_still hB3 hs4⟩

theorem spec_LongestElement_inf (gc oc n cc : Nat) (w : World) (hf : Calls Tryz.prog 99 #[(Value.slice (some ⟨gc, oc, none⟩) n cc)] w (Gives w (.bool false))) :
    Calls Tryz.prog 78 #[(Value.slice (some ⟨gc, oc, none⟩) n cc)] w (GotIntsB w [] false) := by
  have Hf := Lib.hid hf
  clear hf
  go_enter Tryz.func78, Tryz.ntmps78
  go_wp2_with fail
  refine Hf.out.mono ?_
  rintro e w1 ⟨rfl, hb1⟩
  go_wp2_with fail
  go_ret2
  exact ⟨_, 0, rfl, Own.empty hb1.size, hb1.alloc hb1.size _⟩

set_option maxHeartbeats 1000000 in
theorem spec_CoversAll_ok (gc oc n cc g o m cp : Nat) (c : List (List Int)) (v : List Int) (w : World) (hn : c.length = n) (hm : v.length = m) (hW : WordOk c v) (hgc : gc < w.heap.size) (hg : g < w.heap.size) (hr : Rows2 w gc oc c) (hv : Cells w g o v) :
    Calls Tryz.prog 41 #[(Value.slice (some ⟨gc, oc, none⟩) n cc), (Value.slice (some ⟨g, o, none⟩) m cp)] w (Gives w (.bool (coversB c v))) := by
  have hn4 := hW.isC.2.1
  have hcl := hW.isC.2.2.1
  have hl := hW.few
  have hC := hW.isC
  have hsl := (starTo_lets hW v.length (Nat.le_refl _)).few
  have k1 := Lib.hid (spec_StarWord_ok gc oc n cc g o m cp c v w hn hm hW hgc hg hr hv)
  unfold coversB
  cases hf : finB c with
  | false =>
    have K2 := Lib.hid (fun (W : World) (hb : Below w.heap.size w W) => spec_LongestElement_inf gc oc n cc W (by have := spec_IsFinite_any gc oc n cc c W hn (by omega) (fun j hj => by have := hcl j hj; omega) (Nat.lt_of_lt_of_le hgc hb.size) (hr.below hb hgc); rwa [hf] at this))
    rw [Bool.false_and]
    clear hr hv hW hcl hf hsl
    go_enter Tryz.func41, Tryz.ntmps41
    go_wp2_with fail
    refine k1.out.mono ?_
    rintro e w1 ⟨g1, c1, rfl, ho1, hb1⟩
    go_wp2_with fail
    refine (K2.out w1 hb1).mono ?_
    rintro e w2 ⟨g2, c2, rfl, ho2, hb2⟩
    go_wp2_with fail
    go_ret
    exact ⟨rfl, hb1.trans (hb2.mono hb1.size)⟩
  | true =>
    rw [Bool.true_and]
    obtain ⟨hlong, h24⟩ := longN_ok hC hf
    have K3 := Lib.hid (fun (W : World) (hb : Below w.heap.size w W) => spec_LongestElement_ok gc oc n cc c (longN c) W hn hC hf hlong (Nat.lt_of_lt_of_le hgc hb.size) (hr.below hb hgc))
    have K4 := Lib.hid (fun (W : World) (g1 c1 g2 c2 : Nat) (x1 : Cells W g1 0 (starL c v)) (x2 : Cells W g2 0 (longN c)) => spec_EqualWords_any g1 0 (starL c v).length c1 g2 0 (longN c).length c2 (starL c v) (longN c) W rfl rfl (by have : (starL c v).length ≤ v.length := hsl; omega) x1 x2)
    clear hr hv hW hcl hf hsl hlong h24
    generalize longN c = y at *
    generalize starL c v = x at *
    generalize decide (x = y) = r at *
    go_enter Tryz.func41, Tryz.ntmps41
    go_wp2_with fail
    refine k1.out.mono ?_
    rintro e w1 ⟨g1, c1, rfl, ho1, hb1⟩
    go_wp2_with fail
    refine (K3.out w1 hb1).mono ?_
    rintro e w3 ⟨g3, c3, rfl, ho3, hb3⟩
    have hB3 := hb1.trans (hb3.mono hb1.size)
    have ho4 := ho1.below hb3 ho1.lt
    clear hb3 ho1
    go_wp2_with fail
    refine (K4.out w3 g1 c1 g3 c3 ho4.cells ho3.cells).mono ?_
    rintro e w4 ⟨rfl, hs4⟩
    go_wp2_with fail
    go_ret
    exact ⟨rfl, below_still hB3 hs4⟩
end Go.Proofs.YtjhoimdfmcjkbaaGreat
