/- The reference's images, normal forms, concatenations, and lists of words: contracts. -/
import Derived.Test.YtjhoimdfmcjkbaaGreatDoorG28
import Derived.Test.YtjhoimdfmcjkbaaGreatDoorG04
import Derived.Test.YtjhoimdfmcjkbaaGreatDoorG09
import Derived.Test.YtjhoimdfmcjkbaaGreatDoorG31
import Derived.Test.YtjhoimdfmcjkbaaGreatDoorG11
namespace Go.Proofs.YtjhoimdfmcjkbaaGreatDoor
set_option maxRecDepth 100000
open Go.RowKit Game

set_option maxHeartbeats 2000000 in
theorem spec_l8Image_any (gc oc n cc g1 o1 n1 c1 : Nat) (c : List (List Int)) (l : List Int) (w : World) (hn : c.length = n) (hn1 : l.length = n1) (hC : IsC c) (hl : l.length ≤ 1048576)
    (hin : ∀ k, k < l.length → 0 ≤ l.getD k 0 ∧ l.getD k 0 < c.length) (hgc : gc < w.heap.size) (hg1 : g1 < w.heap.size) (hr : Rows2 w gc oc c) (hc1 : Cells w g1 o1 l) :
    Calls Tryz.prog 34 #[(Value.slice (some ⟨gc, oc, none⟩) n cc), (Value.slice (some ⟨g1, o1, none⟩) n1 c1)] w (GotInts w (actW c l (onesL c.length))) := by
  subst hn; subst hn1
  have hn4 := hC.2.1
  have ew : IntKind.i64.wrap ((l.length : Int) - 1) = (l.length : Int) - 1 := IntWalk.i64_in _ (by omega)
  go_enter Tryz.func34, Tryz.ntmps34
  go_wp2_with fail
  refine (spec_RhoOf_ok gc oc _ cc c w rfl hC hgc hr).mono ?_
  rintro e w1 ⟨gv, cv, rfl, ho1, hb1⟩
  rw [onesL_length]
  go_wp2_with fail
  clear ew
  go_loopw [5, 6] (fun s i wr => ∃ (k : Nat) (j : Int) (gv cv : Nat), k ≤ l.length ∧ i = .int .i64 j ∧ j = (k : Int) - 1 ∧ s = (Value.slice (some ⟨gv, 0, none⟩) c.length cv) ∧ Own wr w.heap.size gv cv (actW c (l.drop k) (onesL c.length)) ∧ Below w.heap.size w wr) (fun _ i _ => (intOf i + 1).toNat)
  case atStart => exact ⟨l.length, _, gv, cv, Nat.le_refl _, rfl, rfl, rfl, by rw [List.drop_length]; exact ho1, hb1⟩
  case round =>
    obtain ⟨k, j, gv, cv, hk, rfl, hj, rfl, ho, hb⟩ := hrel
    by_cases hlt : 0 < k
    · obtain ⟨t, rfl⟩ : ∃ t, k = t + 1 := ⟨k - 1, by omega⟩
      obtain rfl : j = (t : Int) := by omega
      have htl : t < l.length := by omega
      have q1 := hc1.below hb hg1 t htl
      have hit := hin t htl
      have hd := actW_drop c l (onesL c.length) t htl
      obtain ⟨iN, hiN⟩ : ∃ iN : Nat, l.getD t 0 = iN := ⟨(l.getD t 0).toNat, by omega⟩
      rw [hiN] at q1 hit hd
      rw [Int.toNat_natCast] at hd
      have hic : iN < c.length := by omega
      have hal : (actW c (l.drop (t + 1)) (onesL c.length)).length = c.length := by rw [actW_length]; exact onesL_length _
      have hcall := spec_l6Reflect_any gc oc _ cc gv 0 c.length cv iN c (actW c (l.drop (t + 1)) (onesL c.length)) wr rfl hal (by rw [hal]; exact Nat.le_refl _) hn4 hC.2.2.1 (by rw [hal]; exact hic) (Nat.lt_of_lt_of_le hgc hb.size) ho.lt (hr.below hb hgc) ho.cells
      have Hcall := Lib.hid hcall; have Hd := Lib.hid hd
      clear hcall hd hiN hal hit
      clear hj
      go_wp2_with fail
      refine Hcall.out.mono ?_
      rintro e w2 ⟨g2, c2, rfl, ho2, hb2⟩
      rw [← Hd.out] at ho2
      have hl2 : (actW c (l.drop t) (onesL c.length)).length = c.length := by rw [actW_length]; exact onesL_length _
      have e2 : (refl c iN (actW c (List.drop (t + 1) l) (onesL c.length))).length = c.length := by rw [refl_length, actW_length]; exact onesL_length _
      rw [e2]
      clear e2 hl2
      go_wp2_with fail
      go_roundw
      case rel =>
        exact ⟨t, (t : Int) - 1, g2, c2, by omega, by go_num, rfl, rfl, ho2.mono hb.size, hb.trans (hb2.mono hb.size)⟩
      case measure => simp [intOf]
    · obtain rfl : k = 0 := by omega
      obtain rfl : j = -1 := by omega
      clear hj
      go_wp2
      go_ret
      exact GotInts.mk' gv cv (by rw [actW_length]; exact onesL_length _) ho hb

set_option maxHeartbeats 2000000 in
theorem spec_l8Normal_any (gc oc n cc g1 o1 n1 c1 : Nat) (c : List (List Int)) (l word : List Int) (w : World) (hn : c.length = n) (hn1 : l.length = n1) (hC : IsC c) (hl : l.length ≤ 1048576)
    (hin : ∀ k, k < l.length → 0 ≤ l.getD k 0 ∧ l.getD k 0 < c.length) (hword : normG c 30 (actW c l (onesL c.length)) = some word) (hgc : gc < w.heap.size) (hg1 : g1 < w.heap.size) (hr : Rows2 w gc oc c) (hc1 : Cells w g1 o1 l) :
    Calls Tryz.prog 32 #[(Value.slice (some ⟨gc, oc, none⟩) n cc), (Value.slice (some ⟨g1, o1, none⟩) n1 c1)] w (GotInts w word) := by
  subst hn; subst hn1
  go_enter Tryz.func32, Tryz.ntmps32
  go_wp2_with fail
  refine (spec_l8Image_any gc oc _ cc g1 o1 _ c1 c l w rfl rfl hC hl hin hgc hg1 hr hc1).mono ?_
  rintro e w1 ⟨gv, cv, rfl, ho1, hb1⟩
  have hal : (actW c l (onesL c.length)).length = c.length := by rw [actW_length]; exact onesL_length _
  rw [hal]
  have Hal := Lib.hid hal; clear hal
  go_wp2_with fail
  refine (spec_l8Form_any gc oc _ cc gv 0 c.length cv 30 c (actW c l (onesL c.length)) word w1 rfl Hal.out hC Hal.out (by omega) hword (Nat.lt_of_lt_of_le hgc hb1.size) ho1.lt (hr.below hb1 hgc) ho1.cells).mono ?_
  rintro e w2 ⟨g2, c2, rfl, ho2, hb2⟩
  go_wp2_with fail
  go_ret
  exact ⟨g2, c2, rfl, ho2.mono hb1.size, hb1.trans (hb2.mono hb1.size)⟩

set_option maxHeartbeats 1000000 in
theorem spec_ConcatWords_any (g1 o1 n1 c1 g2 o2 n2 c2 : Nat) (xs ys : List Int) (w : World) (hn1 : xs.length = n1) (hn2 : ys.length = n2) (hx : xs.length ≤ 1048576) (hy : ys.length ≤ 1048576)
    (hg1 : g1 < w.heap.size) (hg2 : g2 < w.heap.size) (hc1 : Cells w g1 o1 xs) (hc2 : Cells w g2 o2 ys) :
    Calls Tryz.prog 60 #[(Value.slice (some ⟨g1, o1, none⟩) n1 c1), (Value.slice (some ⟨g2, o2, none⟩) n2 c2)] w (GotInts w (xs ++ ys)) := by
  subst hn1; subst hn2
  go_enter Tryz.func60, Tryz.ntmps60
  go_wp2_with (at_builtin; refine wpList_clone rfl _ _ rfl g1 o1 _ c1 xs rfl hg1 hc1 rfl rfl (by omega) ?_)
  intro g3 c3 w3 ho3 hb3
  go_wp2_with (at_builtin; refine wpList_append_ints rfl _ _ rfl w.heap.size g3 c3 xs ho3 g2 o2 c2 ys (hc2.below hb3 hg2) rfl rfl (by omega) ?_)
  intro g4 c4 w4 ho4 hg4 hor
  go_wp2_with fail
  go_ret
  exact GotInts.mk' g4 c4 (by simp) ho4 (hb3.grown hg4 hb3.size (by intro j hj; cases hj; exact ho3.base))

end Go.Proofs.YtjhoimdfmcjkbaaGreatDoor
