/- Nf3 Opp Lvl FinAll -/
import Derived.Test.YtkjglfafphffiaaGreatDoorC13
import Derived.WalkSpells
import Derived.Test.YtkjglfafphffiaaGreatDoorC02
import Derived.Test.YtkjglfafphffiaaGreatDoorC15
import Derived.Test.YtkjglfafphffiaaGreatDoorC03
namespace Go.Proofs.YtkjglfafphffiaaGreatDoor
set_option maxRecDepth 100000
open Go.RowKit
set_option maxHeartbeats 4000000 in
theorem spec_l8Form_any (gc oc n cc g2 o2 n2 c2 f : Nat) (c : List (List Int)) (v word : List Int) (w : World) (hn : c.length = n) (hn2 : v.length = n2) (hC : IsC c) (hv : v.length = c.length) (hf : f ≤ 30) (hword : normG c f v = some word)
    (hgc : gc < w.heap.size) (hg2 : g2 < w.heap.size) (hr : Rows2 w gc oc c) (hc2 : Cells w g2 o2 v) :
    Calls Tryz.prog 116 #[(Value.slice (some ⟨gc, oc, none⟩) n cc), (Value.slice (some ⟨g2, o2, none⟩) n2 c2)] w (GotInts w word) := by
  subst hn; subst hn2
  have hn4 := hC.2.1
  have hv4 : v.length ≤ 4 := by omega
  have Hv := Lib.hid hv; clear hv
  have hwl := normG_len hword
  go_enter Tryz.func116, Tryz.ntmps116
  go_wp2
  go_loopw [1, 5, 6, 7] (fun vv s i _ wr => ∃ (p g' c' f' gu ou cu : Nat) (u pre rest : List Int), i = .int .i64 p ∧ s = (Value.slice (some ⟨g', 0, none⟩) p c') ∧ vv = (Value.slice (some ⟨gu, ou, none⟩) v.length cu) ∧ Hid (pre.length = p) ∧ p + f' ≤ 30 ∧ u.length = v.length ∧ Hid (normG c f' u = some rest) ∧ Hid (word = pre ++ rest) ∧ Cells wr gu ou u ∧ gu < wr.heap.size ∧ Own wr w.heap.size g' c' pre ∧ gu ≠ g' ∧ Below w.heap.size w wr) (fun _ _ i _ _ => 31 - (intOf i).toNat)
  case atStart =>
    exact ⟨0, w.heap.size, 0, f, g2, o2, c2, v, [], word, rfl, rfl, rfl, rfl, by omega, rfl, hword, rfl, hc2.below ((Below.refl _ _).alloc (Nat.le_refl _) _) hg2, by simp; omega, Own.empty (w := w) (Nat.le_refl _), by omega, (Below.refl _ _).alloc (Nat.le_refl _) _⟩
  case round =>
    obtain ⟨p, g', c', f', gu, ou, cu, u, pre, rest, rfl, rfl, rfl, hp, hpf, hul, hnorm, hw, hcu, hgu, hop, hne, hb⟩ := hrel
    have hp30 : (p : Int) ≤ 30 := by omega
    have hz := normG_nz hnorm.out
    have Hz := Lib.hid hz; have Hul := Lib.hid hul
    clear hz
    obtain ⟨wo, rfl⟩ : ∃ wo : World, wo = wr := ⟨_, rfl⟩
    have HCu := Lib.hid hcu
    clear hul
    go_wp2
    go_loopw [7] (fun i wr => ∃ k : Nat, k ≤ v.length ∧ i = .int .i64 k ∧ Hid (∀ j, j < k → 0 < u.getD j 0) ∧ wr = wo) (fun i _ => v.length - (intOf i).toNat)
    case atStart => exact ⟨0, Nat.zero_le _, rfl, fun j hj => absurd hj (by omega), rfl⟩
    case round =>
      obtain ⟨k, hk, rfl, hall, rfl⟩ := hrel
      by_cases hlt : k < v.length
      · have q1 := HCu.out k (by rw [Hul.out]; exact hlt)
        have hzk := Hz.out k (by rw [Hul.out]; exact hlt)
        by_cases hpos : 0 < u.getD k 0
        · have HY : Hid (∀ j, j < k + 1 → 0 < u.getD j 0) := fun j hj => by
            by_cases e : j = k
            · subst e; exact hpos
            · exact hall.out j (by omega)
          clear hzk
          generalize u.getD k 0 = x at *
          go_wp2
          go_roundw
          case rel => exact ⟨k + 1, by omega, by go_num, HY.out, trivial⟩
          case measure => simp [intOf]; omega
        · have hfn : firstNeg u = some k := firstNeg_of (by rw [Hul.out]; exact hlt) (by omega) (fun j hj => by have := hall.out j hj; omega)
          obtain ⟨f2, rest2, hf2, hrest, hn2⟩ := normG_some hnorm.out hfn
          have hic : k < c.length := by have := Hv.out; omega
          have hkne : ((k : Int) == (v.length : Int)) = false := by simp; omega
          subst hrest
          have Hn2 := Lib.hid hn2
          clear hzk hfn hn2 hnorm
          generalize u.getD k 0 = x at *
          go_wp2_with (at_builtin; refine wpList_append_int_n (w := wr) rfl _ _ rfl w.heap.size g' c' p pre (k : Int) hp.out hop rfl rfl (by omega) ?_)
          intro g3 c3 w3 ho3 hg3 hor
          have hcu3 : Cells w3 gu ou u := HCu.out.grown hg3 (by intro e; cases e; exact hne rfl)
          have hb3 : Below w.heap.size w w3 := hb.grown hg3 hb.size (by intro j hj; cases hj; exact hop.base)
          have hgu3 : gu < w3.heap.size := Nat.lt_of_lt_of_le hgu hg3.size
          have hcall3 := spec_l6Reflect_any gc oc _ cc gu ou v.length cu k c u w3 rfl Hul.out (by rw [Hul.out]; exact Nat.le_of_eq Hv.out) hn4 hC.2.2.1 (by rw [Hul.out]; exact hlt) (Nat.lt_of_lt_of_le hgc hb3.size) hgu3 (hr.below hb3 hgc) hcu3
          have Hcall3 := Lib.hid hcall3; clear hcall3
          go_wp2_with fail
          refine Hcall3.out.mono ?_
          rintro e w4 ⟨g5, c5, rfl, ho5, hb5⟩
          have hrl : (refl c k u).length = v.length := by rw [refl_length]; exact Hul.out
          rw [hrl]
          go_wp2_with fail
          go_roundw
          case rel =>
            refine ⟨p + 1, g3, c3, f2, g5, 0, c5, refl c k u, pre ++ [(k : Int)], rest2, by go_num, rfl, rfl, ?_, by omega, hrl, Hn2.out, ?_, ho5.cells, ho5.lt, ho3.below hb5 ho3.lt, by have h1 := ho3.lt; have h2 := ho5.base; omega, hb3.trans (hb5.mono hb3.size)⟩
            · show _ = _; rw [List.length_append, hp.out]; rfl
            · show _ = _; rw [hw.out, List.append_assoc]; rfl
          case measure => simp [intOf]; omega
      · obtain rfl : k = v.length := by omega
        have hfn : firstNeg u = none := firstNeg_nil (fun j hj => by have := hall.out j (by rw [← Hul.out]; exact hj); omega)
        have hrest := normG_none hnorm.out hfn
        have Hrest := Lib.hid hrest; clear hrest hfn
        go_wp2
        go_ret
        rw [hw.out, Hrest.out, List.append_nil]
        exact GotInts.mk' g' c' hp.out hop hb
end Go.Proofs.YtkjglfafphffiaaGreatDoor
namespace Go.Proofs.YtkjglfafphffiaaGreatDoor
set_option maxRecDepth 100000
open Go.RowKit
def negL (n : Nat) : List Int := List.replicate n (-1)
theorem onesL_length (n : Nat) : (onesL n).length = n := by simp [onesL]
theorem negL_length (n : Nat) : (negL n).length = n := by simp [negL]
structure LongOf (c : List (List Int)) (long : List Int) (opp : Nat → Nat) : Prop where
  norm : normG c 30 (negL c.length) = some long
  act : actW c long (onesL c.length) = negL c.length
  opp_lt : ∀ i, i < c.length → opp i < c.length
  opp_eq : ∀ i, i < c.length → actW c long (refl c i (onesL c.length)) = refl c (opp i) (negL c.length)
set_option maxHeartbeats 2000000 in
theorem impl_longestElement_any (gc oc n cc : Nat) (c : List (List Int)) (long : List Int) (w : World) (hn : c.length = n) (hC : IsC c) (hlong : normG c 30 (negL c.length) = some long)
    (hgc : gc < w.heap.size) (hr : Rows2 w gc oc c) : Calls Tryz.prog 98 #[(Value.slice (some ⟨gc, oc, none⟩) n cc)] w (GotInts w long) := by
  subst hn
  have hn4 := hC.2.1
  go_enter Tryz.func98, Tryz.ntmps98
  go_wp2_with fail
  refine (impl_ones_any c.length w (by omega)).mono ?_
  rintro e w1 ⟨g1, c1, rfl, ho1, hb1⟩
  rw [onesL_length]
  go_wp2_with fail
  go_loopw [10] (fun i wr => ∃ t : Nat, t ≤ c.length ∧ i = .int .i64 t ∧ Own wr w.heap.size g1 c1 (List.replicate t (-1) ++ List.replicate (c.length - t) 1) ∧ Below w.heap.size w wr) (fun i _ => c.length - (intOf i).toNat)
  case atStart => exact ⟨0, Nat.zero_le _, rfl, by simpa [onesL] using ho1, hb1⟩
  case round =>
    obtain ⟨t, ht, rfl, ho, hb⟩ := hrel
    by_cases hlt : t < c.length
    · have hl : (List.replicate t (-1 : Int) ++ List.replicate (c.length - t) 1).length = c.length := by simp; omega
      have q1 := ho.cell t (by rw [hl]; exact hlt)
      have f1 := ho.frozen t
      have hs := ho.set t (-1)
      have e : (List.replicate t (-1 : Int) ++ List.replicate (c.length - t) 1).set t (-1) = List.replicate (t + 1) (-1) ++ List.replicate (c.length - (t + 1)) 1 := by
        rw [List.set_append_right _ _ (by simp)]
        obtain ⟨d, hd⟩ : ∃ d, c.length - t = d + 1 := ⟨c.length - t - 1, by omega⟩
        rw [hd, show c.length - (t + 1) = d by omega]
        rw [List.length_replicate, Nat.sub_self, List.replicate_succ, List.set_cons_zero, List.replicate_succ', List.append_assoc]; rfl
      rw [e] at hs
      have Hs := Lib.hid hs
      clear hs e hl
      go_wp2
      go_roundw
      case rel => exact ⟨t + 1, by omega, by go_num, Hs.out.1, hb.grown Hs.out.2 hb.size (by intro j hj; cases hj; exact ho.base)⟩
      case measure => simp [intOf]; omega
    · obtain rfl : t = c.length := by omega
      rw [Nat.sub_self, List.replicate_zero, List.append_nil] at ho
      have ho' : Own wr w.heap.size g1 c1 (negL c.length) := ho
      go_wp2_with fail
      refine (impl_normal_any gc oc _ cc g1 0 c.length c1 30 c (negL c.length) long wr rfl (negL_length _) hC (negL_length _) (by omega) hlong (Nat.lt_of_lt_of_le hgc hb.size) ho'.lt (hr.below hb hgc) ho'.cells).mono ?_
      rintro e w2 ⟨g2, c2, rfl, ho2, hb2⟩
      go_wp2_with fail
      go_ret
      exact ⟨g2, c2, rfl, ho2.mono hb.size, hb.trans (hb2.mono hb.size)⟩
set_option maxHeartbeats 2000000 in
theorem spec_LongestElement_ok (gc oc n cc : Nat) (c : List (List Int)) (long : List Int) (w : World) (hn : c.length = n) (hC : IsC c) (hfin : finB c = true) (hlong : normG c 30 (negL c.length) = some long)
    (hgc : gc < w.heap.size) (hr : Rows2 w gc oc c) : Calls Tryz.prog 63 #[(Value.slice (some ⟨gc, oc, none⟩) n cc)] w (GotIntsB w long true) := by
  subst hn
  have hn4 := hC.2.1
  go_enter Tryz.func63, Tryz.ntmps63
  go_wp2_with fail
  refine (spec_IsFinite_any gc oc _ cc c w rfl (by omega) (fun j hj => by have := hC.2.2.1 j hj; omega) hgc hr).mono ?_
  rintro e w1 ⟨rfl, hb1⟩
  rw [hfin]
  go_wp2_with fail
  go_loopw [4, 5] (fun s i wr => ∃ t g' c' : Nat, t ≤ c.length ∧ i = .int .i64 t ∧ s = (Value.slice (some ⟨g', 0, none⟩) t c') ∧ Own wr w.heap.size g' c' (negL t) ∧ Below w.heap.size w wr) (fun _ i _ => c.length - (intOf i).toNat)
  case atStart => exact ⟨0, w1.heap.size, 0, Nat.zero_le _, rfl, rfl, Own.empty (w := w1) hb1.size, hb1.alloc hb1.size _⟩
  case round =>
    obtain ⟨t, g', c', ht, rfl, rfl, ho, hb⟩ := hrel
    by_cases hlt : t < c.length
    · go_wp2_with (at_builtin; refine wpList_append_int_n rfl _ _ rfl w.heap.size g' c' t (negL t) (-1) (negL_length _) ho rfl rfl (by omega) ?_)
      intro g3 c3 w3 ho3 hg3 _
      go_wp2
      go_roundw
      case rel =>
        have e : negL t ++ [-1] = negL (t + 1) := by unfold negL; rw [List.replicate_succ']
        rw [e] at ho3
        exact ⟨t + 1, g3, c3, by omega, by go_num, rfl, ho3, hb.grown hg3 hb.size (by intro j hj; cases hj; exact ho.base)⟩
      case measure => simp [intOf]; omega
    · obtain rfl : t = c.length := by omega
      go_wp2_with fail
      refine (spec_l8Form_any gc oc _ cc g' 0 c.length c' 30 c (negL c.length) long wr rfl (negL_length _) hC (negL_length _) (by omega) hlong (Nat.lt_of_lt_of_le hgc hb.size) ho.lt (hr.below hb hgc) ho.cells).mono ?_
      rintro e w2 ⟨g2, c2, rfl, ho2, hb2⟩
      go_wp2_with fail
      go_ret2
      exact ⟨g2, c2, rfl, ho2.mono hb.size, hb.trans (hb2.mono hb.size)⟩
set_option maxHeartbeats 2000000 in
theorem spec_RhoOf_ok (gc oc n cc : Nat) (c : List (List Int)) (w : World) (hn : c.length = n) (hC : IsC c) (hgc : gc < w.heap.size) (hr : Rows2 w gc oc c) :
    Calls Tryz.prog 119 #[(Value.slice (some ⟨gc, oc, none⟩) n cc)] w (GotInts w (onesL c.length)) := by
  subst hn
  have hn4 := hC.2.1
  have hcart : Hid (∀ W, Below w.heap.size w W → Calls Tryz.prog 60 #[(Value.slice (some ⟨gc, oc, none⟩) c.length cc)] W (Reads W (.bool true))) := fun W hW => by
    have := spec_IsCartan gc oc _ cc c W rfl (by omega) (fun j hj => by have := hC.2.2.1 j hj; omega) (hr.below hW hgc)
    rwa [decide_eq_true hC] at this
  go_enter Tryz.func119, Tryz.ntmps119
  go_wp2_with fail
  go_loopw [3, 4] (fun s i wr => ∃ t g' c' : Nat, t ≤ c.length ∧ i = .int .i64 t ∧ s = (Value.slice (some ⟨g', 0, none⟩) t c') ∧ Own wr w.heap.size g' c' (onesL t) ∧ Below w.heap.size w wr) (fun _ i _ => c.length - (intOf i).toNat)
  case atStart => exact ⟨0, w.heap.size, 0, Nat.zero_le _, rfl, rfl, Own.empty (w := w) (Nat.le_refl _), (Below.refl _ _).alloc (Nat.le_refl _) _⟩
  case round =>
    obtain ⟨t, g', c', ht, rfl, rfl, ho, hb⟩ := hrel
    by_cases hlt : t < c.length
    · go_wp2_with fail
      refine (hcart.out _ hb).mono ?_
      rintro e w2 ⟨rfl, m2, rfl⟩
      go_wp2_with (at_builtin; refine wpList_append_int_n (w := wr.drewN m2) rfl _ _ rfl w.heap.size g' c' t (onesL t) 1 (onesL_length _) (ho.drewN m2) rfl rfl (by omega) ?_)
      intro g3 c3 w3 ho3 hg3 _
      go_wp2
      go_roundw
      case rel =>
        have e : onesL t ++ [1] = onesL (t + 1) := by unfold onesL; rw [List.replicate_succ']
        rw [e] at ho3
        exact ⟨t + 1, g3, c3, by omega, by go_num, rfl, ho3, (below_drewN hb m2).grown hg3 hb.size (by intro j hj; cases hj; exact ho.base)⟩
      case measure => simp [intOf]; omega
    · obtain rfl : t = c.length := by omega
      go_wp2_with fail
      go_ret
      exact GotInts.mk' g' c' (onesL_length _) ho hb
set_option maxHeartbeats 400000 in
theorem slices_Clone_any (g o n cp : Nat) (v : List Int) (w : World) (hn : v.length = n) (hx : v.length ≤ 1048576) (hg : g < w.heap.size) (hc : Cells w g o v) :
    Calls Tryz.prog 159 #[(Value.slice (some ⟨g, o, none⟩) n cp)] w (GotInts w v) := by
  subst hn
  have hnil : ∀ W, (binOp .eql 25 (Value.slice (some ⟨g, o, none⟩) v.length cp) (.slice none 0 0)).run Tryz.prog W = .ok (.bool false) W := fun W => Lib.run_eql_slice_nil W 25 3 _ _ _ _ _ Tryz.underlying25
  go_enter Tryz.func159, Tryz.ntmps159
  go_wp2_with (at_builtin; refine wpList_clone rfl _ _ rfl g o _ cp v rfl hg hc rfl rfl (by omega) ?_)
  intro g1 c1 w1 ho hb
  go_wp2_with fail
  go_ret
  exact GotInts.mk' g1 c1 rfl ho hb
end Go.Proofs.YtkjglfafphffiaaGreatDoor
namespace Go.Proofs.YtkjglfafphffiaaGreatDoor
set_option maxRecDepth 100000
open Go.RowKit
end Go.Proofs.YtkjglfafphffiaaGreatDoor
namespace Go.Proofs.YtkjglfafphffiaaGreatDoor
set_option maxRecDepth 100000
open Go.RowKit
end Go.Proofs.YtkjglfafphffiaaGreatDoor
namespace Go.Proofs.YtkjglfafphffiaaGreatDoor
set_option maxRecDepth 100000
open Go.RowKit Game
set_option maxHeartbeats 2000000 in
theorem spec_l8Image_any (gc oc n cc g1 o1 n1 c1 : Nat) (c : List (List Int)) (l : List Int) (w : World) (hn : c.length = n) (hn1 : l.length = n1) (hC : IsC c) (hl : l.length ≤ 1048576)
    (hin : ∀ k, k < l.length → 0 ≤ l.getD k 0 ∧ l.getD k 0 < c.length) (hgc : gc < w.heap.size) (hg1 : g1 < w.heap.size) (hr : Rows2 w gc oc c) (hc1 : Cells w g1 o1 l) :
    Calls Tryz.prog 58 #[(Value.slice (some ⟨gc, oc, none⟩) n cc), (Value.slice (some ⟨g1, o1, none⟩) n1 c1)] w (GotInts w (actW c l (onesL c.length))) := by
  subst hn; subst hn1
  have hn4 := hC.2.1
  have ew : IntKind.i64.wrap ((l.length : Int) - 1) = (l.length : Int) - 1 := IntWalk.i64_in _ (by omega)
  go_enter Tryz.func58, Tryz.ntmps58
  go_wp2_with fail
  refine (spec_RhoOf_ok gc oc _ cc c w rfl hC hgc hr).mono ?_
  rintro e w1 ⟨gv, cv, rfl, ho1, hb1⟩
  rw [onesL_length]
  go_wp2_with fail
  clear ew
  go_loopw [5, 6] (fun s i wr => ∃ (k : Nat) (j : Int) (gv cv : Nat), k ≤ l.length ∧ i = .int .i64 j ∧ j = (k : Int) - 1 ∧ s = (Value.slice (some ⟨gv, 0, none⟩) c.length cv) ∧ Own wr w.heap.size gv cv (actW c (l.drop k) (onesL c.length)) ∧ Below w.heap.size w wr) (fun _ i _ => (intOf i + 1).toNat)
  case atStart => exact ⟨l.length, _, gv, cv, Nat.le_refl _, rfl, rfl, rfl, by rw [List.drop_length]; exact ho1, hb1⟩
  case round =>
    obtain ⟨k, j, gv, cv, hk, rfl, hj, rfl, ho, hb⟩ := hrel
    by_cases hlt : 0 < k
    · obtain ⟨t, rfl⟩ : ∃ t, k = t + 1 := ⟨k - 1, by omega⟩
      obtain rfl : j = (t : Int) := by omega
      have htl : t < l.length := by omega
      have q1 := hc1.below hb hg1 t htl
      have hit := hin t htl
      have hd := actW_drop c l (onesL c.length) t htl
      obtain ⟨iN, hiN⟩ : ∃ iN : Nat, l.getD t 0 = iN := ⟨(l.getD t 0).toNat, by omega⟩
      rw [hiN] at q1 hit hd
      rw [Int.toNat_natCast] at hd
      have hic : iN < c.length := by omega
      have hal : (actW c (l.drop (t + 1)) (onesL c.length)).length = c.length := by rw [actW_length]; exact onesL_length _
      have hcall := spec_l6Reflect_any gc oc _ cc gv 0 c.length cv iN c (actW c (l.drop (t + 1)) (onesL c.length)) wr rfl hal (by rw [hal]; exact Nat.le_refl _) hn4 hC.2.2.1 (by rw [hal]; exact hic) (Nat.lt_of_lt_of_le hgc hb.size) ho.lt (hr.below hb hgc) ho.cells
      have Hcall := Lib.hid hcall; have Hd := Lib.hid hd
      clear hcall hd hiN hal hit
      clear hj
      go_wp2_with fail
      refine Hcall.out.mono ?_
      rintro e w2 ⟨g2, c2, rfl, ho2, hb2⟩
      rw [← Hd.out] at ho2
      have hl2 : (actW c (l.drop t) (onesL c.length)).length = c.length := by rw [actW_length]; exact onesL_length _
      have e2 : (refl c iN (actW c (List.drop (t + 1) l) (onesL c.length))).length = c.length := by rw [refl_length, actW_length]; exact onesL_length _
      rw [e2]
      clear e2 hl2
      go_wp2_with fail
      go_roundw
      case rel =>
        exact ⟨t, (t : Int) - 1, g2, c2, by omega, by go_num, rfl, rfl, ho2.mono hb.size, hb.trans (hb2.mono hb.size)⟩
      case measure => simp [intOf]
    · obtain rfl : k = 0 := by omega
      obtain rfl : j = -1 := by omega
      clear hj
      go_wp2
      go_ret
      exact GotInts.mk' gv cv (by rw [actW_length]; exact onesL_length _) ho hb
set_option maxHeartbeats 2000000 in
theorem spec_l8Normal_any (gc oc n cc g1 o1 n1 c1 : Nat) (c : List (List Int)) (l word : List Int) (w : World) (hn : c.length = n) (hn1 : l.length = n1) (hC : IsC c) (hl : l.length ≤ 1048576)
    (hin : ∀ k, k < l.length → 0 ≤ l.getD k 0 ∧ l.getD k 0 < c.length) (hword : normG c 30 (actW c l (onesL c.length)) = some word) (hgc : gc < w.heap.size) (hg1 : g1 < w.heap.size) (hr : Rows2 w gc oc c) (hc1 : Cells w g1 o1 l) :
    Calls Tryz.prog 54 #[(Value.slice (some ⟨gc, oc, none⟩) n cc), (Value.slice (some ⟨g1, o1, none⟩) n1 c1)] w (GotInts w word) := by
  subst hn; subst hn1
  go_enter Tryz.func54, Tryz.ntmps54
  go_wp2_with fail
  refine (spec_l8Image_any gc oc _ cc g1 o1 _ c1 c l w rfl rfl hC hl hin hgc hg1 hr hc1).mono ?_
  rintro e w1 ⟨gv, cv, rfl, ho1, hb1⟩
  have hal : (actW c l (onesL c.length)).length = c.length := by rw [actW_length]; exact onesL_length _
  rw [hal]
  have Hal := Lib.hid hal; clear hal
  go_wp2_with fail
  refine (spec_l8Form_any gc oc _ cc gv 0 c.length cv 30 c (actW c l (onesL c.length)) word w1 rfl Hal.out hC Hal.out (by omega) hword (Nat.lt_of_lt_of_le hgc hb1.size) ho1.lt (hr.below hb1 hgc) ho1.cells).mono ?_
  rintro e w2 ⟨g2, c2, rfl, ho2, hb2⟩
  go_wp2_with fail
  go_ret
  exact ⟨g2, c2, rfl, ho2.mono hb1.size, hb1.trans (hb2.mono hb1.size)⟩
set_option maxHeartbeats 1000000 in
theorem spec_ConcatWords_any (g1 o1 n1 c1 g2 o2 n2 c2 : Nat) (xs ys : List Int) (w : World) (hn1 : xs.length = n1) (hn2 : ys.length = n2) (hx : xs.length ≤ 1048576) (hy : ys.length ≤ 1048576)
    (hg1 : g1 < w.heap.size) (hg2 : g2 < w.heap.size) (hc1 : Cells w g1 o1 xs) (hc2 : Cells w g2 o2 ys) :
    Calls Tryz.prog 115 #[(Value.slice (some ⟨g1, o1, none⟩) n1 c1), (Value.slice (some ⟨g2, o2, none⟩) n2 c2)] w (GotInts w (xs ++ ys)) := by
  subst hn1; subst hn2
  go_enter Tryz.func115, Tryz.ntmps115
  go_wp2_with (at_builtin; refine wpList_clone rfl _ _ rfl g1 o1 _ c1 xs rfl hg1 hc1 rfl rfl (by omega) ?_)
  intro g3 c3 w3 ho3 hb3
  go_wp2_with (at_builtin; refine wpList_append_ints rfl _ _ rfl w.heap.size g3 c3 xs ho3 g2 o2 c2 ys (hc2.below hb3 hg2) rfl rfl (by omega) ?_)
  intro g4 c4 w4 ho4 hg4 hor
  go_wp2_with fail
  go_ret
  exact GotInts.mk' g4 c4 (by simp) ho4 (hb3.grown hg4 hb3.size (by intro j hj; cases hj; exact ho3.base))
end Go.Proofs.YtkjglfafphffiaaGreatDoor
namespace Go.Proofs.YtkjglfafphffiaaGreatDoor
set_option maxRecDepth 100000
open Go.RowKit
def L6 : List (Int × Int) := [(0, 0), (-1, -1), (-1, -2), (-2, -1), (-1, -3), (-3, -1)]
def mat2 (a : Int × Int) : List (List Int) := [[2, a.1], [a.2, 2]]
def mat3 (a b e : Int × Int) : List (List Int) := [[2, a.1, b.1], [a.2, 2, e.1], [b.2, e.2, 2]]
def mat4 (a b d e f g : Int × Int) : List (List Int) := [[2, a.1, b.1, d.1], [a.2, 2, e.1, f.1], [b.2, e.2, 2, g.1], [d.2, f.2, g.2, 2]]
def bad3 (a b e : Int × Int) : Bool := decide (det 3 (mat3 a b e) ≤ 0)
def chk2 (P : List (List Int) → Bool) : Bool := L6.all fun a => P (mat2 a)
def chk3 (P : List (List Int) → Bool) : Bool := L6.all fun a => L6.all fun b => L6.all fun e => bad3 a b e || P (mat3 a b e)
def chk4 (P : List (List Int) → Bool) : Bool := L6.all fun a => L6.all fun b => L6.all fun e => bad3 a b e || L6.all fun d => L6.all fun f => bad3 a d f || L6.all fun g => bad3 b d g || (bad3 e f g || (decide (det 4 (mat4 a b d e f g) ≤ 0) || P (mat4 a b d e f g)))
theorem list1 {α : Type} {l : List α} (h : l.length = 1) : ∃ a, l = [a] := by
  match l, h with
  | [a], _ => exact ⟨a, rfl⟩
theorem list2 {α : Type} {l : List α} (h : l.length = 2) : ∃ a b, l = [a, b] := by
  match l, h with
  | [a, b], _ => exact ⟨a, b, rfl⟩
theorem list3 {α : Type} {l : List α} (h : l.length = 3) : ∃ a b c, l = [a, b, c] := by
  match l, h with
  | [a, b, c], _ => exact ⟨a, b, c, rfl⟩
theorem list4 {α : Type} {l : List α} (h : l.length = 4) : ∃ a b c d, l = [a, b, c, d] := by
  match l, h with
  | [a, b, c, d], _ => exact ⟨a, b, c, d, rfl⟩
theorem witFrom_pos {c : List (List Int)} : ∀ (f m : Nat), 1 ≤ m → m + f ≤ 16 → (witFrom c m f).length = 0 → ∀ k, m ≤ k → k < m + f → 0 < minorAt c k := by
  intro f
  induction f with
  | zero => intro m _ _ _ k h1 h2; omega
  | succ f ih =>
    intro m hm hf h k h1 h2
    unfold witFrom at h
    split at h
    · have := setL_ne m hm (by omega); omega
    · rename_i hd
      by_cases e : k = m
      · subst e; omega
      · exact ih (m + 1) (by omega) (by omega) h k (by omega) (by omega)
theorem fin_pos {c : List (List Int)} (hC : IsC c) (hf : finB c = true) : ∀ k, 1 ≤ k → k < 2 ^ c.length → 0 < minorAt c k := by
  intro k h1 h2
  have h16 := pow_le16 hC.2.1
  unfold finB at hf
  rw [Bool.and_eq_true] at hf
  have hw : (witness c).length = 0 := by simpa using hf.2
  unfold witness at hw
  rw [if_pos hC] at hw
  exact witFrom_pos (2 ^ c.length - 1) 1 (Nat.le_refl _) (by omega) hw k h1 (by omega)
theorem pair_ok : ∀ x ∈ [(-3 : Int), -2, -1, 0], ∀ y ∈ [(-3 : Int), -2, -1, 0], decide (x = 0) = decide (y = 0) → 0 < det 2 (mat2 (x, y)) → (x, y) ∈ L6 := by decide
theorem pair_in {x y : Int} (h1 : -3 ≤ x ∧ x ≤ 0) (h2 : -3 ≤ y ∧ y ≤ 0) (h3 : decide (x = 0) = decide (y = 0)) (h : 0 < det 2 (mat2 (x, y))) : (x, y) ∈ L6 := by
  have hx : x ∈ [(-3 : Int), -2, -1, 0] := by
    have : x = -3 ∨ x = -2 ∨ x = -1 ∨ x = 0 := by omega
    rcases this with rfl | rfl | rfl | rfl <;> simp
  have hy : y ∈ [(-3 : Int), -2, -1, 0] := by
    have : y = -3 ∨ y = -2 ∨ y = -1 ∨ y = 0 := by omega
    rcases this with rfl | rfl | rfl | rfl <;> simp
  exact pair_ok x hx y hy h3 h
theorem ent_diag {c : List (List Int)} (hC : IsC c) {i : Nat} (hi : i < c.length) : ent c i i = 2 := by
  have := hC.2.2.2 i hi i hi
  unfold EntOk at this
  rwa [if_pos rfl] at this
theorem ent_off {c : List (List Int)} (hC : IsC c) {i j : Nat} (hi : i < c.length) (hj : j < c.length) (hne : i ≠ j) : (-3 ≤ ent c i j ∧ ent c i j ≤ 0) ∧ decide (ent c i j = 0) = decide (ent c j i = 0) := by
  have := hC.2.2.2 i hi j hj
  unfold EntOk at this
  rw [if_neg hne] at this
  exact ⟨⟨this.1, this.2.1⟩, this.2.2⟩
theorem m2_3 (a : Int × Int) : minorAt (mat2 a) 3 = det 2 (mat2 a) := by kernel_rfl
theorem m3_3 (a b e : Int × Int) : minorAt (mat3 a b e) 3 = det 2 (mat2 a) := by kernel_rfl
theorem m3_5 (a b e : Int × Int) : minorAt (mat3 a b e) 5 = det 2 (mat2 b) := by kernel_rfl
theorem m3_6 (a b e : Int × Int) : minorAt (mat3 a b e) 6 = det 2 (mat2 e) := by kernel_rfl
theorem m3_7 (a b e : Int × Int) : minorAt (mat3 a b e) 7 = det 3 (mat3 a b e) := by kernel_rfl
theorem m4_3 (a b d e f g : Int × Int) : minorAt (mat4 a b d e f g) 3 = det 2 (mat2 a) := by kernel_rfl
theorem m4_5 (a b d e f g : Int × Int) : minorAt (mat4 a b d e f g) 5 = det 2 (mat2 b) := by kernel_rfl
theorem m4_9 (a b d e f g : Int × Int) : minorAt (mat4 a b d e f g) 9 = det 2 (mat2 d) := by kernel_rfl
theorem m4_6 (a b d e f g : Int × Int) : minorAt (mat4 a b d e f g) 6 = det 2 (mat2 e) := by kernel_rfl
theorem m4_10 (a b d e f g : Int × Int) : minorAt (mat4 a b d e f g) 10 = det 2 (mat2 f) := by kernel_rfl
theorem m4_12 (a b d e f g : Int × Int) : minorAt (mat4 a b d e f g) 12 = det 2 (mat2 g) := by kernel_rfl
theorem m4_7 (a b d e f g : Int × Int) : minorAt (mat4 a b d e f g) 7 = det 3 (mat3 a b e) := by kernel_rfl
theorem m4_11 (a b d e f g : Int × Int) : minorAt (mat4 a b d e f g) 11 = det 3 (mat3 a d f) := by kernel_rfl
theorem m4_13 (a b d e f g : Int × Int) : minorAt (mat4 a b d e f g) 13 = det 3 (mat3 b d g) := by kernel_rfl
theorem m4_14 (a b d e f g : Int × Int) : minorAt (mat4 a b d e f g) 14 = det 3 (mat3 e f g) := by kernel_rfl
theorem m4_15 (a b d e f g : Int × Int) : minorAt (mat4 a b d e f g) 15 = det 4 (mat4 a b d e f g) := by kernel_rfl
theorem good_of_2 {P : List (List Int) → Bool} (h2 : chk2 P = true) {c : List (List Int)} (hC : IsC c) (hf : finB c = true) (hn : c.length = 2) : P c = true := by
  have hpos := fin_pos hC hf
  obtain ⟨r0, r1, rfl⟩ := list2 hn
  obtain ⟨x00, x01, rfl⟩ := list2 (hC.2.2.1 0 (by simp))
  obtain ⟨x10, x11, rfl⟩ := list2 (hC.2.2.1 1 (by simp))
  have d0 : x00 = 2 := ent_diag hC (i := 0) (by simp)
  have d1 : x11 = 2 := ent_diag hC (i := 1) (by simp)
  subst d0; subst d1
  have o01 := ent_off hC (i := 0) (j := 1) (by simp) (by simp) (by decide)
  have o10 := ent_off hC (i := 1) (j := 0) (by simp) (by simp) (by decide)
  have p01 : (x01, x10) ∈ L6 := pair_in o01.1 o10.1 o01.2 (by have h0 := hpos 3 (by decide) (by simp); have h1 := m2_3 (x01, x10); exact h1 ▸ h0)
  have h := h2
  unfold chk2 at h
  have h1 := List.all_eq_true.1 h _ p01
  exact h1
theorem good_of_3 {P : List (List Int) → Bool} (hK : chk3 P = true) {c : List (List Int)} (hC : IsC c) (hf : finB c = true) (hn : c.length = 3) : P c = true := by
  have hpos := fin_pos hC hf
  obtain ⟨r0, r1, r2, rfl⟩ := list3 hn
  obtain ⟨x00, x01, x02, rfl⟩ := list3 (hC.2.2.1 0 (by simp))
  obtain ⟨x10, x11, x12, rfl⟩ := list3 (hC.2.2.1 1 (by simp))
  obtain ⟨x20, x21, x22, rfl⟩ := list3 (hC.2.2.1 2 (by simp))
  have d0 : x00 = 2 := ent_diag hC (i := 0) (by simp)
  have d1 : x11 = 2 := ent_diag hC (i := 1) (by simp)
  have d2 : x22 = 2 := ent_diag hC (i := 2) (by simp)
  subst d0; subst d1; subst d2
  have o01 := ent_off hC (i := 0) (j := 1) (by simp) (by simp) (by decide)
  have o10 := ent_off hC (i := 1) (j := 0) (by simp) (by simp) (by decide)
  have o02 := ent_off hC (i := 0) (j := 2) (by simp) (by simp) (by decide)
  have o20 := ent_off hC (i := 2) (j := 0) (by simp) (by simp) (by decide)
  have o12 := ent_off hC (i := 1) (j := 2) (by simp) (by simp) (by decide)
  have o21 := ent_off hC (i := 2) (j := 1) (by simp) (by simp) (by decide)
  have p01 : (x01, x10) ∈ L6 := pair_in o01.1 o10.1 o01.2 (by have h0 := hpos 3 (by decide) (by simp); have h1 := m3_3 (x01, x10) (x02, x20) (x12, x21); exact h1 ▸ h0)
  have p02 : (x02, x20) ∈ L6 := pair_in o02.1 o20.1 o02.2 (by have h0 := hpos 5 (by decide) (by simp); have h1 := m3_5 (x01, x10) (x02, x20) (x12, x21); exact h1 ▸ h0)
  have p12 : (x12, x21) ∈ L6 := pair_in o12.1 o21.1 o12.2 (by have h0 := hpos 6 (by decide) (by simp); have h1 := m3_6 (x01, x10) (x02, x20) (x12, x21); exact h1 ▸ h0)
  have h7 : 0 < det 3 (mat3 (x01, x10) (x02, x20) (x12, x21)) := by have h0 := hpos 7 (by decide) (by simp); have h1 := m3_7 (x01, x10) (x02, x20) (x12, x21); exact h1 ▸ h0
  have h := hK
  unfold chk3 at h
  have h1 := List.all_eq_true.1 h _ p01
  have h2 := List.all_eq_true.1 h1 _ p02
  have h3 := List.all_eq_true.1 h2 _ p12
  have hb : bad3 (x01, x10) (x02, x20) (x12, x21) = false := by unfold bad3; rw [decide_eq_false_iff_not]; omega
  rw [hb, Bool.false_or] at h3
  exact h3
set_option maxHeartbeats 2000000 in
theorem good_of_4 {P : List (List Int) → Bool} (hK : chk4 P = true) {c : List (List Int)} (hC : IsC c) (hf : finB c = true) (hn : c.length = 4) : P c = true := by
  have hpos := fin_pos hC hf
  obtain ⟨r0, r1, r2, r3, rfl⟩ := list4 hn
  obtain ⟨x00, x01, x02, x03, rfl⟩ := list4 (hC.2.2.1 0 (by simp))
  obtain ⟨x10, x11, x12, x13, rfl⟩ := list4 (hC.2.2.1 1 (by simp))
  obtain ⟨x20, x21, x22, x23, rfl⟩ := list4 (hC.2.2.1 2 (by simp))
  obtain ⟨x30, x31, x32, x33, rfl⟩ := list4 (hC.2.2.1 3 (by simp))
  have d0 : x00 = 2 := ent_diag hC (i := 0) (by simp)
  have d1 : x11 = 2 := ent_diag hC (i := 1) (by simp)
  have d2 : x22 = 2 := ent_diag hC (i := 2) (by simp)
  have d3 : x33 = 2 := ent_diag hC (i := 3) (by simp)
  subst d0; subst d1; subst d2; subst d3
  have o01 := ent_off hC (i := 0) (j := 1) (by simp) (by simp) (by decide)
  have o10 := ent_off hC (i := 1) (j := 0) (by simp) (by simp) (by decide)
  have o02 := ent_off hC (i := 0) (j := 2) (by simp) (by simp) (by decide)
  have o20 := ent_off hC (i := 2) (j := 0) (by simp) (by simp) (by decide)
  have o03 := ent_off hC (i := 0) (j := 3) (by simp) (by simp) (by decide)
  have o30 := ent_off hC (i := 3) (j := 0) (by simp) (by simp) (by decide)
  have o12 := ent_off hC (i := 1) (j := 2) (by simp) (by simp) (by decide)
  have o21 := ent_off hC (i := 2) (j := 1) (by simp) (by simp) (by decide)
  have o13 := ent_off hC (i := 1) (j := 3) (by simp) (by simp) (by decide)
  have o31 := ent_off hC (i := 3) (j := 1) (by simp) (by simp) (by decide)
  have o23 := ent_off hC (i := 2) (j := 3) (by simp) (by simp) (by decide)
  have o32 := ent_off hC (i := 3) (j := 2) (by simp) (by simp) (by decide)
  have p01 : (x01, x10) ∈ L6 := pair_in o01.1 o10.1 o01.2 (by have h0 := hpos 3 (by decide) (by simp); have h1 := m4_3 (x01, x10) (x02, x20) (x03, x30) (x12, x21) (x13, x31) (x23, x32); exact h1 ▸ h0)
  have p02 : (x02, x20) ∈ L6 := pair_in o02.1 o20.1 o02.2 (by have h0 := hpos 5 (by decide) (by simp); have h1 := m4_5 (x01, x10) (x02, x20) (x03, x30) (x12, x21) (x13, x31) (x23, x32); exact h1 ▸ h0)
  have p12 : (x12, x21) ∈ L6 := pair_in o12.1 o21.1 o12.2 (by have h0 := hpos 6 (by decide) (by simp); have h1 := m4_6 (x01, x10) (x02, x20) (x03, x30) (x12, x21) (x13, x31) (x23, x32); exact h1 ▸ h0)
  have p03 : (x03, x30) ∈ L6 := pair_in o03.1 o30.1 o03.2 (by have h0 := hpos 9 (by decide) (by simp); have h1 := m4_9 (x01, x10) (x02, x20) (x03, x30) (x12, x21) (x13, x31) (x23, x32); exact h1 ▸ h0)
  have p13 : (x13, x31) ∈ L6 := pair_in o13.1 o31.1 o13.2 (by have h0 := hpos 10 (by decide) (by simp); have h1 := m4_10 (x01, x10) (x02, x20) (x03, x30) (x12, x21) (x13, x31) (x23, x32); exact h1 ▸ h0)
  have p23 : (x23, x32) ∈ L6 := pair_in o23.1 o32.1 o23.2 (by have h0 := hpos 12 (by decide) (by simp); have h1 := m4_12 (x01, x10) (x02, x20) (x03, x30) (x12, x21) (x13, x31) (x23, x32); exact h1 ▸ h0)
  have h7 : 0 < det 3 (mat3 (x01, x10) (x02, x20) (x12, x21)) := by have h0 := hpos 7 (by decide) (by simp); have h1 := m4_7 (x01, x10) (x02, x20) (x03, x30) (x12, x21) (x13, x31) (x23, x32); exact h1 ▸ h0
  have h11 : 0 < det 3 (mat3 (x01, x10) (x03, x30) (x13, x31)) := by have h0 := hpos 11 (by decide) (by simp); have h1 := m4_11 (x01, x10) (x02, x20) (x03, x30) (x12, x21) (x13, x31) (x23, x32); exact h1 ▸ h0
  have h13 : 0 < det 3 (mat3 (x02, x20) (x03, x30) (x23, x32)) := by have h0 := hpos 13 (by decide) (by simp); have h1 := m4_13 (x01, x10) (x02, x20) (x03, x30) (x12, x21) (x13, x31) (x23, x32); exact h1 ▸ h0
  have h14 : 0 < det 3 (mat3 (x12, x21) (x13, x31) (x23, x32)) := by have h0 := hpos 14 (by decide) (by simp); have h1 := m4_14 (x01, x10) (x02, x20) (x03, x30) (x12, x21) (x13, x31) (x23, x32); exact h1 ▸ h0
  have h15 : 0 < det 4 (mat4 (x01, x10) (x02, x20) (x03, x30) (x12, x21) (x13, x31) (x23, x32)) := by have h0 := hpos 15 (by decide) (by simp); have h1 := m4_15 (x01, x10) (x02, x20) (x03, x30) (x12, x21) (x13, x31) (x23, x32); exact h1 ▸ h0
  have h := hK
  unfold chk4 at h
  have b7 : bad3 (x01, x10) (x02, x20) (x12, x21) = false := by unfold bad3; rw [decide_eq_false_iff_not]; omega
  have b11 : bad3 (x01, x10) (x03, x30) (x13, x31) = false := by unfold bad3; rw [decide_eq_false_iff_not]; omega
  have b13 : bad3 (x02, x20) (x03, x30) (x23, x32) = false := by unfold bad3; rw [decide_eq_false_iff_not]; omega
  have b14 : bad3 (x12, x21) (x13, x31) (x23, x32) = false := by unfold bad3; rw [decide_eq_false_iff_not]; omega
  have b15 : decide (det 4 (mat4 (x01, x10) (x02, x20) (x03, x30) (x12, x21) (x13, x31) (x23, x32)) ≤ 0) = false := by rw [decide_eq_false_iff_not]; omega
  have h1 := List.all_eq_true.1 h _ p01
  have h2 := List.all_eq_true.1 h1 _ p02
  have h3 := List.all_eq_true.1 h2 _ p12
  rw [b7, Bool.false_or] at h3
  have h4 := List.all_eq_true.1 h3 _ p03
  have h5 := List.all_eq_true.1 h4 _ p13
  rw [b11, Bool.false_or] at h5
  have h6 := List.all_eq_true.1 h5 _ p23
  rw [b13, Bool.false_or, b14, Bool.false_or, b15, Bool.false_or] at h6
  exact h6
theorem good_of_1 {P : List (List Int) → Bool} (hK : P [[2]] = true) {c : List (List Int)} (hC : IsC c) (hn : c.length = 1) : P c = true := by
  obtain ⟨r0, rfl⟩ := list1 hn
  obtain ⟨x00, rfl⟩ := list1 (hC.2.2.1 0 (by simp))
  have d0 : x00 = 2 := ent_diag hC (i := 0) (by simp)
  subst d0
  exact hK
theorem fin_all (P : List (List Int) → Bool) (p1 : P [[2]] = true) (p2 : chk2 P = true) (p3 : chk3 P = true) (p4 : chk4 P = true) {c : List (List Int)} (hC : IsC c) (hf : finB c = true) : P c = true := by
  have : c.length = 1 ∨ c.length = 2 ∨ c.length = 3 ∨ c.length = 4 := by have := hC.1; have := hC.2.1; omega
  rcases this with h | h | h | h
  · exact good_of_1 p1 hC h
  · exact good_of_2 p2 hC hf h
  · exact good_of_3 p3 hC hf h
  · exact good_of_4 p4 hC hf h
end Go.Proofs.YtkjglfafphffiaaGreatDoor
