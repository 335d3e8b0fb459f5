/- DualOf: contracts. -/
import Derived.Test.YtplglmimjhhilaaEnum2
import Derived.Test.YtplglmimjhhilaaHeld
import Derived.Deep.RegionHeld3
import Derived.Deep.DrawnRows
namespace Go.Proofs.Ytplglmimjhhilaa
open Go.RowKit

open Classical in
noncomputable def oppOf (c : List (List Int)) : Nat → Nat := if h : IsC c ∧ finB c = true then (longOf_fin h.1 h.2).choose_spec.choose else id
theorem oppOf_spec {c : List (List Int)} (hC : IsC c) (hf : finB c = true) : ∃ long, LongOf c long (oppOf c) := by
  unfold oppOf
  rw [dif_pos ⟨hC, hf⟩]
  exact ⟨_, (longOf_fin hC hf).choose_spec.choose_spec⟩
def dualTo (opp : Nat → Nat) (v : List Int) : Nat → List Int
  | 0 => List.replicate v.length 0
  | t + 1 => (dualTo opp v t).set (opp t) (v.getD t 0)
theorem dualTo_length (opp : Nat → Nat) (v : List Int) (t : Nat) : (dualTo opp v t).length = v.length := by
  induction t with
  | zero => simp [dualTo]
  | succ t ih => simp [dualTo, ih]
def dualB (c : List (List Int)) (v : List Int) : Bool := decide (wtOk c v) && ((firstNeg v).isNone && finB c)
noncomputable def dualL (c : List (List Int)) (v : List Int) : List Int := if dualB c v = true then dualTo (oppOf c) v v.length else []
theorem dualL_length (c : List (List Int)) (v : List Int) : (dualL c v).length ≤ v.length := by
  unfold dualL
  split
  · rw [dualTo_length]; exact Nat.le_refl _
  · simp

set_option maxHeartbeats 4000000 in
theorem impl_DualOf_any (gc oc n cc g o m cv : Nat) (c : List (List Int)) (v : List Int) (w : World) (hn : c.length = n) (hm : v.length = m) (hx : c.length ≤ 1048576) (hvx : v.length ≤ 1048576)
    (hrl : ∀ j, j < c.length → (c.getD j []).length ≤ 1048576) (hgc : gc < w.heap.size) (hg : g < w.heap.size) (hr : Rows2 w gc oc c) (hv : Cells w g o v) :
    Calls Try.prog 17 #[(Value.slice (some ⟨gc, oc, none⟩) n cc), (Value.slice (some ⟨g, o, none⟩) m cv)] w (GotIntsB w (dualL c v) (dualB c v)) := by
  subst hn; subst hm
  have hE : ∀ W, Below w.heap.size w W → GotIntsB w [] false (.returned (.tuple #[(Value.slice (some ⟨W.heap.size, 0, none⟩) 0 0), .bool false])) (W.alloc (.cells #[] 3)) := fun W hW => ⟨W.heap.size, 0, rfl, Own.empty (w := W) hW.size, hW.alloc hW.size _⟩
  have HE := Lib.hid hE; clear hE
  go_enter Try.func17, Try.ntmps17
  go_wp2_with fail
  refine (impl_IsWeight_any gc oc _ cc g o _ cv c v w rfl rfl hx hvx hrl hr hv).mono ?_
  rintro e w1 ⟨rfl, m1, rfl⟩
  by_cases hW : wtOk c v
  · have hW' : decide (wtOk c v) = true := decide_eq_true hW
    rw [hW']
    go_wp2_with fail
    refine (impl_IsDominant_any g o _ cv v (w.drewN m1) rfl hvx hv).mono ?_
    rintro e w2 ⟨rfl, m2, rfl⟩
    by_cases hD : (firstNeg v).isNone = true
    · rw [hD]
      go_wp2_with fail
      refine (impl_IsFinite_any gc oc _ cc c (w.drewN (m1 + m2)) rfl hx hrl hgc hr).mono ?_
      rintro e w3 ⟨rfl, hb3⟩
      have hB3 : Below w.heap.size w w3 := (below_drewN' w (m1 + m2)).trans hb3
      by_cases hF : finB c = true
      · rw [hF]
        have hdb : dualB c v = true := by unfold dualB; rw [hW', hD, hF]; rfl
        have hdl : dualL c v = dualTo (oppOf c) v v.length := by unfold dualL; rw [if_pos hdb]
        obtain ⟨long, hL⟩ := oppOf_spec hW.1 hF
        have Hdb := Lib.hid hdb; have Hdl0 := Lib.hid hdl
        have hC := hW.1
        have hvn := hW.2.1
        have Hvn := Lib.hid hvn
        clear hW hD hdb hdl hvn hW' hb3
        go_wp2_with (at_make; refine wpList_make_ints (w := w3) rfl _ _ rfl w.heap.size v.length _ rfl rfl rfl (by omega) hB3.size ?_)
        intro w4 hown4 hgr4
        have hB4 : Below w.heap.size w w4 := hB3.grown hgr4 hB3.size (by intro k hk; cases hk)
        generalize w3.heap.size = g4 at hown4 ⊢
        go_wp2_with fail
        go_loopw [29] (fun i wr => ∃ t : Nat, t ≤ v.length ∧ i = .int .i64 t ∧ Own wr w.heap.size g4 v.length (dualTo (oppOf c) v t) ∧ Below w.heap.size w wr) (fun i _ => v.length - (intOf i).toNat)
        case atStart => exact ⟨0, Nat.zero_le _, rfl, hown4, hB4⟩
        case round =>
          obtain ⟨t, ht, rfl, ho, hb⟩ := hrel
          by_cases hlt : t < v.length
          · have q1 := hv.below hb hg t hlt
            have htc : t < c.length := by have := Hvn.out; omega
            have hcall := impl_OppositeLetter_ok gc oc _ cc t c long (oppOf c) wr rfl hC hF hL htc (Nat.lt_of_lt_of_le hgc hb.size) (hr.below hb hgc)
            have holt := hL.opp_lt t htc
            have hdl := dualTo_length (oppOf c) v t
            have hset : (dualTo (oppOf c) v t).set (oppOf c t) (v.getD t 0) = dualTo (oppOf c) v (t + 1) := rfl
            have hov : oppOf c t < v.length := by have := Hvn.out; omega
            generalize oppOf c t = p at *
            have Hcall := Lib.hid hcall; have Hset := Lib.hid hset; have Hdl := Lib.hid hdl
            clear hcall hset hdl
            generalize v.getD t 0 = x at *
            go_wp2_with fail
            refine Hcall.out.mono ?_
            rintro e w5 ⟨rfl, hb5⟩
            have ho5 := ho.below hb5 ho.lt
            have q2 := ho5.cell p (by rw [Hdl.out]; exact hov)
            have f2 := ho5.frozen p
            have hs := ho5.set p x
            rw [Hset.out] at hs
            have Hs := Lib.hid hs
            have hbb := hb.trans (hb5.mono hb.size)
            clear hs ho hb
            generalize (dualTo (oppOf c) v t).getD p 0 = y at q2
            go_wp2_with fail
            go_roundw
            case rel => exact ⟨t + 1, by omega, by go_num, Hs.out.1, hbb.grown Hs.out.2 hbb.size (by intro j hj; cases hj; exact ho5.base)⟩
            case measure => simp [intOf]; omega
          · obtain rfl : t = v.length := by omega
            go_wp2
            go_ret2
            rw [Hdb.out, Hdl0.out]
            exact GotIntsB.mk' g4 v.length (dualTo_length _ _ _) ho hb
      · have hF' : finB c = false := Bool.eq_false_iff.2 hF
        have hdb : dualB c v = false := by unfold dualB; rw [hF']; simp
        have hdl : dualL c v = [] := by unfold dualL; rw [if_neg (by rw [hdb]; simp)]
        rw [hF']
        clear hF hW hD
        go_wp2_with fail
        go_ret2
        rw [hdb, hdl]
        exact HE.out w3 hB3
    · have hD' : (firstNeg v).isNone = false := Bool.eq_false_iff.2 hD
      have hdb : dualB c v = false := by unfold dualB; rw [hD']; simp
      have hdl : dualL c v = [] := by unfold dualL; rw [if_neg (by rw [hdb]; simp)]
      rw [hD']
      clear hD hW
      go_wp2_with fail
      go_ret2
      rw [hdb, hdl]
      exact HE.out (w.drewN (m1 + m2)) (below_drewN' w _)
  · have hW' : decide (wtOk c v) = false := decide_eq_false hW
    have hdb : dualB c v = false := by unfold dualB; rw [hW']; simp
    have hdl : dualL c v = [] := by unfold dualL; rw [if_neg (by rw [hdb]; simp)]
    rw [hW']
    clear hW
    go_wp2_with fail
    go_ret2
    rw [hdb, hdl]
    exact HE.out (w.drewN m1) (below_drewN' w m1)

attribute [local go_sem ↓] Go.wp_at_zero Go.wp_at_succ
set_option maxHeartbeats 4000000 in
theorem spec_DualOf_any (gc oc n cc g o m cv : Nat) (c : List (List Int)) (v : List Int) (w : World) (hn : c.length = n) (hm : v.length = m) (hx : c.length ≤ 1048576) (hvx : v.length ≤ 1048576)
    (hrl : ∀ j, j < c.length → (c.getD j []).length ≤ 1048576) (hgc : gc < w.heap.size) (hg : g < w.heap.size) (hr : Rows2 w gc oc c) (hv : Cells w g o v) :
    Calls Try.prog 15 #[(Value.slice (some ⟨gc, oc, none⟩) n cc), (Value.slice (some ⟨g, o, none⟩) m cv)] w (GotIntsB w (dualL c v) (dualB c v)) := by
  subst hn; subst hm
  have hE : ∀ W, Below w.heap.size w W → GotIntsB w [] false (.returned (.tuple #[(Value.slice (some ⟨W.heap.size, 0, none⟩) 0 0), .bool false])) (W.alloc (.cells #[] 3)) := fun W hW => ⟨W.heap.size, 0, rfl, Own.empty (w := W) hW.size, hW.alloc hW.size _⟩
  have HE := Lib.hid hE; clear hE
  go_enter Try.func15, Try.ntmps15
  go_wp2_with fail
  refine (spec_IsWeight_any gc oc _ cc g o _ cv c v w rfl rfl hx hvx hrl hr hv).mono ?_
  rintro e w1 ⟨rfl, m1, rfl⟩
  by_cases hW : wtOk c v
  · have hW' : decide (wtOk c v) = true := decide_eq_true hW
    rw [hW']
    go_wp2_with fail
    refine (spec_IsDominant_any g o _ cv v (w.drewN m1) rfl hvx hv).mono ?_
    rintro e w2 ⟨rfl, m2, rfl⟩
    by_cases hD : (firstNeg v).isNone = true
    · rw [hD]
      go_wp2_with fail
      refine (spec_IsFinite_any gc oc _ cc c (w.drewN (m1 + m2)) rfl hx hrl hgc hr).mono ?_
      rintro e w3 ⟨rfl, hb3⟩
      have hB3 : Below w.heap.size w w3 := (below_drewN' w (m1 + m2)).trans hb3
      by_cases hF : finB c = true
      · rw [hF]
        have hdb : dualB c v = true := by unfold dualB; rw [hW', hD, hF]; rfl
        have hdl : dualL c v = dualTo (oppOf c) v v.length := by unfold dualL; rw [if_pos hdb]
        obtain ⟨long, hL⟩ := oppOf_spec hW.1 hF
        have Hdb := Lib.hid hdb; have Hdl0 := Lib.hid hdl
        have hC := hW.1
        have hvn := hW.2.1
        have Hvn := Lib.hid hvn
        clear hW hD hdb hdl hvn hW' hb3
        go_wp2_with (at_make; refine wpList_make_ints (w := w3) rfl _ _ rfl w.heap.size v.length _ rfl rfl rfl (by omega) hB3.size ?_)
        intro w4 hown4 hgr4
        have hB4 : Below w.heap.size w w4 := hB3.grown hgr4 hB3.size (by intro k hk; cases hk)
        generalize w3.heap.size = g4 at hown4 ⊢
        go_wp2_with fail
        go_loopw [7] (fun i wr => ∃ t : Nat, t ≤ v.length ∧ i = .int .i64 t ∧ Own wr w.heap.size g4 v.length (dualTo (oppOf c) v t) ∧ Below w.heap.size w wr) (fun i _ => v.length - (intOf i).toNat)
        case atStart => exact ⟨0, Nat.zero_le _, rfl, hown4, hB4⟩
        case round =>
          obtain ⟨t, ht, rfl, ho, hb⟩ := hrel
          by_cases hlt : t < v.length
          · have q1 := hv.below hb hg t hlt
            have htc : t < c.length := by have := Hvn.out; omega
            have hcall := spec_OppositeLetter_ok gc oc _ cc t c long (oppOf c) wr rfl hC hF hL htc (Nat.lt_of_lt_of_le hgc hb.size) (hr.below hb hgc)
            have holt := hL.opp_lt t htc
            have hdl := dualTo_length (oppOf c) v t
            have hset : (dualTo (oppOf c) v t).set (oppOf c t) (v.getD t 0) = dualTo (oppOf c) v (t + 1) := rfl
            have hov : oppOf c t < v.length := by have := Hvn.out; omega
            have hB : Below w.heap.size w wr.drew := Below.drew hb
            have hcall2 := spec_OppositeLetter_ok gc oc _ cc t c long (oppOf c) wr.drew rfl hC hF hL htc (Nat.lt_of_lt_of_le hgc hB.size) (hr.below hB hgc)
            generalize oppOf c t = p at *
            have Hcall := Lib.hid hcall2; have Hset := Lib.hid hset; have Hdl := Lib.hid hdl
            clear hcall hcall2 hset hdl
            generalize v.getD t 0 = x at *
            have u1 : wr.drew.cell? ⟨g, o + t, none⟩ = some (.int .i64 x) := q1
            have FO : Hid (∀ wA, Below wr.drew.heap.size wr.drew wA → Own wA w.heap.size g4 v.length (dualTo (oppOf c) v t)) := fun wA h => (ho.drew).below h ho.lt
            have FC : Hid (∀ wA, Below wr.drew.heap.size wr.drew wA → wA.cell? ⟨g4, p, none⟩ = some (.int .i64 ((dualTo (oppOf c) v t).getD p 0)) ∧ wA.frozen? ⟨g4, p, none⟩ = false) := fun wA h => ⟨(FO.out wA h).cell p (by rw [Hdl.out]; exact hov), (FO.out wA h).frozen p⟩
            have FS : Hid (∀ wA, Below wr.drew.heap.size wr.drew wA → Own (wA.setCell ⟨g4, p, none⟩ (.int .i64 x)) w.heap.size g4 v.length (dualTo (oppOf c) v (t + 1)) ∧ wA.grownBy (wA.setCell ⟨g4, p, none⟩ (.int .i64 x)) (some g4)) := fun wA h => by
              have := (FO.out wA h).set p x
              rwa [Hset.out] at this
            have hne : some g ≠ some g4 := by intro e; cases e; have := ho.base; omega
            have hbase := ho.base
            have pI : (0 : Int) ≤ (p : Int) := by omega
            have pI2 : (p : Int) < (v.length : Int) := by omega
            go_wp2_with fail
            go_region_held3 (fun W => Below w.heap.size w W ∧ W.cell? ⟨g, o + t, none⟩ = some (.int .i64 x))
              (first | exact ⟨hB, u1⟩ | exact ⟨hB.trans (hbA.mono hB.size), keepCell hbA u1⟩ | exact ⟨(hB.trans (hbA.mono hB.size)).grown (FS.out _ hbA).2 (hB.trans (hbA.mono hB.size)).size (by intro j hj; cases hj; exact hbase), (FS.out _ hbA).2.cell (a := ⟨g, o + t, none⟩) (keepCell hbA u1) hne⟩)
              ((go_at_call 41; refine Hcall.out.mono ?_; rintro e wA ⟨rfl, hbA⟩; have hcA := (FC.out _ hbA).1; have hfA := (FC.out _ hbA).2))
            have hS := (FS.out _ hbA).1
            have hBB := (hB.trans (hbA.mono hB.size)).grown (FS.out _ hbA).2 (hB.trans (hbA.mono hB.size)).size (by intro j hj; cases hj; exact hbase)
            go_wp2
            go_roundw
            case rel => exact ⟨t + 1, by omega, by go_num, hS, hBB⟩
            case measure => simp [intOf]; omega
          · obtain rfl : t = v.length := by omega
            go_wp2
            go_ret2
            rw [Hdb.out, Hdl0.out]
            exact GotIntsB.mk' g4 v.length (dualTo_length _ _ _) ho hb
      · have hF' : finB c = false := Bool.eq_false_iff.2 hF
        have hdb : dualB c v = false := by unfold dualB; rw [hF']; simp
        have hdl : dualL c v = [] := by unfold dualL; rw [if_neg (by rw [hdb]; simp)]
        rw [hF']
        clear hF hW hD
        go_wp2_with fail
        go_ret2
        rw [hdb, hdl]
        exact HE.out w3 hB3
    · have hD' : (firstNeg v).isNone = false := Bool.eq_false_iff.2 hD
      have hdb : dualB c v = false := by unfold dualB; rw [hD']; simp
      have hdl : dualL c v = [] := by unfold dualL; rw [if_neg (by rw [hdb]; simp)]
      rw [hD']
      clear hD hW
      go_wp2_with fail
      go_ret2
      rw [hdb, hdl]
      exact HE.out (w.drewN (m1 + m2)) (below_drewN' w _)
  · have hW' : decide (wtOk c v) = false := decide_eq_false hW
    have hdb : dualB c v = false := by unfold dualB; rw [hW']; simp
    have hdl : dualL c v = [] := by unfold dualL; rw [if_neg (by rw [hdb]; simp)]
    rw [hW']
    clear hW
    go_wp2_with fail
    go_ret2
    rw [hdb, hdl]
    exact HE.out (w.drewN m1) (below_drewN' w m1)
end Go.Proofs.Ytplglmimjhhilaa
