/- SmallRoots of both, at any matrix: contracts. -/
import Derived.Test.YticnocoeldfiiaaGreatDoorG37
import Derived.Test.YticnocoeldfiiaaGreatDoorG42
namespace Go.Proofs.YticnocoeldfiiaaGreatDoor
open Go.RowKit Game

def smallA (c : List (List Int)) : List (List Int) := if IsC c then smallL c else []
def smallAB (c : List (List Int)) : Bool := decide (IsC c) && smallB c
theorem smallA_few (c : List (List Int)) : (smallA c).length ≤ 200 ∧ ∀ x ∈ smallA c, x.length ≤ 15 := by
  unfold smallA
  split
  · rename_i h
    have h1 := smallL_few (c := c) h.2.1
    exact ⟨by omega, fun x hx => by have := h1.2 x hx; have := h.2.1; omega⟩
  · exact ⟨by simp, by simp⟩
/-- small roots, or none -/
theorem smallA_cases (c : List (List Int)) : (smallAB c = false ∧ smallA c = []) ∨ (IsC c ∧ smallAB c = true ∧ SmallOk c (smallA c)) := by
  unfold smallAB smallA
  by_cases h : IsC c
  · rw [if_pos h, decide_eq_true h, Bool.true_and]
    cases hR : smR c with
    | none => exact .inl ⟨(small_none hR).2, (small_none hR).1⟩
    | some Q => exact .inr ⟨h, (small_some hR).2, smallOk_of h.2.1 hR⟩
  · rw [if_neg h, decide_eq_false h]
    exact .inl ⟨rfl, rfl⟩
theorem GotRowsB.nil {w w' : World} (hb : Below w.heap.size w w') : GotRowsB w [] false (.returned (.tuple #[(Value.slice (some ⟨w'.heap.size, 0, none⟩) 0 0), .bool false])) (w'.alloc (.cells #[] 28)) :=
  GotRowsB.mk' (n := 0) w'.heap.size 0 [] rfl rfl (OwnRows.empty hb.size) (hb.alloc hb.size _)

set_option maxHeartbeats 1000000 in
theorem impl_SmallRoots_any (gc oc n cc : Nat) (c : List (List Int)) (w : World) (hn : c.length = n) (hl : c.length ≤ 1048576) (hrl : ∀ j, j < c.length → (c.getD j []).length ≤ 1048576) (hgc : gc < w.heap.size) (hr : Rows2 w gc oc c) :
    Calls Tryz.prog 23 #[(Value.slice (some ⟨gc, oc, none⟩) n cc)] w (GotRowsB w (smallA c) (smallAB c)) := by
  subst hn
  have hcall := impl_IsCartan gc oc _ cc c w rfl (by omega) (fun j hj => by have := hrl j hj; omega) hr
  have Hr := Lib.hid hr; have Hrl := Lib.hid hrl
  clear hr hrl
  by_cases hC : IsC c
  · rw [decide_eq_true hC] at hcall
    have Hcall := Lib.hid hcall
    have e1 : smallA c = smallL c := by unfold smallA; rw [if_pos hC]
    have e2 : smallAB c = smallB c := by unfold smallAB; rw [decide_eq_true hC]; rfl
    rw [e1, e2]
    clear hcall e1 e2
    go_enter Tryz.func23, Tryz.ntmps23
    go_wp2_with fail
    refine Hcall.out.mono ?_
    rintro e w1 ⟨rfl, hs1⟩
    have hb1 := below_still (Below.refl w.heap.size w) hs1
    have hcall := impl_smallRoots_ok gc oc _ cc c w1 rfl hC (Nat.lt_of_lt_of_le hgc hb1.size) (Hr.out.still hs1)
    have Hcall2 := Lib.hid hcall
    clear hcall Hcall hs1
    go_wp2_with fail
    refine Hcall2.out.mono ?_
    intro e w2 hp
    rcases hp with ⟨hR, rfl, hb2⟩ | ⟨Q, hR, hgot⟩
    · obtain ⟨k1, k2⟩ := small_none hR
      have hb := hb1.trans (hb2.mono hb1.size)
      have K1 := Lib.hid k1; have K2 := Lib.hid k2
      clear k1 k2 hR Hcall2
      go_wp2_with fail
      go_ret2
      rw [K1.out, K2.out]
      exact GotRowsB.nil hb
    · obtain ⟨k1, k2⟩ := small_some hR
      obtain ⟨g, cap, rs, rfl, hcon, hO, hb2⟩ := hgot
      have hb := hb1.trans (hb2.mono hb1.size)
      have hO' := hO.mono hb1.size
      have K2 := Lib.hid k2; have Hcon := Lib.hid hcon
      obtain ⟨m, hm⟩ : ∃ m, (smallL c).length = m := ⟨_, rfl⟩
      rw [hm]
      have Hm := Lib.hid hm
      clear k1 k2 hR hcon hm Hcall2 hO
      go_wp2_with fail
      go_ret2
      rw [K2.out]
      exact GotRowsB.mk' g cap rs (by rw [← Hm.out, ← Hcon.out, contents_length]) Hcon.out hO' hb
  · rw [decide_eq_false hC] at hcall
    have Hcall := Lib.hid hcall
    have e1 : smallA c = [] := by unfold smallA; rw [if_neg hC]
    have e2 : smallAB c = false := by unfold smallAB; rw [decide_eq_false hC]; rfl
    rw [e1, e2]
    clear hcall e1 e2
    go_enter Tryz.func23, Tryz.ntmps23
    go_wp2_with fail
    refine Hcall.out.mono ?_
    rintro e w1 ⟨rfl, hs1⟩
    have hb1 := below_still (Below.refl w.heap.size w) hs1
    clear hs1 Hcall
    go_wp2_with fail
    go_ret2
    exact GotRowsB.nil hb1

set_option maxHeartbeats 1000000 in
theorem spec_SmallRoots_any (gc oc n cc : Nat) (c : List (List Int)) (w : World) (hn : c.length = n) (hl : c.length ≤ 1048576) (hrl : ∀ j, j < c.length → (c.getD j []).length ≤ 1048576) (hgc : gc < w.heap.size) (hr : Rows2 w gc oc c) :
    Calls Tryz.prog 16 #[(Value.slice (some ⟨gc, oc, none⟩) n cc)] w (GotRowsB w (smallA c) (smallAB c)) := by
  by_cases hC : IsC c
  · have e1 : smallA c = smallL c := by unfold smallA; rw [if_pos hC]
    have e2 : smallAB c = smallB c := by unfold smallAB; rw [decide_eq_true hC]; rfl
    rw [e1, e2]
    exact spec_SmallRoots_ok gc oc n cc c w hn hC hgc hr
  · subst hn
    have e1 : smallA c = [] := by unfold smallA; rw [if_neg hC]
    have e2 : smallAB c = false := by unfold smallAB; rw [decide_eq_false hC]; rfl
    rw [e1, e2]
    obtain ⟨w1, hw1⟩ : ∃ w1, w1 = (w.alloc (.cells #[] 28)).alloc (.cells #[] 28) := ⟨_, rfl⟩
    have hb1 : Below w.heap.size w w1 := by rw [hw1]; exact (by repeat (first | with_reducible exact Below.refl _ _ | with_reducible assumption | with_reducible refine below_drewN ?_ _ | with_reducible refine Below.drew ?_ | (with_reducible refine Below.alloc ?_ ?_ _; rotate_left; · first | (simp; done) | (simp; omega) | exact Below.size (by assumption) | (have hsz := Below.size (by assumption : Below _ _ _); simp at hsz ⊢; omega)) | (with_reducible refine Below.setCell ?_ ?_ _; rotate_left; · first | (simp; done) | (simp; omega))))
    have hO1 : OwnRows w1 w.heap.size w.heap.size 0 [] := by rw [hw1]; exact (OwnRows.empty (w := w) (Nat.le_refl _)).below ((Below.refl _ _).alloc (Nat.le_refl _) _)
    have hcall := spec_IsCartan gc oc _ cc c w1 rfl (by omega) (fun j hj => by have := hrl j hj; omega) (hr.below hb1 hgc)
    rw [decide_eq_false hC, hw1] at hcall
    have Hcall := Lib.hid hcall; have Hw1 := Lib.hid hw1
    clear hcall hw1 hr hrl e1 e2
    go_enter Tryz.func16, Tryz.ntmps16
    go_wp2_with fail
    refine Hcall.out.mono ?_
    rintro e w2 ⟨rfl, hs2⟩
    rw [← Hw1.out] at hs2
    have hb2 := below_still hb1 hs2
    have hO2 := hO1.still hs2
    clear hs2 Hcall Hw1 hb1 hO1
    go_wp2_with fail
    go_ret2
    exact GotRowsB.mk' (n := 0) _ 0 [] rfl rfl hO2 hb2
end Go.Proofs.YticnocoeldfiiaaGreatDoor
