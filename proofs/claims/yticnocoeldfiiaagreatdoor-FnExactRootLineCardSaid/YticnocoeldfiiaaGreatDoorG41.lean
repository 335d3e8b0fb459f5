/- At every finite type the search for positive roots is closed: by enumeration. Plain law. The program's RootsUpTo and PositiveRoots; PositiveRoots of both at any matrix: contracts. -/
import Derived.Test.YticnocoeldfiiaaGreatDoorG31
import Derived.Test.YticnocoeldfiiaaGreatDoorG39
import Derived.Test.YticnocoeldfiiaaGreatDoorG40
namespace Go.Proofs.YticnocoeldfiiaaGreatDoor
theorem pos_1 : posOk [[2]] = true := by kernel_rfl
theorem pos_2 : chk2 posOk = true := by kernel_rfl
theorem pos_3 : chk3 posOk = true := by kernel_rfl
theorem pos_4_00 : chk4At posOk (0, 0) (0, 0) = true := by kernel_rfl
theorem pos_4_01 : chk4At posOk (0, 0) (-1, -1) = true := by kernel_rfl
theorem pos_4_02 : chk4At posOk (0, 0) (-1, -2) = true := by kernel_rfl
theorem pos_4_03 : chk4At posOk (0, 0) (-2, -1) = true := by kernel_rfl
theorem pos_4_04 : chk4At posOk (0, 0) (-1, -3) = true := by kernel_rfl
theorem pos_4_05 : chk4At posOk (0, 0) (-3, -1) = true := by kernel_rfl
theorem pos_4_10 : chk4At posOk (-1, -1) (0, 0) = true := by kernel_rfl
theorem pos_4_11 : chk4At posOk (-1, -1) (-1, -1) = true := by kernel_rfl
theorem pos_4_12 : chk4At posOk (-1, -1) (-1, -2) = true := by kernel_rfl
theorem pos_4_13 : chk4At posOk (-1, -1) (-2, -1) = true := by kernel_rfl
theorem pos_4_14 : chk4At posOk (-1, -1) (-1, -3) = true := by kernel_rfl
theorem pos_4_15 : chk4At posOk (-1, -1) (-3, -1) = true := by kernel_rfl
theorem pos_4_20 : chk4At posOk (-1, -2) (0, 0) = true := by kernel_rfl
theorem pos_4_21 : chk4At posOk (-1, -2) (-1, -1) = true := by kernel_rfl
theorem pos_4_22 : chk4At posOk (-1, -2) (-1, -2) = true := by kernel_rfl
theorem pos_4_23 : chk4At posOk (-1, -2) (-2, -1) = true := by kernel_rfl
theorem pos_4_24 : chk4At posOk (-1, -2) (-1, -3) = true := by kernel_rfl
theorem pos_4_25 : chk4At posOk (-1, -2) (-3, -1) = true := by kernel_rfl
theorem pos_4_30 : chk4At posOk (-2, -1) (0, 0) = true := by kernel_rfl
theorem pos_4_31 : chk4At posOk (-2, -1) (-1, -1) = true := by kernel_rfl
theorem pos_4_32 : chk4At posOk (-2, -1) (-1, -2) = true := by kernel_rfl
theorem pos_4_33 : chk4At posOk (-2, -1) (-2, -1) = true := by kernel_rfl
theorem pos_4_34 : chk4At posOk (-2, -1) (-1, -3) = true := by kernel_rfl
theorem pos_4_35 : chk4At posOk (-2, -1) (-3, -1) = true := by kernel_rfl
theorem pos_4_40 : chk4At posOk (-1, -3) (0, 0) = true := by kernel_rfl
theorem pos_4_41 : chk4At posOk (-1, -3) (-1, -1) = true := by kernel_rfl
theorem pos_4_42 : chk4At posOk (-1, -3) (-1, -2) = true := by kernel_rfl
theorem pos_4_43 : chk4At posOk (-1, -3) (-2, -1) = true := by kernel_rfl
theorem pos_4_44 : chk4At posOk (-1, -3) (-1, -3) = true := by kernel_rfl
theorem pos_4_45 : chk4At posOk (-1, -3) (-3, -1) = true := by kernel_rfl
theorem pos_4_50 : chk4At posOk (-3, -1) (0, 0) = true := by kernel_rfl
theorem pos_4_51 : chk4At posOk (-3, -1) (-1, -1) = true := by kernel_rfl
theorem pos_4_52 : chk4At posOk (-3, -1) (-1, -2) = true := by kernel_rfl
theorem pos_4_53 : chk4At posOk (-3, -1) (-2, -1) = true := by kernel_rfl
theorem pos_4_54 : chk4At posOk (-3, -1) (-1, -3) = true := by kernel_rfl
theorem pos_4_55 : chk4At posOk (-3, -1) (-3, -1) = true := by kernel_rfl
theorem pos_4 : chk4 posOk = true := by
  rw [chk4_eq]
  simp only [L6, List.all_cons, List.all_nil, Bool.and_true, pos_4_00, pos_4_01, pos_4_02, pos_4_03, pos_4_04, pos_4_05, pos_4_10, pos_4_11, pos_4_12, pos_4_13, pos_4_14, pos_4_15, pos_4_20, pos_4_21, pos_4_22, pos_4_23, pos_4_24, pos_4_25, pos_4_30, pos_4_31, pos_4_32, pos_4_33, pos_4_34, pos_4_35, pos_4_40, pos_4_41, pos_4_42, pos_4_43, pos_4_44, pos_4_45, pos_4_50, pos_4_51, pos_4_52, pos_4_53, pos_4_54, pos_4_55]
theorem pos_fin {c : List (List Int)} (hC : IsC c) (hf : finB c = true) : posOk c = true := fin_all posOk pos_1 pos_2 pos_3 pos_4 hC hf
end Go.Proofs.YticnocoeldfiiaaGreatDoor
namespace Go.Proofs.YticnocoeldfiiaaGreatDoor
open Go.RowKit Game

def posA (c : List (List Int)) : List (List Int) := if finB c = true then posL c else []
theorem posA_fin {c : List (List Int)} (h : finB c = true) : posA c = posL c := if_pos h
theorem posA_inf {c : List (List Int)} (h : finB c = false) : posA c = [] := if_neg (by rw [h]; decide)
theorem finB_isC {c : List (List Int)} (h : finB c = true) : IsC c := by
  unfold finB at h
  rw [Bool.and_eq_true] at h
  simpa using h.1
theorem posOk_fin {c : List (List Int)} (h : finB c = true) : PosOk c := posOk_of (pos_fin (finB_isC h) h)

set_option maxHeartbeats 1000000 in
theorem impl_RootsUpTo_ok (gc oc n cc : Nat) (c : List (List Int)) (w : World) (hn : c.length = n) (hC : IsC c) (hP : PosOk c) (hgc : gc < w.heap.size) (hr : Rows2 w gc oc c) :
    Calls Tryz.prog 51 #[(Value.slice (some ⟨gc, oc, none⟩) n cc), .int .i64 12] w (GotRows w (posL c)) := by
  subst hn
  have hn4 := hC.2.1
  have hcl := hC.2.2.1
  have hcall := impl_IsCartan gc oc _ cc c w rfl (by omega) (fun j hj => by have := hcl j hj; omega) hr
  rw [decide_eq_true hC] at hcall
  have Hcall := Lib.hid hcall; have Hr := Lib.hid hr; have HP := Lib.hid hP; have HC := Lib.hid hC
  clear hcall hr hP hcl hC
  go_enter Tryz.func51, Tryz.ntmps51
  go_wp2_with fail
  refine Hcall.out.mono ?_
  rintro e w1 ⟨rfl, hs1⟩
  have hb1 := below_still (Below.refl w.heap.size w) hs1
  have hc2 := impl_pairedRoots_ok (fun _ _ => True) gc oc _ cc c w1 rfl HC.out HP.out (CoRel.any c) (Nat.lt_of_lt_of_le hgc hb1.size) (Hr.out.still hs1)
  have Hc2 := Lib.hid hc2
  clear hc2 Hcall hs1
  go_wp2_with fail
  refine Hc2.out.mono ?_
  rintro e w2 ⟨g, cap, rs, g2, cap2, rs2, rfl, hcon, -, -, hO, -, hb2⟩
  have hb := hb1.trans (hb2.mono hb1.size)
  have hO2 := hO.mono hb1.size
  clear Hc2 hO hb2
  go_wp2_with fail
  go_ret
  exact ⟨g, cap, rs, rfl, hcon, hO2, hb⟩

set_option maxHeartbeats 1000000 in
theorem impl_PositiveRoots_any (gc oc n cc : Nat) (c : List (List Int)) (w : World) (hn : c.length = n) (hl : c.length ≤ 1048576) (hrl : ∀ j, j < c.length → (c.getD j []).length ≤ 1048576) (hgc : gc < w.heap.size) (hr : Rows2 w gc oc c) :
    Calls Tryz.prog 19 #[(Value.slice (some ⟨gc, oc, none⟩) n cc)] w (GotRowsB w (posA c) (finB c)) := by
  have hcall := impl_IsFinite_any gc oc n cc c w hn hl hrl hgc hr
  cases hf : finB c with
  | false =>
    rw [hf] at hcall
    rw [posA_inf hf]
    have Hcall := Lib.hid hcall
    clear hcall
    go_enter Tryz.func19, Tryz.ntmps19
    go_wp2_with fail
    refine Hcall.out.mono ?_
    rintro e w1 ⟨rfl, hb1⟩
    go_wp2_with fail
    go_ret2
    exact ⟨_, 0, [], rfl, rfl, OwnRows.empty hb1.size, hb1.alloc hb1.size _⟩
  | true =>
    rw [hf] at hcall
    rw [posA_fin hf]
    have Hcall := Lib.hid hcall; have Hr := Lib.hid (fun W (hW : Below w.heap.size w W) => impl_RootsUpTo_ok gc oc n cc c W hn (finB_isC hf) (posOk_fin hf) (Nat.lt_of_lt_of_le hgc hW.size) (hr.below hW hgc))
    clear hcall hr hf hrl hl hn
    go_enter Tryz.func19, Tryz.ntmps19
    go_wp2_with fail
    refine Hcall.out.mono ?_
    rintro e w1 ⟨rfl, hb1⟩
    go_wp2_with fail
    refine (Hr.out w1 hb1).mono ?_
    rintro e w2 ⟨g, cp, rs, rfl, hcr, ho, hb2⟩
    go_wp2_with fail
    go_ret2
    exact ⟨g, cp, rs, rfl, hcr, ho.mono hb1.size, hb1.trans (hb2.mono hb1.size)⟩

theorem spec_PositiveRoots_any (gc oc n cc : Nat) (c : List (List Int)) (w : World) (hn : c.length = n) (hl : c.length ≤ 1048576) (hrl : ∀ j, j < c.length → (c.getD j []).length ≤ 1048576) (hgc : gc < w.heap.size) (hr : Rows2 w gc oc c) :
    Calls Tryz.prog 15 #[(Value.slice (some ⟨gc, oc, none⟩) n cc)] w (GotRowsB w (posA c) (finB c)) := by
  have hcall := fun W (hW : Below w.heap.size w W) => spec_IsFinite_any gc oc n cc c W hn hl hrl (Nat.lt_of_lt_of_le hgc hW.size) (hr.below hW hgc)
  cases hf : finB c with
  | false =>
    rw [hf] at hcall
    rw [posA_inf hf]
    exact spec_PositiveRoots_inf gc oc n cc w (hcall w (Below.refl _ _))
  | true =>
    rw [hf] at hcall
    rw [posA_fin hf]
    exact spec_PositiveRoots_fin gc oc n cc c w hn (finB_isC hf) (posOk_fin hf) hgc hr hcall
theorem posA_rl (c : List (List Int)) : Rl c.length (posA c) := by
  unfold posA
  split
  · exact posL_rl c
  · intro x hx; cases hx
theorem posA_few (c : List (List Int)) : (posA c).length ≤ 24 ∧ ∀ x ∈ posA c, x.length ≤ 4 := by
  unfold posA
  split
  · rename_i h
    exact ⟨(posOk_fin h).few, fun x hx => by rw [posL_rl c x hx]; exact (finB_isC h).2.1⟩
  · exact ⟨by simp, by simp⟩
end Go.Proofs.YticnocoeldfiiaaGreatDoor
