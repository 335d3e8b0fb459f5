/- What the longest elements of finite groups do, where they are words: all positive roots turn negative, opposite letters are opposite to one another; by enumeration. Plain law. -/
import Derived.Test.YtldcmhgpppeooaaGreatDoorG13
import Derived.Test.YtldcmhgpppeooaaGreatDoorG15
namespace Go.Proofs.YtldcmhgpppeooaaGreatDoor
set_option maxRecDepth 100000
open Go.RowKit

def turnB (c : List (List Int)) (long : List Int) : Bool := (posL c).all fun r => decide (signL (actR c long r) = -1)
def oppB (c : List (List Int)) (long : List Int) : Bool := (List.range c.length).all fun i => (List.range c.length).all fun j => !(actW c long (refl c i (onesL c.length)) == refl c j (negL c.length)) || (actW c long (refl c j (onesL c.length)) == refl c i (negL c.length))
def lngB (c : List (List Int)) : Bool :=
  match normG c 30 (negL c.length) with
  | none => false
  | some long => decide (15 < long.length) || (turnB c long && oppB c long)
theorem lng_1 : lngB [[2]] = true := by kernel_rfl
theorem lng_2 : chk2 lngB = true := by kernel_rfl
theorem lng_3 : chk3 lngB = true := by kernel_rfl
theorem lng_4_00 : chk4At lngB (0, 0) (0, 0) = true := by kernel_rfl
theorem lng_4_01 : chk4At lngB (0, 0) (-1, -1) = true := by kernel_rfl
theorem lng_4_02 : chk4At lngB (0, 0) (-1, -2) = true := by kernel_rfl
theorem lng_4_03 : chk4At lngB (0, 0) (-2, -1) = true := by kernel_rfl
theorem lng_4_04 : chk4At lngB (0, 0) (-1, -3) = true := by kernel_rfl
theorem lng_4_05 : chk4At lngB (0, 0) (-3, -1) = true := by kernel_rfl
theorem lng_4_10 : chk4At lngB (-1, -1) (0, 0) = true := by kernel_rfl
theorem lng_4_11 : chk4At lngB (-1, -1) (-1, -1) = true := by kernel_rfl
theorem lng_4_12 : chk4At lngB (-1, -1) (-1, -2) = true := by kernel_rfl
theorem lng_4_13 : chk4At lngB (-1, -1) (-2, -1) = true := by kernel_rfl
theorem lng_4_14 : chk4At lngB (-1, -1) (-1, -3) = true := by kernel_rfl
theorem lng_4_15 : chk4At lngB (-1, -1) (-3, -1) = true := by kernel_rfl
theorem lng_4_20 : chk4At lngB (-1, -2) (0, 0) = true := by kernel_rfl
theorem lng_4_21 : chk4At lngB (-1, -2) (-1, -1) = true := by kernel_rfl
theorem lng_4_22 : chk4At lngB (-1, -2) (-1, -2) = true := by kernel_rfl
theorem lng_4_23 : chk4At lngB (-1, -2) (-2, -1) = true := by kernel_rfl
theorem lng_4_24 : chk4At lngB (-1, -2) (-1, -3) = true := by kernel_rfl
theorem lng_4_25 : chk4At lngB (-1, -2) (-3, -1) = true := by kernel_rfl
theorem lng_4_30 : chk4At lngB (-2, -1) (0, 0) = true := by kernel_rfl
theorem lng_4_31 : chk4At lngB (-2, -1) (-1, -1) = true := by kernel_rfl
theorem lng_4_32 : chk4At lngB (-2, -1) (-1, -2) = true := by kernel_rfl
theorem lng_4_33 : chk4At lngB (-2, -1) (-2, -1) = true := by kernel_rfl
theorem lng_4_34 : chk4At lngB (-2, -1) (-1, -3) = true := by kernel_rfl
theorem lng_4_35 : chk4At lngB (-2, -1) (-3, -1) = true := by kernel_rfl
theorem lng_4_40 : chk4At lngB (-1, -3) (0, 0) = true := by kernel_rfl
theorem lng_4_41 : chk4At lngB (-1, -3) (-1, -1) = true := by kernel_rfl
theorem lng_4_42 : chk4At lngB (-1, -3) (-1, -2) = true := by kernel_rfl
theorem lng_4_43 : chk4At lngB (-1, -3) (-2, -1) = true := by kernel_rfl
theorem lng_4_44 : chk4At lngB (-1, -3) (-1, -3) = true := by kernel_rfl
theorem lng_4_45 : chk4At lngB (-1, -3) (-3, -1) = true := by kernel_rfl
theorem lng_4_50 : chk4At lngB (-3, -1) (0, 0) = true := by kernel_rfl
theorem lng_4_51 : chk4At lngB (-3, -1) (-1, -1) = true := by kernel_rfl
theorem lng_4_52 : chk4At lngB (-3, -1) (-1, -2) = true := by kernel_rfl
theorem lng_4_53 : chk4At lngB (-3, -1) (-2, -1) = true := by kernel_rfl
theorem lng_4_54 : chk4At lngB (-3, -1) (-1, -3) = true := by kernel_rfl
theorem lng_4_55 : chk4At lngB (-3, -1) (-3, -1) = true := by kernel_rfl
theorem lng_4 : chk4 lngB = true := by
  rw [chk4_eq]
  simp only [L6, List.all_cons, List.all_nil, Bool.and_true, lng_4_00, lng_4_01, lng_4_02, lng_4_03, lng_4_04, lng_4_05, lng_4_10, lng_4_11, lng_4_12, lng_4_13, lng_4_14, lng_4_15, lng_4_20, lng_4_21, lng_4_22, lng_4_23, lng_4_24, lng_4_25, lng_4_30, lng_4_31, lng_4_32, lng_4_33, lng_4_34, lng_4_35, lng_4_40, lng_4_41, lng_4_42, lng_4_43, lng_4_44, lng_4_45, lng_4_50, lng_4_51, lng_4_52, lng_4_53, lng_4_54, lng_4_55]
theorem lng_fin {c : List (List Int)} (hC : IsC c) (hf : finB c = true) : lngB c = true := fin_all lngB lng_1 lng_2 lng_3 lng_4 hC hf
theorem lng_turn {c : List (List Int)} {long : List Int} {opp : Nat → Nat} (hC : IsC c) (hf : finB c = true) (hL : LongOf c long opp) (h15 : long.length ≤ 15) :
    (∀ r ∈ posL c, signL (actR c long r) = -1) ∧ ∀ i, i < c.length → opp (opp i) = i := by
  have h := lng_fin hC hf
  unfold lngB at h
  rw [hL.norm] at h
  simp only [Bool.or_eq_true, Bool.and_eq_true] at h
  rcases h with h | ⟨h1, h2⟩
  · have := of_decide_eq_true h; omega
  refine ⟨fun r hr => of_decide_eq_true (List.all_eq_true.1 h1 r hr), fun i hi => ?_⟩
  have h3 := List.all_eq_true.1 (List.all_eq_true.1 h2 i (List.mem_range.2 hi)) (opp i) (List.mem_range.2 (hL.opp_lt i hi))
  have h4 := hL.opp_eq i hi
  rw [h4] at h3
  simp at h3
  have h5 := hL.opp_eq (opp i) (hL.opp_lt i hi)
  rw [h3] at h5
  exact (refl_neg_inj hC hi (hL.opp_lt _ (hL.opp_lt i hi))).1 h5.symm
end Go.Proofs.YtldcmhgpppeooaaGreatDoor
