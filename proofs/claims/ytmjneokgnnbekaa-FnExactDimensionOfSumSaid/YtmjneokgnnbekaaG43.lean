/- At every finite type the coroots go along with the search for roots, and the dimension formula gives integers: by enumeration, part 1. Plain law. At every finite type the coroots go along with the search for roots, and the dimension formula gives integers: by enumeration, part 2. Plain law. At every finite type the coroots go along with the search for roots, and the dimension formula gives integers: by enumeration, part 3. Plain law. At every finite type the coroots go along with the search for roots: by enumeration, part 4. Plain law. At every finite type the coroots go along with the search for roots: by enumeration, part 5. Plain law. At every finite type the coroots go along with the search for roots: by enumeration, part 6. Plain law. At every finite type the coroots go along with the search for roots: the parts together. Plain law. -/
import Derived.Test.YtmjneokgnnbekaaG40
namespace Go.Proofs.Ytmjneokgnnbekaa
set_option maxRecDepth 100000
theorem co_1 : coOk [[2]] = true := by kernel_rfl
theorem co_2 : chk2 coOk = true := by kernel_rfl
theorem co_3 : chk3 coOk = true := by kernel_rfl
theorem co_4_02 : chk4At coOk (0, 0) (-1, -2) = true := by kernel_rfl
theorem co_4_03 : chk4At coOk (0, 0) (-2, -1) = true := by kernel_rfl
theorem co_4_04 : chk4At coOk (0, 0) (-1, -3) = true := by kernel_rfl
theorem co_4_05 : chk4At coOk (0, 0) (-3, -1) = true := by kernel_rfl
theorem co_4_11 : chk4At coOk (-1, -1) (-1, -1) = true := by kernel_rfl
theorem co_4_12 : chk4At coOk (-1, -1) (-1, -2) = true := by kernel_rfl
theorem co_4_13 : chk4At coOk (-1, -1) (-2, -1) = true := by kernel_rfl
theorem co_4_14 : chk4At coOk (-1, -1) (-1, -3) = true := by kernel_rfl
theorem co_4_15 : chk4At coOk (-1, -1) (-3, -1) = true := by kernel_rfl
end Go.Proofs.Ytmjneokgnnbekaa
namespace Go.Proofs.Ytmjneokgnnbekaa
set_option maxRecDepth 100000
theorem co_4_20 : chk4At coOk (-1, -2) (0, 0) = true := by kernel_rfl
theorem co_4_21 : chk4At coOk (-1, -2) (-1, -1) = true := by kernel_rfl
theorem co_4_22 : chk4At coOk (-1, -2) (-1, -2) = true := by kernel_rfl
theorem co_4_23 : chk4At coOk (-1, -2) (-2, -1) = true := by kernel_rfl
theorem co_4_24 : chk4At coOk (-1, -2) (-1, -3) = true := by kernel_rfl
theorem co_4_25 : chk4At coOk (-1, -2) (-3, -1) = true := by kernel_rfl
theorem co_4_30 : chk4At coOk (-2, -1) (0, 0) = true := by kernel_rfl
theorem co_4_31 : chk4At coOk (-2, -1) (-1, -1) = true := by kernel_rfl
theorem co_4_32 : chk4At coOk (-2, -1) (-1, -2) = true := by kernel_rfl
theorem co_4_33 : chk4At coOk (-2, -1) (-2, -1) = true := by kernel_rfl
theorem co_4_34 : chk4At coOk (-2, -1) (-1, -3) = true := by kernel_rfl
theorem co_4_35 : chk4At coOk (-2, -1) (-3, -1) = true := by kernel_rfl
end Go.Proofs.Ytmjneokgnnbekaa
namespace Go.Proofs.Ytmjneokgnnbekaa
set_option maxRecDepth 100000
theorem co_4_40 : chk4At coOk (-1, -3) (0, 0) = true := by kernel_rfl
theorem co_4_41 : chk4At coOk (-1, -3) (-1, -1) = true := by kernel_rfl
theorem co_4_42 : chk4At coOk (-1, -3) (-1, -2) = true := by kernel_rfl
theorem co_4_43 : chk4At coOk (-1, -3) (-2, -1) = true := by kernel_rfl
theorem co_4_44 : chk4At coOk (-1, -3) (-1, -3) = true := by kernel_rfl
theorem co_4_45 : chk4At coOk (-1, -3) (-3, -1) = true := by kernel_rfl
theorem co_4_50 : chk4At coOk (-3, -1) (0, 0) = true := by kernel_rfl
theorem co_4_51 : chk4At coOk (-3, -1) (-1, -1) = true := by kernel_rfl
theorem co_4_52 : chk4At coOk (-3, -1) (-1, -2) = true := by kernel_rfl
theorem co_4_53 : chk4At coOk (-3, -1) (-2, -1) = true := by kernel_rfl
theorem co_4_54 : chk4At coOk (-3, -1) (-1, -3) = true := by kernel_rfl
theorem co_4_55 : chk4At coOk (-3, -1) (-3, -1) = true := by kernel_rfl
end Go.Proofs.Ytmjneokgnnbekaa
namespace Go.Proofs.Ytmjneokgnnbekaa
set_option maxRecDepth 100000
theorem co_4_000 : chk4E coOk (0, 0) (0, 0) (0, 0) = true := by kernel_rfl
theorem co_4_001 : chk4E coOk (0, 0) (0, 0) (-1, -1) = true := by kernel_rfl
theorem co_4_002 : chk4E coOk (0, 0) (0, 0) (-1, -2) = true := by kernel_rfl
theorem co_4_003 : chk4E coOk (0, 0) (0, 0) (-2, -1) = true := by kernel_rfl
theorem co_4_004 : chk4E coOk (0, 0) (0, 0) (-1, -3) = true := by kernel_rfl
theorem co_4_005 : chk4E coOk (0, 0) (0, 0) (-3, -1) = true := by kernel_rfl
theorem co_4_00 : chk4At coOk (0, 0) (0, 0) = true := by
  rw [chk4At_eq]
  simp only [L6, List.all_cons, List.all_nil, Bool.and_true, co_4_000, co_4_001, co_4_002, co_4_003, co_4_004, co_4_005]
end Go.Proofs.Ytmjneokgnnbekaa
namespace Go.Proofs.Ytmjneokgnnbekaa
set_option maxRecDepth 100000
theorem co_4_010 : chk4E coOk (0, 0) (-1, -1) (0, 0) = true := by kernel_rfl
theorem co_4_011 : chk4E coOk (0, 0) (-1, -1) (-1, -1) = true := by kernel_rfl
theorem co_4_012 : chk4E coOk (0, 0) (-1, -1) (-1, -2) = true := by kernel_rfl
theorem co_4_013 : chk4E coOk (0, 0) (-1, -1) (-2, -1) = true := by kernel_rfl
theorem co_4_014 : chk4E coOk (0, 0) (-1, -1) (-1, -3) = true := by kernel_rfl
theorem co_4_015 : chk4E coOk (0, 0) (-1, -1) (-3, -1) = true := by kernel_rfl
theorem co_4_01 : chk4At coOk (0, 0) (-1, -1) = true := by
  rw [chk4At_eq]
  simp only [L6, List.all_cons, List.all_nil, Bool.and_true, co_4_010, co_4_011, co_4_012, co_4_013, co_4_014, co_4_015]
end Go.Proofs.Ytmjneokgnnbekaa
namespace Go.Proofs.Ytmjneokgnnbekaa
set_option maxRecDepth 100000
theorem co_4_100 : chk4E coOk (-1, -1) (0, 0) (0, 0) = true := by kernel_rfl
theorem co_4_101 : chk4E coOk (-1, -1) (0, 0) (-1, -1) = true := by kernel_rfl
theorem co_4_102 : chk4E coOk (-1, -1) (0, 0) (-1, -2) = true := by kernel_rfl
theorem co_4_103 : chk4E coOk (-1, -1) (0, 0) (-2, -1) = true := by kernel_rfl
theorem co_4_104 : chk4E coOk (-1, -1) (0, 0) (-1, -3) = true := by kernel_rfl
theorem co_4_105 : chk4E coOk (-1, -1) (0, 0) (-3, -1) = true := by kernel_rfl
theorem co_4_10 : chk4At coOk (-1, -1) (0, 0) = true := by
  rw [chk4At_eq]
  simp only [L6, List.all_cons, List.all_nil, Bool.and_true, co_4_100, co_4_101, co_4_102, co_4_103, co_4_104, co_4_105]
end Go.Proofs.Ytmjneokgnnbekaa
namespace Go.Proofs.Ytmjneokgnnbekaa
set_option maxRecDepth 100000
theorem co_4 : chk4 coOk = true := by
  rw [chk4_eq]
  simp only [L6, List.all_cons, List.all_nil, Bool.and_true, co_4_00, co_4_01, co_4_02, co_4_03, co_4_04, co_4_05, co_4_10, co_4_11, co_4_12, co_4_13, co_4_14, co_4_15, co_4_20, co_4_21, co_4_22, co_4_23, co_4_24, co_4_25, co_4_30, co_4_31, co_4_32, co_4_33, co_4_34, co_4_35, co_4_40, co_4_41, co_4_42, co_4_43, co_4_44, co_4_45, co_4_50, co_4_51, co_4_52, co_4_53, co_4_54, co_4_55]
theorem co_fin {c : List (List Int)} (hC : IsC c) (hf : finB c = true) : coOk c = true := fin_all coOk co_1 co_2 co_3 co_4 hC hf
end Go.Proofs.Ytmjneokgnnbekaa
