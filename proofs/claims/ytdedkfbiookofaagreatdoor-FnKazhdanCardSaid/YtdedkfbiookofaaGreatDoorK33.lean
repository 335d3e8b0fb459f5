/- The kernel's enumeration, rank 4. -/
import Derived.Test.YtdedkfbiookofaaGreatDoorK29
import Derived.Test.YtdedkfbiookofaaGreatDoorK31
import Derived.Test.YtdedkfbiookofaaGreatDoorK32
namespace Go.Proofs.YtdedkfbiookofaaGreatDoor
set_option maxRecDepth 100000
open Go.RowKit Game
theorem kh_4 : chk4 kh24 = true := by
  rw [chk4_eq]
  simp only [L6, List.all_cons, List.all_nil, Bool.and_true, kh_4_00, kh_4_01, kh_4_02, kh_4_03, kh_4_04, kh_4_05, kh_4_10, kh_4_11, kh_4_12, kh_4_13, kh_4_14, kh_4_15, kh_4_20, kh_4_21, kh_4_22, kh_4_23, kh_4_24, kh_4_25, kh_4_30, kh_4_31, kh_4_32, kh_4_33, kh_4_34, kh_4_35, kh_4_40, kh_4_41, kh_4_42, kh_4_43, kh_4_44, kh_4_45, kh_4_50, kh_4_51, kh_4_52, kh_4_53, kh_4_54, kh_4_55]
theorem kh_fin {c : List (List Int)} (hC : IsC c) (hf : finB c = true) : kh24 c = true := fin_all kh24 kh_1 kh_2 kh_3 kh_4 hC hf
end Go.Proofs.YtdedkfbiookofaaGreatDoor
