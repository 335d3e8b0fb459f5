/- At every finite type the coroots go along with the search for roots: the parts together. Plain law. -/
import Derived.Test.YtmjneokgnnbekaaG35
import Derived.Test.YtmjneokgnnbekaaG36
import Derived.Test.YtmjneokgnnbekaaG37
import Derived.Test.YtmjneokgnnbekaaG38
import Derived.Test.YtmjneokgnnbekaaG39
import Derived.Test.YtmjneokgnnbekaaG40
namespace Go.Proofs.Ytmjneokgnnbekaa
set_option maxRecDepth 100000
theorem co_4 : chk4 coOk = true := by
  rw [chk4_eq]
  simp only [L6, List.all_cons, List.all_nil, Bool.and_true, co_4_00, co_4_01, co_4_02, co_4_03, co_4_04, co_4_05, co_4_10, co_4_11, co_4_12, co_4_13, co_4_14, co_4_15, co_4_20, co_4_21, co_4_22, co_4_23, co_4_24, co_4_25, co_4_30, co_4_31, co_4_32, co_4_33, co_4_34, co_4_35, co_4_40, co_4_41, co_4_42, co_4_43, co_4_44, co_4_45, co_4_50, co_4_51, co_4_52, co_4_53, co_4_54, co_4_55]
theorem co_fin {c : List (List Int)} (hC : IsC c) (hf : finB c = true) : coOk c = true := fin_all coOk co_1 co_2 co_3 co_4 hC hf
end Go.Proofs.Ytmjneokgnnbekaa
