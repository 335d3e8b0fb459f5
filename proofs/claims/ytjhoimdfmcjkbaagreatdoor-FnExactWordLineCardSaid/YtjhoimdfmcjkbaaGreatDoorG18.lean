/- At every finite type the roots found from the simple ones are closed under reflections and small: by enumeration. Plain law. Printed by wip/mkrt.py. Mirrored roots: contracts. -/
import Derived.Test.YtjhoimdfmcjkbaaGreatDoorG10
import Derived.Test.YtjhoimdfmcjkbaaGreatDoorG17
import Derived.Test.YtjhoimdfmcjkbaaGreatDoorG11
import Derived.Deep.RegionWith
namespace Go.Proofs.YtjhoimdfmcjkbaaGreatDoor
set_option maxRecDepth 100000
open Go.RowKit

def negV (r : List Int) : List Int := r.map fun x => -x
def grS (c S : List (List Int)) (k i : Nat) : List (List Int) :=
  let s := mirL c i (S.getD k [])
  if (s.any fun x => decide (x < 0)) || S.contains s then S else S ++ [s]
def grRow (c S : List (List Int)) (k : Nat) : Nat → List (List Int)
  | 0 => S
  | i + 1 => grS c (grRow c S k i) k i
def grGo (c : List (List Int)) : Nat → Nat → List (List Int) → List (List Int)
  | 0, _, S => S
  | f + 1, k, S => if k < S.length then grGo c f (k + 1) (grRow c S k c.length) else S
def rtsL (c : List (List Int)) : List (List Int) := grGo c 25 0 ((List.range c.length).map fun i => simpL c.length i)
def rootAt (c S : List (List Int)) (r : List Int) (i : Nat) : Bool :=
  if r = simpL c.length i then decide (mirL c i r = negV r) && decide (mirL c i (negV r) = r) else S.contains (mirL c i r) && S.contains (negV (mirL c i (negV r)))
def rootsOkS (c S : List (List Int)) : Bool := (S.all fun r => (r.all fun x => decide (0 ≤ x ∧ x ≤ 12)) && (List.range c.length).all fun i => rootAt c S r i) && (List.range c.length).all fun i => S.contains (simpL c.length i)
def rootsOk (c : List (List Int)) : Bool := rootsOkS c (rtsL c)
theorem rt_1 : rootsOk [[2]] = true := by kernel_rfl
theorem rt_2 : chk2 rootsOk = true := by kernel_rfl
theorem rt_3 : chk3 rootsOk = true := by kernel_rfl
theorem rt_4_00 : chk4At rootsOk (0, 0) (0, 0) = true := by kernel_rfl
theorem rt_4_01 : chk4At rootsOk (0, 0) (-1, -1) = true := by kernel_rfl
theorem rt_4_02 : chk4At rootsOk (0, 0) (-1, -2) = true := by kernel_rfl
theorem rt_4_03 : chk4At rootsOk (0, 0) (-2, -1) = true := by kernel_rfl
theorem rt_4_04 : chk4At rootsOk (0, 0) (-1, -3) = true := by kernel_rfl
theorem rt_4_05 : chk4At rootsOk (0, 0) (-3, -1) = true := by kernel_rfl
theorem rt_4_10 : chk4At rootsOk (-1, -1) (0, 0) = true := by kernel_rfl
theorem rt_4_11 : chk4At rootsOk (-1, -1) (-1, -1) = true := by kernel_rfl
theorem rt_4_12 : chk4At rootsOk (-1, -1) (-1, -2) = true := by kernel_rfl
theorem rt_4_13 : chk4At rootsOk (-1, -1) (-2, -1) = true := by kernel_rfl
theorem rt_4_14 : chk4At rootsOk (-1, -1) (-1, -3) = true := by kernel_rfl
theorem rt_4_15 : chk4At rootsOk (-1, -1) (-3, -1) = true := by kernel_rfl
theorem rt_4_20 : chk4At rootsOk (-1, -2) (0, 0) = true := by kernel_rfl
theorem rt_4_21 : chk4At rootsOk (-1, -2) (-1, -1) = true := by kernel_rfl
theorem rt_4_22 : chk4At rootsOk (-1, -2) (-1, -2) = true := by kernel_rfl
theorem rt_4_23 : chk4At rootsOk (-1, -2) (-2, -1) = true := by kernel_rfl
theorem rt_4_24 : chk4At rootsOk (-1, -2) (-1, -3) = true := by kernel_rfl
theorem rt_4_25 : chk4At rootsOk (-1, -2) (-3, -1) = true := by kernel_rfl
theorem rt_4_30 : chk4At rootsOk (-2, -1) (0, 0) = true := by kernel_rfl
theorem rt_4_31 : chk4At rootsOk (-2, -1) (-1, -1) = true := by kernel_rfl
theorem rt_4_32 : chk4At rootsOk (-2, -1) (-1, -2) = true := by kernel_rfl
theorem rt_4_33 : chk4At rootsOk (-2, -1) (-2, -1) = true := by kernel_rfl
theorem rt_4_34 : chk4At rootsOk (-2, -1) (-1, -3) = true := by kernel_rfl
theorem rt_4_35 : chk4At rootsOk (-2, -1) (-3, -1) = true := by kernel_rfl
theorem rt_4_40 : chk4At rootsOk (-1, -3) (0, 0) = true := by kernel_rfl
theorem rt_4_41 : chk4At rootsOk (-1, -3) (-1, -1) = true := by kernel_rfl
theorem rt_4_42 : chk4At rootsOk (-1, -3) (-1, -2) = true := by kernel_rfl
theorem rt_4_43 : chk4At rootsOk (-1, -3) (-2, -1) = true := by kernel_rfl
theorem rt_4_44 : chk4At rootsOk (-1, -3) (-1, -3) = true := by kernel_rfl
theorem rt_4_45 : chk4At rootsOk (-1, -3) (-3, -1) = true := by kernel_rfl
theorem rt_4_50 : chk4At rootsOk (-3, -1) (0, 0) = true := by kernel_rfl
theorem rt_4_51 : chk4At rootsOk (-3, -1) (-1, -1) = true := by kernel_rfl
theorem rt_4_52 : chk4At rootsOk (-3, -1) (-1, -2) = true := by kernel_rfl
theorem rt_4_53 : chk4At rootsOk (-3, -1) (-2, -1) = true := by kernel_rfl
theorem rt_4_54 : chk4At rootsOk (-3, -1) (-1, -3) = true := by kernel_rfl
theorem rt_4_55 : chk4At rootsOk (-3, -1) (-3, -1) = true := by kernel_rfl
theorem rt_4 : chk4 rootsOk = true := by
  rw [chk4_eq]
  simp only [L6, List.all_cons, List.all_nil, Bool.and_true, rt_4_00, rt_4_01, rt_4_02, rt_4_03, rt_4_04, rt_4_05, rt_4_10, rt_4_11, rt_4_12, rt_4_13, rt_4_14, rt_4_15, rt_4_20, rt_4_21, rt_4_22, rt_4_23, rt_4_24, rt_4_25, rt_4_30, rt_4_31, rt_4_32, rt_4_33, rt_4_34, rt_4_35, rt_4_40, rt_4_41, rt_4_42, rt_4_43, rt_4_44, rt_4_45, rt_4_50, rt_4_51, rt_4_52, rt_4_53, rt_4_54, rt_4_55]
theorem rt_fin {c : List (List Int)} (hC : IsC c) (hf : finB c = true) : rootsOk c = true := fin_all rootsOk rt_1 rt_2 rt_3 rt_4 hC hf
end Go.Proofs.YtjhoimdfmcjkbaaGreatDoor
namespace Go.Proofs.YtjhoimdfmcjkbaaGreatDoor
set_option maxRecDepth 100000
open Go.RowKit Game

set_option maxHeartbeats 2000000 in
theorem impl_mirrored_any (gc oc n cc i g o m cp : Nat) (c : List (List Int)) (r : List Int) (w : World) (hn : c.length = n) (hm : r.length = m) (hi : i < c.length) (hir : i < r.length) (hl : r.length ≤ (c.getD i []).length) (hx : (c.getD i []).length ≤ 1048576) (hgc : gc < w.heap.size) (hg : g < w.heap.size) (hc : Rows2 w gc oc c) (hr : Cells w g o r) :
    Calls Tryz.prog 85 #[(Value.slice (some ⟨gc, oc, none⟩) n cc), .int .i64 i, (Value.slice (some ⟨g, o, none⟩) m cp)] w (GotInts w (mirL c i r)) := by
  subst hn; subst hm
  have hrl : r.length ≤ 1048576 := by omega
  have he : mirL c i r = r.set i (wrap64 (r.getD i 0 - pairL (c.getD i []) r)) := rfl
  obtain ⟨ga, oa, ca, q1, q2, q3, q4⟩ := hc i hi
  generalize c.getD i [] = a at *
  have He := Lib.hid he; clear he
  go_enter Tryz.func85, Tryz.ntmps85
  go_wp2_with (at_builtin; refine wpList_clone rfl _ _ rfl g o _ cp r rfl hg hr rfl rfl (by omega) ?_)
  intro g3 c3 w3 ho3 hb3
  have q1' := (hb3.cell (p := ⟨gc, oc + i, none⟩) hgc).trans q1
  have hcall := fun W (hW : ∃ q, W = w3.drewN q) => impl_pairing_any ga oa _ ca g o _ cp a r W rfl rfl hl hx ((q4.below hb3 q3).still hW) ((hr.below hb3 hg).still hW)
  have hc1 := ho3.cell i hir
  have hf1 := ho3.frozen i
  have Hcall := Lib.hid hcall
  generalize pairL a r = p at *
  generalize r.getD i 0 = x at *
  clear hcall hr hc
  have HS : Hid (∀ W, (∃ q, W = w3.drewN q) → GotInts w (mirL c i r) (.returned (Value.slice (some ⟨g3, 0, none⟩) r.length c3)) (W.setCell ⟨g3, i, none⟩ (.int .i64 (wrap64 (x - p))))) := fun W hW => by
    have ho := ho3.still hW
    have hb := below_still hb3 hW
    have hs := ho.set i (wrap64 (x - p))
    rw [← He.out] at hs
    exact GotInts.mk' g3 c3 (mirL_length _ _ _) hs.1 (hb.grown hs.2 hb.size (by intro k hk; cases hk; exact ho.base))
  go_wp2
  go_region_with (go_at_call 97; refine (Hcall.out _ ⟨_, rfl⟩).mono ?_; rintro e w4 ⟨rfl, q, rfl⟩)
  all_goals
    go_wp2
    go_ret
    rw [show IntKind.i64.wrap (x - p) = wrap64 (x - p) by simp only [wrap64, IntKind.wrap_i64]]
    refine HS.out _ ?_
    exact (by first | exact ⟨_, rfl⟩ | exact ⟨0, rfl⟩ | exact still2 _ _ _ | exact still3 _ _ _ _)

set_option maxHeartbeats 2000000 in
theorem spec_l7Reflect_any (gc oc n cc i g o m cp : Nat) (c : List (List Int)) (r : List Int) (w : World) (hn : c.length = n) (hm : r.length = m) (hi : i < c.length) (hir : i < r.length) (hl : r.length ≤ (c.getD i []).length) (hx : (c.getD i []).length ≤ 1048576) (hgc : gc < w.heap.size) (hg : g < w.heap.size) (hc : Rows2 w gc oc c) (hr : Cells w g o r) :
    Calls Tryz.prog 82 #[(Value.slice (some ⟨gc, oc, none⟩) n cc), .int .i64 i, (Value.slice (some ⟨g, o, none⟩) m cp)] w (GotInts w (mirL c i r)) := by
  subst hn; subst hm
  have hrl : r.length ≤ 1048576 := by omega
  have he : mirL c i r = r.set i (wrap64 (r.getD i 0 - dotTo (c.getD i []) r r.length)) := rfl
  obtain ⟨ga, oa, ca, q1, q2, q3, q4⟩ := hc i hi
  generalize c.getD i [] = a at *
  have He := Lib.hid he; clear he
  go_enter Tryz.func82, Tryz.ntmps82
  go_wp2_with (at_builtin; refine wpList_clone rfl _ _ rfl g o _ cp r rfl hg hr rfl rfl (by omega) ?_)
  intro g3 c3 w3 ho3 hb3
  have q1' := (hb3.cell (p := ⟨gc, oc + i, none⟩) hgc).trans q1
  have hr3 := hr.below hb3 hg
  have hq3 := q4.below hb3 q3
  go_wp2
  go_loopw [8, 9] (fun s kv wr => ∃ t q : Nat, t ≤ r.length ∧ kv = .int .i64 t ∧ s = .int .i64 (dotTo a r t) ∧ wr = w3.drewN q) (fun _ kv _ => r.length - (intOf kv).toNat)
  case atStart => exact ⟨0, 0, Nat.zero_le _, rfl, rfl, rfl⟩
  case round =>
    obtain ⟨t, q, ht, rfl, rfl, rfl⟩ := hrel
    by_cases hlt : t < r.length
    · have e1 := hq3 t (by omega)
      have e2 := hr3 t hlt
      have hta : t < a.length := by omega
      have hd : dotTo a r (t + 1) = wrap64 (dotTo a r t + wrap64 (a.getD t 0 * r.getD t 0)) := rfl
      generalize a.getD t 0 = x at *
      generalize r.getD t 0 = y at *
      have Hd := Lib.hid hd; clear hd
      generalize dotTo a r t = z at *
      go_wp2
      go_quiet (fail)
      go_wp2
      go_roundw
      case rel => exact ⟨t + 1, _, by omega, by go_num, by rw [Hd.out], rfl⟩
      case measure => simp [intOf]; omega
    · obtain rfl : t = r.length := by omega
      have e2 := hr3 i hir
      have hc1 := ho3.cell i hir
      have hf1 := ho3.frozen i
      generalize dotTo a r r.length = p at *
      generalize r.getD i 0 = x at *
      have HS : Hid (∀ W, (∃ q, W = w3.drewN q) → GotInts w (mirL c i r) (.returned (Value.slice (some ⟨g3, 0, none⟩) r.length c3)) (W.setCell ⟨g3, i, none⟩ (.int .i64 (wrap64 (x - p))))) := fun W hW => by
        have ho := ho3.still hW
        have hb := below_still hb3 hW
        have hs := ho.set i (wrap64 (x - p))
        rw [← He.out] at hs
        exact GotInts.mk' g3 c3 (mirL_length _ _ _) hs.1 (hb.grown hs.2 hb.size (by intro k hk; cases hk; exact ho.base))
      go_wp2
      go_ret
      refine HS.out _ ?_
      exact (by first | exact ⟨_, rfl⟩ | exact ⟨0, rfl⟩ | exact still2 _ _ _ | exact still3 _ _ _ _)

end Go.Proofs.YtjhoimdfmcjkbaaGreatDoor
