/-
  PROVED HERE: the law FnExactFilterSizes returns true for every input and leaves its arguments as they were. CONDITIONS: none beyond the given row's own.
-/
import Derived.Test.YtihfbbpkgmkbcaaRows
import Derived.Test.YtihfbbpkgmkbcaaG10
import Derived.Test.YtihfbbpkgmkbcaaG11
import Derived.Test.YtihfbbpkgmkbcaaG50
import Derived.WalkKit
import Derived.ProofKit
import Derived.OpenShut
import Derived.ChangeOld
import Derived.Below
namespace Go.Proofs.Ytihfbbpkgmkbcaa.fnExactFilterSizes
open Go.ChangeShapes Go.WideShapes Go.ChangeAt Go.RowKit
open Go.Proofs.Ytihfbbpkgmkbcaa
set_option linter.unusedVariables false
set_option maxRecDepth 100000

theorem own : ownKnob Try.prog.godebug = none := by kernel_rfl
theorem laidOut : laidOutB Try.prog = true := by kernel_rfl

set_option maxHeartbeats 4000000 in
theorem walk (a0 : Option Addr) (c0 : Nat) (x0 : List (List Int)) (a1 : Option Addr) (c1 : Nat) (x1 : List Int) (a2 : Option Addr) (c2 : Nat) (x2 : List Int) (w : World) (ax0 : Hid (ArgRows w a0 x0)) (nx0 : x0.length ≤ maxLen) (rx0 : Hid (∀ j, j < x0.length → (x0.getD j []).length ≤ maxLen)) (ax1 : Hid (ArgInts w a1 x1)) (nx1 : x1.length ≤ maxLen) (ax2 : Hid (ArgInts w a2 x2)) (nx2 : x2.length ≤ maxLen) :
    Calls Try.prog 5 #[.slice a0 x0.length c0, .slice a1 x1.length c1, .slice a2 x2.length c2] w fun e w' => e = .returned (.bool true) ∧ Below w.heap.size w w' := by
  by_cases hx1 : 1048576 < x1.length
  · have hbig : (1048576 : Int) < (x1.length : Int) := by omega
    go_enter Try.func5, Try.ntmps5
    go_wp2_with fail
    go_ret
    exact ⟨rfl, Below.refl _ _⟩
  have few1 : x1.length ≤ 1048576 := by omega
  by_cases hx2 : 1048576 < x2.length
  · have hbig : (1048576 : Int) < (x2.length : Int) := by omega
    go_enter Try.func5, Try.ntmps5
    go_wp2_with fail
    go_ret
    exact ⟨rfl, Below.refl _ _⟩
  have few2 : x2.length ≤ 1048576 := by omega
  go_enter Try.func5, Try.ntmps5
  have hB : Below w.heap.size w w := Below.refl _ _
  go_wp2_with fail
  refine (szIntSS_h _ _ x0 1048576 _ ⟨by omega, by omega⟩ nx0 rx0.out (ax0.out.below hB)).mono ?_
  rintro e s1 ⟨L1, rfl, hL1, hz1⟩
  have hB := hB.trans (hz1.mono hB.size)
  have HL1 := Lib.hid hL1; clear hL1
  by_cases hneg1 : L1 < 0
  · go_wp2_with fail
    go_ret
    exact ⟨rfl, hB⟩
  obtain ⟨few0, hl1⟩ := HL1.out (by omega)
  have fewM : (fltL x0 x1 x2).length ≤ 1048576 := fltL_few x0 x1 x2
  have hcnt0 : cntR x0 ≤ 1048576 := few0.2.2
  go_wp2_with fail
  refine (toIntSS_h _ _ x0 _ few0 (ax0.out.below hB)).mono ?_
  rintro e v1 ⟨g1, c1, rfl, ho1, hb1⟩
  have bs1 := hB.size
  have hB := hB.trans (hb1.mono hB.size)
  have he1 := Nat.le_refl v1.heap.size
  go_wp2_with fail
  refine (toIntS_h _ _ x1 _ few1 (ax1.out.below hB)).mono ?_
  rintro e v2 ⟨g2, c2, rfl, ho2, hb2⟩
  have d1_2 := he1
  have bs2 := hB.size
  have ho1 := ho1.below hb2 he1; have he1 := Nat.le_trans he1 hb2.size
  have hB := hB.trans (hb2.mono hB.size)
  have he2 := Nat.le_refl v2.heap.size
  go_wp2_with fail
  refine (toIntS_h _ _ x2 _ few2 (ax2.out.below hB)).mono ?_
  rintro e v3 ⟨g3, c3, rfl, ho3, hb3⟩
  have d1_3 := he1
  have d2_3 := he2
  have bs3 := hB.size
  have ho1 := ho1.below hb3 he1; have he1 := Nat.le_trans he1 hb3.size
  have ho2 := ho2.below hb3 he2; have he2 := Nat.le_trans he2 hb3.size
  have hB := hB.trans (hb3.mono hB.size)
  have he3 := Nat.le_refl v3.heap.size
  go_wp2_with fail
  refine ((spec_FilterSizes_ok g1 0 _ c1 g2 0 _ c2 g3 0 _ c3 x0 x1 x2 _ rfl rfl rfl few0.1 few0.2.1 few1 few2 ho2.capLe ho2.1.capMax ho1.lt ho2.lt ho3.lt ho1.rows2 ho2.cells ho3.cells).mono (fun _ _ h => GotInts.held h)).mono ?_
  rintro e v4 ⟨g4, c4, rfl, ho4, hb4⟩
  have d1_4 := he1
  have d2_4 := he2
  have d3_4 := he3
  have bs4 := hB.size
  have ho1 := ho1.below hb4 he1; have he1 := Nat.le_trans he1 hb4.size
  have ho2 := ho2.below hb4 he2; have he2 := Nat.le_trans he2 hb4.size
  have ho3 := ho3.below hb4 he3; have he3 := Nat.le_trans he3 hb4.size
  have hB := hB.trans (hb4.mono hB.size)
  have he4 := Nat.le_refl v4.heap.size
  clear ho1
  clear ho2
  clear ho3
  go_wp2_with fail
  refine (toIntSS_h _ _ x0 _ few0 (ax0.out.below hB)).mono ?_
  rintro e v5 ⟨g5, c5, rfl, ho5, hb5⟩
  have d4_5 := he4
  have bs5 := hB.size
  have ho4 := ho4.below hb5 he4; have he4 := Nat.le_trans he4 hb5.size
  have hB := hB.trans (hb5.mono hB.size)
  have he5 := Nat.le_refl v5.heap.size
  go_wp2_with fail
  refine (toIntS_h _ _ x1 _ few1 (ax1.out.below hB)).mono ?_
  rintro e v6 ⟨g6, c6, rfl, ho6, hb6⟩
  have d4_6 := he4
  have d5_6 := he5
  have bs6 := hB.size
  have ho4 := ho4.below hb6 he4; have he4 := Nat.le_trans he4 hb6.size
  have ho5 := ho5.below hb6 he5; have he5 := Nat.le_trans he5 hb6.size
  have hB := hB.trans (hb6.mono hB.size)
  have he6 := Nat.le_refl v6.heap.size
  go_wp2_with fail
  refine (toIntS_h _ _ x2 _ few2 (ax2.out.below hB)).mono ?_
  rintro e v7 ⟨g7, c7, rfl, ho7, hb7⟩
  have d4_7 := he4
  have d5_7 := he5
  have d6_7 := he6
  have bs7 := hB.size
  have ho4 := ho4.below hb7 he4; have he4 := Nat.le_trans he4 hb7.size
  have ho5 := ho5.below hb7 he5; have he5 := Nat.le_trans he5 hb7.size
  have ho6 := ho6.below hb7 he6; have he6 := Nat.le_trans he6 hb7.size
  have hB := hB.trans (hb7.mono hB.size)
  have he7 := Nat.le_refl v7.heap.size
  go_wp2_with fail
  refine ((impl_FilterSizes_ok g5 0 _ c5 g6 0 _ c6 g7 0 _ c7 x0 x1 x2 _ rfl rfl rfl few0.1 few0.2.1 few1 few2 ho6.capLe ho6.1.capMax ho5.lt ho6.lt ho7.lt ho5.rows2 ho6.cells ho7.cells).mono (fun _ _ h => GotInts.held h)).mono ?_
  rintro e v8 ⟨g8, c8, rfl, ho8, hb8⟩
  have d4_8 := he4
  have d5_8 := he5
  have d6_8 := he6
  have d7_8 := he7
  have bs8 := hB.size
  have ho4 := ho4.below hb8 he4; have he4 := Nat.le_trans he4 hb8.size
  have ho5 := ho5.below hb8 he5; have he5 := Nat.le_trans he5 hb8.size
  have ho6 := ho6.below hb8 he6; have he6 := Nat.le_trans he6 hb8.size
  have ho7 := ho7.below hb8 he7; have he7 := Nat.le_trans he7 hb8.size
  have hB := hB.trans (hb8.mono hB.size)
  have he8 := Nat.le_refl v8.heap.size
  go_wp2_with fail
  refine (eqIntS_h fewM ho8 ho4).mono ?_
  rintro e v9 ⟨rfl, hb9⟩
  have ho4 := ho4.below hb9 he4; have he4 := Nat.le_trans he4 hb9.size
  have ho5 := ho5.below hb9 he5; have he5 := Nat.le_trans he5 hb9.size
  have ho6 := ho6.below hb9 he6; have he6 := Nat.le_trans he6 hb9.size
  have ho7 := ho7.below hb9 he7; have he7 := Nat.le_trans he7 hb9.size
  have ho8 := ho8.below hb9 he8; have he8 := Nat.le_trans he8 hb9.size
  have hB := hB.trans (hb9.mono hB.size)
  go_wp2_with fail
  refine (toIntSS_h _ _ x0 _ few0 (ax0.out.below hB)).mono ?_
  rintro e v10 ⟨g10, c10, rfl, ho10, hb10⟩
  have d4_10 := he4
  have d5_10 := he5
  have d6_10 := he6
  have d7_10 := he7
  have d8_10 := he8
  have bs10 := hB.size
  have ho4 := ho4.below hb10 he4; have he4 := Nat.le_trans he4 hb10.size
  have ho5 := ho5.below hb10 he5; have he5 := Nat.le_trans he5 hb10.size
  have ho6 := ho6.below hb10 he6; have he6 := Nat.le_trans he6 hb10.size
  have ho7 := ho7.below hb10 he7; have he7 := Nat.le_trans he7 hb10.size
  have ho8 := ho8.below hb10 he8; have he8 := Nat.le_trans he8 hb10.size
  have hB := hB.trans (hb10.mono hB.size)
  have he10 := Nat.le_refl v10.heap.size
  go_wp2_with fail
  refine (eqIntSS_h few0 ho5 ho10).mono ?_
  rintro e v11 ⟨rfl, hb11⟩
  have ho4 := ho4.below hb11 he4; have he4 := Nat.le_trans he4 hb11.size
  have ho5 := ho5.below hb11 he5; have he5 := Nat.le_trans he5 hb11.size
  have ho6 := ho6.below hb11 he6; have he6 := Nat.le_trans he6 hb11.size
  have ho7 := ho7.below hb11 he7; have he7 := Nat.le_trans he7 hb11.size
  have ho8 := ho8.below hb11 he8; have he8 := Nat.le_trans he8 hb11.size
  have ho10 := ho10.below hb11 he10; have he10 := Nat.le_trans he10 hb11.size
  have hB := hB.trans (hb11.mono hB.size)
  clear ho10
  go_wp2_with fail
  refine (toIntS_h _ _ x1 _ few1 (ax1.out.below hB)).mono ?_
  rintro e v12 ⟨g12, c12, rfl, ho12, hb12⟩
  have d4_12 := he4
  have d5_12 := he5
  have d6_12 := he6
  have d7_12 := he7
  have d8_12 := he8
  have bs12 := hB.size
  have ho4 := ho4.below hb12 he4; have he4 := Nat.le_trans he4 hb12.size
  have ho5 := ho5.below hb12 he5; have he5 := Nat.le_trans he5 hb12.size
  have ho6 := ho6.below hb12 he6; have he6 := Nat.le_trans he6 hb12.size
  have ho7 := ho7.below hb12 he7; have he7 := Nat.le_trans he7 hb12.size
  have ho8 := ho8.below hb12 he8; have he8 := Nat.le_trans he8 hb12.size
  have hB := hB.trans (hb12.mono hB.size)
  have he12 := Nat.le_refl v12.heap.size
  go_wp2_with fail
  refine (eqIntS_h few1 ho6 ho12).mono ?_
  rintro e v13 ⟨rfl, hb13⟩
  have ho4 := ho4.below hb13 he4; have he4 := Nat.le_trans he4 hb13.size
  have ho5 := ho5.below hb13 he5; have he5 := Nat.le_trans he5 hb13.size
  have ho6 := ho6.below hb13 he6; have he6 := Nat.le_trans he6 hb13.size
  have ho7 := ho7.below hb13 he7; have he7 := Nat.le_trans he7 hb13.size
  have ho8 := ho8.below hb13 he8; have he8 := Nat.le_trans he8 hb13.size
  have ho12 := ho12.below hb13 he12; have he12 := Nat.le_trans he12 hb13.size
  have hB := hB.trans (hb13.mono hB.size)
  clear ho12
  go_wp2_with fail
  refine (toIntS_h _ _ x2 _ few2 (ax2.out.below hB)).mono ?_
  rintro e v14 ⟨g14, c14, rfl, ho14, hb14⟩
  have d4_14 := he4
  have d5_14 := he5
  have d6_14 := he6
  have d7_14 := he7
  have d8_14 := he8
  have bs14 := hB.size
  have ho4 := ho4.below hb14 he4; have he4 := Nat.le_trans he4 hb14.size
  have ho5 := ho5.below hb14 he5; have he5 := Nat.le_trans he5 hb14.size
  have ho6 := ho6.below hb14 he6; have he6 := Nat.le_trans he6 hb14.size
  have ho7 := ho7.below hb14 he7; have he7 := Nat.le_trans he7 hb14.size
  have ho8 := ho8.below hb14 he8; have he8 := Nat.le_trans he8 hb14.size
  have hB := hB.trans (hb14.mono hB.size)
  have he14 := Nat.le_refl v14.heap.size
  go_wp2_with fail
  refine (eqIntS_h few2 ho7 ho14).mono ?_
  rintro e v15 ⟨rfl, hb15⟩
  have ho4 := ho4.below hb15 he4; have he4 := Nat.le_trans he4 hb15.size
  have ho5 := ho5.below hb15 he5; have he5 := Nat.le_trans he5 hb15.size
  have ho6 := ho6.below hb15 he6; have he6 := Nat.le_trans he6 hb15.size
  have ho7 := ho7.below hb15 he7; have he7 := Nat.le_trans he7 hb15.size
  have ho8 := ho8.below hb15 he8; have he8 := Nat.le_trans he8 hb15.size
  have ho14 := ho14.below hb15 he14; have he14 := Nat.le_trans he14 hb15.size
  have hB := hB.trans (hb15.mono hB.size)
  clear ho14
  go_wp2_with fail
  refine (markIntSS_h (1) _ _ (by simp) few0 (by omega) ho5).mono ?_
  rintro e v16 ⟨rfl, hm16, hg16⟩
  have ho4 := ho4.only hg16 (.inl d4_5); have he4 := Nat.le_trans he4 hg16.size
  have ho6 := ho6.only hg16 (.inr d5_6); have he6 := Nat.le_trans he6 hg16.size
  have ho7 := ho7.only hg16 (.inr d5_7); have he7 := Nat.le_trans he7 hg16.size
  have ho8 := ho8.only hg16 (.inr d5_8); have he8 := Nat.le_trans he8 hg16.size
  have he5 := Nat.le_trans he5 hg16.size
  have hB := Below.only hB hg16 (by have := bs5; omega) (Nat.le_refl _)
  clear ho5; have ho5 := hm16; clear hm16
  go_wp2_with fail
  refine (markIntS_h (1 + cntR x0) _ _ (by simp) few1 (by omega) ho6).mono ?_
  rintro e v17 ⟨rfl, hm17, hg17⟩
  have ho4 := ho4.only hg17 (.inl d4_6); have he4 := Nat.le_trans he4 hg17.size
  have ho5 := ho5.only hg17 (.inl d5_6); have he5 := Nat.le_trans he5 hg17.size
  have ho7 := ho7.only hg17 (.inr d6_7); have he7 := Nat.le_trans he7 hg17.size
  have ho8 := ho8.only hg17 (.inr d6_8); have he8 := Nat.le_trans he8 hg17.size
  have he6 := Nat.le_trans he6 hg17.size
  have hB := Below.only hB hg17 (by have := bs6; omega) (Nat.le_refl _)
  clear ho6; have ho6 := hm17; clear hm17
  go_wp2_with fail
  refine (markIntS_h (1 + cntR x0 + (x1).length) _ _ (by simp) few2 (by omega) ho7).mono ?_
  rintro e v18 ⟨rfl, hm18, hg18⟩
  have ho4 := ho4.only hg18 (.inl d4_7); have he4 := Nat.le_trans he4 hg18.size
  have ho5 := ho5.only hg18 (.inl d5_7); have he5 := Nat.le_trans he5 hg18.size
  have ho6 := ho6.only hg18 (.inl d6_7); have he6 := Nat.le_trans he6 hg18.size
  have ho8 := ho8.only hg18 (.inr d7_8); have he8 := Nat.le_trans he8 hg18.size
  have he7 := Nat.le_trans he7 hg18.size
  have hB := Below.only hB hg18 (by have := bs7; omega) (Nat.le_refl _)
  clear ho7; have ho7 := hm18; clear hm18
  go_wp2_with fail
  refine (eqIntS_h fewM ho8 ho4).mono ?_
  rintro e v19 ⟨rfl, hb19⟩
  have ho4 := ho4.below hb19 he4; have he4 := Nat.le_trans he4 hb19.size
  have ho5 := ho5.below hb19 he5; have he5 := Nat.le_trans he5 hb19.size
  have ho6 := ho6.below hb19 he6; have he6 := Nat.le_trans he6 hb19.size
  have ho7 := ho7.below hb19 he7; have he7 := Nat.le_trans he7 hb19.size
  have ho8 := ho8.below hb19 he8; have he8 := Nat.le_trans he8 hb19.size
  have hB := hB.trans (hb19.mono hB.size)
  go_wp2_with fail
  refine (markIntS_h (1) _ _ (by simp) fewM (by omega) ho8).mono ?_
  rintro e v20 ⟨rfl, hm20, hg20⟩
  have ho4 := ho4.only hg20 (.inl d4_8); have he4 := Nat.le_trans he4 hg20.size
  have ho5 := ho5.only hg20 (.inl d5_8); have he5 := Nat.le_trans he5 hg20.size
  have ho6 := ho6.only hg20 (.inl d6_8); have he6 := Nat.le_trans he6 hg20.size
  have ho7 := ho7.only hg20 (.inl d7_8); have he7 := Nat.le_trans he7 hg20.size
  have he8 := Nat.le_trans he8 hg20.size
  have hB := Below.only hB hg20 (by have := bs8; omega) (Nat.le_refl _)
  clear ho8; have ho8 := hm20; clear hm20
  go_wp2_with fail
  refine (heldIntS_h 1 _ _ (by simp) fewM (by omega) ho8).mono ?_
  rintro e v21 ⟨rfl, hb21⟩
  have ho4 := ho4.below hb21 he4; have he4 := Nat.le_trans he4 hb21.size
  have ho5 := ho5.below hb21 he5; have he5 := Nat.le_trans he5 hb21.size
  have ho6 := ho6.below hb21 he6; have he6 := Nat.le_trans he6 hb21.size
  have ho7 := ho7.below hb21 he7; have he7 := Nat.le_trans he7 hb21.size
  have ho8 := ho8.below hb21 he8; have he8 := Nat.le_trans he8 hb21.size
  have hB := hB.trans (hb21.mono hB.size)
  go_wp2_with fail
  refine (toIntSS_h _ _ x0 _ few0 (ax0.out.below hB)).mono ?_
  rintro e v22 ⟨g22, c22, rfl, ho22, hb22⟩
  have d4_22 := he4
  have d5_22 := he5
  have d6_22 := he6
  have d7_22 := he7
  have d8_22 := he8
  have bs22 := hB.size
  have ho4 := ho4.below hb22 he4; have he4 := Nat.le_trans he4 hb22.size
  have ho5 := ho5.below hb22 he5; have he5 := Nat.le_trans he5 hb22.size
  have ho6 := ho6.below hb22 he6; have he6 := Nat.le_trans he6 hb22.size
  have ho7 := ho7.below hb22 he7; have he7 := Nat.le_trans he7 hb22.size
  have ho8 := ho8.below hb22 he8; have he8 := Nat.le_trans he8 hb22.size
  have hB := hB.trans (hb22.mono hB.size)
  have he22 := Nat.le_refl v22.heap.size
  go_wp2_with fail
  refine (toIntS_h _ _ x1 _ few1 (ax1.out.below hB)).mono ?_
  rintro e v23 ⟨g23, c23, rfl, ho23, hb23⟩
  have d4_23 := he4
  have d5_23 := he5
  have d6_23 := he6
  have d7_23 := he7
  have d8_23 := he8
  have d22_23 := he22
  have bs23 := hB.size
  have ho4 := ho4.below hb23 he4; have he4 := Nat.le_trans he4 hb23.size
  have ho5 := ho5.below hb23 he5; have he5 := Nat.le_trans he5 hb23.size
  have ho6 := ho6.below hb23 he6; have he6 := Nat.le_trans he6 hb23.size
  have ho7 := ho7.below hb23 he7; have he7 := Nat.le_trans he7 hb23.size
  have ho8 := ho8.below hb23 he8; have he8 := Nat.le_trans he8 hb23.size
  have ho22 := ho22.below hb23 he22; have he22 := Nat.le_trans he22 hb23.size
  have hB := hB.trans (hb23.mono hB.size)
  have he23 := Nat.le_refl v23.heap.size
  go_wp2_with fail
  refine (toIntS_h _ _ x2 _ few2 (ax2.out.below hB)).mono ?_
  rintro e v24 ⟨g24, c24, rfl, ho24, hb24⟩
  have d4_24 := he4
  have d5_24 := he5
  have d6_24 := he6
  have d7_24 := he7
  have d8_24 := he8
  have d22_24 := he22
  have d23_24 := he23
  have bs24 := hB.size
  have ho4 := ho4.below hb24 he4; have he4 := Nat.le_trans he4 hb24.size
  have ho5 := ho5.below hb24 he5; have he5 := Nat.le_trans he5 hb24.size
  have ho6 := ho6.below hb24 he6; have he6 := Nat.le_trans he6 hb24.size
  have ho7 := ho7.below hb24 he7; have he7 := Nat.le_trans he7 hb24.size
  have ho8 := ho8.below hb24 he8; have he8 := Nat.le_trans he8 hb24.size
  have ho22 := ho22.below hb24 he22; have he22 := Nat.le_trans he22 hb24.size
  have ho23 := ho23.below hb24 he23; have he23 := Nat.le_trans he23 hb24.size
  have hB := hB.trans (hb24.mono hB.size)
  have he24 := Nat.le_refl v24.heap.size
  go_wp2_with fail
  refine ((impl_FilterSizes_ok g22 0 _ c22 g23 0 _ c23 g24 0 _ c24 x0 x1 x2 _ rfl rfl rfl few0.1 few0.2.1 few1 few2 ho23.capLe ho23.1.capMax ho22.lt ho23.lt ho24.lt ho22.rows2 ho23.cells ho24.cells).mono (fun _ _ h => GotInts.held h)).mono ?_
  rintro e v25 ⟨g25, c25, rfl, ho25, hb25⟩
  have d4_25 := he4
  have d5_25 := he5
  have d6_25 := he6
  have d7_25 := he7
  have d8_25 := he8
  have d22_25 := he22
  have d23_25 := he23
  have d24_25 := he24
  have bs25 := hB.size
  have ho4 := ho4.below hb25 he4; have he4 := Nat.le_trans he4 hb25.size
  have ho5 := ho5.below hb25 he5; have he5 := Nat.le_trans he5 hb25.size
  have ho6 := ho6.below hb25 he6; have he6 := Nat.le_trans he6 hb25.size
  have ho7 := ho7.below hb25 he7; have he7 := Nat.le_trans he7 hb25.size
  have ho8 := ho8.below hb25 he8; have he8 := Nat.le_trans he8 hb25.size
  have ho22 := ho22.below hb25 he22; have he22 := Nat.le_trans he22 hb25.size
  have ho23 := ho23.below hb25 he23; have he23 := Nat.le_trans he23 hb25.size
  have ho24 := ho24.below hb25 he24; have he24 := Nat.le_trans he24 hb25.size
  have hB := hB.trans (hb25.mono hB.size)
  have he25 := Nat.le_refl v25.heap.size
  go_wp2_with fail
  refine (eqIntS_h fewM ho25 ho4).mono ?_
  rintro e v26 ⟨rfl, hb26⟩
  have ho4 := ho4.below hb26 he4; have he4 := Nat.le_trans he4 hb26.size
  have ho5 := ho5.below hb26 he5; have he5 := Nat.le_trans he5 hb26.size
  have ho6 := ho6.below hb26 he6; have he6 := Nat.le_trans he6 hb26.size
  have ho7 := ho7.below hb26 he7; have he7 := Nat.le_trans he7 hb26.size
  have ho8 := ho8.below hb26 he8; have he8 := Nat.le_trans he8 hb26.size
  have ho22 := ho22.below hb26 he22; have he22 := Nat.le_trans he22 hb26.size
  have ho23 := ho23.below hb26 he23; have he23 := Nat.le_trans he23 hb26.size
  have ho24 := ho24.below hb26 he24; have he24 := Nat.le_trans he24 hb26.size
  have ho25 := ho25.below hb26 he25; have he25 := Nat.le_trans he25 hb26.size
  have hB := hB.trans (hb26.mono hB.size)
  go_wp2_with fail
  refine (heldIntS_h 1 _ _ (by simp) fewM (by omega) ho8).mono ?_
  rintro e v27 ⟨rfl, hb27⟩
  have ho4 := ho4.below hb27 he4; have he4 := Nat.le_trans he4 hb27.size
  have ho5 := ho5.below hb27 he5; have he5 := Nat.le_trans he5 hb27.size
  have ho6 := ho6.below hb27 he6; have he6 := Nat.le_trans he6 hb27.size
  have ho7 := ho7.below hb27 he7; have he7 := Nat.le_trans he7 hb27.size
  have ho8 := ho8.below hb27 he8; have he8 := Nat.le_trans he8 hb27.size
  have ho22 := ho22.below hb27 he22; have he22 := Nat.le_trans he22 hb27.size
  have ho23 := ho23.below hb27 he23; have he23 := Nat.le_trans he23 hb27.size
  have ho24 := ho24.below hb27 he24; have he24 := Nat.le_trans he24 hb27.size
  have ho25 := ho25.below hb27 he25; have he25 := Nat.le_trans he25 hb27.size
  have hB := hB.trans (hb27.mono hB.size)
  go_wp2_with fail
  go_ret
  exact ⟨rfl, hB⟩

theorem lifted (os : Os) (started : os.Started) (H : Type) (enc : TypeId × Value → H) :
    ReturnsInHanded {} Try.checked os 5 .any (Rows.fnExactFilterSizesSpec.pre6 enc Try.prog Try.f5 Rows.fnExactFilterSizesRow.domain false) (Rows.fnExactFilterSizesSpec.post enc Try.prog Try.f5 false true false false) := by
  refine returnsInHanded_of_change (C := Try.checked) own started (by kernel_rfl) Try.func5
    (ChangeSpec.witness6 (enc := enc) (C := Try.checked) false ⟨#[], #[.slice none 0 0, .slice none 0 0, .slice none 0 0], []⟩ 8 (by kernel_rfl) (by kernel_rfl) (by kernel_rfl) (by kernel_rfl)) ?_
  intro W base args ds gs before hval0 hW hcnd _
  have hval : ∀ (j : Nat) t v, Try.f5.params[j]? = some t → args[j]? = some v → Value.okWide Try.prog W .any base t v := hval0
  have hW' := hW
  obtain ⟨p, q, hA0, hV, rfl, hfz, hnd⟩ := hW
  have hA : DataW.TrodAll enc Try.prog W 0 (fun _ => true) true Try.f5.params.toList args.toList ds p := hA0
  rw [Try.params5] at hA hval
  obtain ⟨v0, vs0, d0, ds0, p0, q0, hargs, rfl, rfl, h0, r0⟩ := trodAll_cons hA
  obtain ⟨v1, vs1, d1, ds1, p1, q1, rfl, rfl, rfl, h1, r1⟩ := trodAll_cons r0
  obtain ⟨v2, vs2, d2, ds2, p2, q2, rfl, rfl, rfl, h2, r2⟩ := trodAll_cons r1
  obtain ⟨rfl, rfl, rfl⟩ := trodAll_nil r2
  obtain rfl : args = #[v0, v1, v2] := by cases args; simp_all
  obtain ⟨rfl, rfl⟩ := trodVars_none hV
  have k0 := h0
  have k1 := h1
  have k2 := h2
  have lt0 : ∀ x ∈ p0, x.block < W.heap.size := by obtain ⟨m, hm⟩ := k0; exact DataW.trod_lt m _ _ _ hm
  have lt1 : ∀ x ∈ p1, x.block < W.heap.size := by obtain ⟨m, hm⟩ := k1; exact DataW.trod_lt m _ _ _ hm
  have lt2 : ∀ x ∈ p2, x.block < W.heap.size := by obtain ⟨m, hm⟩ := k2; exact DataW.trod_lt m _ _ _ hm
  obtain ⟨a0, c0, x0, rfl, ax0, nx0, rx0⟩ := argRows_at (hval 0 22 v0 rfl rfl) h0
  obtain ⟨a1, c1, x1, rfl, ax1, nx1⟩ := argInts_at (hval 1 35 v1 rfl rfl) h1
  obtain ⟨a2, c2, x2, rfl, ax2, nx2⟩ := argInts_at (hval 2 35 v2 rfl rfl) h2
  clear hA0 hval0
  refine (walk a0 c0 x0 a1 c1 x1 a2 c2 x2 W ax0 nx0 rx0 ax1 nx1 ax2 nx2).mono fun e W' ⟨he, bel⟩ => ?_
  subst he
  exact ⟨_, rfl, _, _, _, [], _, [], hW', trodAll_mk1 (shut_bool Try.underlying4 _), (trodAll_cons_mk (Below.trod laidOut (by kernel_rfl) (of_decide_eq_true (by kernel_rfl)) k0 bel lt0) (trodAll_cons_mk (Below.trod laidOut (by kernel_rfl) (of_decide_eq_true (by kernel_rfl)) k1 bel lt1) (trodAll_cons_mk (Below.trod laidOut (by kernel_rfl) (of_decide_eq_true (by kernel_rfl)) k2 bel lt2) trodAll_mk0))), rfl, bel.frame _, fun h => by cases h⟩

theorem over : Rows.fnExactFilterSizesRow.holds Try.pinned (OpenSpec.ofChange Rows.fnExactFilterSizesSpec) :=
  OpenClaim.holds_of_wide 5 Try.f5 rfl rfl rfl rfl rfl rfl rfl ⟨rfl, rfl, rfl, rfl, rfl⟩ rfl rfl rfl rfl rfl (by kernel_rfl) Try.func5 (by kernel_rfl)
    (of_decide_eq_true (by kernel_rfl)) (by unfold Func.isWrapper; first | (rw [if_pos (by decide +kernel)]; kernel_rfl) | (rw [if_neg (by decide +kernel)]; exact ⟨rfl, rfl⟩))
    (fun os started H enc _ => lifted os started H enc)

/-- THE STATEMENT -/
theorem proved : Rows.FnExactFilterSizesSaid := over
#print axioms proved
end Go.Proofs.Ytihfbbpkgmkbcaa.fnExactFilterSizes
