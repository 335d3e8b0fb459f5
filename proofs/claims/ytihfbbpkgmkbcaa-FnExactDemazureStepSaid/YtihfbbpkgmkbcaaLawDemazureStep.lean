/-
  PROVED HERE: the law FnExactDemazureStep returns true for every input and leaves its arguments as they were. CONDITIONS: none beyond the given row's own.
-/
import Derived.Test.YtihfbbpkgmkbcaaRows
import Derived.Test.YtihfbbpkgmkbcaaG11
import Derived.Test.YtihfbbpkgmkbcaaG12
import Derived.Test.YtihfbbpkgmkbcaaG47
import Derived.Test.YtihfbbpkgmkbcaaG50
import Derived.WalkKit
import Derived.ProofKit
import Derived.OpenShut
import Derived.ChangeOld
import Derived.Below
namespace Go.Proofs.Ytihfbbpkgmkbcaa.fnExactDemazureStep
open Go.ChangeShapes Go.WideShapes Go.ChangeAt Go.RowKit
open Go.Proofs.Ytihfbbpkgmkbcaa
set_option linter.unusedVariables false
set_option maxRecDepth 100000

theorem own : ownKnob Try.prog.godebug = none := by kernel_rfl
theorem laidOut : laidOutB Try.prog = true := by kernel_rfl

set_option maxHeartbeats 4000000 in
theorem walk (a0 : Option Addr) (c0 : Nat) (x0 : List (List Int)) (x1 : Int) (a2 : Option Addr) (c2 : Nat) (x2 : List Wt) (w : World) (ax0 : Hid (ArgRows w a0 x0)) (nx0 : x0.length ≤ maxLen) (rx0 : Hid (∀ j, j < x0.length → (x0.getD j []).length ≤ maxLen)) (wx1 : (Lit.int .i64 x1).wf = true) (ax2 : Hid (ArgWts w a2 x2)) (nx2 : x2.length ≤ maxLen) (rx2 : Hid (∀ j, j < x2.length → (wOf x2 j).length ≤ maxLen)) :
    Calls Try.prog 3 #[.slice a0 x0.length c0, .int .i64 x1, .slice a2 x2.length c2] w fun e w' => e = .returned (.bool true) ∧ Below w.heap.size w w' := by
  go_enter Try.func3, Try.ntmps3
  have hB : Below w.heap.size w w := Below.refl _ _
  go_wp2_with fail
  refine (szIntSS_h _ _ x0 1048576 _ ⟨by omega, by omega⟩ nx0 rx0.out (ax0.out.below hB)).mono ?_
  rintro e s1 ⟨L1, rfl, hL1, hz1⟩
  have hB := hB.trans (hz1.mono hB.size)
  have HL1 := Lib.hid hL1; clear hL1
  by_cases hneg1 : L1 < 0
  · go_wp2_with fail
    go_ret
    exact ⟨rfl, hB⟩
  obtain ⟨few0, hl1⟩ := HL1.out (by omega)
  go_wp2_with fail
  refine (szWeightedS_h _ _ x2 L1 _ ⟨by omega, hl1⟩ nx2 rx2.out (ax2.out.below hB)).mono ?_
  rintro e s2 ⟨L2, rfl, hL2, hz2⟩
  have hB := hB.trans (hz2.mono hB.size)
  have HL2 := Lib.hid hL2; clear hL2
  by_cases hneg2 : L2 < 0
  · go_wp2_with fail
    go_ret
    exact ⟨rfl, hB⟩
  obtain ⟨few2, hl2⟩ := HL2.out (by omega)
  have fewM : wFew (demL x0 x1 x2) := demL_few x0 x1 x2
  have hcnt0 : cntR x0 ≤ 1048576 := few0.2.2
  go_wp2_with fail
  refine (toIntSS_h _ _ x0 _ few0 (ax0.out.below hB)).mono ?_
  rintro e v1 ⟨g1, c1, rfl, ho1, hb1⟩
  have bs1 := hB.size
  have hB := hB.trans (hb1.mono hB.size)
  have he1 := Nat.le_refl v1.heap.size
  go_wp2_with fail
  refine (toWeightedS_h _ _ x2 _ few2 (ax2.out.below hB)).mono ?_
  rintro e v2 ⟨g2, c2, rfl, ho2, hb2⟩
  have d1_2 := he1
  have bs2 := hB.size
  have ho1 := ho1.below hb2 he1; have he1 := Nat.le_trans he1 hb2.size
  have hB := hB.trans (hb2.mono hB.size)
  have he2 := Nat.le_refl v2.heap.size
  go_wp2_with fail
  refine ((spec_DemazureStep_ok g1 0 _ c1 g2 0 _ c2 x1 x0 x2 _ rfl rfl few0.1 few0.2.1 few2 ho1.lt ho2.lt ho1.rows2 ho2.wrows).mono (fun _ _ h => GotWB.held h)).mono ?_
  rintro e v3 ⟨g3, c3, rfl, ho3, hb3⟩
  have d1_3 := he1
  have d2_3 := he2
  have bs3 := hB.size
  have ho1 := ho1.below hb3 he1; have he1 := Nat.le_trans he1 hb3.size
  have ho2 := ho2.below hb3 he2; have he2 := Nat.le_trans he2 hb3.size
  have hB := hB.trans (hb3.mono hB.size)
  have he3 := Nat.le_refl v3.heap.size
  clear ho1
  clear ho2
  go_wp2_with fail
  refine (toIntSS_h _ _ x0 _ few0 (ax0.out.below hB)).mono ?_
  rintro e v4 ⟨g4, c4, rfl, ho4, hb4⟩
  have d3_4 := he3
  have bs4 := hB.size
  have ho3 := ho3.below hb4 he3; have he3 := Nat.le_trans he3 hb4.size
  have hB := hB.trans (hb4.mono hB.size)
  have he4 := Nat.le_refl v4.heap.size
  go_wp2_with fail
  refine (toWeightedS_h _ _ x2 _ few2 (ax2.out.below hB)).mono ?_
  rintro e v5 ⟨g5, c5, rfl, ho5, hb5⟩
  have d3_5 := he3
  have d4_5 := he4
  have bs5 := hB.size
  have ho3 := ho3.below hb5 he3; have he3 := Nat.le_trans he3 hb5.size
  have ho4 := ho4.below hb5 he4; have he4 := Nat.le_trans he4 hb5.size
  have hB := hB.trans (hb5.mono hB.size)
  have he5 := Nat.le_refl v5.heap.size
  go_wp2_with fail
  refine ((impl_DemazureStep_ok g4 0 _ c4 g5 0 _ c5 x1 x0 x2 _ rfl rfl few0.1 few0.2.1 few2 ho4.lt ho5.lt ho4.rows2 ho5.wrows).mono (fun _ _ h => GotWB.held h)).mono ?_
  rintro e v6 ⟨g6, c6, rfl, ho6, hb6⟩
  have d3_6 := he3
  have d4_6 := he4
  have d5_6 := he5
  have bs6 := hB.size
  have ho3 := ho3.below hb6 he3; have he3 := Nat.le_trans he3 hb6.size
  have ho4 := ho4.below hb6 he4; have he4 := Nat.le_trans he4 hb6.size
  have ho5 := ho5.below hb6 he5; have he5 := Nat.le_trans he5 hb6.size
  have hB := hB.trans (hb6.mono hB.size)
  have he6 := Nat.le_refl v6.heap.size
  go_wp2_with fail
  refine (eqWeightedS_h fewM ho6 ho3).mono ?_
  rintro e v7 ⟨rfl, hb7⟩
  have ho3 := ho3.below hb7 he3; have he3 := Nat.le_trans he3 hb7.size
  have ho4 := ho4.below hb7 he4; have he4 := Nat.le_trans he4 hb7.size
  have ho5 := ho5.below hb7 he5; have he5 := Nat.le_trans he5 hb7.size
  have ho6 := ho6.below hb7 he6; have he6 := Nat.le_trans he6 hb7.size
  have hB := hB.trans (hb7.mono hB.size)
  go_wp2_with fail
  refine (toIntSS_h _ _ x0 _ few0 (ax0.out.below hB)).mono ?_
  rintro e v8 ⟨g8, c8, rfl, ho8, hb8⟩
  have d3_8 := he3
  have d4_8 := he4
  have d5_8 := he5
  have d6_8 := he6
  have bs8 := hB.size
  have ho3 := ho3.below hb8 he3; have he3 := Nat.le_trans he3 hb8.size
  have ho4 := ho4.below hb8 he4; have he4 := Nat.le_trans he4 hb8.size
  have ho5 := ho5.below hb8 he5; have he5 := Nat.le_trans he5 hb8.size
  have ho6 := ho6.below hb8 he6; have he6 := Nat.le_trans he6 hb8.size
  have hB := hB.trans (hb8.mono hB.size)
  have he8 := Nat.le_refl v8.heap.size
  go_wp2_with fail
  refine (eqIntSS_h few0 ho4 ho8).mono ?_
  rintro e v9 ⟨rfl, hb9⟩
  have ho3 := ho3.below hb9 he3; have he3 := Nat.le_trans he3 hb9.size
  have ho4 := ho4.below hb9 he4; have he4 := Nat.le_trans he4 hb9.size
  have ho5 := ho5.below hb9 he5; have he5 := Nat.le_trans he5 hb9.size
  have ho6 := ho6.below hb9 he6; have he6 := Nat.le_trans he6 hb9.size
  have ho8 := ho8.below hb9 he8; have he8 := Nat.le_trans he8 hb9.size
  have hB := hB.trans (hb9.mono hB.size)
  clear ho8
  go_wp2_with fail
  refine (toWeightedS_h _ _ x2 _ few2 (ax2.out.below hB)).mono ?_
  rintro e v10 ⟨g10, c10, rfl, ho10, hb10⟩
  have d3_10 := he3
  have d4_10 := he4
  have d5_10 := he5
  have d6_10 := he6
  have bs10 := hB.size
  have ho3 := ho3.below hb10 he3; have he3 := Nat.le_trans he3 hb10.size
  have ho4 := ho4.below hb10 he4; have he4 := Nat.le_trans he4 hb10.size
  have ho5 := ho5.below hb10 he5; have he5 := Nat.le_trans he5 hb10.size
  have ho6 := ho6.below hb10 he6; have he6 := Nat.le_trans he6 hb10.size
  have hB := hB.trans (hb10.mono hB.size)
  have he10 := Nat.le_refl v10.heap.size
  go_wp2_with fail
  refine (eqWeightedS_h few2 ho5 ho10).mono ?_
  rintro e v11 ⟨rfl, hb11⟩
  have ho3 := ho3.below hb11 he3; have he3 := Nat.le_trans he3 hb11.size
  have ho4 := ho4.below hb11 he4; have he4 := Nat.le_trans he4 hb11.size
  have ho5 := ho5.below hb11 he5; have he5 := Nat.le_trans he5 hb11.size
  have ho6 := ho6.below hb11 he6; have he6 := Nat.le_trans he6 hb11.size
  have ho10 := ho10.below hb11 he10; have he10 := Nat.le_trans he10 hb11.size
  have hB := hB.trans (hb11.mono hB.size)
  clear ho10
  go_wp2_with fail
  refine (markIntSS_h (1) _ _ (by simp) few0 (by omega) ho4).mono ?_
  rintro e v12 ⟨rfl, hm12, hg12⟩
  have ho3 := ho3.only hg12 (.inl d3_4); have he3 := Nat.le_trans he3 hg12.size
  have ho5 := ho5.only hg12 (.inr d4_5); have he5 := Nat.le_trans he5 hg12.size
  have ho6 := ho6.only hg12 (.inr d4_6); have he6 := Nat.le_trans he6 hg12.size
  have he4 := Nat.le_trans he4 hg12.size
  have hB := Below.only hB hg12 (by have := bs4; omega) (Nat.le_refl _)
  clear ho4; have ho4 := hm12; clear hm12
  go_wp2_with fail
  refine (markWeightedS_h (1 + cntR x0) _ _ (by simp) few2 (by omega) ho5).mono ?_
  rintro e v13 ⟨rfl, hm13, hg13⟩
  have ho3 := ho3.only hg13 (.inl d3_5); have he3 := Nat.le_trans he3 hg13.size
  have ho4 := ho4.only hg13 (.inl d4_5); have he4 := Nat.le_trans he4 hg13.size
  have ho6 := ho6.only hg13 (.inr d5_6); have he6 := Nat.le_trans he6 hg13.size
  have he5 := Nat.le_trans he5 hg13.size
  have hB := Below.only hB hg13 (by have := bs5; omega) (Nat.le_refl _)
  clear ho5; have ho5 := hm13; clear hm13
  go_wp2_with fail
  refine (eqWeightedS_h fewM ho6 ho3).mono ?_
  rintro e v14 ⟨rfl, hb14⟩
  have ho3 := ho3.below hb14 he3; have he3 := Nat.le_trans he3 hb14.size
  have ho4 := ho4.below hb14 he4; have he4 := Nat.le_trans he4 hb14.size
  have ho5 := ho5.below hb14 he5; have he5 := Nat.le_trans he5 hb14.size
  have ho6 := ho6.below hb14 he6; have he6 := Nat.le_trans he6 hb14.size
  have hB := hB.trans (hb14.mono hB.size)
  go_wp2_with fail
  refine (markWeightedS_h (1) _ _ (by simp) fewM (by omega) ho6).mono ?_
  rintro e v15 ⟨rfl, hm15, hg15⟩
  have ho3 := ho3.only hg15 (.inl d3_6); have he3 := Nat.le_trans he3 hg15.size
  have ho4 := ho4.only hg15 (.inl d4_6); have he4 := Nat.le_trans he4 hg15.size
  have ho5 := ho5.only hg15 (.inl d5_6); have he5 := Nat.le_trans he5 hg15.size
  have he6 := Nat.le_trans he6 hg15.size
  have hB := Below.only hB hg15 (by have := bs6; omega) (Nat.le_refl _)
  clear ho6; have ho6 := hm15; clear hm15
  go_wp2_with fail
  refine (heldWeightedS_h 1 _ _ (by simp) fewM (by omega) ho6).mono ?_
  rintro e v16 ⟨rfl, hb16⟩
  have ho3 := ho3.below hb16 he3; have he3 := Nat.le_trans he3 hb16.size
  have ho4 := ho4.below hb16 he4; have he4 := Nat.le_trans he4 hb16.size
  have ho5 := ho5.below hb16 he5; have he5 := Nat.le_trans he5 hb16.size
  have ho6 := ho6.below hb16 he6; have he6 := Nat.le_trans he6 hb16.size
  have hB := hB.trans (hb16.mono hB.size)
  go_wp2_with fail
  refine (toIntSS_h _ _ x0 _ few0 (ax0.out.below hB)).mono ?_
  rintro e v17 ⟨g17, c17, rfl, ho17, hb17⟩
  have d3_17 := he3
  have d4_17 := he4
  have d5_17 := he5
  have d6_17 := he6
  have bs17 := hB.size
  have ho3 := ho3.below hb17 he3; have he3 := Nat.le_trans he3 hb17.size
  have ho4 := ho4.below hb17 he4; have he4 := Nat.le_trans he4 hb17.size
  have ho5 := ho5.below hb17 he5; have he5 := Nat.le_trans he5 hb17.size
  have ho6 := ho6.below hb17 he6; have he6 := Nat.le_trans he6 hb17.size
  have hB := hB.trans (hb17.mono hB.size)
  have he17 := Nat.le_refl v17.heap.size
  go_wp2_with fail
  refine (toWeightedS_h _ _ x2 _ few2 (ax2.out.below hB)).mono ?_
  rintro e v18 ⟨g18, c18, rfl, ho18, hb18⟩
  have d3_18 := he3
  have d4_18 := he4
  have d5_18 := he5
  have d6_18 := he6
  have d17_18 := he17
  have bs18 := hB.size
  have ho3 := ho3.below hb18 he3; have he3 := Nat.le_trans he3 hb18.size
  have ho4 := ho4.below hb18 he4; have he4 := Nat.le_trans he4 hb18.size
  have ho5 := ho5.below hb18 he5; have he5 := Nat.le_trans he5 hb18.size
  have ho6 := ho6.below hb18 he6; have he6 := Nat.le_trans he6 hb18.size
  have ho17 := ho17.below hb18 he17; have he17 := Nat.le_trans he17 hb18.size
  have hB := hB.trans (hb18.mono hB.size)
  have he18 := Nat.le_refl v18.heap.size
  go_wp2_with fail
  refine ((impl_DemazureStep_ok g17 0 _ c17 g18 0 _ c18 x1 x0 x2 _ rfl rfl few0.1 few0.2.1 few2 ho17.lt ho18.lt ho17.rows2 ho18.wrows).mono (fun _ _ h => GotWB.held h)).mono ?_
  rintro e v19 ⟨g19, c19, rfl, ho19, hb19⟩
  have d3_19 := he3
  have d4_19 := he4
  have d5_19 := he5
  have d6_19 := he6
  have d17_19 := he17
  have d18_19 := he18
  have bs19 := hB.size
  have ho3 := ho3.below hb19 he3; have he3 := Nat.le_trans he3 hb19.size
  have ho4 := ho4.below hb19 he4; have he4 := Nat.le_trans he4 hb19.size
  have ho5 := ho5.below hb19 he5; have he5 := Nat.le_trans he5 hb19.size
  have ho6 := ho6.below hb19 he6; have he6 := Nat.le_trans he6 hb19.size
  have ho17 := ho17.below hb19 he17; have he17 := Nat.le_trans he17 hb19.size
  have ho18 := ho18.below hb19 he18; have he18 := Nat.le_trans he18 hb19.size
  have hB := hB.trans (hb19.mono hB.size)
  have he19 := Nat.le_refl v19.heap.size
  go_wp2_with fail
  refine (eqWeightedS_h fewM ho19 ho3).mono ?_
  rintro e v20 ⟨rfl, hb20⟩
  have ho3 := ho3.below hb20 he3; have he3 := Nat.le_trans he3 hb20.size
  have ho4 := ho4.below hb20 he4; have he4 := Nat.le_trans he4 hb20.size
  have ho5 := ho5.below hb20 he5; have he5 := Nat.le_trans he5 hb20.size
  have ho6 := ho6.below hb20 he6; have he6 := Nat.le_trans he6 hb20.size
  have ho17 := ho17.below hb20 he17; have he17 := Nat.le_trans he17 hb20.size
  have ho18 := ho18.below hb20 he18; have he18 := Nat.le_trans he18 hb20.size
  have ho19 := ho19.below hb20 he19; have he19 := Nat.le_trans he19 hb20.size
  have hB := hB.trans (hb20.mono hB.size)
  go_wp2_with fail
  refine (heldWeightedS_h 1 _ _ (by simp) fewM (by omega) ho6).mono ?_
  rintro e v21 ⟨rfl, hb21⟩
  have ho3 := ho3.below hb21 he3; have he3 := Nat.le_trans he3 hb21.size
  have ho4 := ho4.below hb21 he4; have he4 := Nat.le_trans he4 hb21.size
  have ho5 := ho5.below hb21 he5; have he5 := Nat.le_trans he5 hb21.size
  have ho6 := ho6.below hb21 he6; have he6 := Nat.le_trans he6 hb21.size
  have ho17 := ho17.below hb21 he17; have he17 := Nat.le_trans he17 hb21.size
  have ho18 := ho18.below hb21 he18; have he18 := Nat.le_trans he18 hb21.size
  have ho19 := ho19.below hb21 he19; have he19 := Nat.le_trans he19 hb21.size
  have hB := hB.trans (hb21.mono hB.size)
  go_wp2_with fail
  go_ret
  exact ⟨rfl, hB⟩

theorem lifted (os : Os) (started : os.Started) (H : Type) (enc : TypeId × Value → H) :
    ReturnsInHanded {} Try.checked os 3 .any (Rows.fnExactDemazureStepSpec.pre6 enc Try.prog Try.f3 Rows.fnExactDemazureStepRow.domain false) (Rows.fnExactDemazureStepSpec.post enc Try.prog Try.f3 false true false false) := by
  refine returnsInHanded_of_change (C := Try.checked) own started (by kernel_rfl) Try.func3
    (ChangeSpec.witness6 (enc := enc) (C := Try.checked) false ⟨#[], #[.slice none 0 0, .int .i64 0, .slice none 0 0], []⟩ 8 (by kernel_rfl) (by kernel_rfl) (by kernel_rfl) (by kernel_rfl)) ?_
  intro W base args ds gs before hval0 hW hcnd _
  have hval : ∀ (j : Nat) t v, Try.f3.params[j]? = some t → args[j]? = some v → Value.okWide Try.prog W .any base t v := hval0
  have hW' := hW
  obtain ⟨p, q, hA0, hV, rfl, hfz, hnd⟩ := hW
  have hA : DataW.TrodAll enc Try.prog W 0 (fun _ => true) true Try.f3.params.toList args.toList ds p := hA0
  rw [Try.params3] at hA hval
  obtain ⟨v0, vs0, d0, ds0, p0, q0, hargs, rfl, rfl, h0, r0⟩ := trodAll_cons hA
  obtain ⟨v1, vs1, d1, ds1, p1, q1, rfl, rfl, rfl, h1, r1⟩ := trodAll_cons r0
  obtain ⟨v2, vs2, d2, ds2, p2, q2, rfl, rfl, rfl, h2, r2⟩ := trodAll_cons r1
  obtain ⟨rfl, rfl, rfl⟩ := trodAll_nil r2
  obtain rfl : args = #[v0, v1, v2] := by cases args; simp_all
  obtain ⟨rfl, rfl⟩ := trodVars_none hV
  have k0 := h0
  have k1 := h1
  have k2 := h2
  have lt0 : ∀ x ∈ p0, x.block < W.heap.size := by obtain ⟨m, hm⟩ := k0; exact DataW.trod_lt m _ _ _ hm
  have lt1 : ∀ x ∈ p1, x.block < W.heap.size := by obtain ⟨m, hm⟩ := k1; exact DataW.trod_lt m _ _ _ hm
  have lt2 : ∀ x ∈ p2, x.block < W.heap.size := by obtain ⟨m, hm⟩ := k2; exact DataW.trod_lt m _ _ _ hm
  obtain ⟨a0, c0, x0, rfl, ax0, nx0, rx0⟩ := argRows_at (hval 0 22 v0 rfl rfl) h0
  obtain ⟨x1, rfl, wx1⟩ := argInt_at (hval 1 3 v1 rfl rfl) h1
  obtain ⟨a2, c2, x2, rfl, ax2, nx2, rx2⟩ := argWts_at (hval 2 23 v2 rfl rfl) h2
  clear hA0 hval0
  refine (walk a0 c0 x0 x1 a2 c2 x2 W ax0 nx0 rx0 wx1 ax2 nx2 rx2).mono fun e W' ⟨he, bel⟩ => ?_
  subst he
  exact ⟨_, rfl, _, _, _, [], _, [], hW', trodAll_mk1 (shut_bool Try.underlying4 _), (trodAll_cons_mk (Below.trod laidOut (by kernel_rfl) (of_decide_eq_true (by kernel_rfl)) k0 bel lt0) (trodAll_cons_mk (Below.trod laidOut (by kernel_rfl) (of_decide_eq_true (by kernel_rfl)) k1 bel lt1) (trodAll_cons_mk (Below.trod laidOut (by kernel_rfl) (of_decide_eq_true (by kernel_rfl)) k2 bel lt2) trodAll_mk0))), rfl, bel.frame _, fun h => by cases h⟩

theorem over : Rows.fnExactDemazureStepRow.holds Try.pinned (OpenSpec.ofChange Rows.fnExactDemazureStepSpec) :=
  OpenClaim.holds_of_wide 3 Try.f3 rfl rfl rfl rfl rfl rfl rfl ⟨rfl, rfl, rfl, rfl, rfl⟩ rfl rfl rfl rfl rfl (by kernel_rfl) Try.func3 (by kernel_rfl)
    (of_decide_eq_true (by kernel_rfl)) (by unfold Func.isWrapper; first | (rw [if_pos (by decide +kernel)]; kernel_rfl) | (rw [if_neg (by decide +kernel)]; exact ⟨rfl, rfl⟩))
    (fun os started H enc _ => lifted os started H enc)

/-- THE STATEMENT -/
theorem proved : Rows.FnExactDemazureStepSaid := over
#print axioms proved
end Go.Proofs.Ytihfbbpkgmkbcaa.fnExactDemazureStep
