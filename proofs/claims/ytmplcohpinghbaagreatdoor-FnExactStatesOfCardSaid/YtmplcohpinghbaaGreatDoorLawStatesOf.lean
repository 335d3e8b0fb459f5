/-
  PROVED HERE: the law FnExactStatesOf returns true for every input and leaves its arguments as they were. CONDITIONS: none beyond the given row's own.
-/
import Derived.Test.YtmplcohpinghbaaGreatDoorRows
import Derived.Test.YtmplcohpinghbaaGreatDoorCards
import Derived.Test.YtmplcohpinghbaaGreatDoorTie
import Derived.SevenTiedAt
import Derived.LaidMore
import Derived.Stop.Joined
import Derived.Test.YtmplcohpinghbaaGreatDoorHeld
import Derived.Test.YtmplcohpinghbaaGreatDoorArgAt
import Derived.Test.YtmplcohpinghbaaGreatDoorStI
import Derived.Test.YtmplcohpinghbaaGreatDoorMark
import Derived.WalkKit
import Derived.ProofKit
import Derived.OpenShut
import Derived.ChangeOld
import Derived.Below
namespace Go.Proofs.YtmplcohpinghbaaGreatDoor.fnExactStatesOf
open Go.ChangeShapes Go.WideShapes Go.ChangeAt Go.RowKit
open Go.Proofs.YtmplcohpinghbaaGreatDoor
set_option linter.unusedVariables false
set_option maxRecDepth 100000

theorem own : ownKnob Tryz.prog.godebug = none := by kernel_rfl
theorem laidOut : laidOutB Tryz.prog = true := by kernel_rfl

set_option maxHeartbeats 4000000 in
theorem walk (a0 : Option Addr) (c0 : Nat) (x0 : List (List Int)) (w : World) (ax0 : Hid (ArgRows w a0 x0)) (nx0 : x0.length ≤ maxLen) (rx0 : Hid (∀ j, j < x0.length → (x0.getD j []).length ≤ maxLen)) :
    Calls Tryz.prog 3 #[.slice a0 x0.length c0] w fun e w' => e = .returned (.bool true) ∧ Below w.heap.size w w' := by
  go_enter Tryz.func3, Tryz.ntmps3
  have hB : Below w.heap.size w w := Below.refl _ _
  go_wp2_with fail
  refine (szIntSS_h _ _ x0 1048576 _ ⟨by omega, by omega⟩ nx0 rx0.out (ax0.out.below hB)).mono ?_
  rintro e s1 ⟨L1, rfl, hL1, hz1⟩
  have hB := hB.trans (hz1.mono hB.size)
  have HL1 := Lib.hid hL1; clear hL1
  by_cases hneg1 : L1 < 0
  · go_wp2_with fail
    go_ret
    exact ⟨rfl, hB⟩
  obtain ⟨few0, hl1⟩ := HL1.out (by omega)
  have fewM : rowsFew ((stR x0).getD []) := rowsFew_of40 (stR_few x0).1 (stR_few x0).2
  have hcnt0 : cntR x0 ≤ 1048576 := few0.2.2
  have hcntM : cntR ((stR x0).getD []) ≤ 1048576 := fewM.2.2
  go_wp2_with fail
  refine (toIntSS_h _ _ x0 _ few0 (ax0.out.below hB)).mono ?_
  rintro e v1 ⟨g1, c1, rfl, ho1, hb1⟩
  have bs1 := hB.size
  have hB := hB.trans (hb1.mono hB.size)
  have he1 := Nat.le_refl v1.heap.size
  go_wp2_with fail
  refine ((spec_StatesOf_any g1 0 _ c1 x0 _ rfl few0.1 few0.2.1 ho1.lt ho1.rows2).mono (fun _ _ h => GotRowsB.held h)).mono ?_
  rintro e v2 ⟨g2, c2, rfl, ho2, hb2⟩
  have d1_2 := he1
  have bs2 := hB.size
  have ho1 := ho1.below hb2 he1; have he1 := Nat.le_trans he1 hb2.size
  have hB := hB.trans (hb2.mono hB.size)
  have he2 := Nat.le_refl v2.heap.size
  clear ho1
  go_wp2_with fail
  refine (toIntSS_h _ _ x0 _ few0 (ax0.out.below hB)).mono ?_
  rintro e v3 ⟨g3, c3, rfl, ho3, hb3⟩
  have d2_3 := he2
  have bs3 := hB.size
  have ho2 := ho2.below hb3 he2; have he2 := Nat.le_trans he2 hb3.size
  have hB := hB.trans (hb3.mono hB.size)
  have he3 := Nat.le_refl v3.heap.size
  go_wp2_with fail
  refine ((impl_StatesOf_any g3 0 _ c3 x0 _ rfl few0.1 few0.2.1 ho3.lt ho3.rows2).mono (fun _ _ h => GotRowsB.held h)).mono ?_
  rintro e v4 ⟨g4, c4, rfl, ho4, hb4⟩
  have d2_4 := he2
  have d3_4 := he3
  have bs4 := hB.size
  have ho2 := ho2.below hb4 he2; have he2 := Nat.le_trans he2 hb4.size
  have ho3 := ho3.below hb4 he3; have he3 := Nat.le_trans he3 hb4.size
  have hB := hB.trans (hb4.mono hB.size)
  have he4 := Nat.le_refl v4.heap.size
  go_wp2_with fail
  refine (eqIntSS_h fewM ho4 ho2).mono ?_
  rintro e v5 ⟨rfl, hb5⟩
  have ho2 := ho2.below hb5 he2; have he2 := Nat.le_trans he2 hb5.size
  have ho3 := ho3.below hb5 he3; have he3 := Nat.le_trans he3 hb5.size
  have ho4 := ho4.below hb5 he4; have he4 := Nat.le_trans he4 hb5.size
  have hB := hB.trans (hb5.mono hB.size)
  go_wp2_with fail
  refine (toIntSS_h _ _ x0 _ few0 (ax0.out.below hB)).mono ?_
  rintro e v6 ⟨g6, c6, rfl, ho6, hb6⟩
  have d2_6 := he2
  have d3_6 := he3
  have d4_6 := he4
  have bs6 := hB.size
  have ho2 := ho2.below hb6 he2; have he2 := Nat.le_trans he2 hb6.size
  have ho3 := ho3.below hb6 he3; have he3 := Nat.le_trans he3 hb6.size
  have ho4 := ho4.below hb6 he4; have he4 := Nat.le_trans he4 hb6.size
  have hB := hB.trans (hb6.mono hB.size)
  have he6 := Nat.le_refl v6.heap.size
  go_wp2_with fail
  refine (eqIntSS_h few0 ho3 ho6).mono ?_
  rintro e v7 ⟨rfl, hb7⟩
  have ho2 := ho2.below hb7 he2; have he2 := Nat.le_trans he2 hb7.size
  have ho3 := ho3.below hb7 he3; have he3 := Nat.le_trans he3 hb7.size
  have ho4 := ho4.below hb7 he4; have he4 := Nat.le_trans he4 hb7.size
  have ho6 := ho6.below hb7 he6; have he6 := Nat.le_trans he6 hb7.size
  have hB := hB.trans (hb7.mono hB.size)
  clear ho6
  go_wp2_with fail
  refine (markIntSS_h (1) _ _ (by simp) few0 (by omega) ho3).mono ?_
  rintro e v8 ⟨rfl, hm8, hg8⟩
  have ho2 := ho2.only hg8 (.inl d2_3); have he2 := Nat.le_trans he2 hg8.size
  have ho4 := ho4.only hg8 (.inr d3_4); have he4 := Nat.le_trans he4 hg8.size
  have he3 := Nat.le_trans he3 hg8.size
  have hB := Below.only hB hg8 (by have := bs3; omega) (Nat.le_refl _)
  clear ho3; have ho3 := hm8; clear hm8
  go_wp2_with fail
  refine (eqIntSS_h fewM ho4 ho2).mono ?_
  rintro e v9 ⟨rfl, hb9⟩
  have ho2 := ho2.below hb9 he2; have he2 := Nat.le_trans he2 hb9.size
  have ho3 := ho3.below hb9 he3; have he3 := Nat.le_trans he3 hb9.size
  have ho4 := ho4.below hb9 he4; have he4 := Nat.le_trans he4 hb9.size
  have hB := hB.trans (hb9.mono hB.size)
  go_wp2_with fail
  refine (markIntSS_h (1) _ _ (by simp) fewM (by omega) ho4).mono ?_
  rintro e v10 ⟨rfl, hm10, hg10⟩
  have ho2 := ho2.only hg10 (.inl d2_4); have he2 := Nat.le_trans he2 hg10.size
  have ho3 := ho3.only hg10 (.inl d3_4); have he3 := Nat.le_trans he3 hg10.size
  have he4 := Nat.le_trans he4 hg10.size
  have hB := Below.only hB hg10 (by have := bs4; omega) (Nat.le_refl _)
  clear ho4; have ho4 := hm10; clear hm10
  go_wp2_with fail
  refine (heldIntSS_h 1 _ _ (by simp) fewM (by omega) ho4).mono ?_
  rintro e v11 ⟨rfl, hb11⟩
  have ho2 := ho2.below hb11 he2; have he2 := Nat.le_trans he2 hb11.size
  have ho3 := ho3.below hb11 he3; have he3 := Nat.le_trans he3 hb11.size
  have ho4 := ho4.below hb11 he4; have he4 := Nat.le_trans he4 hb11.size
  have hB := hB.trans (hb11.mono hB.size)
  go_wp2_with fail
  refine (toIntSS_h _ _ x0 _ few0 (ax0.out.below hB)).mono ?_
  rintro e v12 ⟨g12, c12, rfl, ho12, hb12⟩
  have d2_12 := he2
  have d3_12 := he3
  have d4_12 := he4
  have bs12 := hB.size
  have ho2 := ho2.below hb12 he2; have he2 := Nat.le_trans he2 hb12.size
  have ho3 := ho3.below hb12 he3; have he3 := Nat.le_trans he3 hb12.size
  have ho4 := ho4.below hb12 he4; have he4 := Nat.le_trans he4 hb12.size
  have hB := hB.trans (hb12.mono hB.size)
  have he12 := Nat.le_refl v12.heap.size
  go_wp2_with fail
  refine ((impl_StatesOf_any g12 0 _ c12 x0 _ rfl few0.1 few0.2.1 ho12.lt ho12.rows2).mono (fun _ _ h => GotRowsB.held h)).mono ?_
  rintro e v13 ⟨g13, c13, rfl, ho13, hb13⟩
  have d2_13 := he2
  have d3_13 := he3
  have d4_13 := he4
  have d12_13 := he12
  have bs13 := hB.size
  have ho2 := ho2.below hb13 he2; have he2 := Nat.le_trans he2 hb13.size
  have ho3 := ho3.below hb13 he3; have he3 := Nat.le_trans he3 hb13.size
  have ho4 := ho4.below hb13 he4; have he4 := Nat.le_trans he4 hb13.size
  have ho12 := ho12.below hb13 he12; have he12 := Nat.le_trans he12 hb13.size
  have hB := hB.trans (hb13.mono hB.size)
  have he13 := Nat.le_refl v13.heap.size
  go_wp2_with fail
  refine (eqIntSS_h fewM ho13 ho2).mono ?_
  rintro e v14 ⟨rfl, hb14⟩
  have ho2 := ho2.below hb14 he2; have he2 := Nat.le_trans he2 hb14.size
  have ho3 := ho3.below hb14 he3; have he3 := Nat.le_trans he3 hb14.size
  have ho4 := ho4.below hb14 he4; have he4 := Nat.le_trans he4 hb14.size
  have ho12 := ho12.below hb14 he12; have he12 := Nat.le_trans he12 hb14.size
  have ho13 := ho13.below hb14 he13; have he13 := Nat.le_trans he13 hb14.size
  have hB := hB.trans (hb14.mono hB.size)
  go_wp2_with fail
  refine (heldIntSS_h 1 _ _ (by simp) fewM (by omega) ho4).mono ?_
  rintro e v15 ⟨rfl, hb15⟩
  have ho2 := ho2.below hb15 he2; have he2 := Nat.le_trans he2 hb15.size
  have ho3 := ho3.below hb15 he3; have he3 := Nat.le_trans he3 hb15.size
  have ho4 := ho4.below hb15 he4; have he4 := Nat.le_trans he4 hb15.size
  have ho12 := ho12.below hb15 he12; have he12 := Nat.le_trans he12 hb15.size
  have ho13 := ho13.below hb15 he13; have he13 := Nat.le_trans he13 hb15.size
  have hB := hB.trans (hb15.mono hB.size)
  go_wp2_with fail
  go_ret
  exact ⟨rfl, hB⟩

def laidL {H : Type} : List (String × DataW H) := [("math/bits.deBruijn32tab", Rows.laid_math_bits_deBruijn32tab), ("math/bits.deBruijn64tab", Rows.laid_math_bits_deBruijn64tab), ("internal/strconv.uint64pow10", Rows.laid_internal_strconv_uint64pow10)]
theorem door_met (os : Os) (args : Array Value) : laidMetH Tryz.prog laidL ((World.doorLaid Tryz.prog 400 os).forCall (fun _ _ => 0) ⟨#[], args, []⟩).memory :=
  laidMetH_of_parts3 (fuel := 8) (laidMet_of_run' 8 (by kernel_rfl) (by kernel_rfl)) (by kernel_rfl) (by kernel_rfl)

theorem lifted (os : Os) (started : os.Started) (H : Type) (enc : TypeId × Value → H) :
    ReturnsInHanded {} Tryz.checked os 3 .any (fun w args => (Rows.fnExactStatesOfSpec.pre enc Tryz.prog Tryz.f3 [] false w args ∧ laidMetH Tryz.prog laidL w) ∧ sizedMet enc Tryz.prog Tryz.f3 (OpenSpec.ofChange Rows.fnExactStatesOfSpec) false w args)
      (Rows.fnExactStatesOfSpec.post enc Tryz.prog Tryz.f3 false true false false) := by
  refine returnsInHanded_of_change_and (C := Tryz.checked) (X := fun w _ => laidMetH Tryz.prog laidL w) (fun _ _ _ hh h => h.of_heap hh) own started (by kernel_rfl) Tryz.func3
    (ChangeSpec.witness_shaped (enc := enc) (C := Tryz.checked) (os := os) (X := fun w _ => laidMetH Tryz.prog laidL w) false (World.doorLaid Tryz.prog 400 os) #[.slice none 0 0] 8 rfl (World.shaped_of_RefB (by kernel_rfl) (by kernel_rfl)) (by kernel_rfl) (by kernel_rfl) (by kernel_rfl) (door_met os _)) ?_
  intro W base args ds gs before hval0 hW _ _ hL _
  have hval : ∀ (j : Nat) t v, Tryz.f3.params[j]? = some t → args[j]? = some v → Value.okWide Tryz.prog W .any base t v := hval0
  have hW' := hW
  obtain ⟨p, q, hA0, hV, rfl, hfz, hnd⟩ := hW
  have hA : DataW.TrodAll enc Tryz.prog W 0 (fun _ => true) true Tryz.f3.params.toList args.toList ds p := hA0
  rw [Tryz.params3] at hA hval
  obtain ⟨v0, vs0, d0, ds0, p0, q0, hargs, rfl, rfl, h0, r0⟩ := trodAll_cons hA
  obtain ⟨rfl, rfl, rfl⟩ := trodAll_nil r0
  obtain rfl : args = #[v0] := by cases args; simp_all
  obtain ⟨rfl, rfl⟩ := trodVars_none hV
  have k0 := h0
  have lt0 : ∀ x ∈ p0, x.block < W.heap.size := by obtain ⟨m, hm⟩ := k0; exact DataW.trod_lt m _ _ _ hm
  obtain ⟨a0, c0, x0, rfl, ax0, nx0, rx0⟩ := argRows_at (hval 0 22 v0 rfl rfl) h0
  clear hA0 hval0
  refine (walk a0 c0 x0 W ax0 nx0 rx0).mono fun e W' ⟨he, bel⟩ => ?_
  subst he
  exact ⟨_, rfl, _, _, _, [], _, [], hW', trodAll_mk1 (shut_bool Tryz.underlying4 _), (trodAll_cons_mk (Below.trod laidOut (by kernel_rfl) (of_decide_eq_true (by kernel_rfl)) k0 bel lt0) trodAll_mk0), rfl, bel.frame _, fun h => by cases h⟩

theorem over : Rows.fnExactStatesOfRow.holds Tryz.pinned (OpenSpec.ofChange Rows.fnExactStatesOfSpec) :=
  OpenClaim.holds_of_wide 3 Tryz.f3 rfl rfl rfl rfl rfl rfl rfl ⟨rfl, rfl, rfl, rfl, rfl⟩ rfl rfl rfl rfl rfl (by kernel_rfl) Tryz.func3 (by kernel_rfl)
    (of_decide_eq_true (by kernel_rfl)) (by unfold Func.isWrapper; first | (rw [if_pos (by decide +kernel)]; kernel_rfl) | (rw [if_neg (by decide +kernel)]; exact ⟨rfl, rfl⟩))
    (fun os started H enc _ => lifted os started H enc)

/-- THE STATEMENT -/
theorem proved : Rows.FnExactStatesOfCardSaid :=
  Claim7.holds_tied_plain_at .later [] [.data, .data, .data] true (true, "e0dc58bba0042597eebe61fb5c5dc516d80db8e981f5e3e0b82316e1b276eae6") false
    over (fun _ h => by cases h) (by kernel_rfl) (fun _ h => by cases h) fnExactStatesOf_row_tie rfl ⟨rfl, rfl⟩ (by kernel_rfl) rfl
    (fun f fn hf hfn => by
      obtain rfl : f = 3 := Option.some.inj ((show Tryz.prog.funcNamed "loop.example/g02076/laws.FnExactStatesOf" = some 3 by kernel_rfl).symm.trans hf) |>.symm
      obtain rfl : fn = Tryz.f3 := (Option.some.inj (Tryz.func3.symm.trans hfn)).symm
      exact ⟨by kernel_rfl, fun j t ht => by
        rw [Tryz.params3] at ht
        have hm : t ∈ [22] := by simpa using Array.mem_of_getElem? ht
        have hall : ([22].all fun u => !Tryz.prog.wantsStandIn u) = true := by kernel_rfl
        exact (show Tryz.prog.wantsStandIn t = false by simpa using List.all_eq_true.1 hall t hm)⟩)
    (by kernel_rfl)
#print axioms proved
end Go.Proofs.YtmplcohpinghbaaGreatDoor.fnExactStatesOf
