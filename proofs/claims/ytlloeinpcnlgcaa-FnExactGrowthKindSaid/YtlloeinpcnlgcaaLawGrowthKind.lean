/-
  PROVED HERE: the law FnExactGrowthKind returns true for every input and leaves its arguments as they were. CONDITIONS: none beyond the given row's own.
-/
import Derived.Test.YtlloeinpcnlgcaaRows
import Derived.Test.YtlloeinpcnlgcaaHeld
import Derived.Test.YtlloeinpcnlgcaaArgAt
import Derived.Test.YtlloeinpcnlgcaaGrow
import Derived.WalkKit
import Derived.ProofKit
import Derived.OpenShut
import Derived.ChangeOld
import Derived.Below
namespace Go.Proofs.Ytlloeinpcnlgcaa.fnExactGrowthKind
open Go.ChangeShapes Go.WideShapes Go.ChangeAt Go.RowKit
open Go.Proofs.Ytlloeinpcnlgcaa
set_option linter.unusedVariables false

theorem own : ownKnob Try.prog.godebug = none := by kernel_rfl
theorem laidOut : laidOutB Try.prog = true := by kernel_rfl

set_option maxHeartbeats 4000000 in
theorem walk (a0 : Option Addr) (c0 : Nat) (x0 : List (List Int)) (w : World) (ax0 : Hid (ArgRows w a0 x0)) (nx0 : x0.length ≤ maxLen) (rx0 : Hid (∀ j, j < x0.length → (x0.getD j []).length ≤ maxLen)) :
    Calls Try.prog 3 #[.slice a0 x0.length c0] w fun e w' => e = .returned (.bool true) ∧ Below w.heap.size w w' := by
  go_enter Try.func3, Try.ntmps3
  have hB : Below w.heap.size w w := Below.refl _ _
  go_wp2_with fail
  refine (szIntSS_h _ _ x0 1048576 _ ⟨by omega, by omega⟩ nx0 rx0.out (ax0.out.below hB)).mono ?_
  rintro e s1 ⟨L1, rfl, hL1, hz1⟩
  have hB := hB.trans (hz1.mono hB.size)
  have HL1 := Lib.hid hL1; clear hL1
  by_cases hneg1 : L1 < 0
  · go_wp2_with fail
    go_ret
    exact ⟨rfl, hB⟩
  obtain ⟨few0, hl1⟩ := HL1.out (by omega)
  go_wp2_with fail
  refine (toIntSS_h _ _ x0 _ few0 (ax0.out.below hB)).mono ?_
  rintro e v1 ⟨g1, c1, rfl, ho1, hb1⟩
  have bs1 := hB.size
  have hB := hB.trans (hb1.mono hB.size)
  have he1 := Nat.le_refl v1.heap.size
  go_wp2_with fail
  refine (spec_GrowthKind_any g1 0 _ c1 x0 _ rfl few0.1 few0.2.1 ho1.lt ho1.rows2).mono ?_
  rintro e v2 ⟨rfl, hb2⟩
  have ho1 := ho1.below hb2 he1; have he1 := Nat.le_trans he1 hb2.size
  have hB := hB.trans (hb2.mono hB.size)
  clear ho1
  go_wp2_with fail
  refine (toIntSS_h _ _ x0 _ few0 (ax0.out.below hB)).mono ?_
  rintro e v3 ⟨g3, c3, rfl, ho3, hb3⟩
  have bs3 := hB.size
  have hB := hB.trans (hb3.mono hB.size)
  have he3 := Nat.le_refl v3.heap.size
  go_wp2_with fail
  refine (impl_GrowthKind_any g3 0 _ c3 x0 _ rfl few0.1 few0.2.1 ho3.lt ho3.rows2).mono ?_
  rintro e v4 ⟨rfl, hb4⟩
  have ho3 := ho3.below hb4 he3; have he3 := Nat.le_trans he3 hb4.size
  have hB := hB.trans (hb4.mono hB.size)
  go_wp2_with fail
  refine (toIntSS_h _ _ x0 _ few0 (ax0.out.below hB)).mono ?_
  rintro e v5 ⟨g5, c5, rfl, ho5, hb5⟩
  have d3_5 := he3
  have bs5 := hB.size
  have ho3 := ho3.below hb5 he3; have he3 := Nat.le_trans he3 hb5.size
  have hB := hB.trans (hb5.mono hB.size)
  have he5 := Nat.le_refl v5.heap.size
  go_wp2_with fail
  refine (eqIntSS_h few0 ho3 ho5).mono ?_
  rintro e v6 ⟨rfl, hb6⟩
  have ho3 := ho3.below hb6 he3; have he3 := Nat.le_trans he3 hb6.size
  have ho5 := ho5.below hb6 he5; have he5 := Nat.le_trans he5 hb6.size
  have hB := hB.trans (hb6.mono hB.size)
  clear ho5
  go_wp2_with fail
  go_ret
  exact ⟨rfl, hB⟩

theorem lifted (os : Os) (started : os.Started) (H : Type) (enc : TypeId × Value → H) :
    ReturnsInHanded {} Try.checked os 3 .any (Rows.fnExactGrowthKindSpec.pre6 enc Try.prog Try.f3 Rows.fnExactGrowthKindRow.domain false) (Rows.fnExactGrowthKindSpec.post enc Try.prog Try.f3 false true false false) := by
  refine returnsInHanded_of_change (C := Try.checked) own started (by kernel_rfl) Try.func3
    (ChangeSpec.witness6 (enc := enc) (C := Try.checked) false ⟨#[], #[.slice none 0 0], []⟩ 8 (by kernel_rfl) (by kernel_rfl) (by kernel_rfl) (by kernel_rfl)) ?_
  intro W base args ds gs before hval0 hW hcnd _
  have hval : ∀ (j : Nat) t v, Try.f3.params[j]? = some t → args[j]? = some v → Value.okWide Try.prog W .any base t v := hval0
  have hW' := hW
  obtain ⟨p, q, hA0, hV, rfl, hfz, hnd⟩ := hW
  have hA : DataW.TrodAll enc Try.prog W 0 (fun _ => true) true Try.f3.params.toList args.toList ds p := hA0
  rw [Try.params3] at hA hval
  obtain ⟨v0, vs0, d0, ds0, p0, q0, hargs, rfl, rfl, h0, r0⟩ := trodAll_cons hA
  obtain ⟨rfl, rfl, rfl⟩ := trodAll_nil r0
  obtain rfl : args = #[v0] := by cases args; simp_all
  obtain ⟨rfl, rfl⟩ := trodVars_none hV
  have k0 := h0
  have lt0 : ∀ x ∈ p0, x.block < W.heap.size := by obtain ⟨m, hm⟩ := k0; exact DataW.trod_lt m _ _ _ hm
  obtain ⟨a0, c0, x0, rfl, ax0, nx0, rx0⟩ := argRows_at (hval 0 22 v0 rfl rfl) h0
  clear hA0 hval0
  refine (walk a0 c0 x0 W ax0 nx0 rx0).mono fun e W' ⟨he, bel⟩ => ?_
  subst he
  exact ⟨_, rfl, _, _, _, [], _, [], hW', trodAll_mk1 (shut_bool Try.underlying4 _), (trodAll_cons_mk (Below.trod laidOut (by kernel_rfl) (of_decide_eq_true (by kernel_rfl)) k0 bel lt0) trodAll_mk0), rfl, bel.frame _, fun h => by cases h⟩

theorem over : Rows.fnExactGrowthKindRow.holds Try.pinned (OpenSpec.ofChange Rows.fnExactGrowthKindSpec) :=
  OpenClaim.holds_of_wide 3 Try.f3 rfl rfl rfl rfl rfl rfl rfl ⟨rfl, rfl, rfl, rfl, rfl⟩ rfl rfl rfl rfl rfl (by kernel_rfl) Try.func3 (by kernel_rfl)
    (of_decide_eq_true (by kernel_rfl)) (by unfold Func.isWrapper; first | (rw [if_pos (by decide +kernel)]; kernel_rfl) | (rw [if_neg (by decide +kernel)]; exact ⟨rfl, rfl⟩))
    (fun os started H enc _ => lifted os started H enc)

/-- THE STATEMENT -/
theorem proved : Rows.FnExactGrowthKindSaid := over
#print axioms proved
end Go.Proofs.Ytlloeinpcnlgcaa.fnExactGrowthKind
