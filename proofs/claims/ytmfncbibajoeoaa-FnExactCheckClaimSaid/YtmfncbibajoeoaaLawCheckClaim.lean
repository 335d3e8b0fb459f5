/-
  PROVED HERE: the law FnExactCheckClaim returns true for every input and leaves its arguments as they were. CONDITIONS: none beyond the given row's own.
-/
import Derived.Test.YtmfncbibajoeoaaRows
import Derived.Test.YtmfncbibajoeoaaG05
import Derived.Test.YtmfncbibajoeoaaG06
import Derived.Test.YtmfncbibajoeoaaG50
import Derived.Deep.RegionHeld3
import Derived.WalkKit
import Derived.ProofKit
import Derived.OpenShut
import Derived.ChangeOld
import Derived.Below
namespace Go.Proofs.Ytmfncbibajoeoaa.fnExactCheckClaim
set_option maxRecDepth 100000
open Go.ChangeShapes Go.WideShapes Go.ChangeAt Go.RowKit
open Go.Proofs.Ytmfncbibajoeoaa
set_option linter.unusedVariables false

theorem own : ownKnob Try.prog.godebug = none := by kernel_rfl
theorem laidOut : laidOutB Try.prog = true := by kernel_rfl

theorem proofWf_of {x : ClaimD} (h : ∀ n ∈ x.proof, (Lit.int .i64 n).wf = true) : proofWf x := by
  intro k hk
  have e : x.proof.getD k 0 = x.proof[k] := by simp [List.getD, List.getElem?_eq_getElem hk]
  have h1 := h _ (List.getElem_mem hk)
  rw [e]
  generalize x.proof[k] = z at h1 ⊢
  simp [Lit.wf, IntKind.min, IntKind.max, IntKind.signed, IntKind.bits] at h1
  omega

set_option maxHeartbeats 4000000 in
theorem walk (v0 : Value) (x0 : ClaimD) (w : World) (hA0 : ArgClaim w v0 x0)
    (hz0 : Hid (∀ W, Below w.heap.size w W → Calls Try.prog 31 #[v0, .int .i64 1048576] W (szPost x0 W))) (hwf : proofWf x0) :
    Calls Try.prog 4 #[v0] w fun e w' => e = .returned (.bool true) ∧ Below w.heap.size w w' := by
  have kA := Lib.hid hA0
  obtain ⟨p1, c1, p2, c2, p3, c3, p4, c4, p5, c5, rfl, -⟩ := hA0
  have A0 := Lib.hid (heap_alloc_new w (.cells #[.int .i64 x0.kind, .slice p1 x0.cartan.length c1, .slice p2 x0.a.length c2, .slice p3 x0.b.length c3, .slice p4 x0.proof.length c4, .slice p5 x0.roots.length c5] 47 (0, 0)))
  have hB0 : Below w.heap.size w (w.alloc (.cells #[.int .i64 x0.kind, .slice p1 x0.cartan.length c1, .slice p2 x0.a.length c2, .slice p3 x0.b.length c3, .slice p4 x0.proof.length c4, .slice p5 x0.roots.length c5] 47)) := (by repeat (first | with_reducible exact Below.refl _ _ | with_reducible assumption | with_reducible refine below_drewN ?_ _ | with_reducible refine Below.drew ?_ | (with_reducible refine Below.alloc ?_ ?_ _; rotate_left; · first | (simp; done) | (simp; omega) | exact Below.size (by assumption) | (have hsz := Below.size (by assumption : Below _ _ _); simp at hsz ⊢; omega)) | (with_reducible refine Below.setCell ?_ ?_ _; rotate_left; · first | (simp; done) | (simp; omega))))
  obtain ⟨a00, a01, a02, a03, a04, a05⟩ := sixA A0.out
  go_enter Try.func4, Try.ntmps4
  go_wp2_with fail
  refine (hz0.out _ hB0).mono ?_
  rintro e w1 ⟨L1, rfl, hL1, hb1⟩
  clear a00 a01 a02 a03 a04 a05
  have hB1 := hB0.trans (hb1.mono hB0.size)
  have A1 := Lib.hid ((hb1.block _ (lt_of_block A0.out)).trans A0.out)
  have HL1 := Lib.hid hL1; clear hL1
  by_cases hneg : L1 < 0
  · go_wp2_with fail
    go_ret
    exact ⟨rfl, hB1⟩
  have l1a : 0 ≤ L1 := by omega
  obtain ⟨few0, l1b⟩ := HL1.out l1a
  obtain ⟨a10, a11, a12, a13, a14, a15⟩ := sixA A1.out
  clear A0 hB0 hb1
  go_wp2_with fail
  refine (toClaim_any _ x0 _ (kA.out.below hB1) few0).mono ?_
  rintro e w2 ⟨v2, rfl, hv2, hb2⟩
  have hB2 := hB1.trans (hb2.mono hB1.size)
  have A2 := Lib.hid ((hb2.block _ (lt_of_block A1.out)).trans A1.out)
  clear a10 a11 a12 a13 a14 a15 A1 hB1 hb2
  go_wp2_with fail
  refine (spec_CheckClaim_any v2 x0 _ hv2 few0 hwf).mono ?_
  rintro e w3 ⟨rfl, hb3⟩
  have hB3 := hB2.trans (hb3.mono hB2.size)
  have A3 := Lib.hid ((hb3.block _ (lt_of_block A2.out)).trans A2.out)
  clear A2 hB2 hb3 hv2
  obtain ⟨a30, a31, a32, a33, a34, a35⟩ := sixA A3.out
  go_wp2_with fail
  refine (toClaim_any _ x0 _ (kA.out.below hB3) few0).mono ?_
  rintro e w4 ⟨v4, rfl, hv4, hb4⟩
  have hB4 := hB3.trans (hb4.mono hB3.size)
  have A4 := Lib.hid ((hb4.block _ (lt_of_block A3.out)).trans A3.out)
  clear a30 a31 a32 a33 a34 a35 A3 hB3 hb4
  obtain ⟨r1, r2, r3, r4, r5, rfl, R1, R2, R3, R4, R5⟩ := hv4
  have K4 : Hid (∀ W, Below w4.heap.size w4 W → ClaimV W (.agg #[.int .i64 x0.kind, r1, r2, r3, r4, r5]) x0) := fun W hW => ClaimV.below ⟨r1, r2, r3, r4, r5, rfl, R1, R2, R3, R4, R5⟩ hW
  obtain ⟨g1, o1, n1, e1, rfl, -⟩ := R1
  obtain ⟨g2, o2, n2, e2, rfl, -⟩ := R2
  obtain ⟨g3, o3, n3, e3, rfl, -⟩ := R3
  obtain ⟨g4, o4, n4, e4, rfl, -⟩ := R4
  obtain ⟨g5, o5, n5, e5, rfl, -⟩ := R5
  have C4p := heap_alloc_new w4 (.cells #[.int .i64 x0.kind, (Value.slice (some ⟨g1, o1, none⟩) n1 e1), (Value.slice (some ⟨g2, o2, none⟩) n2 e2), (Value.slice (some ⟨g3, o3, none⟩) n3 e3), (Value.slice (some ⟨g4, o4, none⟩) n4 e4), (Value.slice (some ⟨g5, o5, none⟩) n5 e5)] 50 (0, 0))
  have bAl : Below w4.heap.size w4 (w4.alloc (.cells #[.int .i64 x0.kind, (Value.slice (some ⟨g1, o1, none⟩) n1 e1), (Value.slice (some ⟨g2, o2, none⟩) n2 e2), (Value.slice (some ⟨g3, o3, none⟩) n3 e3), (Value.slice (some ⟨g4, o4, none⟩) n4 e4), (Value.slice (some ⟨g5, o5, none⟩) n5 e5)] 50)) := (by repeat (first | with_reducible exact Below.refl _ _ | with_reducible assumption | with_reducible refine below_drewN ?_ _ | with_reducible refine Below.drew ?_ | (with_reducible refine Below.alloc ?_ ?_ _; rotate_left; · first | (simp; done) | (simp; omega) | exact Below.size (by assumption) | (have hsz := Below.size (by assumption : Below _ _ _); simp at hsz ⊢; omega)) | (with_reducible refine Below.setCell ?_ ?_ _; rotate_left; · first | (simp; done) | (simp; omega))))
  have A4' := Lib.hid ((bAl.block _ (lt_of_block A4.out)).trans A4.out)
  have C4' := Lib.hid C4p
  have hB4' := hB4.trans (bAl.mono hB4.size)
  have K4' := Lib.hid (K4.out _ bAl)
  clear C4p A4 K4 bAl hB4
  obtain ⟨c40, c41, c42, c43, c44, c45⟩ := sixA C4'.out
  go_wp2_with fail
  refine (impl_CheckClaim_any _ x0 _ K4'.out few0 hwf).mono ?_
  rintro e w5 ⟨rfl, hb5⟩
  clear c40 c41 c42 c43 c44 c45
  have hB5 := hB4'.trans (hb5.mono hB4'.size)
  have A5 := Lib.hid ((hb5.block _ (lt_of_block A4'.out)).trans A4'.out)
  have C5 := Lib.hid ((hb5.block _ (lt_of_block C4'.out)).trans C4'.out)
  have K5 := Lib.hid (K4'.out.below hb5)
  clear A4' C4' K4' hb5 hB4'
  generalize checkL x0 = L
  have dsc : (L != L) = false := by simp
  have hB5d : Below w.heap.size w w5.drew := below_same hB5 rfl rfl rfl rfl
  obtain ⟨a50, a51, a52, a53, a54, a55⟩ := sixA A5.out
  obtain ⟨c50, c51, c52, c53, c54, c55⟩ := sixA C5.out
  go_wp2_with fail
  have Kd := K5.out.below (w' := w5.drew) (below_same (Below.refl _ _) rfl rfl rfl rfl)
  go_region_held3 (fun W => W.cell? ⟨w.heap.size, 0, none⟩ = some (.int .i64 x0.kind) ∧ W.cell? ⟨w.heap.size, 1, none⟩ = some (.slice p1 x0.cartan.length c1) ∧ W.cell? ⟨w.heap.size, 2, none⟩ = some (.slice p2 x0.a.length c2) ∧ W.cell? ⟨w.heap.size, 3, none⟩ = some (.slice p3 x0.b.length c3) ∧ W.cell? ⟨w.heap.size, 4, none⟩ = some (.slice p4 x0.proof.length c4) ∧ W.cell? ⟨w.heap.size, 5, none⟩ = some (.slice p5 x0.roots.length c5) ∧ W.cell? ⟨w4.heap.size, 0, none⟩ = some (.int .i64 x0.kind) ∧ W.cell? ⟨w4.heap.size, 1, none⟩ = some (Value.slice (some ⟨g1, o1, none⟩) n1 e1) ∧ W.cell? ⟨w4.heap.size, 2, none⟩ = some (Value.slice (some ⟨g2, o2, none⟩) n2 e2) ∧ W.cell? ⟨w4.heap.size, 3, none⟩ = some (Value.slice (some ⟨g3, o3, none⟩) n3 e3) ∧ W.cell? ⟨w4.heap.size, 4, none⟩ = some (Value.slice (some ⟨g4, o4, none⟩) n4 e4) ∧ W.cell? ⟨w4.heap.size, 5, none⟩ = some (Value.slice (some ⟨g5, o5, none⟩) n5 e5))
    (first | exact ⟨a50, a51, a52, a53, a54, a55, c50, c51, c52, c53, c54, c55⟩ | (refine ⟨?_, ?_, ?_, ?_, ?_, ?_, ?_, ?_, ?_, ?_, ?_, ?_⟩ <;> first | assumption | exact keepCell hbF (by assumption) | exact keepCell hbG (keepCell hbF (by assumption))))
    (first
      | (go_at_call 33; refine (toClaim_any _ x0 _ (kA.out.below hB5d) few0).mono ?_; rintro e wF ⟨vF, rfl, hvF, hbF⟩)
      | (go_at_call 35; refine (eqClaim_same _ vF x0 _ (Kd.below hbF) hvF few0).mono ?_; rintro e w6 ⟨rfl, hbG⟩))
  have hB6 := (hB5d.trans (hbF.mono hB5d.size)).trans (hbG.mono (hB5d.trans (hbF.mono hB5d.size)).size)
  clear Kd hvF hbF hbG a50 a51 a52 a53 a54 a55 c50 c51 c52 c53 c54 c55
  go_wp2_with fail
  go_ret
  exact ⟨rfl, hB6⟩

set_option maxRecDepth 100000 in
theorem lifted (os : Os) (started : os.Started) (H : Type) (enc : TypeId × Value → H) :
    ReturnsInHanded {} Try.checked os 4 .any (Rows.fnExactCheckClaimSpec.pre6 enc Try.prog Try.f4 Rows.fnExactCheckClaimRow.domain false) (Rows.fnExactCheckClaimSpec.post enc Try.prog Try.f4 false true false false) := by
  refine returnsInHanded_of_change (C := Try.checked) own started (by kernel_rfl) Try.func4
    (ChangeSpec.witness6 (enc := enc) (C := Try.checked) false ⟨#[], #[.agg #[.int .i64 0, .slice none 0 0, .slice none 0 0, .slice none 0 0, .slice none 0 0, .slice none 0 0]], []⟩ 8 (by kernel_rfl) (by kernel_rfl) (by kernel_rfl) (by kernel_rfl)) ?_
  intro W base args ds gs before hval0 hW hcnd _
  have hval : ∀ (j : Nat) t v, Try.f4.params[j]? = some t → args[j]? = some v → Value.okWide Try.prog W .any base t v := hval0
  have hW' := hW
  obtain ⟨p, q, hA0, hV, rfl, hfz, hnd⟩ := hW
  have hA : DataW.TrodAll enc Try.prog W 0 (fun _ => true) true Try.f4.params.toList args.toList ds p := hA0
  rw [Try.params4] at hA hval
  obtain ⟨v0, vs0, d0, ds0, p0, q0, hargs, rfl, rfl, h0, r0⟩ := trodAll_cons hA
  obtain ⟨rfl, rfl, rfl⟩ := trodAll_nil r0
  obtain rfl : args = #[v0] := by cases args; simp_all
  obtain ⟨rfl, rfl⟩ := trodVars_none hV
  have k0 := h0
  have lt0 : ∀ x ∈ p0, x.block < W.heap.size := by obtain ⟨m, hm⟩ := k0; exact DataW.trod_lt m _ _ _ hm
  obtain ⟨x0, ax0, nx0, rx0, sx0, wp0, wr0⟩ := argClaim_openW (hval 0 47 v0 rfl rfl) h0
  clear hA0 hval0
  refine (walk v0 x0 W ax0 (fun W' hb => szClaim_any v0 x0 1048576 W' (ax0.below hb) (by omega) nx0 rx0 sx0) (proofWf_of wp0)).mono fun e W' ⟨he, bel⟩ => ?_
  subst he
  exact ⟨_, rfl, _, _, _, [], _, [], hW', trodAll_mk1 (shut_bool Try.underlying4 _), (trodAll_cons_mk (Below.trod laidOut (by kernel_rfl) (of_decide_eq_true (by kernel_rfl)) k0 bel lt0) trodAll_mk0), rfl, bel.frame _, fun h => by cases h⟩

theorem over : Rows.fnExactCheckClaimRow.holds Try.pinned (OpenSpec.ofChange Rows.fnExactCheckClaimSpec) :=
  OpenClaim.holds_of_wide 4 Try.f4 rfl rfl rfl rfl rfl rfl rfl ⟨rfl, rfl, rfl, rfl, rfl⟩ rfl rfl rfl rfl rfl (by kernel_rfl) Try.func4 (by kernel_rfl)
    (of_decide_eq_true (by kernel_rfl)) (by unfold Func.isWrapper; first | (rw [if_pos (by decide +kernel)]; kernel_rfl) | (rw [if_neg (by decide +kernel)]; exact ⟨rfl, rfl⟩))
    (fun os started H enc _ => lifted os started H enc)

/-- THE STATEMENT -/
theorem proved : Rows.FnExactCheckClaimSaid := over
#print axioms proved
end Go.Proofs.Ytmfncbibajoeoaa.fnExactCheckClaim
