/-
  PROVED HERE: the law FnExactFormatClaim returns true for every input and leaves its arguments as they were. CONDITIONS: none beyond the given row's own.
-/
import Derived.Test.YthlbkdcmhelggaaDoorRows
import Derived.Test.YthlbkdcmhelggaaDoorCards
import Derived.Test.YthlbkdcmhelggaaDoorTie
import Derived.Test.YthlbkdcmhelggaaDoorFmtD
import Derived.Test.YthlbkdcmhelggaaDoorCl3
import Derived.Test.YthlbkdcmhelggaaDoorCl4
import Derived.Deep.RegionHeld3
import Derived.WalkKit
import Derived.ProofKit
import Derived.OpenShut
import Derived.ChangeOld
import Derived.Below
import Derived.SevenTiedAt
import Derived.LaidMore
import Derived.Stop.Joined
import Derived.Lib.LaidTab
namespace Go.Proofs.YthlbkdcmhelggaaDoor.fnExactFormatClaim
open Go.ChangeShapes Go.WideShapes Go.ChangeAt Go.RowKit
open Go.Proofs.YthlbkdcmhelggaaDoor
set_option linter.unusedVariables false

theorem own : ownKnob Tryd.prog.godebug = none := by kernel_rfl
theorem laidOut : laidOutB Tryd.prog = true := by kernel_rfl
def laidL {H : Type} : List (String × DataW H) := [("math/bits.deBruijn32tab", Rows.laid_math_bits_deBruijn32tab), ("math/bits.deBruijn64tab", Rows.laid_math_bits_deBruijn64tab), ("internal/strconv.uint64pow10", Rows.laid_internal_strconv_uint64pow10)]
theorem gT : Program.globalNamed Tryd.prog "internal/strconv.uint64pow10" = some 1 := by kernel_rfl
theorem gTType : (Tryd.prog.globals[1]?).map (·.type) = some 71 := by kernel_rfl
theorem tab_of_laid {W : World} (h : laidMetH Tryd.prog laidL W) : Tab W := by
  have h' : laidMet Tryd.prog laidL W := h
  obtain ⟨ps, ⟨_, _, _, _, _, q1, _, _, _, _, h2, _⟩, _⟩ := h'
  obtain ⟨_, _, _, _, _, q2, _, _, _, _, h3, _⟩ := h2
  obtain ⟨g', t', cs, fuel, p3, q3, hg', ht', hvar, hd, _, _⟩ := h3
  obtain rfl := Option.some.inj (gT.symm.trans hg')
  obtain rfl := Option.some.inj (gTType.symm.trans ht')
  unfold Tab Lib.TabIs
  rw [hvar, ← Lib.cells_of_tab (zs := Lib.pow10Tab) Tryd.underlying71 Tryd.underlying64 (by kernel_rfl) (by kernel_rfl) hd]

set_option maxHeartbeats 4000000 in
theorem walk (v0 : Value) (x0 : ClaimD) (w : World) (hA0 : ArgClaim w v0 x0)
    (hz0 : Hid (∀ W, Below w.heap.size w W → Calls Tryd.prog 4 #[v0, .int .i64 1048576] W (szPost x0 W))) (hwf : claimWf x0) (ht : Tab w) :
    Calls Tryd.prog 3 #[v0] w fun e w' => e = .returned (.bool true) ∧ Below w.heap.size w w' := by
  have kA := Lib.hid hA0
  obtain ⟨p1, c1, p2, c2, p3, c3, p4, c4, p5, c5, rfl, -⟩ := hA0
  have A0 := Lib.hid (heap_alloc_new w (.cells #[.int .i64 x0.kind, .slice p1 x0.cartan.length c1, .slice p2 x0.a.length c2, .slice p3 x0.b.length c3, .slice p4 x0.proof.length c4, .slice p5 x0.roots.length c5] 25 (0, 0)))
  have hB0 : Below w.heap.size w (w.alloc (.cells #[.int .i64 x0.kind, .slice p1 x0.cartan.length c1, .slice p2 x0.a.length c2, .slice p3 x0.b.length c3, .slice p4 x0.proof.length c4, .slice p5 x0.roots.length c5] 25)) := (by repeat (first | with_reducible exact Below.refl _ _ | with_reducible assumption | with_reducible refine below_drewN ?_ _ | with_reducible refine Below.drew ?_ | (with_reducible refine Below.alloc ?_ ?_ _; rotate_left; · first | (simp; done) | (simp; omega) | exact Below.size (by assumption) | (have hsz := Below.size (by assumption : Below _ _ _); simp at hsz ⊢; omega)) | (with_reducible refine Below.setCell ?_ ?_ _; rotate_left; · first | (simp; done) | (simp; omega))))
  have Ht := Lib.hid ht
  clear ht
  obtain ⟨a00, a01, a02, a03, a04, a05⟩ := sixC A0.out
  go_enter Tryd.func3, Tryd.ntmps3
  go_wp2_with fail
  refine (hz0.out _ hB0).mono ?_
  rintro e w1 ⟨L1, rfl, hL1, hb1⟩
  clear a00 a01 a02 a03 a04 a05
  have hB1 := hB0.trans (hb1.mono hB0.size)
  have A1 := Lib.hid ((hb1.block _ (lt_of_block A0.out)).trans A0.out)
  have HL1 := Lib.hid hL1; clear hL1
  by_cases hneg : L1 < 0
  · go_wp2_with fail
    go_ret
    exact ⟨rfl, hB1⟩
  have l1a : 0 ≤ L1 := by omega
  obtain ⟨few0, l1b⟩ := HL1.out l1a
  obtain ⟨a10, a11, a12, a13, a14, a15⟩ := sixC A1.out
  clear A0 hB0 hb1
  go_wp2_with fail
  refine (toClaim_any _ x0 _ (kA.out.below hB1) few0).mono ?_
  rintro e w2 ⟨v2, rfl, hv2, hb2⟩
  have hB2 := hB1.trans (hb2.mono hB1.size)
  have A2 := Lib.hid ((hb2.block _ (lt_of_block A1.out)).trans A1.out)
  clear a10 a11 a12 a13 a14 a15 A1 hB1 hb2
  go_wp2_with fail
  refine (spec_FormatClaim_any v2 x0 _ hv2 few0 hwf).mono ?_
  rintro e w3 ⟨rfl, hb3⟩
  have hB3 := hB2.trans (hb3.mono hB2.size)
  have A3 := Lib.hid ((hb3.block _ (lt_of_block A2.out)).trans A2.out)
  clear A2 hB2 hb3 hv2
  obtain ⟨a30, a31, a32, a33, a34, a35⟩ := sixC A3.out
  go_wp2_with fail
  refine (toClaim_any _ x0 _ (kA.out.below hB3) few0).mono ?_
  rintro e w4 ⟨v4, rfl, hv4, hb4⟩
  have hB4 := hB3.trans (hb4.mono hB3.size)
  have A4 := Lib.hid ((hb4.block _ (lt_of_block A3.out)).trans A3.out)
  clear a30 a31 a32 a33 a34 a35 A3 hB3 hb4
  obtain ⟨r1, r2, r3, r4, r5, rfl, R1, R2, R3, R4, R5⟩ := hv4
  have K4 : Hid (∀ W, Below w4.heap.size w4 W → ClaimV W (.agg #[.int .i64 x0.kind, r1, r2, r3, r4, r5]) x0) := fun W hW => ClaimV.below ⟨r1, r2, r3, r4, r5, rfl, R1, R2, R3, R4, R5⟩ hW
  obtain ⟨g1, o1, n1, e1, rfl, -⟩ := R1
  obtain ⟨g2, o2, n2, e2, rfl, -⟩ := R2
  obtain ⟨g3, o3, n3, e3, rfl, -⟩ := R3
  obtain ⟨g4, o4, n4, e4, rfl, -⟩ := R4
  obtain ⟨g5, o5, n5, e5, rfl, -⟩ := R5
  have C4p := heap_alloc_new w4 (.cells #[.int .i64 x0.kind, (Value.slice (some ⟨g1, o1, none⟩) n1 e1), (Value.slice (some ⟨g2, o2, none⟩) n2 e2), (Value.slice (some ⟨g3, o3, none⟩) n3 e3), (Value.slice (some ⟨g4, o4, none⟩) n4 e4), (Value.slice (some ⟨g5, o5, none⟩) n5 e5)] 28 (0, 0))
  have bAl : Below w4.heap.size w4 (w4.alloc (.cells #[.int .i64 x0.kind, (Value.slice (some ⟨g1, o1, none⟩) n1 e1), (Value.slice (some ⟨g2, o2, none⟩) n2 e2), (Value.slice (some ⟨g3, o3, none⟩) n3 e3), (Value.slice (some ⟨g4, o4, none⟩) n4 e4), (Value.slice (some ⟨g5, o5, none⟩) n5 e5)] 28)) := (by repeat (first | with_reducible exact Below.refl _ _ | with_reducible assumption | with_reducible refine below_drewN ?_ _ | with_reducible refine Below.drew ?_ | (with_reducible refine Below.alloc ?_ ?_ _; rotate_left; · first | (simp; done) | (simp; omega) | exact Below.size (by assumption) | (have hsz := Below.size (by assumption : Below _ _ _); simp at hsz ⊢; omega)) | (with_reducible refine Below.setCell ?_ ?_ _; rotate_left; · first | (simp; done) | (simp; omega))))
  have A4' := Lib.hid ((bAl.block _ (lt_of_block A4.out)).trans A4.out)
  have C4' := Lib.hid C4p
  have hB4' := hB4.trans (bAl.mono hB4.size)
  have K4' := Lib.hid (K4.out _ bAl)
  clear C4p A4 K4 bAl hB4
  obtain ⟨c40, c41, c42, c43, c44, c45⟩ := sixC C4'.out
  go_wp2_with fail
  refine (impl_FormatClaim_any _ x0 _ K4'.out few0 hwf (Ht.out.below hB4')).mono ?_
  rintro e w5 ⟨rfl, hb5⟩
  clear c40 c41 c42 c43 c44 c45
  have hB5 := hB4'.trans (hb5.mono hB4'.size)
  have A5 := Lib.hid ((hb5.block _ (lt_of_block A4'.out)).trans A4'.out)
  have C5 := Lib.hid ((hb5.block _ (lt_of_block C4'.out)).trans C4'.out)
  have K5 := Lib.hid (K4'.out.below hb5)
  clear A4' C4' K4' hb5 hB4'
  generalize claimL x0 = L
  have hB5d : Below w.heap.size w w5.drew := below_same hB5 rfl rfl rfl rfl
  obtain ⟨a50, a51, a52, a53, a54, a55⟩ := sixC A5.out
  obtain ⟨c50, c51, c52, c53, c54, c55⟩ := sixC C5.out
  go_wp2_with fail
  have Kd := K5.out.below (w' := w5.drew) (below_same (Below.refl _ _) rfl rfl rfl rfl)
  go_region_held3 (fun W => W.cell? ⟨w.heap.size, 0, none⟩ = some (.int .i64 x0.kind) ∧ W.cell? ⟨w.heap.size, 1, none⟩ = some (.slice p1 x0.cartan.length c1) ∧ W.cell? ⟨w.heap.size, 2, none⟩ = some (.slice p2 x0.a.length c2) ∧ W.cell? ⟨w.heap.size, 3, none⟩ = some (.slice p3 x0.b.length c3) ∧ W.cell? ⟨w.heap.size, 4, none⟩ = some (.slice p4 x0.proof.length c4) ∧ W.cell? ⟨w.heap.size, 5, none⟩ = some (.slice p5 x0.roots.length c5) ∧ W.cell? ⟨w4.heap.size, 0, none⟩ = some (.int .i64 x0.kind) ∧ W.cell? ⟨w4.heap.size, 1, none⟩ = some (Value.slice (some ⟨g1, o1, none⟩) n1 e1) ∧ W.cell? ⟨w4.heap.size, 2, none⟩ = some (Value.slice (some ⟨g2, o2, none⟩) n2 e2) ∧ W.cell? ⟨w4.heap.size, 3, none⟩ = some (Value.slice (some ⟨g3, o3, none⟩) n3 e3) ∧ W.cell? ⟨w4.heap.size, 4, none⟩ = some (Value.slice (some ⟨g4, o4, none⟩) n4 e4) ∧ W.cell? ⟨w4.heap.size, 5, none⟩ = some (Value.slice (some ⟨g5, o5, none⟩) n5 e5))
    (first | exact ⟨a50, a51, a52, a53, a54, a55, c50, c51, c52, c53, c54, c55⟩ | (refine ⟨?_, ?_, ?_, ?_, ?_, ?_, ?_, ?_, ?_, ?_, ?_, ?_⟩ <;> first | assumption | exact keepCellC hbF (by assumption) | exact keepCellC hbG (keepCellC hbF (by assumption))))
    (first
      | (go_at_call 6; refine (toClaim_any _ x0 _ (kA.out.below hB5d) few0).mono ?_; rintro e wF ⟨vF, rfl, hvF, hbF⟩)
      | (go_at_call 8; refine (eqClaim_same _ vF x0 _ (Kd.below hbF) hvF few0).mono ?_; rintro e w6 ⟨rfl, hbG⟩))
  have hB6 := (hB5d.trans (hbF.mono hB5d.size)).trans (hbG.mono (hB5d.trans (hbF.mono hB5d.size)).size)
  clear Kd hvF hbF hbG a50 a51 a52 a53 a54 a55 c50 c51 c52 c53 c54 c55
  go_wp2_with fail
  go_ret
  exact ⟨rfl, hB6⟩

theorem door_met (os : Os) (args : Array Value) : laidMetH Tryd.prog laidL ((World.doorLaid Tryd.prog 400 os).forCall (fun _ _ => 0) ⟨#[], args, []⟩).memory :=
  laidMetH_of_parts3 (fuel := 8) (laidMet_of_run' 8 (by kernel_rfl) (by kernel_rfl)) (by kernel_rfl) (by kernel_rfl)

set_option maxRecDepth 100000 in
theorem lifted (os : Os) (started : os.Started) (H : Type) (enc : TypeId × Value → H) :
    ReturnsInHanded {} Tryd.checked os 3 .any (fun w args => (Rows.fnExactFormatClaimSpec.pre enc Tryd.prog Tryd.f3 [] false w args ∧ laidMetH Tryd.prog laidL w) ∧ sizedMet enc Tryd.prog Tryd.f3 (OpenSpec.ofChange Rows.fnExactFormatClaimSpec) false w args)
      (Rows.fnExactFormatClaimSpec.post enc Tryd.prog Tryd.f3 false true false false) := by
  refine returnsInHanded_of_change_and (C := Tryd.checked) (X := fun w _ => laidMetH Tryd.prog laidL w) (fun _ _ _ hh h => h.of_heap hh) own started (by kernel_rfl) Tryd.func3
    (ChangeSpec.witness_shaped (enc := enc) (C := Tryd.checked) (os := os) (X := fun w _ => laidMetH Tryd.prog laidL w) false (World.doorLaid Tryd.prog 400 os) #[.agg #[.int .i64 0, .slice none 0 0, .slice none 0 0, .slice none 0 0, .slice none 0 0, .slice none 0 0]] 8 rfl (World.shaped_of_RefB (by kernel_rfl) (by kernel_rfl)) (by kernel_rfl) (by kernel_rfl) (by kernel_rfl) (door_met os _)) ?_
  intro W base args ds gs before hval0 hW _ _ hL _
  have hval : ∀ (j : Nat) t v, Tryd.f3.params[j]? = some t → args[j]? = some v → Value.okWide Tryd.prog W .any base t v := hval0
  have hW' := hW
  obtain ⟨p, q, hA0, hV, rfl, hfz, hnd⟩ := hW
  have hA : DataW.TrodAll enc Tryd.prog W 0 (fun _ => true) true Tryd.f3.params.toList args.toList ds p := hA0
  rw [Tryd.params3] at hA hval
  obtain ⟨v0, vs0, d0, ds0, p0, q0, hargs, rfl, rfl, h0, r0⟩ := trodAll_cons hA
  obtain ⟨rfl, rfl, rfl⟩ := trodAll_nil r0
  obtain rfl : args = #[v0] := by cases args; simp_all
  obtain ⟨rfl, rfl⟩ := trodVars_none hV
  have k0 := h0
  have lt0 : ∀ x ∈ p0, x.block < W.heap.size := by obtain ⟨m, hm⟩ := k0; exact DataW.trod_lt m _ _ _ hm
  obtain ⟨x0, ax0, nx0, rx0, sx0, wp0, wr0⟩ := argClaim_openW (hval 0 25 v0 rfl rfl) h0
  clear hA0 hval0
  refine (walk v0 x0 W ax0 (fun W' hb => szClaim_any v0 x0 1048576 W' (ax0.below hb) (by omega) nx0 rx0 sx0) ⟨wp0, wr0⟩ (tab_of_laid hL)).mono fun e W' ⟨he, bel⟩ => ?_
  subst he
  exact ⟨_, rfl, _, _, _, [], _, [], hW', trodAll_mk1 (shut_bool Tryd.underlying4 _), (trodAll_cons_mk (Below.trod laidOut (by kernel_rfl) (of_decide_eq_true (by kernel_rfl)) k0 bel lt0) trodAll_mk0), rfl, bel.frame _, fun h => by cases h⟩

theorem over : Rows.fnExactFormatClaimRow.holds Tryd.pinned (OpenSpec.ofChange Rows.fnExactFormatClaimSpec) :=
  OpenClaim.holds_of_wide 3 Tryd.f3 rfl rfl rfl rfl rfl rfl rfl ⟨rfl, rfl, rfl, rfl, rfl⟩ rfl rfl rfl rfl rfl (by kernel_rfl) Tryd.func3 (by kernel_rfl)
    (of_decide_eq_true (by kernel_rfl)) (by unfold Func.isWrapper; first | (rw [if_pos (by decide +kernel)]; kernel_rfl) | (rw [if_neg (by decide +kernel)]; exact ⟨rfl, rfl⟩))
    (fun os started H enc _ => lifted os started H enc)

/-- THE STATEMENT -/
theorem proved : Rows.FnExactFormatClaimCardSaid :=
  Claim7.holds_tied_plain_at .later [] [.data, .data, .data] true (true, "63af0fab0186908368157330de30ba95d0574672cef345fbae7ff10094ce4a90") false
    over (fun _ h => by cases h) (by kernel_rfl) (fun _ h => by cases h) fnExactFormatClaim_row_tie rfl ⟨rfl, rfl⟩ (by kernel_rfl) rfl
    (fun f fn hf hfn => by
      obtain rfl : f = 3 := Option.some.inj ((show Program.funcNamed Tryd.prog "loop.example/g02076/laws.FnExactFormatClaim" = some 3 by kernel_rfl).symm.trans hf) |>.symm
      obtain rfl : fn = Tryd.f3 := (Option.some.inj (Tryd.func3.symm.trans hfn)).symm
      exact ⟨by kernel_rfl, fun j t ht => by
        rw [Tryd.params3] at ht
        have hm : t ∈ [25] := by simpa using Array.mem_of_getElem? ht
        have hall : ([25].all fun u => !Program.wantsStandIn Tryd.prog u) = true := by kernel_rfl
        exact (show Program.wantsStandIn Tryd.prog t = false by simpa using List.all_eq_true.1 hall t hm)⟩)
    (by kernel_rfl)
#print axioms proved
end Go.Proofs.YthlbkdcmhelggaaDoor.fnExactFormatClaim
