/-
  PROVED HERE: the law FnExactEqualClaims returns true for every input and leaves its arguments as they were. CONDITIONS: none beyond the given row's own.
-/
import Derived.Test.YtgdgmldmcommbaaRows
import Derived.Test.YtgdgmldmcommbaaClOf
import Derived.Test.YtgdgmldmcommbaaCl3
import Derived.Test.YtgdgmldmcommbaaCl4
import Derived.Deep.RegionHeld3
import Derived.WalkKit
import Derived.ProofKit
import Derived.OpenShut
import Derived.ChangeOld
import Derived.Below
namespace Go.Proofs.Ytgdgmldmcommbaa.fnExactEqualClaims
open Go.ChangeShapes Go.WideShapes Go.ChangeAt Go.RowKit
open Go.Proofs.Ytgdgmldmcommbaa
set_option linter.unusedVariables false

theorem own : ownKnob Try.prog.godebug = none := by kernel_rfl
theorem laidOut : laidOutB Try.prog = true := by kernel_rfl

theorem two_blocks (w : World) (o0 o1 : Obj) : ((w.alloc o0).alloc o1).heap[w.heap.size]? = some o0 ∧ ((w.alloc o0).alloc o1).heap[w.heap.size + 1]? = some o1 := by
  have e : ((w.alloc o0).alloc o1).heap = (w.heap.push o0).push o1 := rfl
  rw [e]
  refine ⟨?_, ?_⟩
  · rw [Array.getElem?_push, if_neg (by simp), Array.getElem?_push, if_pos rfl]
  · rw [Array.getElem?_push, if_pos (by simp)]
theorem keepCell {W W' : World} {b o : Nat} {v : Value} (hb : Below W.heap.size W W') (h : W.cell? ⟨b, o, none⟩ = some v) : W'.cell? ⟨b, o, none⟩ = some v :=
  (hb.cell (p := ⟨b, o, none⟩) (World.block_lt_of_cell? _ _ h)).trans h
theorem six {W : World} {b : Nat} {v0 v1 v2 v3 v4 v5 : Value} {t : TypeId} (h : W.heap[b]? = some (.cells #[v0, v1, v2, v3, v4, v5] t (0, 0))) :
    W.cell? ⟨b, 0, none⟩ = some v0 ∧ W.cell? ⟨b, 1, none⟩ = some v1 ∧ W.cell? ⟨b, 2, none⟩ = some v2 ∧ W.cell? ⟨b, 3, none⟩ = some v3 ∧ W.cell? ⟨b, 4, none⟩ = some v4 ∧ W.cell? ⟨b, 5, none⟩ = some v5 := by
  refine ⟨?_, ?_, ?_, ?_, ?_, ?_⟩ <;> (rw [cell_of_cells h]; rfl)

set_option maxHeartbeats 4000000 in
theorem walk (v0 v1 : Value) (x0 x1 : ClaimD) (w : World) (hA0 : ArgClaim w v0 x0) (hA1 : ArgClaim w v1 x1)
    (hz0 : Hid (∀ W, Below w.heap.size w W → Calls Try.prog 41 #[v0, .int .i64 1048576] W (szPost x0 W)))
    (hz1 : Hid (∀ W l, Below w.heap.size w W → 0 ≤ l → l ≤ 1048576 → Calls Try.prog 41 #[v1, .int .i64 l] W (szPost x1 W))) :
    Calls Try.prog 14 #[v0, v1] w fun e w' => e = .returned (.bool true) ∧ Below w.heap.size w w' := by
  have kA := Lib.hid hA0; have kB := Lib.hid hA1
  obtain ⟨p1, c1, p2, c2, p3, c3, p4, c4, p5, c5, rfl, -⟩ := hA0
  obtain ⟨q1, d1, q2, d2, q3, d3, q4, d4, q5, d5, rfl, -⟩ := hA1
  have tb := two_blocks w (.cells #[.int .i64 x0.kind, .slice p1 x0.cartan.length c1, .slice p2 x0.a.length c2, .slice p3 x0.b.length c3, .slice p4 x0.proof.length c4, .slice p5 x0.roots.length c5] 39) (.cells #[.int .i64 x1.kind, .slice q1 x1.cartan.length d1, .slice q2 x1.a.length d2, .slice q3 x1.b.length d3, .slice q4 x1.proof.length d4, .slice q5 x1.roots.length d5] 39)
  have A0 := Lib.hid tb.1; have B0 := Lib.hid tb.2
  clear tb
  have hB0 : Below w.heap.size w ((w.alloc (.cells #[.int .i64 x0.kind, .slice p1 x0.cartan.length c1, .slice p2 x0.a.length c2, .slice p3 x0.b.length c3, .slice p4 x0.proof.length c4, .slice p5 x0.roots.length c5] 39)).alloc (.cells #[.int .i64 x1.kind, .slice q1 x1.cartan.length d1, .slice q2 x1.a.length d2, .slice q3 x1.b.length d3, .slice q4 x1.proof.length d4, .slice q5 x1.roots.length d5] 39)) := (by repeat (first | with_reducible exact Below.refl _ _ | with_reducible refine below_drewN ?_ _ | with_reducible refine Below.drew ?_ | (with_reducible refine Below.alloc ?_ ?_ _; rotate_left; · first | (simp; done) | (simp; omega)) | (with_reducible refine Below.setCell ?_ ?_ _; rotate_left; · first | (simp; done) | (simp; omega))))
  go_enter Try.func14, Try.ntmps14
  go_wp2_with fail
  refine (hz0.out _ hB0).mono ?_
  rintro e w1 ⟨L1, rfl, hL1, hb1⟩
  have hB1 := hB0.trans (hb1.mono hB0.size)
  have A1 := Lib.hid ((hb1.block _ (lt_of_block A0.out)).trans A0.out)
  have B1 := Lib.hid ((hb1.block _ (lt_of_block B0.out)).trans B0.out)
  have HL1 := Lib.hid hL1; clear hL1
  by_cases hneg : L1 < 0
  · go_wp2_with fail
    go_ret
    exact ⟨rfl, hB1⟩
  have l1a : 0 ≤ L1 := by omega
  obtain ⟨few0, l1b⟩ := HL1.out l1a
  obtain ⟨b10, b11, b12, b13, b14, b15⟩ := six B1.out
  go_wp2_with fail
  refine (hz1.out _ _ hB1 l1a l1b).mono ?_
  rintro e w2 ⟨L2, rfl, hL2, hb2⟩
  have hB2 := hB1.trans (hb2.mono hB1.size)
  have A2 := Lib.hid ((hb2.block _ (lt_of_block A1.out)).trans A1.out)
  have B2 := Lib.hid ((hb2.block _ (lt_of_block B1.out)).trans B1.out)
  have HL2 := Lib.hid hL2; clear hL2
  by_cases hneg2 : L2 < 0
  · go_wp2_with fail
    go_ret
    exact ⟨rfl, hB2⟩
  obtain ⟨few1, -⟩ := HL2.out (by omega)
  clear b10 b11 b12 b13 b14 b15
  obtain ⟨b20, b21, b22, b23, b24, b25⟩ := six B2.out
  have hB2d : Below w.heap.size w w2.drew := below_same hB2 rfl rfl rfl rfl
  obtain ⟨a20, a21, a22, a23, a24, a25⟩ := six A2.out
  go_wp2_with fail
  go_region_held3 (fun W => Below w.heap.size w W ∧ W.cell? ⟨w.heap.size, 0, none⟩ = some (.int .i64 x0.kind) ∧ W.cell? ⟨w.heap.size, 1, none⟩ = some (.slice p1 x0.cartan.length c1) ∧ W.cell? ⟨w.heap.size, 2, none⟩ = some (.slice p2 x0.a.length c2) ∧ W.cell? ⟨w.heap.size, 3, none⟩ = some (.slice p3 x0.b.length c3) ∧ W.cell? ⟨w.heap.size, 4, none⟩ = some (.slice p4 x0.proof.length c4) ∧ W.cell? ⟨w.heap.size, 5, none⟩ = some (.slice p5 x0.roots.length c5) ∧ W.cell? ⟨w.heap.size + 1, 0, none⟩ = some (.int .i64 x1.kind) ∧ W.cell? ⟨w.heap.size + 1, 1, none⟩ = some (.slice q1 x1.cartan.length d1) ∧ W.cell? ⟨w.heap.size + 1, 2, none⟩ = some (.slice q2 x1.a.length d2) ∧ W.cell? ⟨w.heap.size + 1, 3, none⟩ = some (.slice q3 x1.b.length d3) ∧ W.cell? ⟨w.heap.size + 1, 4, none⟩ = some (.slice q4 x1.proof.length d4) ∧ W.cell? ⟨w.heap.size + 1, 5, none⟩ = some (.slice q5 x1.roots.length d5))
    (first | exact ⟨hB2d, a20, a21, a22, a23, a24, a25, b20, b21, b22, b23, b24, b25⟩ | (refine ⟨?_, ?_, ?_, ?_, ?_, ?_, ?_, ?_, ?_, ?_, ?_, ?_, ?_⟩ <;> first | assumption | exact hB2d.trans (hbA.mono hB2d.size) | exact (hB2d.trans (hbA.mono hB2d.size)).trans (hbB.mono (hB2d.trans (hbA.mono hB2d.size)).size) | exact ((hB2d.trans (hbA.mono hB2d.size)).trans (hbB.mono (hB2d.trans (hbA.mono hB2d.size)).size)).trans (hbE.mono ((hB2d.trans (hbA.mono hB2d.size)).trans (hbB.mono (hB2d.trans (hbA.mono hB2d.size)).size)).size) | exact keepCell hbA (by assumption) | exact keepCell hbB (keepCell hbA (by assumption)) | exact keepCell hbE (keepCell hbB (keepCell hbA (by assumption)))))
    (first
      | (go_at_call_of 43 (Value.agg #[.int .i64 x0.kind, .slice p1 x0.cartan.length c1, .slice p2 x0.a.length c2, .slice p3 x0.b.length c3, .slice p4 x0.proof.length c4, .slice p5 x0.roots.length c5]); refine (toClaim_any _ x0 _ (kA.out.below (by assumption)) few0).mono ?_; rintro e wA ⟨vA, rfl, hvA, hbA⟩)
      | (go_at_call_of 43 (Value.agg #[.int .i64 x1.kind, .slice q1 x1.cartan.length d1, .slice q2 x1.a.length d2, .slice q3 x1.b.length d3, .slice q4 x1.proof.length d4, .slice q5 x1.roots.length d5]); refine (toClaim_any _ x1 _ (kB.out.below (by first | assumption | exact hB2d.trans (hbA.mono hB2d.size))) few1).mono ?_; rintro e wB ⟨vB, rfl, hvB, hbB⟩)
      | (go_at_call 42; refine (spec_EqualClaims_any vA vB x0 x1 _ (hvA.below hbB) hvB few0 few1).mono ?_; rintro e wE ⟨rfl, hbE⟩))
  have hBE := ((hB2d.trans (hbA.mono hB2d.size)).trans (hbB.mono (hB2d.trans (hbA.mono hB2d.size)).size)).trans (hbE.mono ((hB2d.trans (hbA.mono hB2d.size)).trans (hbB.mono (hB2d.trans (hbA.mono hB2d.size)).size)).size)
  have AE := Lib.hid ((hbE.block _ (lt_of_block ((hbB.block _ (lt_of_block ((hbA.block _ (lt_of_block A2.out)).trans A2.out))).trans ((hbA.block _ (lt_of_block A2.out)).trans A2.out)))).trans ((hbB.block _ (lt_of_block ((hbA.block _ (lt_of_block A2.out)).trans A2.out))).trans ((hbA.block _ (lt_of_block A2.out)).trans A2.out)))
  have BE := Lib.hid ((hbE.block _ (lt_of_block ((hbB.block _ (lt_of_block ((hbA.block _ (lt_of_block B2.out)).trans B2.out))).trans ((hbA.block _ (lt_of_block B2.out)).trans B2.out)))).trans ((hbB.block _ (lt_of_block ((hbA.block _ (lt_of_block B2.out)).trans B2.out))).trans ((hbA.block _ (lt_of_block B2.out)).trans B2.out)))
  clear hvA hvB hbA hbB hbE hB2d a20 a21 a22 a23 a24 a25 b20 b21 b22 b23 b24 b25 A2 B2
  obtain ⟨a20, a21, a22, a23, a24, a25⟩ := six AE.out
  go_wp2_with fail
  refine (toClaim_any _ x0 _ (kA.out.below hBE) few0).mono ?_
  rintro e w3 ⟨v3, rfl, hv3, hb3⟩
  clear a20 a21 a22 a23 a24 a25
  have hB3 := hBE.trans (hb3.mono hBE.size)
  have A3 := Lib.hid ((hb3.block _ (lt_of_block AE.out)).trans AE.out)
  have B3 := Lib.hid ((hb3.block _ (lt_of_block BE.out)).trans BE.out)
  clear AE BE hb3
  obtain ⟨r1, r2, r3, r4, r5, rfl, R1, R2, R3, R4, R5⟩ := hv3
  have K3 : Hid (∀ W, Below w3.heap.size w3 W → ClaimV W (.agg #[.int .i64 x0.kind, r1, r2, r3, r4, r5]) x0) := fun W hW => ClaimV.below ⟨r1, r2, r3, r4, r5, rfl, R1, R2, R3, R4, R5⟩ hW
  obtain ⟨g1, o1, n1, e1, rfl, -⟩ := R1
  obtain ⟨g2, o2, n2, e2, rfl, -⟩ := R2
  obtain ⟨g3, o3, n3, e3, rfl, -⟩ := R3
  obtain ⟨g4, o4, n4, e4, rfl, -⟩ := R4
  obtain ⟨g5, o5, n5, e5, rfl, -⟩ := R5
  have C3p := heap_alloc_new w3 (.cells #[.int .i64 x0.kind, (Value.slice (some ⟨g1, o1, none⟩) n1 e1), (Value.slice (some ⟨g2, o2, none⟩) n2 e2), (Value.slice (some ⟨g3, o3, none⟩) n3 e3), (Value.slice (some ⟨g4, o4, none⟩) n4 e4), (Value.slice (some ⟨g5, o5, none⟩) n5 e5)] 42 (0, 0))
  have bAl : Below w3.heap.size w3 (w3.alloc (.cells #[.int .i64 x0.kind, (Value.slice (some ⟨g1, o1, none⟩) n1 e1), (Value.slice (some ⟨g2, o2, none⟩) n2 e2), (Value.slice (some ⟨g3, o3, none⟩) n3 e3), (Value.slice (some ⟨g4, o4, none⟩) n4 e4), (Value.slice (some ⟨g5, o5, none⟩) n5 e5)] 42)) := (by repeat (first | with_reducible exact Below.refl _ _ | with_reducible refine below_drewN ?_ _ | with_reducible refine Below.drew ?_ | (with_reducible refine Below.alloc ?_ ?_ _; rotate_left; · first | (simp; done) | (simp; omega)) | (with_reducible refine Below.setCell ?_ ?_ _; rotate_left; · first | (simp; done) | (simp; omega))))
  have b3 := six ((bAl.block _ (lt_of_block B3.out)).trans B3.out)
  have C3 := Lib.hid C3p
  have A3' := Lib.hid ((bAl.block _ (lt_of_block A3.out)).trans A3.out)
  have B3' := Lib.hid ((bAl.block _ (lt_of_block B3.out)).trans B3.out)
  have hB3' := hB3.trans (bAl.mono hB3.size)
  have K3' := K3.out _ bAl
  have wlt := lt_of_block C3p
  clear C3p A3 B3
  obtain ⟨b30, b31, b32, b33, b34, b35⟩ := b3
  go_wp2_with fail
  refine (toClaim_any _ x1 _ (kB.out.below hB3') few1).mono ?_
  rintro e w4 ⟨v4, rfl, hv4, hb4⟩
  clear b30 b31 b32 b33 b34 b35
  have hB4 := hB3'.trans (hb4.mono hB3'.size)
  have A4 := Lib.hid ((hb4.block _ (lt_of_block A3'.out)).trans A3'.out)
  have B4 := Lib.hid ((hb4.block _ (lt_of_block B3'.out)).trans B3'.out)
  have C4 := Lib.hid ((hb4.block _ (lt_of_block C3.out)).trans C3.out)
  have K4 := K3'.below hb4
  clear A3' B3' C3 hb4 K3' K3
  obtain ⟨r1, r2, r3, r4, r5, rfl, R1, R2, R3, R4, R5⟩ := hv4
  have J4 : Hid (∀ W, Below w4.heap.size w4 W → ClaimV W (.agg #[.int .i64 x1.kind, r1, r2, r3, r4, r5]) x1) := fun W hW => ClaimV.below ⟨r1, r2, r3, r4, r5, rfl, R1, R2, R3, R4, R5⟩ hW
  obtain ⟨h1, m1, l1, f1, rfl, -⟩ := R1
  obtain ⟨h2, m2, l2, f2, rfl, -⟩ := R2
  obtain ⟨h3, m3, l3, f3, rfl, -⟩ := R3
  obtain ⟨h4, m4, l4, f4, rfl, -⟩ := R4
  obtain ⟨h5, m5, l5, f5, rfl, -⟩ := R5
  have D4p := heap_alloc_new w4 (.cells #[.int .i64 x1.kind, (Value.slice (some ⟨h1, m1, none⟩) l1 f1), (Value.slice (some ⟨h2, m2, none⟩) l2 f2), (Value.slice (some ⟨h3, m3, none⟩) l3 f3), (Value.slice (some ⟨h4, m4, none⟩) l4 f4), (Value.slice (some ⟨h5, m5, none⟩) l5 f5)] 42 (0, 0))
  have bAl : Below w4.heap.size w4 (w4.alloc (.cells #[.int .i64 x1.kind, (Value.slice (some ⟨h1, m1, none⟩) l1 f1), (Value.slice (some ⟨h2, m2, none⟩) l2 f2), (Value.slice (some ⟨h3, m3, none⟩) l3 f3), (Value.slice (some ⟨h4, m4, none⟩) l4 f4), (Value.slice (some ⟨h5, m5, none⟩) l5 f5)] 42)) := (by repeat (first | with_reducible exact Below.refl _ _ | with_reducible refine below_drewN ?_ _ | with_reducible refine Below.drew ?_ | (with_reducible refine Below.alloc ?_ ?_ _; rotate_left; · first | (simp; done) | (simp; omega)) | (with_reducible refine Below.setCell ?_ ?_ _; rotate_left; · first | (simp; done) | (simp; omega))))
  have A4' := Lib.hid ((bAl.block _ (lt_of_block A4.out)).trans A4.out)
  have B4' := Lib.hid ((bAl.block _ (lt_of_block B4.out)).trans B4.out)
  have C4' := Lib.hid ((bAl.block _ (lt_of_block C4.out)).trans C4.out)
  have D4' := Lib.hid D4p
  have hB4' := hB4.trans (bAl.mono hB4.size)
  have K4' := Lib.hid (K4.below bAl)
  have J4' := Lib.hid (J4.out _ bAl)
  clear D4p A4 B4 C4 K4 J4
  obtain ⟨c40, c41, c42, c43, c44, c45⟩ := six C4'.out
  obtain ⟨d40, d41, d42, d43, d44, d45⟩ := six D4'.out
  go_wp2_with fail
  refine (impl_EqualClaims_any _ _ x0 x1 _ K4'.out J4'.out few0 few1).mono ?_
  rintro e w5 ⟨rfl, hb5⟩
  clear c40 c41 c42 c43 c44 c45 d40 d41 d42 d43 d44 d45
  have hB5 := hB4'.trans (hb5.mono hB4'.size)
  have A5 := Lib.hid ((hb5.block _ (lt_of_block A4'.out)).trans A4'.out)
  have B5 := Lib.hid ((hb5.block _ (lt_of_block B4'.out)).trans B4'.out)
  have C5 := Lib.hid ((hb5.block _ (lt_of_block C4'.out)).trans C4'.out)
  have D5 := Lib.hid ((hb5.block _ (lt_of_block D4'.out)).trans D4'.out)
  have K5 := Lib.hid (K4'.out.below hb5)
  have J5 := Lib.hid (J4'.out.below hb5)
  clear A4' B4' C4' D4' K4' J4' hb5
  generalize sameClaim x0 x1 = sc
  have dsc : (sc != sc) = false := by simp
  have hB5d : Below w.heap.size w w5.drew := below_same hB5 rfl rfl rfl rfl
  obtain ⟨a50, a51, a52, a53, a54, a55⟩ := six A5.out
  obtain ⟨c50, c51, c52, c53, c54, c55⟩ := six C5.out
  go_wp2_with fail
  have Kd := K5.out.below (w' := w5.drew) (below_same (Below.refl _ _) rfl rfl rfl rfl)
  go_region_held3 (fun W => W.cell? ⟨w.heap.size, 0, none⟩ = some (.int .i64 x0.kind) ∧ W.cell? ⟨w.heap.size, 1, none⟩ = some (.slice p1 x0.cartan.length c1) ∧ W.cell? ⟨w.heap.size, 2, none⟩ = some (.slice p2 x0.a.length c2) ∧ W.cell? ⟨w.heap.size, 3, none⟩ = some (.slice p3 x0.b.length c3) ∧ W.cell? ⟨w.heap.size, 4, none⟩ = some (.slice p4 x0.proof.length c4) ∧ W.cell? ⟨w.heap.size, 5, none⟩ = some (.slice p5 x0.roots.length c5) ∧ W.cell? ⟨w3.heap.size, 0, none⟩ = some (.int .i64 x0.kind) ∧ W.cell? ⟨w3.heap.size, 1, none⟩ = some (Value.slice (some ⟨g1, o1, none⟩) n1 e1) ∧ W.cell? ⟨w3.heap.size, 2, none⟩ = some (Value.slice (some ⟨g2, o2, none⟩) n2 e2) ∧ W.cell? ⟨w3.heap.size, 3, none⟩ = some (Value.slice (some ⟨g3, o3, none⟩) n3 e3) ∧ W.cell? ⟨w3.heap.size, 4, none⟩ = some (Value.slice (some ⟨g4, o4, none⟩) n4 e4) ∧ W.cell? ⟨w3.heap.size, 5, none⟩ = some (Value.slice (some ⟨g5, o5, none⟩) n5 e5))
    (first | exact ⟨a50, a51, a52, a53, a54, a55, c50, c51, c52, c53, c54, c55⟩ | (refine ⟨?_, ?_, ?_, ?_, ?_, ?_, ?_, ?_, ?_, ?_, ?_, ?_⟩ <;> first | assumption | exact keepCell hbF (by assumption) | exact keepCell hbG (keepCell hbF (by assumption))))
    (first
      | (go_at_call 43; refine (toClaim_any _ x0 _ (kA.out.below hB5d) few0).mono ?_; rintro e wF ⟨vF, rfl, hvF, hbF⟩)
      | (go_at_call 45; refine (eqClaim_same _ vF x0 _ (Kd.below hbF) hvF few0).mono ?_; rintro e w6 ⟨rfl, hbG⟩))
  have hB6 := (hB5d.trans (hbF.mono hB5d.size)).trans (hbG.mono (hB5d.trans (hbF.mono hB5d.size)).size)
  have B6 := Lib.hid ((hbG.block _ (lt_of_block ((hbF.block _ (lt_of_block B5.out)).trans B5.out))).trans ((hbF.block _ (lt_of_block B5.out)).trans B5.out))
  have D6 := Lib.hid ((hbG.block _ (lt_of_block ((hbF.block _ (lt_of_block D5.out)).trans D5.out))).trans ((hbF.block _ (lt_of_block D5.out)).trans D5.out))
  have J6 := Lib.hid (((J5.out.below (w' := w5.drew) (below_same (Below.refl _ _) rfl rfl rfl rfl)).below hbF).below hbG)
  clear Kd hvF hbF hbG a50 a51 a52 a53 a54 a55 c50 c51 c52 c53 c54 c55 A5 B5 C5 D5 K5 J5
  have hB6d : Below w.heap.size w w6.drew := below_same hB6 rfl rfl rfl rfl
  obtain ⟨a60, a61, a62, a63, a64, a65⟩ := six B6.out
  obtain ⟨c60, c61, c62, c63, c64, c65⟩ := six D6.out
  go_wp2_with fail
  have Kd := J6.out.below (w' := w6.drew) (below_same (Below.refl _ _) rfl rfl rfl rfl)
  go_region_held3 (fun W => W.cell? ⟨w.heap.size + 1, 0, none⟩ = some (.int .i64 x1.kind) ∧ W.cell? ⟨w.heap.size + 1, 1, none⟩ = some (.slice q1 x1.cartan.length d1) ∧ W.cell? ⟨w.heap.size + 1, 2, none⟩ = some (.slice q2 x1.a.length d2) ∧ W.cell? ⟨w.heap.size + 1, 3, none⟩ = some (.slice q3 x1.b.length d3) ∧ W.cell? ⟨w.heap.size + 1, 4, none⟩ = some (.slice q4 x1.proof.length d4) ∧ W.cell? ⟨w.heap.size + 1, 5, none⟩ = some (.slice q5 x1.roots.length d5) ∧ W.cell? ⟨w4.heap.size, 0, none⟩ = some (.int .i64 x1.kind) ∧ W.cell? ⟨w4.heap.size, 1, none⟩ = some (Value.slice (some ⟨h1, m1, none⟩) l1 f1) ∧ W.cell? ⟨w4.heap.size, 2, none⟩ = some (Value.slice (some ⟨h2, m2, none⟩) l2 f2) ∧ W.cell? ⟨w4.heap.size, 3, none⟩ = some (Value.slice (some ⟨h3, m3, none⟩) l3 f3) ∧ W.cell? ⟨w4.heap.size, 4, none⟩ = some (Value.slice (some ⟨h4, m4, none⟩) l4 f4) ∧ W.cell? ⟨w4.heap.size, 5, none⟩ = some (Value.slice (some ⟨h5, m5, none⟩) l5 f5))
    (first | exact ⟨a60, a61, a62, a63, a64, a65, c60, c61, c62, c63, c64, c65⟩ | (refine ⟨?_, ?_, ?_, ?_, ?_, ?_, ?_, ?_, ?_, ?_, ?_, ?_⟩ <;> first | assumption | exact keepCell hbF (by assumption) | exact keepCell hbG (keepCell hbF (by assumption))))
    (first
      | (go_at_call 43; refine (toClaim_any _ x1 _ (kB.out.below hB6d) few1).mono ?_; rintro e wF ⟨vF, rfl, hvF, hbF⟩)
      | (go_at_call 45; refine (eqClaim_same _ vF x1 _ (Kd.below hbF) hvF few1).mono ?_; rintro e w7 ⟨rfl, hbG⟩))
  have hB7 := (hB6d.trans (hbF.mono hB6d.size)).trans (hbG.mono (hB6d.trans (hbF.mono hB6d.size)).size)
  clear Kd hvF hbF hbG a60 a61 a62 a63 a64 a65 c60 c61 c62 c63 c64 c65
  go_wp2_with fail
  go_ret
  exact ⟨rfl, hB7⟩

set_option maxRecDepth 100000 in
theorem lifted (os : Os) (started : os.Started) (H : Type) (enc : TypeId × Value → H) :
    ReturnsInHanded {} Try.checked os 14 .any (Rows.fnExactEqualClaimsSpec.pre6 enc Try.prog Try.f14 Rows.fnExactEqualClaimsRow.domain false) (Rows.fnExactEqualClaimsSpec.post enc Try.prog Try.f14 false true false false) := by
  refine returnsInHanded_of_change (C := Try.checked) own started (by kernel_rfl) Try.func14
    (ChangeSpec.witness6 (enc := enc) (C := Try.checked) false ⟨#[], #[.agg #[.int .i64 0, .slice none 0 0, .slice none 0 0, .slice none 0 0, .slice none 0 0, .slice none 0 0], .agg #[.int .i64 0, .slice none 0 0, .slice none 0 0, .slice none 0 0, .slice none 0 0, .slice none 0 0]], []⟩ 8 (by kernel_rfl) (by kernel_rfl) (by kernel_rfl) (by kernel_rfl)) ?_
  intro W base args ds gs before hval0 hW hcnd _
  have hval : ∀ (j : Nat) t v, Try.f14.params[j]? = some t → args[j]? = some v → Value.okWide Try.prog W .any base t v := hval0
  have hW' := hW
  obtain ⟨p, q, hA0, hV, rfl, hfz, hnd⟩ := hW
  have hA : DataW.TrodAll enc Try.prog W 0 (fun _ => true) true Try.f14.params.toList args.toList ds p := hA0
  rw [Try.params14] at hA hval
  obtain ⟨v0, vs0, d0, ds0, p0, q0, hargs, rfl, rfl, h0, r0⟩ := trodAll_cons hA
  obtain ⟨v1, vs1, d1, ds1, p1, q1, rfl, rfl, rfl, h1, r1⟩ := trodAll_cons r0
  obtain ⟨rfl, rfl, rfl⟩ := trodAll_nil r1
  obtain rfl : args = #[v0, v1] := by cases args; simp_all
  obtain ⟨rfl, rfl⟩ := trodVars_none hV
  have k0 := h0
  have k1 := h1
  have lt0 : ∀ x ∈ p0, x.block < W.heap.size := by obtain ⟨m, hm⟩ := k0; exact DataW.trod_lt m _ _ _ hm
  have lt1 : ∀ x ∈ p1, x.block < W.heap.size := by obtain ⟨m, hm⟩ := k1; exact DataW.trod_lt m _ _ _ hm
  obtain ⟨x0, ax0, nx0, rx0, sx0⟩ := argClaim_open (hval 0 39 v0 rfl rfl) h0
  obtain ⟨x1, ax1, nx1, rx1, sx1⟩ := argClaim_open (hval 1 39 v1 rfl rfl) h1
  clear hA0 hval0
  refine (walk v0 v1 x0 x1 W ax0 ax1 (fun W' hb => szClaim_any v0 x0 1048576 W' (ax0.below hb) (by omega) nx0 rx0 sx0) (fun W' l hb l0 l1 => szClaim_any v1 x1 l W' (ax1.below hb) ⟨l0, l1⟩ nx1 rx1 sx1)).mono fun e W' ⟨he, bel⟩ => ?_
  subst he
  exact ⟨_, rfl, _, _, _, [], _, [], hW', trodAll_mk1 (shut_bool Try.underlying4 _), (trodAll_cons_mk (Below.trod laidOut (by kernel_rfl) (of_decide_eq_true (by kernel_rfl)) k0 bel lt0) (trodAll_cons_mk (Below.trod laidOut (by kernel_rfl) (of_decide_eq_true (by kernel_rfl)) k1 bel lt1) trodAll_mk0)), rfl, bel.frame _, fun h => by cases h⟩

theorem over : Rows.fnExactEqualClaimsRow.holds Try.pinned (OpenSpec.ofChange Rows.fnExactEqualClaimsSpec) :=
  OpenClaim.holds_of_wide 14 Try.f14 rfl rfl rfl rfl rfl rfl rfl ⟨rfl, rfl, rfl, rfl, rfl⟩ rfl rfl rfl rfl rfl (by kernel_rfl) Try.func14 (by kernel_rfl)
    (of_decide_eq_true (by kernel_rfl)) (by unfold Func.isWrapper; first | (rw [if_pos (by decide +kernel)]; kernel_rfl) | (rw [if_neg (by decide +kernel)]; exact ⟨rfl, rfl⟩))
    (fun os started H enc _ => lifted os started H enc)

/-- THE STATEMENT -/
theorem proved : Rows.FnExactEqualClaimsSaid := over
#print axioms proved
end Go.Proofs.Ytgdgmldmcommbaa.fnExactEqualClaims
