/- FmtM -/
import Derived.Test.YtkjglfafphffiaaGreatDoorC47
import Derived.Test.YtkjglfafphffiaaGreatDoorC43
import Derived.Deep.RegionHeld3
namespace Go.Proofs.YtkjglfafphffiaaGreatDoor
set_option maxRecDepth 100000
open Go.RowKit
open Go.Lib (join decDigits itoa)
set_option maxHeartbeats 4000000 in
theorem spec_FormatClaim_m (v : Value) (x : ClaimD) (w : World) (h : ClaimM w v x) (hf : claimFew x) (hw : claimWf x) :
    Calls Tryz.prog 20 #[v] w (Gives w (.string ⟨(claimL x).toArray⟩)) := by
  obtain ⟨p1, p2, p3, p4, p5, rfl, a1, a2, a3, a4, a5⟩ := h
  have k0 : Hid (∀ W, Calls Tryz.prog 23 #[.int .i64 x.kind] W (Gives W (.string ⟨(cwL x.kind).toArray⟩))) := Lib.hid fun W => by rw [← cwL_eq]; exact spec_ClaimWord_any x.kind W
  have k1 : Hid (∀ W, Below w.heap.size w W → Calls Tryz.prog 73 #[p1] W (Gives W (.string ⟨(cartanL x.cartan).toArray⟩))) := Lib.hid fun W hW => spec_FormatCartanM (a1.below hW) hf.1
  have k2 : Hid (∀ W, Below w.heap.size w W → Calls Tryz.prog 72 #[p2] W (Gives W (.string ⟨(wordL x.a).toArray⟩))) := Lib.hid fun W hW => spec_FormatWordM (a2.below hW) hf.2.1
  have k3 : Hid (∀ W, Below w.heap.size w W → Calls Tryz.prog 72 #[p3] W (Gives W (.string ⟨(wordL x.b).toArray⟩))) := Lib.hid fun W hW => spec_FormatWordM (a3.below hW) hf.2.2.1
  have k4 : Hid (∀ W, Below w.heap.size w W → Calls Tryz.prog 74 #[p4] W (Gives W (.string ⟨(weightL x.proof).toArray⟩))) := Lib.hid fun W hW => spec_FormatWeightM (a4.below hW) hf.2.2.2.1 hw.1
  have k5 : Hid (∀ W, Below w.heap.size w W → Calls Tryz.prog 75 #[p5] W (Gives W (.string ⟨(rootsL x.roots).toArray⟩))) := Lib.hid fun W hW => spec_FormatRootsM (a5.below hW) hf.2.2.2.2 hw.2
  have l0 := cwL_len x.kind
  have l1 := cartanL_len x.cartan
  have l2 : (wordL x.a).length ≤ 1048577 := by have := wordF_len (l := x.a); have := hf.2.1; omega
  have l3 : (wordL x.b).length ≤ 1048577 := by have := wordF_len (l := x.b); have := hf.2.2.1; omega
  have l4 : (weightL x.proof).length ≤ 23068672 := by have := weightL_len hw.1; have := hf.2.2.2.1; omega
  have l5 := rootsL_len hf.2.2.2.2 hw.2
  have L0 := Lib.hid l0; have L1 := Lib.hid l1; have L2 := Lib.hid l2; have L3 := Lib.hid l3; have L4 := Lib.hid l4; have L5 := Lib.hid l5
  clear l0 l1 l2 l3 l4 l5
  obtain ⟨p1a, p1n, p1c, rfl⟩ := a1.shape'
  obtain ⟨p2a, p2n, p2c, rfl⟩ := a2.shape'
  obtain ⟨p3a, p3n, p3c, rfl⟩ := a3.shape'
  obtain ⟨p4a, p4n, p4c, rfl⟩ := a4.shape'
  obtain ⟨p5a, p5n, p5c, rfl⟩ := a5.shape'
  unfold claimL
  generalize cwL x.kind = W at *
  generalize cartanL x.cartan = M at *
  generalize wordL x.a = A at *
  generalize wordL x.b = B at *
  generalize weightL x.proof = Pf at *
  generalize rootsL x.roots = R at *
  have C0 := Lib.hid (heap_alloc_new w (.cells #[.int .i64 x.kind, (Value.slice p1a p1n p1c), (Value.slice p2a p2n p2c), (Value.slice p3a p3n p3c), (Value.slice p4a p4n p4c), (Value.slice p5a p5n p5c)] 29 (0, 0)))
  have hB0 : Below w.heap.size w (w.alloc (.cells #[.int .i64 x.kind, (Value.slice p1a p1n p1c), (Value.slice p2a p2n p2c), (Value.slice p3a p3n p3c), (Value.slice p4a p4n p4c), (Value.slice p5a p5n p5c)] 29)) := blwx
  generalize x.kind = kd at *
  go_enter Tryz.func20, Tryz.ntmps20
  go_wp2_with fail
  refine (k0.out _).mono ?_
  rintro e w1 ⟨rfl, hb1⟩
  have C1 := Lib.hid ((hb1.block _ (lt_of_block C0.out)).trans C0.out)
  have hB1 := hB0.trans (hb1.mono hB0.size)
  clear C0 hB0 hb1
  obtain ⟨c0, c1, c2, c3, c4, c5⟩ := sixF C1.out
  go_wp2_with fail
  refine (k2.out _ hB1).mono ?_
  rintro e w2 ⟨rfl, hb2⟩
  have C2 := Lib.hid ((hb2.block _ (lt_of_block C1.out)).trans C1.out)
  have hB2 := hB1.trans (hb2.mono hB1.size)
  clear C1 hB1 hb2 c0 c1 c2 c3 c4 c5
  obtain ⟨c0, c1, c2, c3, c4, c5⟩ := sixF C2.out
  go_wp2_with fail
  refine (k3.out _ hB2).mono ?_
  rintro e w3 ⟨rfl, hb3⟩
  have C3 := Lib.hid ((hb3.block _ (lt_of_block C2.out)).trans C2.out)
  have hB3 := hB2.trans (hb3.mono hB2.size)
  clear C2 hB2 hb3 c0 c1 c2 c3 c4 c5
  obtain ⟨c0, c1, c2, c3, c4, c5⟩ := sixF C3.out
  go_wp2_with fail
  refine (k1.out _ hB3).mono ?_
  rintro e w4 ⟨rfl, hb4⟩
  have C4 := Lib.hid ((hb4.block _ (lt_of_block C3.out)).trans C3.out)
  have hB4 := hB3.trans (hb4.mono hB3.size)
  clear C3 hB3 hb4 c0 c1 c2 c3 c4 c5
  obtain ⟨c0, c1, c2, c3, c4, c5⟩ := sixF C4.out
  by_cases dW : W.isEmpty = true
  · have e : finL W M A B Pf R = [] := by unfold finL; rw [dW]; rfl
    have E := Lib.hid e
    clear e
    go_wp2
    go_ret
    exact ⟨congrArg (fun t => Ending.returned (.string ⟨List.toArray t⟩)) E.out.symm, hB4⟩
  by_cases dA : A.isEmpty = true
  · have e : finL W M A B Pf R = [] := by unfold finL; rw [dA]; simp
    have E := Lib.hid e
    clear e
    go_wp2
    go_ret
    exact ⟨congrArg (fun t => Ending.returned (.string ⟨List.toArray t⟩)) E.out.symm, hB4⟩
  by_cases dB : B.isEmpty = true
  · have e : finL W M A B Pf R = [] := by unfold finL; rw [dB]; simp
    have E := Lib.hid e
    clear e
    go_wp2
    go_ret
    exact ⟨congrArg (fun t => Ending.returned (.string ⟨List.toArray t⟩)) E.out.symm, hB4⟩
  by_cases dM : M.isEmpty = true
  · have e : finL W M A B Pf R = [] := by unfold finL; rw [dM]; simp
    have E := Lib.hid e
    clear e
    go_wp2
    go_ret
    exact ⟨congrArg (fun t => Ending.returned (.string ⟨List.toArray t⟩)) E.out.symm, hB4⟩
  have e : finL W M A B Pf R = W ++ [32] ++ M ++ [32] ++ A ++ [32] ++ B ++ [32, 98, 121, 32] ++ Pf ++ [32, 97, 110, 100, 32] ++ R := by
    unfold finL
    rw [if_neg (by simp [dW, dA, dB, dM])]
  have E := Lib.hid e
  clear e
  obtain ⟨s1, hs1⟩ : ∃ t, t = W ++ ([32] : List UInt8) := ⟨_, rfl⟩
  have ns1 : s1.length = W.length + ([32] : List UInt8).length := by rw [hs1, List.length_append]
  obtain ⟨s2, hs2⟩ : ∃ t, t = s1 ++ M := ⟨_, rfl⟩
  have ns2 : s2.length = s1.length + M.length := by rw [hs2, List.length_append]
  obtain ⟨s3, hs3⟩ : ∃ t, t = s2 ++ ([32] : List UInt8) := ⟨_, rfl⟩
  have ns3 : s3.length = s2.length + ([32] : List UInt8).length := by rw [hs3, List.length_append]
  obtain ⟨s4, hs4⟩ : ∃ t, t = s3 ++ A := ⟨_, rfl⟩
  have ns4 : s4.length = s3.length + A.length := by rw [hs4, List.length_append]
  obtain ⟨s5, hs5⟩ : ∃ t, t = s4 ++ ([32] : List UInt8) := ⟨_, rfl⟩
  have ns5 : s5.length = s4.length + ([32] : List UInt8).length := by rw [hs5, List.length_append]
  obtain ⟨s6, hs6⟩ : ∃ t, t = s5 ++ B := ⟨_, rfl⟩
  have ns6 : s6.length = s5.length + B.length := by rw [hs6, List.length_append]
  obtain ⟨s7, hs7⟩ : ∃ t, t = s6 ++ ([32, 98, 121, 32] : List UInt8) := ⟨_, rfl⟩
  have ns7 : s7.length = s6.length + ([32, 98, 121, 32] : List UInt8).length := by rw [hs7, List.length_append]
  obtain ⟨s8, hs8⟩ : ∃ t, t = s7 ++ Pf := ⟨_, rfl⟩
  have ns8 : s8.length = s7.length + Pf.length := by rw [hs8, List.length_append]
  obtain ⟨s9, hs9⟩ : ∃ t, t = s8 ++ ([32, 97, 110, 100, 32] : List UInt8) := ⟨_, rfl⟩
  have ns9 : s9.length = s8.length + ([32, 97, 110, 100, 32] : List UInt8).length := by rw [hs9, List.length_append]
  obtain ⟨s10, hs10⟩ : ∃ t, t = s9 ++ R := ⟨_, rfl⟩
  have ns10 : s10.length = s9.length + R.length := by rw [hs10, List.length_append]
  simp only [List.length_cons, List.length_nil] at ns1 ns2 ns3 ns4 ns5 ns6 ns7 ns8 ns9 ns10
  have b0 := L0.out; have b1 := L1.out; have b2 := L2.out; have b3 := L3.out; have b4 := L4.out; have b5 := L5.out
  have as1 : ∀ W', (Op.stringOp .add ⟨W.toArray⟩ ⟨([32] : List UInt8).toArray⟩).run Tryz.prog W' = .ok (.string ⟨s1.toArray⟩) W' := fun W' => addS W' _ _ _ hs1.symm (by omega)
  have as2 : ∀ W', (Op.stringOp .add ⟨s1.toArray⟩ ⟨(M : List UInt8).toArray⟩).run Tryz.prog W' = .ok (.string ⟨s2.toArray⟩) W' := fun W' => addS W' _ _ _ hs2.symm (by omega)
  have as3 : ∀ W', (Op.stringOp .add ⟨s2.toArray⟩ ⟨([32] : List UInt8).toArray⟩).run Tryz.prog W' = .ok (.string ⟨s3.toArray⟩) W' := fun W' => addS W' _ _ _ hs3.symm (by omega)
  have as4 : ∀ W', (Op.stringOp .add ⟨s3.toArray⟩ ⟨(A : List UInt8).toArray⟩).run Tryz.prog W' = .ok (.string ⟨s4.toArray⟩) W' := fun W' => addS W' _ _ _ hs4.symm (by omega)
  have as5 : ∀ W', (Op.stringOp .add ⟨s4.toArray⟩ ⟨([32] : List UInt8).toArray⟩).run Tryz.prog W' = .ok (.string ⟨s5.toArray⟩) W' := fun W' => addS W' _ _ _ hs5.symm (by omega)
  have as6 : ∀ W', (Op.stringOp .add ⟨s5.toArray⟩ ⟨(B : List UInt8).toArray⟩).run Tryz.prog W' = .ok (.string ⟨s6.toArray⟩) W' := fun W' => addS W' _ _ _ hs6.symm (by omega)
  have as7 : ∀ W', (Op.stringOp .add ⟨s6.toArray⟩ ⟨([32, 98, 121, 32] : List UInt8).toArray⟩).run Tryz.prog W' = .ok (.string ⟨s7.toArray⟩) W' := fun W' => addS W' _ _ _ hs7.symm (by omega)
  have as8 : ∀ W', (Op.stringOp .add ⟨s7.toArray⟩ ⟨(Pf : List UInt8).toArray⟩).run Tryz.prog W' = .ok (.string ⟨s8.toArray⟩) W' := fun W' => addS W' _ _ _ hs8.symm (by omega)
  have as9 : ∀ W', (Op.stringOp .add ⟨s8.toArray⟩ ⟨([32, 97, 110, 100, 32] : List UInt8).toArray⟩).run Tryz.prog W' = .ok (.string ⟨s9.toArray⟩) W' := fun W' => addS W' _ _ _ hs9.symm (by omega)
  have as10 : ∀ W', (Op.stringOp .add ⟨s9.toArray⟩ ⟨(R : List UInt8).toArray⟩).run Tryz.prog W' = .ok (.string ⟨s10.toArray⟩) W' := fun W' => addS W' _ _ _ hs10.symm (by omega)
  have E2 : Hid (s10 = finL W M A B Pf R) := Lib.hid (by rw [E.out]; simp only [hs10, hs9, hs8, hs7, hs6, hs5, hs4, hs3, hs2, hs1])
  clear b0 b1 b2 b3 b4 b5 ns1 ns2 ns3 ns4 ns5 ns6 ns7 ns8 ns9 ns10 hs10 hs9 hs8 hs7 hs6 hs5 hs4 hs3 hs2 hs1
  have hB4d : Below w.heap.size w w4.drew := below_same hB4 rfl rfl rfl rfl
  go_wp2_with fail
  go_region_held3 (fun W' => W'.cell? ⟨w.heap.size, 4, none⟩ = some (Value.slice p4a p4n p4c) ∧ W'.cell? ⟨w.heap.size, 5, none⟩ = some (Value.slice p5a p5n p5c))
    (first | exact ⟨c4, c5⟩ | exact ⟨keepCellC hbA c4, keepCellC hbA c5⟩ | exact ⟨keepCellC hbB (keepCellC hbA c4), keepCellC hbB (keepCellC hbA c5)⟩)
    (first
      | (go_at_call 74; refine (k4.out _ (by first | exact hB4d | assumption)).mono ?_; rintro e wA ⟨rfl, hbA⟩)
      | (go_at_call 75; refine (k5.out _ (by first | exact hB4d.trans (hbA.mono hB4d.size) | assumption)).mono ?_; rintro e wB ⟨rfl, hbB⟩))
  go_wp2
  go_ret
  exact ⟨congrArg (fun t => Ending.returned (.string ⟨List.toArray t⟩)) E2.out, (hB4d.trans (hbA.mono hB4d.size)).trans (hbB.mono (hB4d.trans (hbA.mono hB4d.size)).size)⟩
set_option maxHeartbeats 4000000 in
theorem impl_FormatClaim_m (v : Value) (x : ClaimD) (w : World) (h : ClaimM w v x) (hf : claimFew x) (hw : claimWf x) (ht : Tab w) :
    Calls Tryz.prog 19 #[v] w (Gives w (.string ⟨(claimL x).toArray⟩)) := by
  obtain ⟨p1, p2, p3, p4, p5, rfl, a1, a2, a3, a4, a5⟩ := h
  have k0 : Hid (∀ W, Calls Tryz.prog 22 #[.int .i64 x.kind] W (Gives W (.string ⟨(cwL x.kind).toArray⟩))) := Lib.hid fun W => by
    rw [← cwL_eq]
    refine (impl_ClaimWord_any x.kind W).mono ?_
    rintro e w' ⟨rfl, m, rfl⟩
    exact ⟨rfl, below_drewN' W m⟩
  have k1 : Hid (∀ W, Below w.heap.size w W → Calls Tryz.prog 66 #[p1] W (Gives W (.string ⟨(cartanL x.cartan).toArray⟩))) := Lib.hid fun W hW => impl_FormatCartanM (a1.below hW) hf.1 (ht.below hW)
  have k2 : Hid (∀ W, Below w.heap.size w W → Calls Tryz.prog 67 #[p2] W (Gives W (.string ⟨(wordL x.a).toArray⟩))) := Lib.hid fun W hW => impl_FormatWordM (a2.below hW) hf.2.1
  have k3 : Hid (∀ W, Below w.heap.size w W → Calls Tryz.prog 67 #[p3] W (Gives W (.string ⟨(wordL x.b).toArray⟩))) := Lib.hid fun W hW => impl_FormatWordM (a3.below hW) hf.2.2.1
  have k4 : Hid (∀ W, Below w.heap.size w W → Calls Tryz.prog 70 #[p4] W (Gives W (.string ⟨(weightL x.proof).toArray⟩))) := Lib.hid fun W hW => impl_FormatWeightM (a4.below hW) hf.2.2.2.1 hw.1 (ht.below hW)
  have k5 : Hid (∀ W, Below w.heap.size w W → Calls Tryz.prog 71 #[p5] W (Gives W (.string ⟨(rootsL x.roots).toArray⟩))) := Lib.hid fun W hW => impl_FormatRootsM (a5.below hW) hf.2.2.2.2 hw.2 (ht.below hW)
  have l0 := cwL_len x.kind
  have l1 := cartanL_len x.cartan
  have l2 : (wordL x.a).length ≤ 1048577 := by have := wordF_len (l := x.a); have := hf.2.1; omega
  have l3 : (wordL x.b).length ≤ 1048577 := by have := wordF_len (l := x.b); have := hf.2.2.1; omega
  have l4 : (weightL x.proof).length ≤ 23068672 := by have := weightL_len hw.1; have := hf.2.2.2.1; omega
  have l5 := rootsL_len hf.2.2.2.2 hw.2
  have L0 := Lib.hid l0; have L1 := Lib.hid l1; have L2 := Lib.hid l2; have L3 := Lib.hid l3; have L4 := Lib.hid l4; have L5 := Lib.hid l5
  clear l0 l1 l2 l3 l4 l5
  obtain ⟨p1a, p1n, p1c, rfl⟩ := a1.shape'
  obtain ⟨p2a, p2n, p2c, rfl⟩ := a2.shape'
  obtain ⟨p3a, p3n, p3c, rfl⟩ := a3.shape'
  obtain ⟨p4a, p4n, p4c, rfl⟩ := a4.shape'
  obtain ⟨p5a, p5n, p5c, rfl⟩ := a5.shape'
  unfold claimL
  generalize cwL x.kind = W at *
  generalize cartanL x.cartan = M at *
  generalize wordL x.a = A at *
  generalize wordL x.b = B at *
  generalize weightL x.proof = Pf at *
  generalize rootsL x.roots = R at *
  have c0 := sixF (heap_alloc_new w (.cells #[.int .i64 x.kind, (Value.slice p1a p1n p1c), (Value.slice p2a p2n p2c), (Value.slice p3a p3n p3c), (Value.slice p4a p4n p4c), (Value.slice p5a p5n p5c)] 29 (0, 0)))
  have C0 := Lib.hid (heap_alloc_new w (.cells #[.int .i64 x.kind, (Value.slice p1a p1n p1c), (Value.slice p2a p2n p2c), (Value.slice p3a p3n p3c), (Value.slice p4a p4n p4c), (Value.slice p5a p5n p5c)] 29 (0, 0)))
  have hB0 : Below w.heap.size w (w.alloc (.cells #[.int .i64 x.kind, (Value.slice p1a p1n p1c), (Value.slice p2a p2n p2c), (Value.slice p3a p3n p3c), (Value.slice p4a p4n p4c), (Value.slice p5a p5n p5c)] 29)) := blwx
  clear hw hf ht
  generalize x.kind = kd at *
  have hB0d := below_same hB0 (b := (w.alloc (.cells #[.int .i64 kd, (Value.slice p1a p1n p1c), (Value.slice p2a p2n p2c), (Value.slice p3a p3n p3c), (Value.slice p4a p4n p4c), (Value.slice p5a p5n p5c)] 29)).drew) rfl rfl rfl rfl
  obtain ⟨c0, c1, c2, c3, c4, c5⟩ := c0
  go_enter Tryz.func19, Tryz.ntmps19
  go_wp2_with fail
  go_region_held3 (fun W' => W'.cell? ⟨w.heap.size, 0, none⟩ = some (.int .i64 kd) ∧ W'.cell? ⟨w.heap.size, 1, none⟩ = some (Value.slice p1a p1n p1c) ∧ W'.cell? ⟨w.heap.size, 2, none⟩ = some (Value.slice p2a p2n p2c) ∧ W'.cell? ⟨w.heap.size, 3, none⟩ = some (Value.slice p3a p3n p3c))
    (first
      | exact ⟨c0, c1, c2, c3⟩
      | exact ⟨keepCellC hbA c0, keepCellC hbA c1, keepCellC hbA c2, keepCellC hbA c3⟩
      | exact ⟨keepCellC hbB (keepCellC hbA c0), keepCellC hbB (keepCellC hbA c1), keepCellC hbB (keepCellC hbA c2), keepCellC hbB (keepCellC hbA c3)⟩
      | exact ⟨keepCellC hbC (keepCellC hbB (keepCellC hbA c0)), keepCellC hbC (keepCellC hbB (keepCellC hbA c1)), keepCellC hbC (keepCellC hbB (keepCellC hbA c2)), keepCellC hbC (keepCellC hbB (keepCellC hbA c3))⟩
      | exact ⟨keepCellC hbD (keepCellC hbC (keepCellC hbB (keepCellC hbA c0))), keepCellC hbD (keepCellC hbC (keepCellC hbB (keepCellC hbA c1))), keepCellC hbD (keepCellC hbC (keepCellC hbB (keepCellC hbA c2))), keepCellC hbD (keepCellC hbC (keepCellC hbB (keepCellC hbA c3)))⟩
      | exact ⟨keepCellC ((Below.refl _ wD).alloc (Nat.le_refl _) _) (keepCellC hbD (keepCellC hbC (keepCellC hbB (keepCellC hbA c0)))), keepCellC ((Below.refl _ wD).alloc (Nat.le_refl _) _) (keepCellC hbD (keepCellC hbC (keepCellC hbB (keepCellC hbA c1)))), keepCellC ((Below.refl _ wD).alloc (Nat.le_refl _) _) (keepCellC hbD (keepCellC hbC (keepCellC hbB (keepCellC hbA c2)))), keepCellC ((Below.refl _ wD).alloc (Nat.le_refl _) _) (keepCellC hbD (keepCellC hbC (keepCellC hbB (keepCellC hbA c3))))⟩
      | go_keep)
    (first
      | (go_at_call 22; refine (k0.out _).mono ?_; rintro e wA ⟨rfl, hbA⟩; have hBA := hB0d.trans (hbA.mono hB0d.size))
      | (go_at_call 66; refine (k1.out _ hBA).mono ?_; rintro e wB ⟨rfl, hbB⟩; have hBB := hBA.trans (hbB.mono hBA.size))
      | (go_at_call_of 67 (Value.slice p2a p2n p2c); refine (k2.out _ hBB).mono ?_; rintro e wC ⟨rfl, hbC⟩; have hBC := hBB.trans (hbC.mono hBB.size))
      | (go_at_call_of 67 (Value.slice p3a p3n p3c); refine (k3.out _ hBC).mono ?_; rintro e wD ⟨rfl, hbD⟩; have hBD := hBC.trans (hbD.mono hBC.size)))
  have ho := own_four wD w.heap.size W M A B hBD.size
  have hcA : Below wD.heap.size wD (wD.alloc (.cells #[.string ⟨W.toArray⟩, .string ⟨M.toArray⟩, .string ⟨A.toArray⟩, .string ⟨B.toArray⟩] 9)) := blwx
  have hBE := hBD.trans (hcA.mono hBD.size)
  have hDlt : w.heap.size < wD.heap.size := by have := World.block_lt_of_cell? _ _ (keepCellC hbD (keepCellC hbC (keepCellC hbB (keepCellC hbA c0)))); exact this
  have d4 := keepCellC hcA (keepCellC hbD (keepCellC hbC (keepCellC hbB (keepCellC hbA (show World.cell? (World.drew _) ⟨w.heap.size, 4, none⟩ = _ from c4)))))
  have d5 := keepCellC hcA (keepCellC hbD (keepCellC hbC (keepCellC hbB (keepCellC hbA (show World.cell? (World.drew _) ⟨w.heap.size, 5, none⟩ = _ from c5)))))
  clear hbA hbB hbC hbD hBA hBB hBC hB0 hB0d c0 c1 c2 c3 c4 c5 C0
  have hcon := strs_Contains wD.heap.size 4 4 [W, M, A, B] _ rfl (by simp) (fun j x hj => ho.cell j ⟨x.toArray⟩ (by unfold strs; rw [List.getElem?_map, hj]; rfl))
  have Hcon := Lib.hid hcon
  clear hcon
  generalize hwF : wD.alloc (.cells #[.string ⟨W.toArray⟩, .string ⟨M.toArray⟩, .string ⟨A.toArray⟩, .string ⟨B.toArray⟩] 9) = wF at *
  clear hwF hcA
  by_cases hb : (W.isEmpty || A.isEmpty || B.isEmpty || M.isEmpty) = true
  · have e : finL W M A B Pf R = [] := by unfold finL; rw [if_pos hb]
    have e2 : ([W, M, A, B].any fun x => x.isEmpty) = true := by
      simp only [List.any_cons, List.any_nil, Bool.or_false]
      revert hb
      cases W.isEmpty <;> cases M.isEmpty <;> cases A.isEmpty <;> cases B.isEmpty <;> simp
    rw [e2] at Hcon
    have E := Lib.hid e
    clear e e2 hb
    go_wp2_with fail
    refine Hcon.out.mono ?_
    rintro e w5 ⟨rfl, m5, rfl⟩
    go_wp2
    go_ret
    exact ⟨congrArg (fun t => Ending.returned (.string ⟨List.toArray t⟩)) E.out.symm, below_same hBE rfl rfl rfl rfl⟩
  have e : join [W, M, A, B, [98, 121], Pf, [97, 110, 100], R] [32] = finL W M A B Pf R := by unfold finL; rw [if_neg hb]; exact fin_join W M A B Pf R
  have e2 : ([W, M, A, B].any fun x => x.isEmpty) = false := by
    simp only [List.any_cons, List.any_nil, Bool.or_false]
    revert hb
    cases W.isEmpty <;> cases M.isEmpty <;> cases A.isEmpty <;> cases B.isEmpty <;> simp
  rw [e2] at Hcon
  have hlen : (join [W, M, A, B, [98, 121], Pf, [97, 110, 100], R] [32]).length ≤ 140737488355328 := by
    rw [fin_join]
    have := L0.out; have := L1.out; have := L2.out; have := L3.out; have := L4.out; have := L5.out
    simp only [List.length_append, List.length_cons, List.length_nil]
    omega
  have E := Lib.hid e; have Hlen := Lib.hid hlen
  clear e e2 hb hlen
  go_wp2_with fail
  refine Hcon.out.mono ?_
  rintro e w5 ⟨rfl, m5, rfl⟩
  have ho5 : OwnStrs (wF.drewN (m5 + 1)) w.heap.size wD.heap.size 4 (strs [W, M, A, B]) := ho
  have hB5 : Below w.heap.size w (wF.drewN (m5 + 1)) := below_same hBE rfl rfl rfl rfl
  have f4 : (wF.drewN (m5 + 1)).cell? ⟨w.heap.size, 4, none⟩ = some (Value.slice p4a p4n p4c) := d4
  have f5 : (wF.drewN (m5 + 1)).cell? ⟨w.heap.size, 5, none⟩ = some (Value.slice p5a p5n p5c) := d5
  clear d4 d5 ho hBE Hcon
  have h8 : 4 + 4 ≤ 1048576 := by decide
  have h88 : 8 ≤ 1048576 := by decide
  have hl8 : [W, M, A, B, [98, 121], Pf, [97, 110, 100], R].length = 8 := rfl
  have hlen := Hlen.out
  have hJ := fun (g c : Nat) (W' : World) (h : OwnStrs W' w.heap.size g c (strs [W, M, A, B, [98, 121], Pf, [97, 110, 100], R])) => joinS h hl8 h88 hlen
  have HJ := Lib.hid hJ
  clear hJ
  have hne : some w.heap.size ≠ some wD.heap.size := fun t => by have t2 := Option.some.inj t; omega
  go_wp2_with fail
  go_region_held3 (fun W' => W'.cell? ⟨w.heap.size, 4, none⟩ = some (Value.slice p4a p4n p4c) ∧ W'.cell? ⟨w.heap.size, 5, none⟩ = some (Value.slice p5a p5n p5c))
    (first
      | exact ⟨f4, f5⟩
      | exact ⟨keepCellC hbA f4, keepCellC hbA f5⟩
      | exact ⟨keepCellC hbB (keepCellC hbA f4), keepCellC hbB (keepCellC hbA f5)⟩
      | exact ⟨keepCellC ((Below.refl _ wB).alloc (Nat.le_refl _) _) (keepCellC hbB (keepCellC hbA f4)), keepCellC ((Below.refl _ wB).alloc (Nat.le_refl _) _) (keepCellC hbB (keepCellC hbA f5))⟩
      | exact ⟨hg3.cell (a := ⟨w.heap.size, 4, none⟩) (keepCellC ((Below.refl _ wB).alloc (Nat.le_refl _) _) (keepCellC hbB (keepCellC hbA f4))) hne, hg3.cell (a := ⟨w.heap.size, 5, none⟩) (keepCellC ((Below.refl _ wB).alloc (Nat.le_refl _) _) (keepCellC hbB (keepCellC hbA f5))) hne⟩
      | exact ⟨keepCellC hbJ (hg3.cell (a := ⟨w.heap.size, 4, none⟩) (keepCellC ((Below.refl _ wB).alloc (Nat.le_refl _) _) (keepCellC hbB (keepCellC hbA f4))) hne), keepCellC hbJ (hg3.cell (a := ⟨w.heap.size, 5, none⟩) (keepCellC ((Below.refl _ wB).alloc (Nat.le_refl _) _) (keepCellC hbB (keepCellC hbA f5))) hne)⟩)
    (first
      | (go_at_call 70; refine (k4.out _ hB5).mono ?_; rintro e wA ⟨rfl, hbA⟩; have hBA := hB5.trans (hbA.mono hB5.size))
      | (go_at_call 71; refine (k5.out _ hBA).mono ?_; rintro e wB ⟨rfl, hbB⟩; have hBB := hBA.trans (hbB.mono hBA.size); have ho6 := ho5.two hbA hbB; have ho7 := ho6.over (by_and Pf R); have hn7 := own_by_and wB w.heap.size Pf R hBB.size)
      | (go_at_call 69; refine (HJ.out _ _ _ ho3).mono ?_; rintro e wJ ⟨rfl, hbJ⟩)
      | (refine step_append_strs rfl _ _ rfl w.heap.size w.heap.size wD.heap.size 4 4 wB.heap.size 4 4 (strs [W, M, A, B]) (strs [[98, 121], Pf, [97, 110, 100], R]) (wB.alloc (by_and Pf R)) rfl rfl ho7 hn7 rfl rfl h8 ?_; intro g3 c3 w3 ho3 hg3 hor3))
  have hBK := hBB.alloc hBB.size (.cells #[.string ⟨#[98, 121]⟩, .string ⟨Pf.toArray⟩, .string ⟨#[97, 110, 100]⟩, .string ⟨R.toArray⟩] 9)
  have hB3 := hBK.grown hg3 hBK.size (by intro t ht; cases ht; omega)
  go_wp2
  go_ret
  exact ⟨congrArg (fun t => Ending.returned (.string ⟨List.toArray t⟩)) E.out, hB3.trans (hbJ.mono hB3.size)⟩
end Go.Proofs.YtkjglfafphffiaaGreatDoor
