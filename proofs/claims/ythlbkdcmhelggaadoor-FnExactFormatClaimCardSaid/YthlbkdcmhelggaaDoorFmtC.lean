/- FormatClaim of both: contracts. -/
import Derived.Test.YthlbkdcmhelggaaDoorFmtI
import Derived.Test.YthlbkdcmhelggaaDoorClaimWord
import Derived.Test.YthlbkdcmhelggaaDoorClOf
import Derived.Deep.RegionHeld3
namespace Go.Proofs.YthlbkdcmhelggaaDoor
open Go.RowKit
open Go.Lib (join decDigits itoa)

set_option maxHeartbeats 1000000 in
theorem strs_Index (g n cp : Nat) (xs : List (List UInt8)) (w : World) (hn : xs.length = n) (hl : xs.length ≤ 1048576) (hc : ∀ (j : Nat) x, xs[j]? = some x → w.cell? ⟨g, 0 + j, none⟩ = some (.string ⟨x.toArray⟩)) :
    Calls Tryd.prog 32 #[(Value.slice (some ⟨g, 0, none⟩) n cp), .string ⟨#[]⟩] w (fun e w' => ∃ i : Int, e = .returned (.int .i64 i) ∧ decide (0 ≤ i) = xs.any (fun x => x.isEmpty) ∧ ∃ m, w' = w.drewN m) := by
  subst hn
  have Hc := Lib.hid hc
  clear hc
  generalize hA : xs.any (fun x => x.isEmpty) = A
  have HA := Lib.hid hA
  clear hA
  go_enter Tryd.func32, Tryd.ntmps32
  go_wp2
  go_loopw [8] (fun kv wr => ∃ k : Nat, k ≤ xs.length ∧ kv = .int .i64 k ∧ (xs.take k).any (fun x => x.isEmpty) = false ∧ ∃ m, wr = w.drewN m) (fun kv _ => xs.length - (intOf kv).toNat)
  case atStart => exact ⟨0, Nat.zero_le _, rfl, rfl, 0, rfl⟩
  case round =>
    obtain ⟨k, hk, rfl, hno, m, rfl⟩ := hrel
    by_cases hlt : k < xs.length
    · have q1 := Hc.out k xs[k] (by simp [hlt])
      have e1 : (xs.take (k + 1)).any (fun x => x.isEmpty) = xs[k].isEmpty := by
        rw [List.take_succ_eq_append_getElem hlt, List.any_append, hno]
        simp
      have e2 : xs[k].isEmpty = true → A = true := by
        intro h
        rw [← HA.out, List.any_eq_true]
        exact ⟨xs[k], List.getElem_mem hlt, h⟩
      rw [Nat.zero_add] at q1
      have E1 := Lib.hid e1; have E2 := Lib.hid e2
      clear e1 e2 hno
      generalize xs[k] = x at q1 E1 E2
      by_cases hv : x.isEmpty = true
      · go_wp2
        go_ret
        exact ⟨_, rfl, by rw [E2.out hv]; simp, m, rfl⟩
      · have hv' : x.isEmpty = false := by simpa using hv
        clear hv
        go_wp2
        go_roundw
        case rel => exact ⟨k + 1, by omega, by go_num, by rw [E1.out, hv'], m, rfl⟩
        case measure => simp [intOf]; omega
    · obtain rfl : k = xs.length := by omega
      rw [List.take_length] at hno
      have e : A = false := by rw [← HA.out]; exact hno
      clear hno HA
      go_wp2
      go_ret
      exact ⟨_, rfl, by rw [e]; rfl, m, rfl⟩
theorem strs_Contains (g n cp : Nat) (xs : List (List UInt8)) (w : World) (hn : xs.length = n) (hl : xs.length ≤ 1048576) (hc : ∀ (j : Nat) x, xs[j]? = some x → w.cell? ⟨g, 0 + j, none⟩ = some (.string ⟨x.toArray⟩)) :
    Calls Tryd.prog 21 #[(Value.slice (some ⟨g, 0, none⟩) n cp), .string ⟨#[]⟩] w (Reads w (.bool (xs.any (fun x => x.isEmpty)))) := by
  have Hi := Lib.hid (strs_Index g n cp xs w hn hl hc)
  generalize xs.any (fun x => x.isEmpty) = A at *
  clear hc
  go_enter Tryd.func21, Tryd.ntmps21
  go_wp2_with fail
  refine Hi.out.mono ?_
  rintro e w1 ⟨i, rfl, hi, m, rfl⟩
  subst hi
  go_wp2
  go_ret
  exact ⟨rfl, m, rfl⟩

/-! ### a claim written -/
def cwL (k : Int) : List UInt8 := (claimWord k).data.toList
theorem cwL_eq (k : Int) : claimWord k = ⟨(cwL k).toArray⟩ := by simp [cwL]
theorem cwL_len (k : Int) : (cwL k).length ≤ 100 := by unfold cwL claimWord; split <;> (try split) <;> (try split) <;> (try split) <;> (try split) <;> (try split) <;> decide
def finL (W M A B Pf R : List UInt8) : List UInt8 :=
  if (W.isEmpty || A.isEmpty || B.isEmpty || M.isEmpty) = true then [] else W ++ [32] ++ M ++ [32] ++ A ++ [32] ++ B ++ [32, 98, 121, 32] ++ Pf ++ [32, 97, 110, 100, 32] ++ R
def claimL (x : ClaimD) : List UInt8 := finL (cwL x.kind) (cartanL x.cartan) (wordL x.a) (wordL x.b) (weightL x.proof) (rootsL x.roots)
/-- the numbers of proof and roots are ints -/
def claimWf (x : ClaimD) : Prop := I64s x.proof ∧ ∀ r ∈ x.roots, I64s r
theorem fin_join (W M A B Pf R : List UInt8) : join [W, M, A, B, [98, 121], Pf, [97, 110, 100], R] [32] = W ++ [32] ++ M ++ [32] ++ A ++ [32] ++ B ++ [32, 98, 121, 32] ++ Pf ++ [32, 97, 110, 100, 32] ++ R := by
  simp [join, List.intercalate, List.intersperse]
theorem keepCellC {W W' : World} {b o : Nat} {v : Value} (hb : Below W.heap.size W W') (h : W.cell? ⟨b, o, none⟩ = some v) : W'.cell? ⟨b, o, none⟩ = some v :=
  (hb.cell (p := ⟨b, o, none⟩) (World.block_lt_of_cell? _ _ h)).trans h
theorem sixC {W : World} {b : Nat} {v0 v1 v2 v3 v4 v5 : Value} {t : TypeId} (h : W.heap[b]? = some (.cells #[v0, v1, v2, v3, v4, v5] t (0, 0))) :
    W.cell? ⟨b, 0, none⟩ = some v0 ∧ W.cell? ⟨b, 1, none⟩ = some v1 ∧ W.cell? ⟨b, 2, none⟩ = some v2 ∧ W.cell? ⟨b, 3, none⟩ = some v3 ∧ W.cell? ⟨b, 4, none⟩ = some v4 ∧ W.cell? ⟨b, 5, none⟩ = some v5 := by
  refine ⟨?_, ?_, ?_, ?_, ?_, ?_⟩ <;> (rw [cell_of_cells h]; rfl)

theorem wordL_len {l : List Int} : (wordL l).length ≤ l.length + 1 := by
  unfold wordL
  split
  · simp
  · split
    · unfold digs; rw [List.length_map]; omega
    · simp
theorem cartanL_len (c : List (List Int)) : (cartanL c).length ≤ 400 := by
  unfold cartanL
  split
  · rename_i hC
    have h1 := rowsL_len (sep := [59]) (isC_i64 hC)
    have h2 := isC_cells hC
    have h4 := hC.2.1
    simp only [List.length_cons, List.length_nil] at h1
    omega
  · simp
theorem few_cells {l : List (List Int)} (h : rowsFew l) : cellsOf l ≤ 1048576 * l.length :=
  cellsOf_le (m := 1048576) fun r hr => by obtain ⟨i, hi, rfl⟩ := List.mem_iff_getElem.1 hr; have := h.2 i hi; simpa [List.getD, hi] using this
theorem rootsL_len {l : List (List Int)} (h : rowsFew l) (hw : ∀ r ∈ l, I64s r) : (rootsL l).length ≤ 30000000000000 := by
  unfold rootsL
  split
  · simp
  · have h1 := rowsL_len (sep := [32]) hw
    have h2 := few_cells h
    have h3 := h.1
    simp only [List.length_cons, List.length_nil] at h1
    omega

theorem spec_FormatWordV {v : Value} {xs : List Int} {w : World} (h : IntsV w v xs) (hl : xs.length ≤ 1048576) : Calls Tryd.prog 12 #[v] w (Gives w (.string ⟨(wordL xs).toArray⟩)) := by
  obtain ⟨g, o, n, c, rfl, h1, h2, h3, h4⟩ := h
  exact spec_FormatWord_any g o n c xs w h1 (by omega) h3 h4
theorem spec_FormatWeightV {v : Value} {xs : List Int} {w : World} (h : IntsV w v xs) (hl : xs.length ≤ 1048576) (hw : I64s xs) : Calls Tryd.prog 14 #[v] w (Gives w (.string ⟨(weightL xs).toArray⟩)) := by
  obtain ⟨g, o, n, c, rfl, h1, h2, h3, h4⟩ := h
  exact spec_FormatWeight_any g o n c xs w h1 (by omega) hw h3 h4
theorem spec_FormatCartanV {v : Value} {xs : List (List Int)} {w : World} (h : RowsV w v xs) (hl : rowsFew xs) : Calls Tryd.prog 13 #[v] w (Gives w (.string ⟨(cartanL xs).toArray⟩)) := by
  obtain ⟨g, o, n, c, rfl, h1, h2, h3, h4⟩ := h
  exact spec_FormatCartan_any g o n c xs w h1 (by have := hl.1; omega) (fun j hj => by have := hl.2 j hj; omega) h3 h4
theorem spec_FormatRootsV {v : Value} {xs : List (List Int)} {w : World} (h : RowsV w v xs) (hl : rowsFew xs) (hw : ∀ r ∈ xs, I64s r) : Calls Tryd.prog 15 #[v] w (Gives w (.string ⟨(rootsL xs).toArray⟩)) := by
  obtain ⟨g, o, n, c, rfl, h1, h2, h3, h4⟩ := h
  exact spec_FormatRoots_any g o n c xs w h1 (by have := hl.1; omega) (by have := few_cells hl; have := hl.1; omega) hw h3 h4

set_option maxHeartbeats 4000000 in
theorem spec_FormatClaim_any (v : Value) (x : ClaimD) (w : World) (h : ClaimV w v x) (hf : claimFew x) (hw : claimWf x) :
    Calls Tryd.prog 5 #[v] w (Gives w (.string ⟨(claimL x).toArray⟩)) := by
  obtain ⟨p1, p2, p3, p4, p5, rfl, a1, a2, a3, a4, a5⟩ := h
  have k0 : Hid (∀ W, Calls Tryd.prog 11 #[.int .i64 x.kind] W (Gives W (.string ⟨(cwL x.kind).toArray⟩))) := Lib.hid fun W => by rw [← cwL_eq]; exact spec_ClaimWord_any x.kind W
  have k1 : Hid (∀ W, Below w.heap.size w W → Calls Tryd.prog 13 #[p1] W (Gives W (.string ⟨(cartanL x.cartan).toArray⟩))) := Lib.hid fun W hW => spec_FormatCartanV (a1.below hW) hf.1
  have k2 : Hid (∀ W, Below w.heap.size w W → Calls Tryd.prog 12 #[p2] W (Gives W (.string ⟨(wordL x.a).toArray⟩))) := Lib.hid fun W hW => spec_FormatWordV (a2.below hW) hf.2.1
  have k3 : Hid (∀ W, Below w.heap.size w W → Calls Tryd.prog 12 #[p3] W (Gives W (.string ⟨(wordL x.b).toArray⟩))) := Lib.hid fun W hW => spec_FormatWordV (a3.below hW) hf.2.2.1
  have k4 : Hid (∀ W, Below w.heap.size w W → Calls Tryd.prog 14 #[p4] W (Gives W (.string ⟨(weightL x.proof).toArray⟩))) := Lib.hid fun W hW => spec_FormatWeightV (a4.below hW) hf.2.2.2.1 hw.1
  have k5 : Hid (∀ W, Below w.heap.size w W → Calls Tryd.prog 15 #[p5] W (Gives W (.string ⟨(rootsL x.roots).toArray⟩))) := Lib.hid fun W hW => spec_FormatRootsV (a5.below hW) hf.2.2.2.2 hw.2
  have l0 := cwL_len x.kind
  have l1 := cartanL_len x.cartan
  have l2 : (wordL x.a).length ≤ 1048577 := by have := wordL_len (l := x.a); have := hf.2.1; omega
  have l3 : (wordL x.b).length ≤ 1048577 := by have := wordL_len (l := x.b); have := hf.2.2.1; omega
  have l4 : (weightL x.proof).length ≤ 23068672 := by have := weightL_len hw.1; have := hf.2.2.2.1; omega
  have l5 := rootsL_len hf.2.2.2.2 hw.2
  have L0 := Lib.hid l0; have L1 := Lib.hid l1; have L2 := Lib.hid l2; have L3 := Lib.hid l3; have L4 := Lib.hid l4; have L5 := Lib.hid l5
  clear l0 l1 l2 l3 l4 l5
  obtain ⟨p1g, p1o, p1n, p1c, rfl, -⟩ := a1
  obtain ⟨p2g, p2o, p2n, p2c, rfl, -⟩ := a2
  obtain ⟨p3g, p3o, p3n, p3c, rfl, -⟩ := a3
  obtain ⟨p4g, p4o, p4n, p4c, rfl, -⟩ := a4
  obtain ⟨p5g, p5o, p5n, p5c, rfl, -⟩ := a5
  unfold claimL
  generalize cwL x.kind = W at *
  generalize cartanL x.cartan = M at *
  generalize wordL x.a = A at *
  generalize wordL x.b = B at *
  generalize weightL x.proof = Pf at *
  generalize rootsL x.roots = R at *
  have C0 := Lib.hid (heap_alloc_new w (.cells #[.int .i64 x.kind, (Value.slice (some ⟨p1g, p1o, none⟩) p1n p1c), (Value.slice (some ⟨p2g, p2o, none⟩) p2n p2c), (Value.slice (some ⟨p3g, p3o, none⟩) p3n p3c), (Value.slice (some ⟨p4g, p4o, none⟩) p4n p4c), (Value.slice (some ⟨p5g, p5o, none⟩) p5n p5c)] 28 (0, 0)))
  have hB0 : Below w.heap.size w (w.alloc (.cells #[.int .i64 x.kind, (Value.slice (some ⟨p1g, p1o, none⟩) p1n p1c), (Value.slice (some ⟨p2g, p2o, none⟩) p2n p2c), (Value.slice (some ⟨p3g, p3o, none⟩) p3n p3c), (Value.slice (some ⟨p4g, p4o, none⟩) p4n p4c), (Value.slice (some ⟨p5g, p5o, none⟩) p5n p5c)] 28)) := (by repeat (first | with_reducible exact Below.refl _ _ | with_reducible assumption | with_reducible refine below_drewN ?_ _ | with_reducible refine Below.drew ?_ | (with_reducible refine Below.alloc ?_ ?_ _; rotate_left; · first | (simp; done) | (simp; omega) | exact Below.size (by assumption) | (have hsz := Below.size (by assumption : Below _ _ _); simp at hsz ⊢; omega)) | (with_reducible refine Below.setCell ?_ ?_ _; rotate_left; · first | (simp; done) | (simp; omega))))
  generalize x.kind = kd at *
  go_enter Tryd.func5, Tryd.ntmps5
  go_wp2_with fail
  refine (k0.out _).mono ?_
  rintro e w1 ⟨rfl, hb1⟩
  have C1 := Lib.hid ((hb1.block _ (lt_of_block C0.out)).trans C0.out)
  have hB1 := hB0.trans (hb1.mono hB0.size)
  clear C0 hB0 hb1
  obtain ⟨c0, c1, c2, c3, c4, c5⟩ := sixC C1.out
  go_wp2_with fail
  refine (k2.out _ hB1).mono ?_
  rintro e w2 ⟨rfl, hb2⟩
  have C2 := Lib.hid ((hb2.block _ (lt_of_block C1.out)).trans C1.out)
  have hB2 := hB1.trans (hb2.mono hB1.size)
  clear C1 hB1 hb2 c0 c1 c2 c3 c4 c5
  obtain ⟨c0, c1, c2, c3, c4, c5⟩ := sixC C2.out
  go_wp2_with fail
  refine (k3.out _ hB2).mono ?_
  rintro e w3 ⟨rfl, hb3⟩
  have C3 := Lib.hid ((hb3.block _ (lt_of_block C2.out)).trans C2.out)
  have hB3 := hB2.trans (hb3.mono hB2.size)
  clear C2 hB2 hb3 c0 c1 c2 c3 c4 c5
  obtain ⟨c0, c1, c2, c3, c4, c5⟩ := sixC C3.out
  go_wp2_with fail
  refine (k1.out _ hB3).mono ?_
  rintro e w4 ⟨rfl, hb4⟩
  have C4 := Lib.hid ((hb4.block _ (lt_of_block C3.out)).trans C3.out)
  have hB4 := hB3.trans (hb4.mono hB3.size)
  clear C3 hB3 hb4 c0 c1 c2 c3 c4 c5
  obtain ⟨c0, c1, c2, c3, c4, c5⟩ := sixC C4.out
  by_cases dW : W.isEmpty = true
  · have e : finL W M A B Pf R = [] := by unfold finL; rw [dW]; rfl
    have E := Lib.hid e
    clear e
    go_wp2
    go_ret
    exact ⟨congrArg (fun t => Ending.returned (.string ⟨List.toArray t⟩)) E.out.symm, hB4⟩
  by_cases dA : A.isEmpty = true
  · have e : finL W M A B Pf R = [] := by unfold finL; rw [dA]; simp
    have E := Lib.hid e
    clear e
    go_wp2
    go_ret
    exact ⟨congrArg (fun t => Ending.returned (.string ⟨List.toArray t⟩)) E.out.symm, hB4⟩
  by_cases dB : B.isEmpty = true
  · have e : finL W M A B Pf R = [] := by unfold finL; rw [dB]; simp
    have E := Lib.hid e
    clear e
    go_wp2
    go_ret
    exact ⟨congrArg (fun t => Ending.returned (.string ⟨List.toArray t⟩)) E.out.symm, hB4⟩
  by_cases dM : M.isEmpty = true
  · have e : finL W M A B Pf R = [] := by unfold finL; rw [dM]; simp
    have E := Lib.hid e
    clear e
    go_wp2
    go_ret
    exact ⟨congrArg (fun t => Ending.returned (.string ⟨List.toArray t⟩)) E.out.symm, hB4⟩
  have e : finL W M A B Pf R = W ++ [32] ++ M ++ [32] ++ A ++ [32] ++ B ++ [32, 98, 121, 32] ++ Pf ++ [32, 97, 110, 100, 32] ++ R := by
    unfold finL
    rw [if_neg (by simp [dW, dA, dB, dM])]
  have E := Lib.hid e
  clear e
  obtain ⟨s1, hs1⟩ : ∃ t, t = W ++ ([32] : List UInt8) := ⟨_, rfl⟩
  have ns1 : s1.length = W.length + ([32] : List UInt8).length := by rw [hs1, List.length_append]
  obtain ⟨s2, hs2⟩ : ∃ t, t = s1 ++ M := ⟨_, rfl⟩
  have ns2 : s2.length = s1.length + M.length := by rw [hs2, List.length_append]
  obtain ⟨s3, hs3⟩ : ∃ t, t = s2 ++ ([32] : List UInt8) := ⟨_, rfl⟩
  have ns3 : s3.length = s2.length + ([32] : List UInt8).length := by rw [hs3, List.length_append]
  obtain ⟨s4, hs4⟩ : ∃ t, t = s3 ++ A := ⟨_, rfl⟩
  have ns4 : s4.length = s3.length + A.length := by rw [hs4, List.length_append]
  obtain ⟨s5, hs5⟩ : ∃ t, t = s4 ++ ([32] : List UInt8) := ⟨_, rfl⟩
  have ns5 : s5.length = s4.length + ([32] : List UInt8).length := by rw [hs5, List.length_append]
  obtain ⟨s6, hs6⟩ : ∃ t, t = s5 ++ B := ⟨_, rfl⟩
  have ns6 : s6.length = s5.length + B.length := by rw [hs6, List.length_append]
  obtain ⟨s7, hs7⟩ : ∃ t, t = s6 ++ ([32, 98, 121, 32] : List UInt8) := ⟨_, rfl⟩
  have ns7 : s7.length = s6.length + ([32, 98, 121, 32] : List UInt8).length := by rw [hs7, List.length_append]
  obtain ⟨s8, hs8⟩ : ∃ t, t = s7 ++ Pf := ⟨_, rfl⟩
  have ns8 : s8.length = s7.length + Pf.length := by rw [hs8, List.length_append]
  obtain ⟨s9, hs9⟩ : ∃ t, t = s8 ++ ([32, 97, 110, 100, 32] : List UInt8) := ⟨_, rfl⟩
  have ns9 : s9.length = s8.length + ([32, 97, 110, 100, 32] : List UInt8).length := by rw [hs9, List.length_append]
  obtain ⟨s10, hs10⟩ : ∃ t, t = s9 ++ R := ⟨_, rfl⟩
  have ns10 : s10.length = s9.length + R.length := by rw [hs10, List.length_append]
  simp only [List.length_cons, List.length_nil] at ns1 ns2 ns3 ns4 ns5 ns6 ns7 ns8 ns9 ns10
  have b0 := L0.out; have b1 := L1.out; have b2 := L2.out; have b3 := L3.out; have b4 := L4.out; have b5 := L5.out
  have as1 : ∀ W', (Op.stringOp .add ⟨W.toArray⟩ ⟨([32] : List UInt8).toArray⟩).run Tryd.prog W' = .ok (.string ⟨s1.toArray⟩) W' := fun W' => addS W' _ _ _ hs1.symm (by omega)
  have as2 : ∀ W', (Op.stringOp .add ⟨s1.toArray⟩ ⟨(M : List UInt8).toArray⟩).run Tryd.prog W' = .ok (.string ⟨s2.toArray⟩) W' := fun W' => addS W' _ _ _ hs2.symm (by omega)
  have as3 : ∀ W', (Op.stringOp .add ⟨s2.toArray⟩ ⟨([32] : List UInt8).toArray⟩).run Tryd.prog W' = .ok (.string ⟨s3.toArray⟩) W' := fun W' => addS W' _ _ _ hs3.symm (by omega)
  have as4 : ∀ W', (Op.stringOp .add ⟨s3.toArray⟩ ⟨(A : List UInt8).toArray⟩).run Tryd.prog W' = .ok (.string ⟨s4.toArray⟩) W' := fun W' => addS W' _ _ _ hs4.symm (by omega)
  have as5 : ∀ W', (Op.stringOp .add ⟨s4.toArray⟩ ⟨([32] : List UInt8).toArray⟩).run Tryd.prog W' = .ok (.string ⟨s5.toArray⟩) W' := fun W' => addS W' _ _ _ hs5.symm (by omega)
  have as6 : ∀ W', (Op.stringOp .add ⟨s5.toArray⟩ ⟨(B : List UInt8).toArray⟩).run Tryd.prog W' = .ok (.string ⟨s6.toArray⟩) W' := fun W' => addS W' _ _ _ hs6.symm (by omega)
  have as7 : ∀ W', (Op.stringOp .add ⟨s6.toArray⟩ ⟨([32, 98, 121, 32] : List UInt8).toArray⟩).run Tryd.prog W' = .ok (.string ⟨s7.toArray⟩) W' := fun W' => addS W' _ _ _ hs7.symm (by omega)
  have as8 : ∀ W', (Op.stringOp .add ⟨s7.toArray⟩ ⟨(Pf : List UInt8).toArray⟩).run Tryd.prog W' = .ok (.string ⟨s8.toArray⟩) W' := fun W' => addS W' _ _ _ hs8.symm (by omega)
  have as9 : ∀ W', (Op.stringOp .add ⟨s8.toArray⟩ ⟨([32, 97, 110, 100, 32] : List UInt8).toArray⟩).run Tryd.prog W' = .ok (.string ⟨s9.toArray⟩) W' := fun W' => addS W' _ _ _ hs9.symm (by omega)
  have as10 : ∀ W', (Op.stringOp .add ⟨s9.toArray⟩ ⟨(R : List UInt8).toArray⟩).run Tryd.prog W' = .ok (.string ⟨s10.toArray⟩) W' := fun W' => addS W' _ _ _ hs10.symm (by omega)
  have E2 : Hid (s10 = finL W M A B Pf R) := Lib.hid (by rw [E.out]; simp only [hs10, hs9, hs8, hs7, hs6, hs5, hs4, hs3, hs2, hs1])
  clear b0 b1 b2 b3 b4 b5 ns1 ns2 ns3 ns4 ns5 ns6 ns7 ns8 ns9 ns10 hs10 hs9 hs8 hs7 hs6 hs5 hs4 hs3 hs2 hs1
  have hB4d : Below w.heap.size w w4.drew := below_same hB4 rfl rfl rfl rfl
  go_wp2_with fail
  go_region_held3 (fun W' => W'.cell? ⟨w.heap.size, 4, none⟩ = some (Value.slice (some ⟨p4g, p4o, none⟩) p4n p4c) ∧ W'.cell? ⟨w.heap.size, 5, none⟩ = some (Value.slice (some ⟨p5g, p5o, none⟩) p5n p5c))
    (first | exact ⟨c4, c5⟩ | exact ⟨keepCellC hbA c4, keepCellC hbA c5⟩ | exact ⟨keepCellC hbB (keepCellC hbA c4), keepCellC hbB (keepCellC hbA c5)⟩)
    (first
      | (go_at_call 14; refine (k4.out _ (by first | exact hB4d | assumption)).mono ?_; rintro e wA ⟨rfl, hbA⟩)
      | (go_at_call 15; refine (k5.out _ (by first | exact hB4d.trans (hbA.mono hB4d.size) | assumption)).mono ?_; rintro e wB ⟨rfl, hbB⟩))
  go_wp2
  go_ret
  exact ⟨congrArg (fun t => Ending.returned (.string ⟨List.toArray t⟩)) E2.out, (hB4d.trans (hbA.mono hB4d.size)).trans (hbB.mono (hB4d.trans (hbA.mono hB4d.size)).size)⟩
end Go.Proofs.YthlbkdcmhelggaaDoor
