/- The program's FormatClaim: contract. -/
import Derived.Test.YthlbkdcmhelggaaDoorFmtC
namespace Go.Proofs.YthlbkdcmhelggaaDoor
open Go.RowKit
open Go.Lib (join decDigits itoa)

theorem impl_FormatWordV {v : Value} {xs : List Int} {w : World} (h : IntsV w v xs) (hl : xs.length ≤ 1048576) : Calls Tryd.prog 20 #[v] w (Gives w (.string ⟨(wordL xs).toArray⟩)) := by
  obtain ⟨g, o, n, c, rfl, h1, h2, h3, h4⟩ := h
  exact impl_FormatWord_any g o n c xs w h1 hl h3 h4
theorem impl_FormatWeightV {v : Value} {xs : List Int} {w : World} (h : IntsV w v xs) (hl : xs.length ≤ 1048576) (hw : I64s xs) (ht : Tab w) : Calls Tryd.prog 23 #[v] w (Gives w (.string ⟨(weightL xs).toArray⟩)) := by
  obtain ⟨g, o, n, c, rfl, h1, h2, h3, h4⟩ := h
  exact impl_FormatWeight_any g o n c xs w h1 hl hw h3 h4 ht
theorem impl_FormatCartanV {v : Value} {xs : List (List Int)} {w : World} (h : RowsV w v xs) (hl : rowsFew xs) (ht : Tab w) : Calls Tryd.prog 19 #[v] w (Gives w (.string ⟨(cartanL xs).toArray⟩)) := by
  obtain ⟨g, o, n, c, rfl, h1, h2, h3, h4⟩ := h
  exact impl_FormatCartan_any g o n c xs w h1 (by have := hl.1; omega) (fun j hj => by have := hl.2 j hj; omega) h3 h4 ht
theorem impl_FormatRootsV {v : Value} {xs : List (List Int)} {w : World} (h : RowsV w v xs) (hl : rowsFew xs) (hw : ∀ r ∈ xs, I64s r) (ht : Tab w) : Calls Tryd.prog 24 #[v] w (Gives w (.string ⟨(rootsL xs).toArray⟩)) := by
  obtain ⟨g, o, n, c, rfl, h1, h2, h3, h4⟩ := h
  exact impl_FormatRoots_any g o n c xs w h1 hl.1 hl.2 hw h3 h4 ht

def strs (L : List (List UInt8)) : List ByteArray := L.map fun l => ⟨l.toArray⟩
theorem strs_data (L : List (List UInt8)) : (strs L).map (·.data.toList) = L := by
  unfold strs
  rw [List.map_map]
  have : ((fun x : ByteArray => x.data.toList) ∘ fun l : List UInt8 => ⟨l.toArray⟩) = id := by funext l; simp
  rw [this, List.map_id]
theorem joinS {w : World} {B g c n : Nat} {L : List (List UInt8)} (ho : OwnStrs w B g c (strs L)) (hn : L.length = n) (hN : n ≤ 1048576) (hl : (join L [32]).length ≤ 140737488355328) :
    Calls Tryd.prog 22 #[(Value.slice (some ⟨g, 0, none⟩) n c), .string ⟨#[32]⟩] w (Gives w (.string ⟨(join L [32]).toArray⟩)) := by
  subst hn
  have e44 : (⟨#[32]⟩ : ByteArray).data.toList = [32] := rfl
  have hsl : (strs L).length = L.length := by simp [strs]
  have hj := Any.strings_Join Tryd.lays156 Tryd.Builder_Extra_156 g 0 c (strs L) ⟨#[32]⟩ w ho.cell (OwnK.lt ho) (by omega) ho.capLe (by rw [strs_data, e44]; exact hl)
  change Calls Tryd.prog 22 _ _ _ at hj
  rw [strs_data, e44, hsl] at hj
  exact hj
theorem step_append_strs {ops : Array Oper} {o : Oper} {a : Act} {K : Act → World → Prop} {Q : Exit → Act → World → Prop} {E : Prop} (hgd : o.guard = none) (s x : Operand)
    (ho : o.op = .call { callee := .builtin .append, args := #[s, x], argTypes := #[39, 39] })
    (B B2 g cap n g2 c2 k : Nat) (xs ys : List ByteArray) (W : World) (hn : xs.length = n) (hk : ys.length = k) (hown : OwnStrs W B g cap xs) (hnew : OwnStrs W B2 g2 c2 ys) (hs : a.eval s = (Value.slice (some ⟨g, 0, none⟩) n cap)) (hx : a.eval x = (Value.slice (some ⟨g2, 0, none⟩) k c2)) (hlen : n + k ≤ 1048576)
    (h : ∀ g' cap' w', OwnStrs w' B g' cap' (xs ++ ys) → W.grownBy w' (some g) → (g' = g ∨ g' = W.heap.size) → K (a.put o.dst (Value.slice (some ⟨g', 0, none⟩) (n + k) cap')) w') :
    if Region.wanted o (yielded ops a.tmps) = true then Oper.wp Tryd.prog o a W K Q else E := by
  subst hn; subst hk
  have hw : Region.wanted o (yielded ops a.tmps) = true := by simp [Region.wanted, hgd]
  rw [if_pos hw]
  obtain ⟨g', cap', w', hr, h1, h2, h3⟩ := run_append_K infoStr Tryd.underlying39 rfl (by decide) (by decide) hown g2 0 ys.length c2 (ys.map Value.string) (by simp) (fun j u hu => by
    have hj : j < ys.length := by have := (List.getElem?_eq_some_iff.1 hu).1; simpa using this
    have h := hnew.cell j ys[j] (by simp [hj])
    rw [h, ← hu]
    simp [hj]) (fun u hu => by obtain ⟨b, -, rfl⟩ := List.mem_map.1 hu; rfl) hlen o.type
  unfold Oper.wp execOp
  simp only [ho, resolve, invoke, builtin, Sem.run_bind, Sem.run_pure, Result.andThen_ok, List.map_toArray, List.map_cons, List.map_nil, hs, hx, hr]
  refine h g' cap' w' ?_ h2 h3
  unfold OwnStrs
  rw [List.map_append, List.length_append]
  exact h1
theorem own_four (w : World) (B : Nat) (a b c d : List UInt8) (hB : B ≤ w.heap.size) : OwnStrs (w.alloc (.cells #[.string ⟨a.toArray⟩, .string ⟨b.toArray⟩, .string ⟨c.toArray⟩, .string ⟨d.toArray⟩] 9)) B w.heap.size 4 (strs [a, b, c, d]) :=
  World.ownsRow_lit w #[.string ⟨a.toArray⟩, .string ⟨b.toArray⟩, .string ⟨c.toArray⟩, .string ⟨d.toArray⟩] 4 hB (by decide) rfl

theorem OwnStrs.two {w w1 w2 : World} {B g cap : Nat} {xs : List ByteArray} (h : OwnStrs w B g cap xs) (h1 : Below w.heap.size w w1) (h2 : Below w1.heap.size w1 w2) : OwnStrs w2 B g cap xs := by
  have a : OwnStrs w1 B g cap xs := OwnK.below h h1 (OwnK.lt h)
  exact OwnK.below a h2 (OwnK.lt a)
theorem OwnStrs.over {w : World} {B g cap : Nat} {xs : List ByteArray} (h : OwnStrs w B g cap xs) (o : Obj) : OwnStrs (w.alloc o) B g cap xs := OwnK.alloc h o
abbrev by_and (Pf R : List UInt8) : Obj := .cells #[.string ⟨#[98, 121]⟩, .string ⟨Pf.toArray⟩, .string ⟨#[97, 110, 100]⟩, .string ⟨R.toArray⟩] 9
theorem own_by_and (w : World) (B : Nat) (Pf R : List UInt8) (hB : B ≤ w.heap.size) : OwnStrs (w.alloc (by_and Pf R)) B w.heap.size 4 (strs [[98, 121], Pf, [97, 110, 100], R]) := own_four w B [98, 121] Pf [97, 110, 100] R hB

set_option maxHeartbeats 4000000 in
theorem impl_FormatClaim_any (v : Value) (x : ClaimD) (w : World) (h : ClaimV w v x) (hf : claimFew x) (hw : claimWf x) (ht : Tab w) :
    Calls Tryd.prog 7 #[v] w (Gives w (.string ⟨(claimL x).toArray⟩)) := by
  obtain ⟨p1, p2, p3, p4, p5, rfl, a1, a2, a3, a4, a5⟩ := h
  have k0 : Hid (∀ W, Calls Tryd.prog 18 #[.int .i64 x.kind] W (Gives W (.string ⟨(cwL x.kind).toArray⟩))) := Lib.hid fun W => by
    rw [← cwL_eq]
    refine (impl_ClaimWord_any x.kind W).mono ?_
    rintro e w' ⟨rfl, m, rfl⟩
    exact ⟨rfl, below_drewN' W m⟩
  have k1 : Hid (∀ W, Below w.heap.size w W → Calls Tryd.prog 19 #[p1] W (Gives W (.string ⟨(cartanL x.cartan).toArray⟩))) := Lib.hid fun W hW => impl_FormatCartanV (a1.below hW) hf.1 (ht.below hW)
  have k2 : Hid (∀ W, Below w.heap.size w W → Calls Tryd.prog 20 #[p2] W (Gives W (.string ⟨(wordL x.a).toArray⟩))) := Lib.hid fun W hW => impl_FormatWordV (a2.below hW) hf.2.1
  have k3 : Hid (∀ W, Below w.heap.size w W → Calls Tryd.prog 20 #[p3] W (Gives W (.string ⟨(wordL x.b).toArray⟩))) := Lib.hid fun W hW => impl_FormatWordV (a3.below hW) hf.2.2.1
  have k4 : Hid (∀ W, Below w.heap.size w W → Calls Tryd.prog 23 #[p4] W (Gives W (.string ⟨(weightL x.proof).toArray⟩))) := Lib.hid fun W hW => impl_FormatWeightV (a4.below hW) hf.2.2.2.1 hw.1 (ht.below hW)
  have k5 : Hid (∀ W, Below w.heap.size w W → Calls Tryd.prog 24 #[p5] W (Gives W (.string ⟨(rootsL x.roots).toArray⟩))) := Lib.hid fun W hW => impl_FormatRootsV (a5.below hW) hf.2.2.2.2 hw.2 (ht.below hW)
  have l0 := cwL_len x.kind
  have l1 := cartanL_len x.cartan
  have l2 : (wordL x.a).length ≤ 1048577 := by have := wordL_len (l := x.a); have := hf.2.1; omega
  have l3 : (wordL x.b).length ≤ 1048577 := by have := wordL_len (l := x.b); have := hf.2.2.1; omega
  have l4 : (weightL x.proof).length ≤ 23068672 := by have := weightL_len hw.1; have := hf.2.2.2.1; omega
  have l5 := rootsL_len hf.2.2.2.2 hw.2
  have L0 := Lib.hid l0; have L1 := Lib.hid l1; have L2 := Lib.hid l2; have L3 := Lib.hid l3; have L4 := Lib.hid l4; have L5 := Lib.hid l5
  clear l0 l1 l2 l3 l4 l5
  obtain ⟨p1g, p1o, p1n, p1c, rfl, -⟩ := a1
  obtain ⟨p2g, p2o, p2n, p2c, rfl, -⟩ := a2
  obtain ⟨p3g, p3o, p3n, p3c, rfl, -⟩ := a3
  obtain ⟨p4g, p4o, p4n, p4c, rfl, -⟩ := a4
  obtain ⟨p5g, p5o, p5n, p5c, rfl, -⟩ := a5
  unfold claimL
  generalize cwL x.kind = W at *
  generalize cartanL x.cartan = M at *
  generalize wordL x.a = A at *
  generalize wordL x.b = B at *
  generalize weightL x.proof = Pf at *
  generalize rootsL x.roots = R at *
  have c0 := sixC (heap_alloc_new w (.cells #[.int .i64 x.kind, (Value.slice (some ⟨p1g, p1o, none⟩) p1n p1c), (Value.slice (some ⟨p2g, p2o, none⟩) p2n p2c), (Value.slice (some ⟨p3g, p3o, none⟩) p3n p3c), (Value.slice (some ⟨p4g, p4o, none⟩) p4n p4c), (Value.slice (some ⟨p5g, p5o, none⟩) p5n p5c)] 28 (0, 0)))
  have C0 := Lib.hid (heap_alloc_new w (.cells #[.int .i64 x.kind, (Value.slice (some ⟨p1g, p1o, none⟩) p1n p1c), (Value.slice (some ⟨p2g, p2o, none⟩) p2n p2c), (Value.slice (some ⟨p3g, p3o, none⟩) p3n p3c), (Value.slice (some ⟨p4g, p4o, none⟩) p4n p4c), (Value.slice (some ⟨p5g, p5o, none⟩) p5n p5c)] 28 (0, 0)))
  have hB0 : Below w.heap.size w (w.alloc (.cells #[.int .i64 x.kind, (Value.slice (some ⟨p1g, p1o, none⟩) p1n p1c), (Value.slice (some ⟨p2g, p2o, none⟩) p2n p2c), (Value.slice (some ⟨p3g, p3o, none⟩) p3n p3c), (Value.slice (some ⟨p4g, p4o, none⟩) p4n p4c), (Value.slice (some ⟨p5g, p5o, none⟩) p5n p5c)] 28)) := (by repeat (first | with_reducible exact Below.refl _ _ | with_reducible assumption | with_reducible refine below_drewN ?_ _ | with_reducible refine Below.drew ?_ | (with_reducible refine Below.alloc ?_ ?_ _; rotate_left; · first | (simp; done) | (simp; omega) | exact Below.size (by assumption) | (have hsz := Below.size (by assumption : Below _ _ _); simp at hsz ⊢; omega)) | (with_reducible refine Below.setCell ?_ ?_ _; rotate_left; · first | (simp; done) | (simp; omega))))
  clear hw hf ht
  generalize x.kind = kd at *
  have hB0d := below_same hB0 (b := (w.alloc (.cells #[.int .i64 kd, (Value.slice (some ⟨p1g, p1o, none⟩) p1n p1c), (Value.slice (some ⟨p2g, p2o, none⟩) p2n p2c), (Value.slice (some ⟨p3g, p3o, none⟩) p3n p3c), (Value.slice (some ⟨p4g, p4o, none⟩) p4n p4c), (Value.slice (some ⟨p5g, p5o, none⟩) p5n p5c)] 28)).drew) rfl rfl rfl rfl
  obtain ⟨c0, c1, c2, c3, c4, c5⟩ := c0
  go_enter Tryd.func7, Tryd.ntmps7
  go_wp2_with fail
  go_region_held3 (fun W' => W'.cell? ⟨w.heap.size, 0, none⟩ = some (.int .i64 kd) ∧ W'.cell? ⟨w.heap.size, 1, none⟩ = some (Value.slice (some ⟨p1g, p1o, none⟩) p1n p1c) ∧ W'.cell? ⟨w.heap.size, 2, none⟩ = some (Value.slice (some ⟨p2g, p2o, none⟩) p2n p2c) ∧ W'.cell? ⟨w.heap.size, 3, none⟩ = some (Value.slice (some ⟨p3g, p3o, none⟩) p3n p3c))
    (first
      | exact ⟨c0, c1, c2, c3⟩
      | exact ⟨keepCellC hbA c0, keepCellC hbA c1, keepCellC hbA c2, keepCellC hbA c3⟩
      | exact ⟨keepCellC hbB (keepCellC hbA c0), keepCellC hbB (keepCellC hbA c1), keepCellC hbB (keepCellC hbA c2), keepCellC hbB (keepCellC hbA c3)⟩
      | exact ⟨keepCellC hbC (keepCellC hbB (keepCellC hbA c0)), keepCellC hbC (keepCellC hbB (keepCellC hbA c1)), keepCellC hbC (keepCellC hbB (keepCellC hbA c2)), keepCellC hbC (keepCellC hbB (keepCellC hbA c3))⟩
      | exact ⟨keepCellC hbD (keepCellC hbC (keepCellC hbB (keepCellC hbA c0))), keepCellC hbD (keepCellC hbC (keepCellC hbB (keepCellC hbA c1))), keepCellC hbD (keepCellC hbC (keepCellC hbB (keepCellC hbA c2))), keepCellC hbD (keepCellC hbC (keepCellC hbB (keepCellC hbA c3)))⟩
      | exact ⟨keepCellC ((Below.refl _ wD).alloc (Nat.le_refl _) _) (keepCellC hbD (keepCellC hbC (keepCellC hbB (keepCellC hbA c0)))), keepCellC ((Below.refl _ wD).alloc (Nat.le_refl _) _) (keepCellC hbD (keepCellC hbC (keepCellC hbB (keepCellC hbA c1)))), keepCellC ((Below.refl _ wD).alloc (Nat.le_refl _) _) (keepCellC hbD (keepCellC hbC (keepCellC hbB (keepCellC hbA c2)))), keepCellC ((Below.refl _ wD).alloc (Nat.le_refl _) _) (keepCellC hbD (keepCellC hbC (keepCellC hbB (keepCellC hbA c3))))⟩
      | go_keep)
    (first
      | (go_at_call 18; refine (k0.out _).mono ?_; rintro e wA ⟨rfl, hbA⟩; have hBA := hB0d.trans (hbA.mono hB0d.size))
      | (go_at_call 19; refine (k1.out _ hBA).mono ?_; rintro e wB ⟨rfl, hbB⟩; have hBB := hBA.trans (hbB.mono hBA.size))
      | (go_at_call_of 20 (Value.slice (some ⟨p2g, p2o, none⟩) p2n p2c); refine (k2.out _ hBB).mono ?_; rintro e wC ⟨rfl, hbC⟩; have hBC := hBB.trans (hbC.mono hBB.size))
      | (go_at_call_of 20 (Value.slice (some ⟨p3g, p3o, none⟩) p3n p3c); refine (k3.out _ hBC).mono ?_; rintro e wD ⟨rfl, hbD⟩; have hBD := hBC.trans (hbD.mono hBC.size)))
  have ho := own_four wD w.heap.size W M A B hBD.size
  have hcA : Below wD.heap.size wD (wD.alloc (.cells #[.string ⟨W.toArray⟩, .string ⟨M.toArray⟩, .string ⟨A.toArray⟩, .string ⟨B.toArray⟩] 9)) := (by repeat (first | with_reducible exact Below.refl _ _ | with_reducible assumption | with_reducible refine below_drewN ?_ _ | with_reducible refine Below.drew ?_ | (with_reducible refine Below.alloc ?_ ?_ _; rotate_left; · first | (simp; done) | (simp; omega) | exact Below.size (by assumption) | (have hsz := Below.size (by assumption : Below _ _ _); simp at hsz ⊢; omega)) | (with_reducible refine Below.setCell ?_ ?_ _; rotate_left; · first | (simp; done) | (simp; omega))))
  have hBE := hBD.trans (hcA.mono hBD.size)
  have hDlt : w.heap.size < wD.heap.size := by have := World.block_lt_of_cell? _ _ (keepCellC hbD (keepCellC hbC (keepCellC hbB (keepCellC hbA c0)))); exact this
  have d4 := keepCellC hcA (keepCellC hbD (keepCellC hbC (keepCellC hbB (keepCellC hbA (show World.cell? (World.drew _) ⟨w.heap.size, 4, none⟩ = _ from c4)))))
  have d5 := keepCellC hcA (keepCellC hbD (keepCellC hbC (keepCellC hbB (keepCellC hbA (show World.cell? (World.drew _) ⟨w.heap.size, 5, none⟩ = _ from c5)))))
  clear hbA hbB hbC hbD hBA hBB hBC hB0 hB0d c0 c1 c2 c3 c4 c5 C0
  have hcon := strs_Contains wD.heap.size 4 4 [W, M, A, B] _ rfl (by simp) (fun j x hj => ho.cell j ⟨x.toArray⟩ (by unfold strs; rw [List.getElem?_map, hj]; rfl))
  have Hcon := Lib.hid hcon
  clear hcon
  generalize hwF : wD.alloc (.cells #[.string ⟨W.toArray⟩, .string ⟨M.toArray⟩, .string ⟨A.toArray⟩, .string ⟨B.toArray⟩] 9) = wF at *
  clear hwF hcA
  by_cases hb : (W.isEmpty || A.isEmpty || B.isEmpty || M.isEmpty) = true
  · have e : finL W M A B Pf R = [] := by unfold finL; rw [if_pos hb]
    have e2 : ([W, M, A, B].any fun x => x.isEmpty) = true := by
      simp only [List.any_cons, List.any_nil, Bool.or_false]
      revert hb
      cases W.isEmpty <;> cases M.isEmpty <;> cases A.isEmpty <;> cases B.isEmpty <;> simp
    rw [e2] at Hcon
    have E := Lib.hid e
    clear e e2 hb
    go_wp2_with fail
    refine Hcon.out.mono ?_
    rintro e w5 ⟨rfl, m5, rfl⟩
    go_wp2
    go_ret
    exact ⟨congrArg (fun t => Ending.returned (.string ⟨List.toArray t⟩)) E.out.symm, below_same hBE rfl rfl rfl rfl⟩
  have e : join [W, M, A, B, [98, 121], Pf, [97, 110, 100], R] [32] = finL W M A B Pf R := by unfold finL; rw [if_neg hb]; exact fin_join W M A B Pf R
  have e2 : ([W, M, A, B].any fun x => x.isEmpty) = false := by
    simp only [List.any_cons, List.any_nil, Bool.or_false]
    revert hb
    cases W.isEmpty <;> cases M.isEmpty <;> cases A.isEmpty <;> cases B.isEmpty <;> simp
  rw [e2] at Hcon
  have hlen : (join [W, M, A, B, [98, 121], Pf, [97, 110, 100], R] [32]).length ≤ 140737488355328 := by
    rw [fin_join]
    have := L0.out; have := L1.out; have := L2.out; have := L3.out; have := L4.out; have := L5.out
    simp only [List.length_append, List.length_cons, List.length_nil]
    omega
  have E := Lib.hid e; have Hlen := Lib.hid hlen
  clear e e2 hb hlen
  go_wp2_with fail
  refine Hcon.out.mono ?_
  rintro e w5 ⟨rfl, m5, rfl⟩
  have ho5 : OwnStrs (wF.drewN (m5 + 1)) w.heap.size wD.heap.size 4 (strs [W, M, A, B]) := ho
  have hB5 : Below w.heap.size w (wF.drewN (m5 + 1)) := below_same hBE rfl rfl rfl rfl
  have f4 : (wF.drewN (m5 + 1)).cell? ⟨w.heap.size, 4, none⟩ = some (Value.slice (some ⟨p4g, p4o, none⟩) p4n p4c) := d4
  have f5 : (wF.drewN (m5 + 1)).cell? ⟨w.heap.size, 5, none⟩ = some (Value.slice (some ⟨p5g, p5o, none⟩) p5n p5c) := d5
  clear d4 d5 ho hBE Hcon
  have h8 : 4 + 4 ≤ 1048576 := by decide
  have h88 : 8 ≤ 1048576 := by decide
  have hl8 : [W, M, A, B, [98, 121], Pf, [97, 110, 100], R].length = 8 := rfl
  have hlen := Hlen.out
  have hJ := fun (g c : Nat) (W' : World) (h : OwnStrs W' w.heap.size g c (strs [W, M, A, B, [98, 121], Pf, [97, 110, 100], R])) => joinS h hl8 h88 hlen
  have HJ := Lib.hid hJ
  clear hJ
  have hne : some w.heap.size ≠ some wD.heap.size := fun t => by have t2 := Option.some.inj t; omega
  go_wp2_with fail
  go_region_held3 (fun W' => W'.cell? ⟨w.heap.size, 4, none⟩ = some (Value.slice (some ⟨p4g, p4o, none⟩) p4n p4c) ∧ W'.cell? ⟨w.heap.size, 5, none⟩ = some (Value.slice (some ⟨p5g, p5o, none⟩) p5n p5c))
    (first
      | exact ⟨f4, f5⟩
      | exact ⟨keepCellC hbA f4, keepCellC hbA f5⟩
      | exact ⟨keepCellC hbB (keepCellC hbA f4), keepCellC hbB (keepCellC hbA f5)⟩
      | exact ⟨keepCellC ((Below.refl _ wB).alloc (Nat.le_refl _) _) (keepCellC hbB (keepCellC hbA f4)), keepCellC ((Below.refl _ wB).alloc (Nat.le_refl _) _) (keepCellC hbB (keepCellC hbA f5))⟩
      | exact ⟨hg3.cell (a := ⟨w.heap.size, 4, none⟩) (keepCellC ((Below.refl _ wB).alloc (Nat.le_refl _) _) (keepCellC hbB (keepCellC hbA f4))) hne, hg3.cell (a := ⟨w.heap.size, 5, none⟩) (keepCellC ((Below.refl _ wB).alloc (Nat.le_refl _) _) (keepCellC hbB (keepCellC hbA f5))) hne⟩
      | exact ⟨keepCellC hbJ (hg3.cell (a := ⟨w.heap.size, 4, none⟩) (keepCellC ((Below.refl _ wB).alloc (Nat.le_refl _) _) (keepCellC hbB (keepCellC hbA f4))) hne), keepCellC hbJ (hg3.cell (a := ⟨w.heap.size, 5, none⟩) (keepCellC ((Below.refl _ wB).alloc (Nat.le_refl _) _) (keepCellC hbB (keepCellC hbA f5))) hne)⟩)
    (first
      | (go_at_call 23; refine (k4.out _ hB5).mono ?_; rintro e wA ⟨rfl, hbA⟩; have hBA := hB5.trans (hbA.mono hB5.size))
      | (go_at_call 24; refine (k5.out _ hBA).mono ?_; rintro e wB ⟨rfl, hbB⟩; have hBB := hBA.trans (hbB.mono hBA.size); have ho6 := ho5.two hbA hbB; have ho7 := ho6.over (by_and Pf R); have hn7 := own_by_and wB w.heap.size Pf R hBB.size)
      | (go_at_call 22; refine (HJ.out _ _ _ ho3).mono ?_; rintro e wJ ⟨rfl, hbJ⟩)
      | (refine step_append_strs rfl _ _ rfl w.heap.size w.heap.size wD.heap.size 4 4 wB.heap.size 4 4 (strs [W, M, A, B]) (strs [[98, 121], Pf, [97, 110, 100], R]) (wB.alloc (by_and Pf R)) rfl rfl ho7 hn7 rfl rfl h8 ?_; intro g3 c3 w3 ho3 hg3 hor3))
  have hBK := hBB.alloc hBB.size (.cells #[.string ⟨#[98, 121]⟩, .string ⟨Pf.toArray⟩, .string ⟨#[97, 110, 100]⟩, .string ⟨R.toArray⟩] 9)
  have hB3 := hBK.grown hg3 hBK.size (by intro t ht; cases ht; omega)
  go_wp2
  go_ret
  exact ⟨congrArg (fun t => Ending.returned (.string ⟨List.toArray t⟩)) E.out, hB3.trans (hbJ.mono hB3.size)⟩
end Go.Proofs.YthlbkdcmhelggaaDoor
