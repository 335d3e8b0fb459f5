/- Small roots by the reference: contract. -/
import Derived.Test.YticnocoeldfiiaaGreatDoorG17
import Derived.Test.YticnocoeldfiiaaGreatDoorG18
namespace Go.Proofs.YticnocoeldfiiaaGreatDoor
open Go.RowKit Game

theorem OwnRows.other {w w' : World} {B B2 g g2 cap cap2 : Nat} {rs rs2 : List RowRef} (h : OwnRows w B g cap rs) (h2 : OwnRows w B2 g2 cap2 rs2) (hne : g ≠ g2) (hg : w.grownBy w' (some g2)) : OwnRows w' B g cap rs :=
  ⟨h.1.grown hg (fun e => hne (Option.some.inj e)), fun r hr => (h.2.1 r hr).grown hg (fun e => h2.1.ne (h.2.1 r hr).toV (by decide) (Option.some.inj e).symm), h.2.2⟩
theorem putsR_mem {x : List Int} : ∀ {L : List (List Int)}, x ∈ putsR L → x ∈ L := by
  have : ∀ (L a : List (List Int)), x ∈ L.foldl putR a → x ∈ L ∨ x ∈ a := by
    intro L
    induction L with
    | nil => intro a h; exact .inr h
    | cons y L ih =>
      intro a h
      rw [List.foldl_cons] at h
      rcases ih _ h with h1 | h1
      · exact .inl (List.mem_cons_of_mem _ h1)
      · rcases mem_putR.1 h1 with e | e
        · exact .inl (by rw [e]; simp)
        · exact .inr e
  intro L h
  rcases this L [] h with h | h
  · exact h
  · simp at h
/-- three lists of rows of the call's own -/
structure Tri (w : World) (B gT cT gO cO gD cD : Nat) (rsT rsO rsD : List RowRef) : Prop where
  t : OwnRows w B gT cT rsT
  o : OwnRows w B gO cO rsO
  d : OwnRows w B gD cD rsD
  to' : gT ≠ gO
  td : gT ≠ gD
  od : gO ≠ gD
section
variable {w w' : World} {B gT cT gO cO gD cD g' c' : Nat} {rsT rsO rsD rs' : List RowRef}
theorem Tri.below (h : Tri w B gT cT gO cO gD cD rsT rsO rsD) (hb : Below w.heap.size w w') : Tri w' B gT cT gO cO gD cD rsT rsO rsD := ⟨h.t.below hb, h.o.below hb, h.d.below hb, h.to', h.td, h.od⟩
theorem Tri.still (h : Tri w B gT cT gO cO gD cD rsT rsO rsD) (hs : ∃ n, w' = w.drewN n) : Tri w' B gT cT gO cO gD cD rsT rsO rsD := ⟨h.t.still hs, h.o.still hs, h.d.still hs, h.to', h.td, h.od⟩
theorem Tri.pushO (h : Tri w B gT cT gO cO gD cD rsT rsO rsD) (ho : OwnRows w' B g' c' rs') (hg : w.grownBy w' (some gO)) (hor : g' = gO ∨ w.heap.size < g') : Tri w' B gT cT g' c' gD cD rsT rs' rsD := by
  have h1 := h.t.lt
  have h2 := h.d.lt
  have a := h.to'; have b := h.od
  refine ⟨h.t.other h.o a hg, ho, h.d.other h.o (Ne.symm b) hg, ?_, h.td, ?_⟩
  · rcases hor with e | e
    · rw [e]; exact a
    · omega
  · rcases hor with e | e
    · rw [e]; exact b
    · omega
theorem Tri.pushD (h : Tri w B gT cT gO cO gD cD rsT rsO rsD) (ho : OwnRows w' B g' c' rs') (hg : w.grownBy w' (some gD)) (hor : g' = gD ∨ w.heap.size < g') : Tri w' B gT cT gO cO g' c' rsT rsO rs' := by
  have h1 := h.t.lt
  have h2 := h.o.lt
  have a := h.td; have b := h.od
  refine ⟨h.t.other h.d a hg, h.o.other h.d b hg, ho, h.to', ?_, ?_⟩
  · rcases hor with e | e
    · rw [e]; exact a
    · omega
  · rcases hor with e | e
    · rw [e]; exact b
    · omega
theorem Tri.ne3 (h : Tri w B gT cT gO cO gD cD rsT rsO rsD) {g3 c3 : Nat} {xs : List Int} (ho : Own w' w.heap.size g3 c3 xs) : (∀ s ∈ rsO, s.1 ≠ g3) ∧ ∀ s ∈ rsD, s.1 ≠ g3 :=
  ⟨fun s hs e => by have h1 := (h.o.2.1 s hs).lt; have h2 := ho.base; omega, fun s hs e => by have h1 := (h.d.2.1 s hs).lt; have h2 := ho.base; omega⟩
end
/-- roots and coroots, in two lists -/
structure InTwo (rsO rsD : List RowRef) (Q : List RPair) : Prop where
  o : contents rsO = Q.map (·.1)
  d : contents rsD = Q.map (·.2)
section
variable {rsO rsD : List RowRef} {Q : List RPair}
theorem InTwo.lo (h : InTwo rsO rsD Q) : rsO.length = Q.length := by have := congrArg List.length h.o; simpa [contents] using this
theorem InTwo.ld (h : InTwo rsO rsD Q) : rsD.length = Q.length := by have := congrArg List.length h.d; simpa [contents] using this
theorem InTwo.push (h : InTwo rsO rsD Q) (a b : RowRef) : InTwo (rsO ++ [a]) (rsD ++ [b]) (Q ++ [(a.2.2, b.2.2)]) :=
  ⟨by rw [contents_append, h.o, List.map_append]; rfl, by rw [contents_append, h.d, List.map_append]; rfl⟩
theorem InTwo.ato (h : InTwo rsO rsD Q) {k : Nat} (hk : k < rsO.length) : rsO[k].2.2 = (Q.getD k ([], [])).1 := by
  have h1 : (contents rsO).getD k [] = rsO[k].2.2 := by simp [contents, List.getD, hk]
  have hk' : k < Q.length := by rw [← h.lo]; exact hk
  rw [← h1, h.o]; simp [List.getD, hk']
theorem InTwo.atd (h : InTwo rsO rsD Q) {k : Nat} (hk : k < rsD.length) : rsD[k].2.2 = (Q.getD k ([], [])).2 := by
  have h1 : (contents rsD).getD k [] = rsD[k].2.2 := by simp [contents, List.getD, hk]
  have hk' : k < Q.length := by rw [← h.ld]; exact hk
  rw [← h1, h.d]; simp [List.getD, hk']
end
def smallB (c : List (List Int)) : Bool := (smR c).isSome
theorem small_none {c : List (List Int)} (h : smR c = none) : smallL c = [] ∧ smallB c = false := by unfold smallL smallB; rw [h]; exact ⟨rfl, rfl⟩
theorem small_some {c : List (List Int)} {Q : List RPair} (h : smR c = some Q) : smallL c = putsR (Q.map (·.1)) ∧ smallB c = true := by unfold smallL smallB; rw [h]; exact ⟨rfl, rfl⟩
theorem smStart_take (c : List (List Int)) (k : Nat) (hk : k < c.length) : (smStart c).take (k + 1) = (smStart c).take k ++ [(simpL c.length k, simpL c.length k)] := by
  rw [List.take_succ_eq_append_getElem (by rw [smStart_length]; exact hk)]
  simp [smStart]
theorem smStep_new {c t : List (List Int)} {Q : List RPair} {k i : Nat} {x y : List Int} (hQ : Q.getD k ([], []) = (x, y)) (h1 : pairL (c.getD i []) x < 0) (h2 : wrap64 (pairL (c.getD i []) x * pairL (t.getD i []) y) < 4) (h3 : mirL c i x ∉ Q.map (·.1)) : smStep c t Q k i = Q ++ [(mirL c i x, mirL t i y)] := by
  unfold smStep; rw [hQ]; exact if_pos ⟨h1, h2, h3⟩
theorem smStep_old {c t : List (List Int)} {Q : List RPair} {k i : Nat} {x y : List Int} (hQ : Q.getD k ([], []) = (x, y)) (h : ¬ (pairL (c.getD i []) x < 0 ∧ wrap64 (pairL (c.getD i []) x * pairL (t.getD i []) y) < 4 ∧ mirL c i x ∉ Q.map (·.1))) : smStep c t Q k i = Q := by
  unfold smStep; rw [hQ]; exact if_neg h

set_option maxRecDepth 100000 in
set_option maxHeartbeats 8000000 in
theorem spec_SmallRoots_ok (gc oc n cc : Nat) (c : List (List Int)) (w : World) (hn : c.length = n) (hC : IsC c) (hgc : gc < w.heap.size) (hr : Rows2 w gc oc c) :
    Calls Tryz.prog 16 #[(Value.slice (some ⟨gc, oc, none⟩) n cc)] w (GotRowsB w (smallL c) (smallB c)) := by
  subst hn
  have hn4 := hC.2.1
  have hcl : ∀ j, j < c.length → (c.getD j []).length = c.length := hC.2.2.1
  have Hcl := Lib.hid hcl; clear hcl
  have Hr := Lib.hid hr; clear hr
  obtain ⟨w1, hw1⟩ : ∃ w1, w1 = (w.alloc (.cells #[] 28)).alloc (.cells #[] 28) := ⟨_, rfl⟩
  have hb1 : Below w.heap.size w w1 := by rw [hw1]; exact (by repeat (first | with_reducible exact Below.refl _ _ | with_reducible assumption | with_reducible refine below_drewN ?_ _ | with_reducible refine Below.drew ?_ | (with_reducible refine Below.alloc ?_ ?_ _; rotate_left; · first | (simp; done) | (simp; omega) | exact Below.size (by assumption) | (have hsz := Below.size (by assumption : Below _ _ _); simp at hsz ⊢; omega)) | (with_reducible refine Below.setCell ?_ ?_ _; rotate_left; · first | (simp; done) | (simp; omega))))
  have hO1 : OwnRows w1 w.heap.size w.heap.size 0 [] := by rw [hw1]; exact (OwnRows.empty (w := w) (Nat.le_refl _)).below ((Below.refl _ _).alloc (Nat.le_refl _) _)
  have hD1 : OwnRows w1 w.heap.size (w.heap.size + 1) 0 [] := by
    rw [hw1]
    have := OwnRows.empty (w := w.alloc (.cells #[] 28)) (B := w.heap.size) (by simp)
    simpa using this
  have hcall := spec_IsCartan gc oc _ cc c w1 rfl (by omega) (fun j hj => by rw [Hcl.out j hj]; omega) (Hr.out.below hb1 hgc)
  rw [decide_eq_true hC, hw1] at hcall
  have Hcall := Lib.hid hcall; have Hw1 := Lib.hid hw1
  clear hcall hw1
  go_enter Tryz.func16, Tryz.ntmps16
  go_wp2_with fail
  refine Hcall.out.mono ?_
  rintro e w2 ⟨rfl, hs2⟩
  rw [← Hw1.out] at hs2
  have hb2 := below_still hb1 hs2
  have hO2 := hO1.still hs2
  have hD2 := hD1.still hs2
  clear hs2 Hcall Hw1 hb1 hO1 hD1
  have hcall := spec_TransposeCartan_any gc oc _ cc c w2 rfl hC (Nat.lt_of_lt_of_le hgc hb2.size) (Hr.out.below hb2 hgc)
  have Hcall := Lib.hid hcall
  clear hcall
  go_wp2_with fail
  refine Hcall.out.mono ?_
  rintro e w3 ⟨gT, cT, rsT, rfl, hcT, hT3, hb3'⟩
  have hb3 := hb2.trans (hb3'.mono hb2.size)
  have hO3 := hO2.below hb3'
  have hD3 := hD2.below hb3'
  have hTri : Tri w3 w.heap.size gT cT w.heap.size 0 (w.heap.size + 1) 0 rsT [] [] := by
    have h1 := hT3.base
    have h2 := hD2.lt
    exact ⟨hT3.mono hb2.size, hO3, hD3, by omega, by omega, by omega⟩
  rw [transL_length]
  have HcT := Lib.hid hcT
  clear hcT Hcall hb2 hO2 hD2 hT3 hb3' hO3 hD3
  have hTl : ∀ j, j < c.length → ((transL c).getD j []).length = c.length := fun j hj => transL_rowLen hj
  have HTl := Lib.hid hTl; clear hTl
  have HtL := Lib.hid (transL_length c)
  generalize hR : smR c = R at *
  have hRgo : smGo c (transL c) 41 0 (smStart c) = R := hR
  have HR := Lib.hid hR; have HRgo := Lib.hid hRgo
  clear hR hRgo
  generalize transL c = T at *
  go_wp2_with fail
  go_loopw [4, 5, 7] (fun ov dv kv wr => ∃ (k gO cO gD cD : Nat) (rsO rsD : List RowRef), k ≤ c.length ∧ kv = .int .i64 k ∧ ov = (Value.slice (some ⟨gO, 0, none⟩) k cO) ∧ dv = (Value.slice (some ⟨gD, 0, none⟩) k cD) ∧ Hid (rsO.length = k) ∧ Hid (rsD.length = k) ∧ Hid (InTwo rsO rsD ((smStart c).take k)) ∧ Tri wr w.heap.size gT cT gO cO gD cD rsT rsO rsD ∧ Below w.heap.size w wr) (fun _ _ kv _ => c.length - (intOf kv).toNat)
  case atStart => exact ⟨0, _, 0, _, 0, [], [], Nat.zero_le _, rfl, rfl, rfl, rfl, rfl, ⟨rfl, rfl⟩, hTri, hb3⟩
  case round =>
    clear hTri hb3
    obtain ⟨k, gO, cO, gD, cD, rsO, rsD, hk, rfl, rfl, rfl, hlO, hlD, hin, hT, hb⟩ := hrel
    by_cases hlt : k < c.length
    · have hss := smStart_take c k hlt
      have Hss := Lib.hid hss; clear hss
      have hsl := simpL_length c.length k
      have hcall := fun W (hW : Below w.heap.size w W) => spec_SimpleRoot_any gc oc _ cc k c W rfl hC hlt (Hr.out.below hW hgc)
      have Hcall := Lib.hid hcall
      clear hcall
      generalize simpL c.length k = x at *
      have Hsl := Lib.hid hsl; clear hsl
      have Hcall1 := Lib.hid (Hcall.out wr hb)
      go_wp2_with fail
      refine Hcall1.out.mono ?_
      rintro e w4 ⟨g4, c4, rfl, ho4, hb4⟩
      clear Hcall1
      rw [Hsl.out]
      have hB4 := hb.trans (hb4.mono hb.size)
      have hT4 := hT.below hb4
      have hne := (hT.ne3 ho4).1
      have ho4' := ho4.mono hb.size
      have Hsl2 := Hsl
      clear hT hb hb4 ho4
      go_wp2_with (at_builtin; refine wpList_append_row rfl _ _ rfl w.heap.size gO cO k w4.heap.size rsO (g4, c4, x) _ hlO.out (by unfold rowVal; rw [Hsl2.out]) rfl hT4.o ho4' hne rfl rfl (by omega) ?_)
      intro g5 c5 w5 hO5 hg5 hor5
      have hT5 := hT4.pushO hO5 hg5 hor5
      have hB5 : Below w.heap.size w w5 := hB4.grown hg5 hB4.size (by intro t ht; cases ht; exact hT4.o.base)
      clear hT4 hB4 hO5 hg5 hor5 ho4' hne
      have Hcall1 := Lib.hid (Hcall.out w5 hB5)
      go_wp2_with fail
      refine Hcall1.out.mono ?_
      rintro e w6 ⟨g6, c6, rfl, ho6, hb6⟩
      clear Hcall1
      rw [Hsl.out]
      have hB6 := hB5.trans (hb6.mono hB5.size)
      have hT6 := hT5.below hb6
      have hne := (hT5.ne3 ho6).2
      have ho6' := ho6.mono hB5.size
      clear hT5 hB5 hb6 ho6
      go_wp2_with (at_builtin; refine wpList_append_row rfl _ _ rfl w.heap.size gD cD k w6.heap.size rsD (g6, c6, x) _ hlD.out (by unfold rowVal; rw [Hsl2.out]) rfl hT6.d ho6' hne rfl rfl (by omega) ?_)
      intro g7 c7 w7 hO7 hg7 hor7
      have hT7 := hT6.pushD hO7 hg7 hor7
      have hB7 : Below w.heap.size w w7 := hB6.grown hg7 hB6.size (by intro t ht; cases ht; exact hT6.d.base)
      clear hT6 hB6 hO7 hg7 hor7 ho6' hne
      go_wp2_with fail
      go_roundw
      case rel =>
        refine ⟨k + 1, g5, c5, g7, c7, rsO ++ [(g4, c4, x)], rsD ++ [(g6, c6, x)], by omega, by go_num, rfl, rfl, ?_, ?_, ?_, hT7, hB7⟩
        · show _ = _
          rw [List.length_append, hlO.out]; rfl
        · show _ = _
          rw [List.length_append, hlD.out]; rfl
        · show InTwo _ _ _
          rw [Hss.out]; exact hin.out.push _ _
      case measure => simp [intOf]; omega
    · obtain rfl : k = c.length := by omega
      have hfull : (smStart c).take c.length = smStart c := List.take_of_length_le (by rw [smStart_length]; exact Nat.le_refl _)
      have hin2 := hin.out
      rw [hfull] at hin2
      have Hin2 := Lib.hid hin2
      have hok := smStart_ok c
      have Hok := Lib.hid hok
      clear hin hfull hin2 hok
      go_wp2_with fail
      go_loopw [4, 5, 8] (fun ov dv kv wr => ∃ (k gO cO gD cD nQ : Nat) (rsO rsD : List RowRef) (Q : List RPair), kv = .int .i64 k ∧ ov = (Value.slice (some ⟨gO, 0, none⟩) nQ cO) ∧ dv = (Value.slice (some ⟨gD, 0, none⟩) nQ cD) ∧ Hid (rsO.length = nQ) ∧ Hid (rsD.length = nQ) ∧ k ≤ nQ ∧ nQ ≤ 40 ∧ Hid (InTwo rsO rsD Q) ∧ Hid (SmOk c Q) ∧ Hid (smGo c T (41 - k) k Q = R) ∧ Tri wr w.heap.size gT cT gO cO gD cD rsT rsO rsD ∧ Below w.heap.size w wr) (fun _ _ kv _ => 41 - (intOf kv).toNat)
      case atStart => exact ⟨0, gO, cO, gD, cD, c.length, rsO, rsD, smStart c, rfl, rfl, rfl, hlO, hlD, by omega, by omega, Hin2.out, Hok.out, HRgo.out, hT, hb⟩
      case round =>
        clear hT hb Hin2 Hok hlO hlD HRgo hk hlt
        obtain ⟨k, gO, cO, gD, cD, nQ, rsO, rsD, Q, rfl, rfl, rfl, hlO, hlD, hk, hnQ, hin, hok, hgo, hT, hb⟩ := hrel
        by_cases hlt : k < nQ
        · go_wp2_with fail
          go_loopw [4, 5, 9] (fun ov dv iv wi => ∃ (i gO cO gD cD nQ : Nat) (rsO rsD : List RowRef) (Q' : List RPair), i ≤ c.length ∧ iv = .int .i64 i ∧ ov = (Value.slice (some ⟨gO, 0, none⟩) nQ cO) ∧ dv = (Value.slice (some ⟨gD, 0, none⟩) nQ cD) ∧ Hid (rsO.length = nQ) ∧ Hid (rsD.length = nQ) ∧ k < nQ ∧ nQ ≤ 40 ∧ Hid (InTwo rsO rsD Q') ∧ Hid (SmOk c Q') ∧ Hid (Q' = smRow c T Q k i) ∧ Tri wi w.heap.size gT cT gO cO gD cD rsT rsO rsD ∧ Below w.heap.size w wi) (fun _ _ iv _ => c.length - (intOf iv).toNat)
          case atStart => exact ⟨0, gO, cO, gD, cD, nQ, rsO, rsD, Q, Nat.zero_le _, rfl, rfl, rfl, hlO, hlD, hlt, hnQ, hin, hok, rfl, hT, hb⟩
          case round =>
            have hkQ : k < Q.length := by rw [← hin.out.lo, hlO.out]; exact hlt
            have HkQ := Lib.hid hkQ
            clear hT hb hin hok hlO hlD hk hnQ hlt hkQ
            obtain ⟨i, gO, cO, gD, cD, nQ, rsO, rsD, Q', hi, rfl, rfl, rfl, hlO, hlD, hk, hnQ, hin, hok, hrow, hT, hb⟩ := hrel
            by_cases hil : i < c.length
            · have hkO : k < rsO.length := by rw [hlO.out]; exact hk
              have hkD : k < rsD.length := by rw [hlD.out]; exact hk
              have hkQ' : k < Q'.length := by rw [← hin.out.lo]; exact hkO
              have hax := hin.out.ato hkO
              have hay := hin.out.atd hkD
              have hlen := hok.out.len1 (Q'.getD k ([], [])) (by simp [List.getD, hkQ'])
              have hstep : smRow c T Q k (i + 1) = smStep c T Q' k i := by simp only [smRow]; rw [← hrow.out]
              have hokS := hok.out.step (t := T) (i := i) hkQ'
              have HOf : ∀ W, OwnRows W w.heap.size gO cO rsO → W.cell? ⟨gO, k, none⟩ = some (rowVal rsO[k]) ∧ Own W w.heap.size rsO[k].1 rsO[k].2.1 rsO[k].2.2 := fun W h => ⟨by rw [h.1.cell k (by simpa using hkO)]; simp, h.2.1 _ (List.getElem_mem hkO)⟩
              have HDf : ∀ W, OwnRows W w.heap.size gD cD rsD → W.cell? ⟨gD, k, none⟩ = some (rowVal rsD[k]) ∧ Own W w.heap.size rsD[k].1 rsD[k].2.1 rsD[k].2.2 := fun W h => ⟨by rw [h.1.cell k (by simpa using hkD)]; simp, h.2.1 _ (List.getElem_mem hkD)⟩
              generalize rsO[k] = ro at *
              generalize rsD[k] = rd at *
              obtain ⟨bo, co, x⟩ := ro
              obtain ⟨bd, cd, y⟩ := rd
              have hQk : Q'.getD k ([], []) = (x, y) := by
                have e1 : x = (Q'.getD k ([], [])).1 := hax
                have e2 : y = (Q'.getD k ([], [])).2 := hay
                rw [e1, e2]
              rw [hQk] at hlen
              have HO : Hid (∀ W, OwnRows W w.heap.size gO cO rsO → W.cell? ⟨gO, k, none⟩ = some (Value.slice (some ⟨bo, 0, none⟩) x.length co) ∧ Own W w.heap.size bo co x) := HOf
              have HD : Hid (∀ W, OwnRows W w.heap.size gD cD rsD → W.cell? ⟨gD, k, none⟩ = some (Value.slice (some ⟨bd, 0, none⟩) y.length cd) ∧ Own W w.heap.size bd cd y) := HDf
              have hxl : x.length = c.length := hlen.1
              have hyl : y.length = c.length := hlen.2
              have hnew : pairL (c.getD i []) x < 0 → wrap64 (pairL (c.getD i []) x * pairL (T.getD i []) y) < 4 → mirL c i x ∉ contents rsO → smRow c T Q k (i + 1) = Q' ++ [(mirL c i x, mirL T i y)] := fun h1 h2 h3 => by
                rw [hstep]; exact smStep_new hQk h1 h2 (by rw [← hin.out.o]; exact h3)
              have hold : ¬ (pairL (c.getD i []) x < 0 ∧ wrap64 (pairL (c.getD i []) x * pairL (T.getD i []) y) < 4 ∧ mirL c i x ∉ contents rsO) → smRow c T Q k (i + 1) = Q' := fun h => by
                rw [hstep]; exact smStep_old hQk (by rw [← hin.out.o]; exact h)
              rw [← hstep] at hokS
              have HokS := Lib.hid hokS
              have hcall1 := fun W (hW : Below w.heap.size w W) (hx : Cells W bo 0 x) => spec_l32Value_any gc oc c.length cc i bo 0 x.length co c x W rfl rfl hil (by rw [Hcl.out i hil, hxl]; exact Nat.le_refl _) (by rw [Hcl.out i hil]; omega) (Hr.out.below hW hgc) hx
              have hcall2 := fun W (hW : Rows2 W gT 0 T) (hy : Cells W bd 0 y) => spec_l32Value_any gT 0 c.length cT i bd 0 y.length cd T y W HtL.out rfl (by rw [HtL.out]; exact hil) (by rw [HTl.out i hil, hyl]; exact Nat.le_refl _) (by rw [HTl.out i hil]; omega) hW hy
              have hcall3 := fun W (hW : Below w.heap.size w W) (hbo : bo < W.heap.size) (hx : Cells W bo 0 x) => spec_l7Reflect_any gc oc c.length cc i bo 0 x.length co c x W rfl rfl hil (by rw [hxl]; exact hil) (by rw [Hcl.out i hil, hxl]; exact Nat.le_refl _) (by rw [Hcl.out i hil]; omega) (Nat.lt_of_lt_of_le hgc hW.size) hbo (Hr.out.below hW hgc) hx
              have hcall4 := fun W (hgT : gT < W.heap.size) (hbd : bd < W.heap.size) (hW : Rows2 W gT 0 T) (hy : Cells W bd 0 y) => spec_l7Reflect_any gT 0 c.length cT i bd 0 y.length cd T y W HtL.out rfl (by rw [HtL.out]; exact hil) (by rw [hyl]; exact hil) (by rw [HTl.out i hil, hyl]; exact Nat.le_refl _) (by rw [HTl.out i hil]; omega) hgT hbd hW hy
              have hrl := mirL_length c i x
              have hsl := mirL_length T i y
              generalize pairL (c.getD i []) x = a at *
              generalize pairL (T.getD i []) y = b at *
              generalize mirL c i x = r at *
              generalize mirL T i y = s at *
              have Hnew := Lib.hid hnew; have Hold := Lib.hid hold; have H1 := Lib.hid hcall1; have H2 := Lib.hid hcall2; have H3 := Lib.hid hcall3; have H4 := Lib.hid hcall4
              have Hrl := Lib.hid hrl; have Hsl := Lib.hid hsl; have Hxl := Lib.hid hxl; have Hyl := Lib.hid hyl
              have hx4 : x.length ≤ 4 := by omega
              clear hnew hold hcall1 hcall2 hcall3 hcall4 hrl hsl hxl hyl hlen hstep hokS HOf HDf hax hay hQk
              have hT2 : ∀ W, OwnRows W w.heap.size gT cT rsT → Rows2 W gT 0 T := fun W h => by have := h.rows2; rw [HcT.out] at this; exact this
              have HT2 := Lib.hid hT2; clear hT2
              -- a
              obtain ⟨hqo, hox⟩ := HO.out wr hT.o
              have Hc1 := Lib.hid (H1.out wr hb hox.cells)
              clear hox
              go_wp2_with fail
              refine Hc1.out.mono ?_
              rintro e w4 ⟨rfl, hs4⟩
              have hT4 := hT.still hs4
              have hb4 := below_still hb hs4
              clear hT hb hs4 Hc1 hqo
              -- b
              obtain ⟨hqd, hdy⟩ := HD.out w4 hT4.d
              have Hc2 := Lib.hid (H2.out w4 (HT2.out w4 hT4.t) hdy.cells)
              clear hdy
              go_wp2_with fail
              refine Hc2.out.mono ?_
              rintro e w5 ⟨rfl, hs5⟩
              have hT5 := hT4.still hs5
              have hb5 := below_still hb4 hs5
              clear hT4 hb4 hs5 Hc2 hqd
              -- r
              obtain ⟨hqo, hox⟩ := HO.out w5 hT5.o
              have Hc3 := Lib.hid (H3.out w5 hb5 hox.lt hox.cells)
              clear hox
              go_wp2_with fail
              refine Hc3.out.mono ?_
              rintro e w6 ⟨g6, c6, rfl, ho6, hb6⟩
              have hT6 := hT5.below hb6
              have hB6 := hb5.trans (hb6.mono hb5.size)
              have hne := (hT5.ne3 ho6).1
              have ho6' := ho6.mono hb5.size
              rw [Hrl.out]
              have hcall7 := fun W (hW : ∃ q, W = w6.drewN q) => spec_l7In_any gO 0 nQ cO g6 0 x.length c6 (contents rsO) r W (by rw [contents_length]; exact hlO.out) Hrl.out (by rw [contents_length, hlO.out]; omega) (fun j hj => by
                  have h1 : (contents rsO).getD j [] ∈ contents rsO := by simp [List.getD, hj]
                  rw [hin.out.o] at h1
                  obtain ⟨q, hq, e⟩ := List.mem_map.1 h1
                  rw [hin.out.o, ← e, (hok.out.len1 q hq).1]; omega) (hT6.o.rows2.still hW) (ho6.cells.still hW)
              have Hc7 := Lib.hid hcall7
              clear hcall7 hT5 hb5 hb6 Hc3 hqo ho6
              by_cases ha : a < 0
              · by_cases hp4 : wrap64 (a * b) < 4
                · by_cases hr3 : r ∈ contents rsO
                  · have hold := Hold.out (fun h => h.2.2 hr3)
                    have Hold2 := Lib.hid hold
                    have hc7 := Hc7.out w6 ⟨0, rfl⟩
                    rw [decide_eq_true hr3] at hc7
                    have Hc8 := Lib.hid hc7
                    clear hold hr3 hc7
                    go_wp2_with fail
                    refine Hc8.out.mono ?_
                    rintro e w7 ⟨rfl, hs7⟩
                    have hT7 := hT6.still hs7
                    have hB7 := below_still hB6 hs7
                    clear hT6 hB6 hs7 Hc8
                    go_wp2_with fail
                    go_roundw
                    case rel => exact ⟨i + 1, gO, cO, gD, cD, nQ, rsO, rsD, Q', by omega, by go_num, rfl, rfl, hlO, hlD, hk, hnQ, hin, hok, Hold2.out.symm, hT7, hB7⟩
                    case measure => simp [intOf]; omega
                  · have hnew := Hnew.out ha hp4 hr3
                    have Hnew2 := Lib.hid hnew
                    have hc7 := Hc7.out w6 ⟨0, rfl⟩
                    rw [decide_eq_false hr3] at hc7
                    have Hc8 := Lib.hid hc7
                    clear hnew hr3 hc7
                    go_wp2_with fail
                    refine Hc8.out.mono ?_
                    rintro e w7 ⟨rfl, hs7⟩
                    have hT7 := hT6.still hs7
                    have hB7 := below_still hB6 hs7
                    have ho7 := ho6'.still hs7
                    clear hT6 hB6 hs7 Hc8 ho6'
                    by_cases h40 : 40 ≤ nQ
                    · have h40I : (40 : Int) ≤ (nQ : Int) := by omega
                      have hover : R = none := by
                        have h1 := hgo.out
                        have h2 : (Q' ++ [(r, s)]).length ≤ (smRow c T Q k c.length).length := by rw [← Hnew2.out]; exact smRow_mono (by omega)
                        rw [List.length_append, ← hin.out.lo, hlO.out] at h2
                        rw [show 41 - k = (40 - k) + 1 by omega, smGo_over HkQ.out (by simp at h2; omega)] at h1
                        exact h1.symm
                      obtain ⟨hs1, hs2⟩ := small_none (HR.out.trans hover)
                      have Hs1 := Lib.hid hs1; have Hs2 := Lib.hid hs2
                      clear hover hs1 hs2
                      go_wp2_with fail
                      go_ret2
                      rw [Hs1.out, Hs2.out]
                      exact GotRowsB.mk' _ _ [] rfl rfl (OwnRows.empty hB7.size) (hB7.alloc hB7.size _)
                    · have h40I : (nQ : Int) < (40 : Int) := by omega
                      go_wp2_with (at_builtin; refine wpList_append_row rfl _ _ rfl w.heap.size gO cO nQ w7.heap.size rsO (g6, c6, r) _ hlO.out (by unfold rowVal; rw [Hrl.out]) rfl hT7.o ho7 hne rfl rfl (by omega) ?_)
                      intro g8 c8 w8 hO8 hg8 hor8
                      have hT8 := hT7.pushO hO8 hg8 hor8
                      have hB8 : Below w.heap.size w w8 := hB7.grown hg8 hB7.size (by intro t ht; cases ht; exact hT7.o.base)
                      clear hT7 hB7 hO8 hg8 hor8 ho7 hne
                      obtain ⟨hqd, hdy⟩ := HD.out w8 hT8.d
                      have Hc9 := Lib.hid (H4.out w8 hT8.t.lt hdy.lt (HT2.out w8 hT8.t) hdy.cells)
                      clear hdy
                      go_wp2_with fail
                      refine Hc9.out.mono ?_
                      rintro e w9 ⟨g9, c9, rfl, ho9, hb9⟩
                      have hT9 := hT8.below hb9
                      have hB9 := hB8.trans (hb9.mono hB8.size)
                      have hne := (hT8.ne3 ho9).2
                      have ho9' := ho9.mono hB8.size
                      rw [Hsl.out]
                      clear hT8 hB8 hb9 Hc9 hqd ho9
                      go_wp2_with (at_builtin; refine wpList_append_row rfl _ _ rfl w.heap.size gD cD nQ w9.heap.size rsD (g9, c9, s) _ hlD.out (by unfold rowVal; rw [Hsl.out]) rfl hT9.d ho9' hne rfl rfl (by omega) ?_)
                      intro g10 c10 w10 hO10 hg10 hor10
                      have hT10 := hT9.pushD hO10 hg10 hor10
                      have hB10 : Below w.heap.size w w10 := hB9.grown hg10 hB9.size (by intro t ht; cases ht; exact hT9.d.base)
                      clear hT9 hB9 hO10 hg10 hor10 ho9' hne
                      go_wp2_with fail
                      go_roundw
                      case rel =>
                        refine ⟨i + 1, g8, c8, g10, c10, nQ + 1, rsO ++ [(g6, c6, r)], rsD ++ [(g9, c9, s)], Q' ++ [(r, s)], by omega, by go_num, rfl, rfl, ?_, ?_, by omega, by omega, hin.out.push _ _, ?_, Hnew2.out.symm, hT10, hB10⟩
                        · show _ = _
                          rw [List.length_append, hlO.out]; rfl
                        · show _ = _
                          rw [List.length_append, hlD.out]; rfl
                        · show SmOk _ _
                          rw [← Hnew2.out]; exact HokS.out
                      case measure => simp [intOf]; omega
                · have hold := Hold.out (fun h => hp4 h.2.1)
                  have Hold2 := Lib.hid hold
                  have hp4' : 4 ≤ wrap64 (a * b) := by omega
                  clear hold
                  go_wp2_with fail
                  go_roundw
                  case rel => exact ⟨i + 1, gO, cO, gD, cD, nQ, rsO, rsD, Q', by omega, by go_num, rfl, rfl, hlO, hlD, hk, hnQ, hin, hok, Hold2.out.symm, hT6, hB6⟩
                  case measure => simp [intOf]; omega
              · have hold := Hold.out (fun h => ha h.1)
                have Hold2 := Lib.hid hold
                have ha' : 0 ≤ a := by omega
                clear hold
                go_wp2_with fail
                go_roundw
                case rel => exact ⟨i + 1, gO, cO, gD, cD, nQ, rsO, rsD, Q', by omega, by go_num, rfl, rfl, hlO, hlD, hk, hnQ, hin, hok, Hold2.out.symm, hT6, hB6⟩
                case measure => simp [intOf]; omega
            · obtain rfl : i = c.length := by omega
              have hnx : smGo c T (41 - (k + 1)) (k + 1) Q' = R := by
                have h1 := hgo.out
                rw [show 41 - k = (41 - (k + 1)) + 1 by omega, smGo_next HkQ.out (by rw [← hrow.out, ← hin.out.lo, hlO.out]; exact hnQ), ← hrow.out] at h1
                exact h1
              have Hnx := Lib.hid hnx; clear hnx
              go_wp2_with fail
              go_roundw
              case rel => exact ⟨k + 1, gO, cO, gD, cD, nQ, rsO, rsD, Q', by go_num, rfl, rfl, hlO, hlD, by omega, hnQ, hin, hok, Hnx.out, hT, hb⟩
              case measure => simp [intOf]; omega
        · obtain rfl : k = nQ := by omega
          have hdone : R = some Q := by
            have h1 := hgo.out
            rw [smGo_done (by rw [← hin.out.lo, hlO.out]; exact Nat.le_refl _)] at h1
            exact h1.symm
          obtain ⟨hs1, hs2⟩ := small_some (HR.out.trans hdone)
          rw [← hin.out.o] at hs1
          have hlens : ∀ x ∈ contents rsO, x.length = c.length := by
            intro x hx
            rw [hin.out.o] at hx
            obtain ⟨q, hq, rfl⟩ := List.mem_map.1 hx
            exact (hok.out.len1 q hq).1
          have Hs1 := Lib.hid hs1; have Hs2 := Lib.hid hs2; have Hlens := Lib.hid hlens
          clear hdone hs1 hs2 hlens hin hok hgo
          obtain ⟨wo, rfl⟩ : ∃ wo : World, wo = wr := ⟨_, rfl⟩
          have hO := hT.o
          have hBw := hb.size
          clear hT
          go_wp2_with fail
          go_loopw [13, 14] (fun ov kv wi => ∃ (t gP cP : Nat) (rp : List RowRef), t ≤ k ∧ kv = .int .i64 t ∧ ov = (Value.slice (some ⟨gP, 0, none⟩) t cP) ∧ Hid (rp.length = t) ∧ Hid (contents rp = putsR ((contents rsO).take t)) ∧ OwnRows wi wo.heap.size gP cP rp ∧ Below wo.heap.size wo wi) (fun _ kv _ => k - (intOf kv).toNat)
          case atStart => exact ⟨0, wo.heap.size, 0, [], Nat.zero_le _, rfl, rfl, rfl, rfl, OwnRows.empty (Nat.le_refl _), (Below.refl _ _).alloc (Nat.le_refl _) _⟩
          case round =>
            obtain ⟨t, gP, cP, rp, ht, rfl, rfl, hpl, hcP, hP, hbi⟩ := hrel
            by_cases htl : t < k
            · have hkr : t < rsO.length := by rw [hlO.out]; exact htl
              have hcg : (contents rsO).getD t [] = rsO[t].2.2 := by simp [contents, List.getD, hkr]
              have htk := putsR_take (L := contents rsO) (k := t) (by rw [contents_length]; exact hkr)
              rw [hcg] at htk
              have hOi := hO.below hbi
              have hq : wr.cell? ⟨gO, t, none⟩ = some (rowVal rsO[t]) := by
                rw [hOi.1.cell t (by simpa using hkr)]; simp
              have hoi := hOi.2.1 _ (List.getElem_mem hkr)
              have hxl : rsO[t].2.2.length = c.length := Hlens.out _ (List.mem_map.2 ⟨rsO[t], List.getElem_mem hkr, rfl⟩)
              have hsame : ∀ r ∈ rp, r.2.2.length = rsO[t].2.2.length := by
                intro r hr'
                have h1 : r.2.2 ∈ contents rp := List.mem_map.2 ⟨r, hr', rfl⟩
                rw [hcP.out] at h1
                have h3 : r.2.2 ∈ contents rsO := List.mem_of_mem_take (putsR_mem h1)
                rw [Hlens.out _ h3, hxl]
              clear hcg
              generalize rsO[t] = r at *
              obtain ⟨bi, ci, x⟩ := r
              have hq' : wr.cell? ⟨gO, t, none⟩ = some (Value.slice (some ⟨bi, 0, none⟩) x.length ci) := hq
              have hoi' : Own wr w.heap.size bi ci x := hoi
              have hxl' : x.length = c.length := hxl
              have htk' : putsR ((contents rsO).take (t + 1)) = putR (putsR ((contents rsO).take t)) x := htk
              have hcall := spec_l7Put_any wo.heap.size gP cP t bi 0 x.length ci rp x wr hpl.out rfl (by have := hpl.out; omega) (by omega) hsame hP hoi'.lt hoi'.cells
              rw [hcP.out, ← htk'] at hcall
              have hle : (putsR ((contents rsO).take (t + 1))).length = t + 1 := by
                rw [putsR_len, List.length_take, contents_length, hlO.out]; omega
              have Hle := Lib.hid hle
              have Hcall := Lib.hid hcall
              clear hcall hq hoi hxl hxl' htk htk' hle hsame hOi hoi' hP
              go_wp2_with fail
              refine Hcall.out.mono ?_
              rintro e w3 ⟨g3, c3, rp3, rfl, hc3, hP3, -, hb3⟩
              rw [Hle.out]
              have hl3 : rp3.length = t + 1 := by rw [← Hle.out, ← hc3, contents_length]
              have Hc3 := Lib.hid hc3; have Hl3 := Lib.hid hl3
              clear hc3 hl3 Hcall
              go_wp2_with fail
              go_roundw
              case rel => exact ⟨t + 1, g3, c3, rp3, by omega, by go_num, rfl, Hl3.out, Hc3.out, hP3, hbi.trans (hb3.mono hbi.size)⟩
              case measure => simp [intOf]; omega
            · obtain rfl : t = k := by omega
              have he : (contents rsO).take t = contents rsO := List.take_of_length_le (by rw [contents_length, hlO.out]; exact Nat.le_refl _)
              have hc := hcP.out
              rw [he, ← Hs1.out] at hc
              have Hc := Lib.hid hc
              clear hcP he hc
              go_wp2_with fail
              go_ret2
              rw [Hs2.out]
              exact GotRowsB.mk' gP cP rp hpl.out Hc.out (hP.mono hBw) (hb.trans (hbi.mono hBw))
end Go.Proofs.YticnocoeldfiiaaGreatDoor
