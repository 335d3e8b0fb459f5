/- The reference's insertion into a list of roots: contract. Small roots by the reference: contract. Pairs of roots and coroots of the call's own; 'add', that puts one into the list unless it is there: contract. 'add', that puts a pair into the list unless its root is there: contract. -/
import Derived.Test.YtnpechcnmchneaaGreatDoorG34
import Derived.Test.YtnpechcnmchneaaGreatDoorG07
namespace Go.Proofs.YtnpechcnmchneaaGreatDoor
set_option maxRecDepth 100000
open Go.RowKit Game

theorem putR_lt {x word : List Int} {l : List (List Int)} (h : rootCmp word x < 0) : putR (x :: l) word = word :: x :: l := by simp [putR, h]
theorem putR_ge {x word : List Int} {l : List (List Int)} (h : 0 ≤ rootCmp word x) : putR (x :: l) word = x :: putR l word := by simp only [putR]; rw [if_neg (by omega)]

set_option maxHeartbeats 4000000 in
theorem spec_l7Put_any (B0 g cap n g1 o1 n1 c1 : Nat) (rs : List RowRef) (word : List Int) (w : World) (hn : rs.length = n) (hn1 : word.length = n1) (hl : rs.length ≤ 1000000) (hwl : word.length ≤ 1048576)
    (hsame : ∀ r ∈ rs, r.2.2.length = word.length) (ho : OwnRows w B0 g cap rs) (hg1 : g1 < w.heap.size) (hc1 : Cells w g1 o1 word) :
    Calls Tryz.prog 139 #[(Value.slice (some ⟨g, 0, none⟩) n cap), (Value.slice (some ⟨g1, o1, none⟩) n1 c1)] w (GotPut w B0 (putR (contents rs) word)) := by
  subst hn; subst hn1
  have hB0 : B0 ≤ w.heap.size := by have := ho.base; have := ho.lt; omega
  have hg := ho.lt
  have Hsame := Lib.hid hsame; clear hsame
  go_enter Tryz.func139, Tryz.ntmps139
  go_wp2
  go_loopw [5, 6, 7] (fun ov pv iv wr => ∃ (i p g' c' : Nat) (acc : List RowRef) (pl : Bool), i ≤ rs.length ∧ iv = .int .i64 i ∧ pv = .bool pl ∧ ov = (Value.slice (some ⟨g', 0, none⟩) p c') ∧ Hid (acc.length = p) ∧ p ≤ i + 1 ∧ Hid (PutSt (fun l => putR l word) w.heap.size rs i acc pl) ∧ OwnRows wr B0 g' c' acc ∧ w.heap.size ≤ g' ∧ Below w.heap.size w wr) (fun _ _ iv _ => rs.length - (intOf iv).toNat)
  case atStart =>
    exact ⟨0, 0, w.heap.size, 0, [], false, Nat.zero_le _, rfl, rfl, rfl, rfl, by omega, PutSt.start, OwnRows.empty hB0, Nat.le_refl _, (Below.refl _ _).alloc (Nat.le_refl _) _⟩
  case round =>
    obtain ⟨i, p, g', c', acc, pl, hi, rfl, rfl, rfl, hp, hpi, hst, hO, hgn, hb⟩ := hrel
    by_cases hlt : i < rs.length
    · have hm : rs[i] ∈ rs := List.getElem_mem hlt
      have hoi := ho.2.1 _ hm
      have hneI := hst.out.ne ho.2.2 hlt hoi.lt
      have hxl := Hsame.out _ hm
      have hq : wr.cell? ⟨g, i, none⟩ = some (rowVal rs[i]) := by
        rw [hb.cell (p := ⟨g, i, none⟩) hg, ho.1.cell i (by simpa using hlt)]; simp
      have HS : ∀ (new : List RowRef) (pl' : Bool), (∀ s ∈ new, w.heap.size ≤ s.1) → acc.length + new.length ≤ i + 1 → (pl' = false → pl = false ∧ new = []) → (if pl then contents (rs.drop i) else putR (contents (rs.drop i)) word) = contents new ++ rs[i].2.2 :: (if pl' then contents (rs.drop (i + 1)) else putR (contents (rs.drop (i + 1))) word) → PutSt (fun l => putR l word) w.heap.size rs (i + 1) (acc ++ new ++ [rs[i]]) pl' :=
        fun new pl' h1 h2 h3 h4 => hst.out.step hlt new pl' h1 h2 h3 h4
      have HS' := Lib.hid HS
      have hcd := contents_drop rs hlt
      have Hcd := Lib.hid hcd
      have hlen := hst.out.lenF
      have Hlen := Lib.hid hlen
      clear HS hcd hlen
      generalize rs[i] = r at *
      obtain ⟨bi, ci, xi⟩ := r
      have hq' : wr.cell? ⟨g, i, none⟩ = some (Value.slice (some ⟨bi, 0, none⟩) xi.length ci) := hq
      have hoi' : Own wr B0 bi ci xi := hoi.below hb hoi.lt
      have hxl' : xi.length = word.length := hxl
      have hcW := hc1.below hb hg1
      have hcX := hoi'.cells
      have hcallG := spec_l7Before_any g1 o1 _ c1 bi 0 _ ci word xi wr rfl rfl hxl'.symm hwl hcW hcX
      have HneI := Lib.hid hneI
      have hbi : bi < w.heap.size := hoi.lt
      have hpl : p ≤ i + 1 := hpi
      have Ho := Lib.hid ho
      have Hst := Lib.hid hst
      clear hq hoi hm hneI ho hst hcW hcX hxl hxl'
      cases pl with
      | true =>
        clear hcallG
        clear Hlen
        have hs2 : ∃ n, wr = wr.drewN n := ⟨0, rfl⟩
        have hq9 : wr.cell? ⟨g, i, none⟩ = some (Value.slice (some ⟨bi, 0, none⟩) xi.length ci) := (cell_still hs2 _).trans hq'
        have hB9 := below_still hb hs2
        have hO9 := hO.still hs2
        have hoi9 := hoi'.still hs2
        have hgn9 := hgn
        clear hb hO hoi' hq' hs2
        have hne9 := HneI.out
        go_wp2_with (at_builtin; refine wpList_append_row rfl _ _ rfl B0 g' _ (p) wr.heap.size (acc) (bi, ci, xi) _ hp.out rfl rfl hO9 hoi9 hne9 rfl rfl (by omega) ?_)
        intro g5 c5 w5 hO5 hg5 hor5
        have hB5 : Below w.heap.size w w5 := hB9.grown hg5 hB9.size (by intro j hj; cases hj; exact hgn9)
        have hg5n : w.heap.size ≤ g5 := by
          rcases hor5 with h | h
          · omega
          · have := hB9.size; omega
        go_wp2
        go_roundw
        case rel =>
          refine ⟨i + 1, p + 1, g5, c5, acc ++ [(bi, ci, xi)], true, by omega, by go_num, by first | rfl | trivial, by first | rfl | trivial, ?_, by omega, ?_, hO5, hg5n, hB5⟩
          · show _ = _
            have := hp.out
            simp at this ⊢; omega
          · show PutSt _ _ _ _ _ _
            have := HS'.out [] true (by simp) (by rw [hp.out]; simpa using hpl) (by simp) (by simp only [if_true]; rw [Hcd.out]; rfl); simpa using this
        case measure => simp [intOf]; omega
      | false =>
        by_cases hv : rootCmp word xi < 0
        · rw [decide_eq_true hv] at hcallG
          have HG := Lib.hid hcallG; have Hv := Lib.hid hv; clear hv hcallG
          have hpi : p ≤ i := by have := Hlen.out rfl; have := hp.out; omega
          clear Hlen
          have HcallG := HG
          go_wp2_with fail
          refine HcallG.out.mono ?_
          rintro e w6 ⟨rfl, hs2⟩
          clear HcallG HG
          have hq9 : w6.cell? ⟨g, i, none⟩ = some (Value.slice (some ⟨bi, 0, none⟩) xi.length ci) := (cell_still hs2 _).trans hq'
          have hB9 := below_still hb hs2
          have hO9 := hO.still hs2
          have hoi9 := hoi'.still hs2
          have hgn9 := hgn
          clear hb hO hoi' hq' hs2
          go_wp2_with (at_builtin; refine wpList_clone (w := w6) rfl _ _ rfl g1 o1 _ c1 word rfl (Nat.lt_of_lt_of_le hg1 hB9.size) (hc1.below hB9 hg1) rfl rfl (by omega) ?_)
          intro g3 c3 w3 ho3 hb3
          have hB3 : Below w.heap.size w w3 := hB9.trans (hb3.mono hB9.size)
          have hO3 : OwnRows w3 B0 g' c' acc := hO9.below hb3
          have hne3 : ∀ s ∈ acc, s.1 ≠ g3 := fun s hs e => by
            have h1 := (hO9.2.1 s hs).lt
            have h2 := ho3.base
            omega
          have hg3 : w.heap.size ≤ g3 := by have := ho3.base; have := hB9.size; omega
          have ho3' : Own w3 B0 g3 c3 word := ho3.mono (by have := hB9.size; omega)
          have hoi3 : Own w3 B0 bi ci xi := hoi9.below hb3 hoi9.lt
          have hq3 : w3.cell? ⟨g, i, none⟩ = some (Value.slice (some ⟨bi, 0, none⟩) xi.length ci) := (hb3.cell (p := ⟨g, i, none⟩) (Nat.lt_of_lt_of_le hg hB9.size)).trans hq9
          clear hq9 hoi9 hO9 hB9 hb3
          go_wp2_with (at_builtin; refine wpList_append_row rfl _ _ rfl B0 g' c' p w3.heap.size acc (g3, c3, word) _ hp.out rfl rfl hO3 ho3' hne3 rfl rfl (by omega) ?_)
          intro g4 c4 w4 hO9 hg4 hor4
          have hB9 : Below w.heap.size w w4 := hB3.grown hg4 hB3.size (by intro j hj; cases hj; exact hgn)
          have hoi9 : Own w4 B0 bi ci xi := hoi3.grown hg4 (fun e => hO3.1.ne hoi3.toV (by decide) (Option.some.inj e).symm)
          have hgn9 : w.heap.size ≤ g4 := by
            rcases hor4 with h | h
            · omega
            · have := hB3.size; omega
          have hq9 : w4.cell? ⟨g, i, none⟩ = some (Value.slice (some ⟨bi, 0, none⟩) xi.length ci) := hg4.cell (a := ⟨g, i, none⟩) hq3 (by simp; omega)
          have hne9 : ∀ s ∈ acc ++ [(g3, c3, word)], s.1 ≠ bi := fun s hs => by
            rcases List.mem_append.1 hs with h | h
            · exact HneI.out s h
            · simp at h; subst h; show g3 ≠ bi; omega
          have hl9 : (acc ++ [(g3, c3, word)]).length = p + 1 := by rw [List.length_append, hp.out]; rfl
          have Hl9 := Lib.hid hl9
          clear hq3 hoi3 hO3 hB3 hg4 hor4 ho3 ho3' hne3 hl9
          go_wp2_with (at_builtin; refine wpList_append_row rfl _ _ rfl B0 g4 _ (p + 1) w4.heap.size (acc ++ [(g3, c3, word)]) (bi, ci, xi) _ Hl9.out rfl rfl hO9 hoi9 hne9 rfl rfl (by omega) ?_)
          intro g5 c5 w5 hO5 hg5 hor5
          have hB5 : Below w.heap.size w w5 := hB9.grown hg5 hB9.size (by intro j hj; cases hj; exact hgn9)
          have hg5n : w.heap.size ≤ g5 := by
            rcases hor5 with h | h
            · omega
            · have := hB9.size; omega
          go_wp2
          go_roundw
          case rel =>
            refine ⟨i + 1, p + 1 + 1, g5, c5, acc ++ [(g3, c3, word), (bi, ci, xi)], true, by omega, by go_num, by first | rfl | trivial, by first | rfl | trivial, ?_, by omega, ?_, hO5, hg5n, hB5⟩
            · show _ = _
              have := Hl9.out
              simp at this ⊢; omega
            · show PutSt _ _ _ _ _ _
              have := HS'.out [(g3, c3, word)] true (by intro s hs; simp at hs; subst hs; exact hg3) (by rw [hp.out]; simpa using hpi) (by intro e; simp at e) (by simp only [if_true]; rw [Hcd.out]; exact (putR_lt Hv.out)); simpa using this
          case measure => simp [intOf]; omega
        · rw [decide_eq_false hv] at hcallG
          have HG := Lib.hid hcallG; have Hv := Lib.hid hv; clear hv hcallG
          have hpi : p ≤ i := by have := Hlen.out rfl; have := hp.out; omega
          clear Hlen
          have HcallG := HG
          go_wp2_with fail
          refine HcallG.out.mono ?_
          rintro e w6 ⟨rfl, hs2⟩
          clear HcallG HG
          have hq9 : w6.cell? ⟨g, i, none⟩ = some (Value.slice (some ⟨bi, 0, none⟩) xi.length ci) := (cell_still hs2 _).trans hq'
          have hB9 := below_still hb hs2
          have hO9 := hO.still hs2
          have hoi9 := hoi'.still hs2
          have hgn9 := hgn
          clear hb hO hoi' hq' hs2
          have hne9 := HneI.out
          go_wp2_with (at_builtin; refine wpList_append_row rfl _ _ rfl B0 g' _ (p) w6.heap.size (acc) (bi, ci, xi) _ hp.out rfl rfl hO9 hoi9 hne9 rfl rfl (by omega) ?_)
          intro g5 c5 w5 hO5 hg5 hor5
          have hB5 : Below w.heap.size w w5 := hB9.grown hg5 hB9.size (by intro j hj; cases hj; exact hgn9)
          have hg5n : w.heap.size ≤ g5 := by
            rcases hor5 with h | h
            · omega
            · have := hB9.size; omega
          go_wp2
          go_roundw
          case rel =>
            refine ⟨i + 1, p + 1, g5, c5, acc ++ [(bi, ci, xi)], false, by omega, by go_num, by first | rfl | trivial, by first | rfl | trivial, ?_, by omega, ?_, hO5, hg5n, hB5⟩
            · show _ = _
              have := hp.out
              simp at this ⊢; omega
            · show PutSt _ _ _ _ _ _
              have := HS'.out [] false (by simp) (by rw [hp.out]; simpa using hpl) (by simp) (by rw [Hcd.out]; exact (putR_ge Hv.out)); simpa using this
          case measure => simp [intOf]; omega
    · obtain rfl : i = rs.length := by omega
      cases pl with
      | true =>
        go_wp2_with fail
        go_ret
        have hd := hst.out.done
        exact GotPut.mk' g' c' acc hp.out hd hO hgn hb
      | false =>
        go_wp2_with (at_builtin; refine wpList_clone (w := wr) rfl _ _ rfl g1 o1 _ c1 word rfl (Nat.lt_of_lt_of_le hg1 hb.size) (hc1.below hb hg1) rfl rfl (by omega) ?_)
        intro g3 c3 w3 ho3 hb3
        have hB3 : Below w.heap.size w w3 := hb.trans (hb3.mono hb.size)
        have hO3 : OwnRows w3 B0 g' c' acc := hO.below hb3
        have hne3 : ∀ s ∈ acc, s.1 ≠ g3 := fun s hs e => by
          have h1 := (hO.2.1 s hs).lt
          have h2 := ho3.base
          omega
        have ho3' : Own w3 B0 g3 c3 word := ho3.mono (by have := hb.size; omega)
        go_wp2_with (at_builtin; refine wpList_append_row rfl _ _ rfl B0 g' c' p w3.heap.size acc (g3, c3, word) _ hp.out rfl rfl hO3 ho3' hne3 rfl rfl (by omega) ?_)
        intro g4 c4 w4 hO4 hg4 hor4
        have hB4 : Below w.heap.size w w4 := hB3.grown hg4 hB3.size (by intro j hj; cases hj; exact hgn)
        have hg4n : w.heap.size ≤ g4 := by
          rcases hor4 with h | h
          · omega
          · have := hB3.size; omega
        go_wp2_with fail
        go_ret
        have hd := hst.out.last (g3, c3, word) rfl
        exact GotPut.mk' g4 c4 (acc ++ [(g3, c3, word)]) (by rw [List.length_append, hp.out]; rfl) hd hO4 hg4n hB4
end Go.Proofs.YtnpechcnmchneaaGreatDoor
namespace Go.Proofs.YtnpechcnmchneaaGreatDoor
set_option maxRecDepth 100000
open Go.RowKit Game

theorem OwnRows.other {w w' : World} {B B2 g g2 cap cap2 : Nat} {rs rs2 : List RowRef} (h : OwnRows w B g cap rs) (h2 : OwnRows w B2 g2 cap2 rs2) (hne : g ≠ g2) (hg : w.grownBy w' (some g2)) : OwnRows w' B g cap rs :=
  ⟨h.1.grown hg (fun e => hne (Option.some.inj e)), fun r hr => (h.2.1 r hr).grown hg (fun e => h2.1.ne (h.2.1 r hr).toV (by decide) (Option.some.inj e).symm), h.2.2⟩
theorem putsR_mem {x : List Int} : ∀ {L : List (List Int)}, x ∈ putsR L → x ∈ L := by
  have : ∀ (L a : List (List Int)), x ∈ L.foldl putR a → x ∈ L ∨ x ∈ a := by
    intro L
    induction L with
    | nil => intro a h; exact .inr h
    | cons y L ih =>
      intro a h
      rw [List.foldl_cons] at h
      rcases ih _ h with h1 | h1
      · exact .inl (List.mem_cons_of_mem _ h1)
      · rcases mem_putR.1 h1 with e | e
        · exact .inl (by rw [e]; simp)
        · exact .inr e
  intro L h
  rcases this L [] h with h | h
  · exact h
  · simp at h
/-- three lists of rows of the call's own -/
structure Tri3 (w : World) (B gT cT gO cO gD cD : Nat) (rsT rsO rsD : List RowRef) : Prop where
  t : OwnRows w B gT cT rsT
  o : OwnRows w B gO cO rsO
  d : OwnRows w B gD cD rsD
  to' : gT ≠ gO
  td : gT ≠ gD
  od : gO ≠ gD
section
variable {w w' : World} {B gT cT gO cO gD cD g' c' : Nat} {rsT rsO rsD rs' : List RowRef}
theorem Tri3.below (h : Tri3 w B gT cT gO cO gD cD rsT rsO rsD) (hb : Below w.heap.size w w') : Tri3 w' B gT cT gO cO gD cD rsT rsO rsD := ⟨h.t.below hb, h.o.below hb, h.d.below hb, h.to', h.td, h.od⟩
theorem Tri3.still (h : Tri3 w B gT cT gO cO gD cD rsT rsO rsD) (hs : ∃ n, w' = w.drewN n) : Tri3 w' B gT cT gO cO gD cD rsT rsO rsD := ⟨h.t.still hs, h.o.still hs, h.d.still hs, h.to', h.td, h.od⟩
theorem Tri3.pushO (h : Tri3 w B gT cT gO cO gD cD rsT rsO rsD) (ho : OwnRows w' B g' c' rs') (hg : w.grownBy w' (some gO)) (hor : g' = gO ∨ w.heap.size < g') : Tri3 w' B gT cT g' c' gD cD rsT rs' rsD := by
  have h1 := h.t.lt
  have h2 := h.d.lt
  have a := h.to'; have b := h.od
  refine ⟨h.t.other h.o a hg, ho, h.d.other h.o (Ne.symm b) hg, ?_, h.td, ?_⟩
  · rcases hor with e | e
    · rw [e]; exact a
    · omega
  · rcases hor with e | e
    · rw [e]; exact b
    · omega
theorem Tri3.pushD (h : Tri3 w B gT cT gO cO gD cD rsT rsO rsD) (ho : OwnRows w' B g' c' rs') (hg : w.grownBy w' (some gD)) (hor : g' = gD ∨ w.heap.size < g') : Tri3 w' B gT cT gO cO g' c' rsT rsO rs' := by
  have h1 := h.t.lt
  have h2 := h.o.lt
  have a := h.td; have b := h.od
  refine ⟨h.t.other h.d a hg, h.o.other h.d b hg, ho, h.to', ?_, ?_⟩
  · rcases hor with e | e
    · rw [e]; exact a
    · omega
  · rcases hor with e | e
    · rw [e]; exact b
    · omega
theorem Tri3.ne3 (h : Tri3 w B gT cT gO cO gD cD rsT rsO rsD) {g3 c3 : Nat} {xs : List Int} (ho : Own w' w.heap.size g3 c3 xs) : (∀ s ∈ rsO, s.1 ≠ g3) ∧ ∀ s ∈ rsD, s.1 ≠ g3 :=
  ⟨fun s hs e => by have h1 := (h.o.2.1 s hs).lt; have h2 := ho.base; omega, fun s hs e => by have h1 := (h.d.2.1 s hs).lt; have h2 := ho.base; omega⟩
end
/-- roots and coroots, in two lists -/
structure InTwo (rsO rsD : List RowRef) (Q : List RPair) : Prop where
  o : contents rsO = Q.map (·.1)
  d : contents rsD = Q.map (·.2)
section
variable {rsO rsD : List RowRef} {Q : List RPair}
theorem InTwo.lo (h : InTwo rsO rsD Q) : rsO.length = Q.length := by have := congrArg List.length h.o; simpa [contents] using this
theorem InTwo.ld (h : InTwo rsO rsD Q) : rsD.length = Q.length := by have := congrArg List.length h.d; simpa [contents] using this
theorem InTwo.push (h : InTwo rsO rsD Q) (a b : RowRef) : InTwo (rsO ++ [a]) (rsD ++ [b]) (Q ++ [(a.2.2, b.2.2)]) :=
  ⟨by rw [contents_append, h.o, List.map_append]; rfl, by rw [contents_append, h.d, List.map_append]; rfl⟩
theorem InTwo.ato (h : InTwo rsO rsD Q) {k : Nat} (hk : k < rsO.length) : rsO[k].2.2 = (Q.getD k ([], [])).1 := by
  have h1 : (contents rsO).getD k [] = rsO[k].2.2 := by simp [contents, List.getD, hk]
  have hk' : k < Q.length := by rw [← h.lo]; exact hk
  rw [← h1, h.o]; simp [List.getD, hk']
theorem InTwo.atd (h : InTwo rsO rsD Q) {k : Nat} (hk : k < rsD.length) : rsD[k].2.2 = (Q.getD k ([], [])).2 := by
  have h1 : (contents rsD).getD k [] = rsD[k].2.2 := by simp [contents, List.getD, hk]
  have hk' : k < Q.length := by rw [← h.ld]; exact hk
  rw [← h1, h.d]; simp [List.getD, hk']
end
def smallB (c : List (List Int)) : Bool := (smR c).isSome
theorem small_none {c : List (List Int)} (h : smR c = none) : smallL c = [] ∧ smallB c = false := by unfold smallL smallB; rw [h]; exact ⟨rfl, rfl⟩
theorem small_some {c : List (List Int)} {Q : List RPair} (h : smR c = some Q) : smallL c = putsR (Q.map (·.1)) ∧ smallB c = true := by unfold smallL smallB; rw [h]; exact ⟨rfl, rfl⟩
theorem smStart_take (c : List (List Int)) (k : Nat) (hk : k < c.length) : (smStart c).take (k + 1) = (smStart c).take k ++ [(simpL c.length k, simpL c.length k)] := by
  rw [List.take_succ_eq_append_getElem (by rw [smStart_length]; exact hk)]
  simp [smStart]
theorem smStep_new {c t : List (List Int)} {Q : List RPair} {k i : Nat} {x y : List Int} (hQ : Q.getD k ([], []) = (x, y)) (h1 : pairL (c.getD i []) x < 0) (h2 : wrap64 (pairL (c.getD i []) x * pairL (t.getD i []) y) < 4) (h3 : mirL c i x ∉ Q.map (·.1)) : smStep c t Q k i = Q ++ [(mirL c i x, mirL t i y)] := by
  unfold smStep; rw [hQ]; exact if_pos ⟨h1, h2, h3⟩
theorem smStep_old {c t : List (List Int)} {Q : List RPair} {k i : Nat} {x y : List Int} (hQ : Q.getD k ([], []) = (x, y)) (h : ¬ (pairL (c.getD i []) x < 0 ∧ wrap64 (pairL (c.getD i []) x * pairL (t.getD i []) y) < 4 ∧ mirL c i x ∉ Q.map (·.1))) : smStep c t Q k i = Q := by
  unfold smStep; rw [hQ]; exact if_neg h

end Go.Proofs.YtnpechcnmchneaaGreatDoor
namespace Go.Proofs.YtnpechcnmchneaaGreatDoor
set_option maxRecDepth 100000
open Go.RowKit Game

abbrev PairRef := RowRef × RowRef
def pair2 (p : PairRef) : List Value := [rowVal p.1, rowVal p.2]
def flatQ (ps : List PairRef) : List Value := ps.flatMap pair2
def OwnPairs (w : World) (B g cap : Nat) (ps : List PairRef) : Prop := OwnK w B 136 2 g cap ps.length (flatQ ps)
theorem infoPair : (Tryz.prog.info? 136).map (fun i => (i.zero, i.size, i.bytes)) = some (some (.agg #[.slice none 0 0, .slice none 0 0]), 2, 48) := by kernel_rfl
theorem flatQ_length (ps : List PairRef) : (flatQ ps).length = ps.length * 2 := by
  induction ps with
  | nil => rfl
  | cons v vs ih => unfold flatQ at *; simp only [List.flatMap_cons, List.length_append, ih, List.length_cons]; simp [pair2]; omega
theorem flatQ_append (a b : List PairRef) : flatQ (a ++ b) = flatQ a ++ flatQ b := by simp [flatQ]
theorem flatQ_at {ps : List PairRef} {j : Nat} (hj : j < ps.length) : (flatQ ps)[j * 2]? = some (rowVal ps[j].1) ∧ (flatQ ps)[j * 2 + 1]? = some (rowVal ps[j].2) := by
  induction ps generalizing j with
  | nil => simp at hj
  | cons v vs ih =>
    unfold flatQ at *
    simp only [List.flatMap_cons]
    cases j with
    | zero => exact ⟨rfl, rfl⟩
    | succ j =>
      have := ih (j := j) (by simpa using hj)
      rw [List.getElem?_append_right (by simp [pair2]; omega), List.getElem?_append_right (by simp [pair2]; omega)]
      have e1 : (j + 1) * 2 - (pair2 v).length = j * 2 := by simp [pair2]; omega
      have e2 : (j + 1) * 2 + 1 - (pair2 v).length = j * 2 + 1 := by simp [pair2]; omega
      rw [e1, e2]
      exact this
section
variable {w w' : World} {B g cap : Nat} {ps : List PairRef}
theorem OwnPairs.lt (h : OwnPairs w B g cap ps) : g < w.heap.size := OwnK.lt h
theorem OwnPairs.base (h : OwnPairs w B g cap ps) : B ≤ g := OwnK.base h
theorem OwnPairs.mono {B' : Nat} (h : OwnPairs w B g cap ps) (hB : B' ≤ B) : OwnPairs w B' g cap ps := OwnK.mono h hB
theorem OwnPairs.below (h : OwnPairs w B g cap ps) (hb : Below w.heap.size w w') : OwnPairs w' B g cap ps := OwnK.below h hb (OwnK.lt h)
theorem OwnPairs.grown {row : Option Nat} (h : OwnPairs w B g cap ps) (hg : w.grownBy w' row) (hne : some g ≠ row) : OwnPairs w' B g cap ps := OwnK.grown h hg hne
theorem OwnPairs.still (h : OwnPairs w B g cap ps) (hs : ∃ n, w' = w.drewN n) : OwnPairs w' B g cap ps := by obtain ⟨n, rfl⟩ := hs; exact h
theorem OwnPairs.cell (h : OwnPairs w B g cap ps) {j : Nat} (hj : j < ps.length) : w.cell? ⟨g, j * 2, none⟩ = some (rowVal ps[j].1) ∧ w.cell? ⟨g, j * 2 + 1, none⟩ = some (rowVal ps[j].2) := by
  have hl1 : j * 2 < (flatQ ps).length := by rw [flatQ_length]; omega
  have hl2 : j * 2 + 1 < (flatQ ps).length := by rw [flatQ_length]; omega
  obtain ⟨h1, h2⟩ := flatQ_at hj
  rw [OwnK.cell h _ hl1, OwnK.cell h _ hl2, ← h1, ← h2, List.getElem?_eq_getElem hl1, List.getElem?_eq_getElem hl2]
  exact ⟨rfl, rfl⟩
theorem OwnPairs.empty (hB : B ≤ w.heap.size) : OwnPairs (w.alloc (.cells #[] 136)) B w.heap.size 0 [] :=
  World.ownsRow_lit w #[] 0 hB (by decide) rfl
theorem OwnPairs.one (p : PairRef) (hB : B ≤ w.heap.size) : OwnPairs (w.alloc (.cells #[rowVal p.1, rowVal p.2] 136)) B w.heap.size 1 [p] :=
  World.ownsRow_lit w #[rowVal p.1, rowVal p.2] 1 hB (by decide) rfl
theorem wpList_append_pair {ops : Array Oper} {rest : List Oper} {o : Oper} {a : Act} {Q : Exit → Act → World → Prop} (hgd : o.guard = none) (s x : Operand)
    (ho : o.op = .call { callee := .builtin .append, args := #[s, x], argTypes := #[133, 133] })
    (B g cap n H : Nat) (ps : List PairRef) (p : PairRef) (w W : World) (hn : ps.length = n) (hW : W = w.alloc (.cells #[rowVal p.1, rowVal p.2] 136)) (hH : w.heap.size = H) (hown : OwnPairs w B g cap ps)
    (hs : a.eval s = (Value.slice (some ⟨g, 0, none⟩) n cap)) (hx : a.eval x = (Value.slice (some ⟨H, 0, none⟩) 1 1)) (hlen : n + 1 ≤ 1048576)
    (h : ∀ g' cap' w', OwnPairs w' B g' cap' (ps ++ [p]) → w.grownBy w' (some g) → (g' = g ∨ w.heap.size < g') → wpList Tryz.prog ops Q rest (a.put o.dst (Value.slice (some ⟨g', 0, none⟩) (n + 1) cap')) w') :
    wpList Tryz.prog ops Q (o :: rest) a W := by
  subst hn; subst hW; subst hH
  have hnew := OwnPairs.one (w := w) (B := w.heap.size) p (Nat.le_refl _)
  refine wpList_append_K infoPair Tryz.underlying133 rfl (by decide) (by decide) hgd s x ho B g cap ps.length (flatQ ps) (OwnK.alloc hown _) w.heap.size 0 1 1 (pair2 p) rfl ?_ ?_ hs hx hlen ?_
  · intro j u hu
    have hj : j < 2 := by have := (List.getElem?_eq_some_iff.1 hu).1; simpa [pair2] using this
    have h1 := hnew.cell (j := 0) (by simp)
    rw [Nat.zero_mul] at h1
    have : j = 0 ∨ j = 1 := by omega
    rcases this with rfl | rfl
    · rw [Nat.zero_add, h1.1, ← hu]; rfl
    · rw [h1.2, ← hu]; rfl
  · intro u hu
    simp [pair2] at hu
    rcases hu with rfl | rfl <;> rfl
  · intro g' cap' w' h2 h3 h4
    refine h g' cap' w' ?_ ⟨h3.os, h3.tape, h3.output, Nat.le_trans (by simp) h3.size, fun k hk hne => (h3.block k (by simp; omega) hne).trans (Below.heap_alloc _ _ _ hk)⟩ (h4.imp id (by simp; omega))
    unfold OwnPairs
    rw [flatQ_append, List.length_append]
    have e : flatQ [p] = pair2 p := by simp [flatQ]
    rw [e]
    exact h2
end

/-- what 'add' works on: the set of the roots and the list of pairs, in two boxes -/
structure SmSt (w : World) (B bS bL bM gP cP nP nM m : Nat) (ps : List PairRef) : Prop where
  hS : w.heap[bS]? = some (.cells #[.map (some bM)] 131 (0, 0))
  hL : w.heap[bL]? = some (.cells #[(Value.slice (some ⟨gP, 0, none⟩) nP cP)] 133 (0, 0))
  hP : OwnPairs w B gP cP ps
  hn : ps.length = nP
  hM : SeenM w bM nM m (ps.map fun p => p.1.2.2)
  hnM : nM ≤ nP
  rows : ∀ p ∈ ps, Own w B p.1.1 p.1.2.1 p.1.2.2 ∧ Own w B p.2.1 p.2.2.1 p.2.2.2
  nodup : (ps.map fun p => p.1.1).Nodup
  bL_ge : B ≤ bL
  bM_ge : B ≤ bM
/-- what 'add' leaves as it was -/
structure SmFr (w w' : World) (bL gP bM : Nat) : Prop where
  os : w'.os = w.os
  tape : w'.tape = w.tape
  output : w'.output = w.output
  size : w.heap.size ≤ w'.heap.size
  block : ∀ k, k < w.heap.size → k ≠ bL → k ≠ gP → k ≠ bM → w'.heap[k]? = w.heap[k]?
theorem box_cell {w : World} {b : Nat} {v : Value} {t : TypeId} (h : w.heap[b]? = some (.cells #[v] t (0, 0))) : w.cell? ⟨b, 0, none⟩ = some v ∧ w.frozen? ⟨b, 0, none⟩ = false := by
  constructor <;> simp [World.cell?, World.frozen?, h]
theorem box_lt {w : World} {b : Nat} {o : Obj} (h : w.heap[b]? = some o) : b < w.heap.size := (Array.getElem?_eq_some_iff.1 h).1
section
variable {w w' : World} {B bS bL bM gP cP nP nM m : Nat} {ps : List PairRef}
theorem SmFr.below (h : SmFr w w' bL gP bM) {b : Nat} (h1 : b ≤ bL) (h2 : b ≤ gP) (h3 : b ≤ bM) (hb : b ≤ w.heap.size) : Below b w w' :=
  ⟨h.os, h.tape, h.output, h.size, fun k hk => h.block k (by omega) (by omega) (by omega) (by omega)⟩
theorem SeenM.same {ks : List (List Int)} (h : SeenM w bM nM m ks) (hs : w'.heap[bM]? = w.heap[bM]?) : SeenM w' bM nM m ks := by
  obtain ⟨D, ⟨es, clock, hh, r⟩, h2⟩ := h
  exact ⟨D, ⟨es, clock, hs.trans hh, r⟩, h2⟩
theorem SmSt.keep (h : SmSt w B bS bL bM gP cP nP nM m ps) (hk : ∀ k, k < w.heap.size → w'.heap[k]? = w.heap[k]?) : SmSt w' B bS bL bM gP cP nP nM m ps :=
  ⟨(hk _ (box_lt h.hS)).trans h.hS, (hk _ (box_lt h.hL)).trans h.hL, OwnK.same h.hP (hk _ h.hP.lt), h.hn, h.hM.same (hk _ h.hM.lt), h.hnM, fun p hp => ⟨(h.rows p hp).1.same (hk _ (h.rows p hp).1.lt), (h.rows p hp).2.same (hk _ (h.rows p hp).2.lt)⟩, h.nodup, h.bL_ge, h.bM_ge⟩
theorem SmSt.below (h : SmSt w B bS bL bM gP cP nP nM m ps) (hb : Below w.heap.size w w') : SmSt w' B bS bL bM gP cP nP nM m ps := h.keep hb.block
theorem SmSt.still (h : SmSt w B bS bL bM gP cP nP nM m ps) (hs : ∃ n, w' = w.drewN n) : SmSt w' B bS bL bM gP cP nP nM m ps := by obtain ⟨n, rfl⟩ := hs; exact h.keep fun _ _ => rfl
/-- the blocks are different -/
theorem SmSt.ne (h : SmSt w B bS bL bM gP cP nP nM m ps) : bS ≠ bM ∧ bL ≠ bM ∧ gP ≠ bM ∧ bS ≠ gP ∧ bL ≠ gP ∧ bS ≠ bL := by
  obtain ⟨D, ⟨es, clock, hh, -⟩, -⟩ := h.hM
  obtain ⟨cur, h2, -⟩ := OwnK.row h.hP
  have h3 := h.hS
  have h4 := h.hL
  refine ⟨?_, ?_, ?_, ?_, ?_, ?_⟩ <;> intro e <;> subst e <;> simp_all
theorem SmSt.neOwn (h : SmSt w B bS bL bM gP cP nP nM m ps) {B2 g cap : Nat} {xs : List Int} (ho : Own w B2 g cap xs) : g ≠ bS ∧ g ≠ bL ∧ g ≠ bM ∧ g ≠ gP := by
  obtain ⟨D, ⟨es, clock, hh, -⟩, -⟩ := h.hM
  obtain ⟨cur, h2, -⟩ := OwnK.row h.hP
  obtain ⟨cur2, h5, -⟩ := ho.toV.row
  have h3 := h.hS
  have h4 := h.hL
  refine ⟨?_, ?_, ?_, ?_⟩ <;> intro e <;> subst e <;> simp_all
theorem SmSt.neRows (h : SmSt w B bS bL bM gP cP nP nM m ps) {B2 g cap : Nat} {rs : List RowRef} (ho : OwnRows w B2 g cap rs) : g ≠ bS ∧ g ≠ bL ∧ g ≠ bM ∧ g ≠ gP := by
  obtain ⟨D, ⟨es, clock, hh, -⟩, -⟩ := h.hM
  obtain ⟨cur, h2, -⟩ := OwnK.row h.hP
  obtain ⟨cur2, h5, -⟩ := ho.1.row
  have h3 := h.hS
  have h4 := h.hL
  refine ⟨?_, ?_, ?_, ?_⟩ <;> intro e <;> subst e <;> simp_all
/-- a list of rows besides stays as it was -/
theorem SmFr.rows (h : SmFr w w' bL gP bM) (st : SmSt w B bS bL bM gP cP nP nM m ps) {B2 g cap : Nat} {rs : List RowRef} (ho : OwnRows w B2 g cap rs) : OwnRows w' B2 g cap rs := by
  have h1 := st.neRows ho
  exact ⟨ho.1.same (h.block _ ho.lt h1.2.1 h1.2.2.2 h1.2.2.1), fun r hr => by
    have h2 := st.neOwn (ho.2.1 r hr)
    exact (ho.2.1 r hr).same (h.block _ (ho.2.1 r hr).lt h2.2.1 h2.2.2.2 h2.2.2.1), ho.2.2⟩
end
end Go.Proofs.YtnpechcnmchneaaGreatDoor
namespace Go.Proofs.YtnpechcnmchneaaGreatDoor
set_option maxRecDepth 100000
open Go.RowKit Game

theorem heap_setCell_ne {w : World} {b k : Nat} {v : Value} (h : k ≠ b) : (w.setCell ⟨b, 0, none⟩ v).heap[k]? = w.heap[k]? := by
  show (w.heap.modify b _)[k]? = _
  rw [Array.getElem?_modify]
  simp [Ne.symm h]
theorem heap_setCell_size {w : World} {b : Nat} {v : Value} : (w.setCell ⟨b, 0, none⟩ v).heap.size = w.heap.size := by
  show (w.heap.modify b _).size = _
  simp
/-- the roots of pairs -/
def rootsQ (ps : List PairRef) : List (List Int) := ps.map fun p => p.1.2.2
/-- the list behind 'add' -/
def addQ (ps : List PairRef) (p : PairRef) : List PairRef := if p.1.2.2 ∈ rootsQ ps then ps else ps ++ [p]
def AddPost (B bS bL bM gP m : Nat) (w : World) (ps' : List PairRef) (e : Ending) (w' : World) : Prop :=
  e = .returned (.tuple #[]) ∧ SmFr w w' bL gP bM ∧ ∃ gP' cP' nP' nM', SmSt w' B bS bL bM gP' cP' nP' nM' m ps' ∧ (gP' = gP ∨ w.heap.size ≤ gP')

end Go.Proofs.YtnpechcnmchneaaGreatDoor
