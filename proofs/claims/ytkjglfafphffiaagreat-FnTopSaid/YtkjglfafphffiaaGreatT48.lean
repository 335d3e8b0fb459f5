/- The reference's insertion into a list of words: contract. -/
import Derived.Test.YtkjglfafphffiaaGreatT15
import Derived.Test.YtkjglfafphffiaaGreatT03
namespace Go.Proofs.YtkjglfafphffiaaGreat
set_option maxRecDepth 100000
open Go.RowKit Game
theorem wordCmp_vals (a b : List Int) : wordCmp a b = -1 ∨ wordCmp a b = 0 ∨ wordCmp a b = 1 := by
  have hl : ∀ a b : List Int, lexCmp a b = -1 ∨ lexCmp a b = 0 ∨ lexCmp a b = 1 := by
    intro a
    induction a with
    | nil => intro b; simp [lexCmp]
    | cons x a ih =>
      intro b
      cases b with
      | nil => simp [lexCmp]
      | cons y b =>
        simp only [lexCmp]
        split
        · simp
        · split
          · simp
          · exact ih b
  unfold wordCmp
  split
  · simp
  · split
    · simp
    · exact hl a b
theorem putL_eq {x word : List Int} {l : List (List Int)} (h : wordCmp word x = 0) : putL (x :: l) word = x :: l := by
  have := wordCmp_zero h; simp [putL, this]
theorem putL_lt {x word : List Int} {l : List (List Int)} (h : wordCmp word x = -1) : putL (x :: l) word = word :: x :: l := by
  have : word ≠ x := by intro e; subst e; rw [wordCmp_self] at h; omega
  simp [putL, this, h]
theorem putL_gt {x word : List Int} {l : List (List Int)} (h : wordCmp word x = 1) : putL (x :: l) word = x :: putL l word := by
  have : word ≠ x := by intro e; subst e; rw [wordCmp_self] at h; omega
  simp [putL, this, h]
set_option maxHeartbeats 4000000 in
theorem spec_l11Put_any (B0 g cap n g1 o1 n1 c1 : Nat) (rs : List RowRef) (word : List Int) (w : World) (hn : rs.length = n) (hn1 : word.length = n1) (hl : rs.length ≤ 1000000) (hwl : word.length ≤ 1048576)
    (ho : OwnRows w B0 g cap rs) (hg1 : g1 < w.heap.size) (hc1 : Cells w g1 o1 word) :
    Calls Tryz.prog 43 #[(Value.slice (some ⟨g, 0, none⟩) n cap), (Value.slice (some ⟨g1, o1, none⟩) n1 c1)] w (GotPut w B0 (putL (contents rs) word)) := by
  subst hn; subst hn1
  have hB0 : B0 ≤ w.heap.size := by have := ho.base; have := ho.lt; omega
  have hg := ho.lt
  go_enter Tryz.func43, Tryz.ntmps43
  go_wp2
  go_loopw [5, 6, 7, 8] (fun ov pv iv _ wr => ∃ (i p g' c' : Nat) (acc : List RowRef) (pl : Bool), i ≤ rs.length ∧ iv = .int .i64 i ∧ pv = .bool pl ∧ ov = (Value.slice (some ⟨g', 0, none⟩) p c') ∧ Hid (acc.length = p) ∧ p ≤ i + 1 ∧ Hid (PutSt (fun l => putL l word) w.heap.size rs i acc pl) ∧ OwnRows wr B0 g' c' acc ∧ w.heap.size ≤ g' ∧ Below w.heap.size w wr) (fun _ _ iv _ _ => rs.length - (intOf iv).toNat)
  case atStart =>
    exact ⟨0, 0, w.heap.size, 0, [], false, Nat.zero_le _, rfl, rfl, rfl, rfl, by omega, PutSt.start, OwnRows.empty hB0, Nat.le_refl _, (Below.refl _ _).alloc (Nat.le_refl _) _⟩
  case round =>
    obtain ⟨i, p, g', c', acc, pl, hi, rfl, rfl, rfl, hp, hpi, hst, hO, hgn, hb⟩ := hrel
    by_cases hlt : i < rs.length
    · have hm : rs[i] ∈ rs := List.getElem_mem hlt
      have hoi := ho.2.1 _ hm
      have hneI := hst.out.ne ho.2.2 hlt hoi.lt
      have hq : wr.cell? ⟨g, i, none⟩ = some (rowVal rs[i]) := by
        rw [hb.cell (p := ⟨g, i, none⟩) hg, ho.1.cell i (by simpa using hlt)]; simp
      have HS : ∀ (new : List RowRef) (pl' : Bool), (∀ s ∈ new, w.heap.size ≤ s.1) → acc.length + new.length ≤ i + 1 → (pl' = false → pl = false ∧ new = []) → (if pl then contents (rs.drop i) else putL (contents (rs.drop i)) word) = contents new ++ rs[i].2.2 :: (if pl' then contents (rs.drop (i + 1)) else putL (contents (rs.drop (i + 1))) word) → PutSt (fun l => putL l word) w.heap.size rs (i + 1) (acc ++ new ++ [rs[i]]) pl' :=
        fun new pl' h1 h2 h3 h4 => hst.out.step hlt new pl' h1 h2 h3 h4
      have HS' := Lib.hid HS
      have hcd := contents_drop rs hlt
      have Hcd := Lib.hid hcd
      have hlen := hst.out.lenF
      have Hlen := Lib.hid hlen
      clear HS hcd hlen
      generalize rs[i] = r at *
      obtain ⟨bi, ci, xi⟩ := r
      have hq' : wr.cell? ⟨g, i, none⟩ = some (Value.slice (some ⟨bi, 0, none⟩) xi.length ci) := hq
      have hoi' : Own wr B0 bi ci xi := hoi.below hb hoi.lt
      have hcall := spec_CompareWords_any g1 o1 word.length c1 bi 0 xi.length ci word xi wr rfl rfl (by omega) (hc1.below hb hg1) hoi'.cells
      have HneI := Lib.hid hneI
      have hbi : bi < w.heap.size := hoi.lt
      have hpl : p ≤ i + 1 := hpi
      have Ho := Lib.hid ho
      have Hst := Lib.hid hst
      clear hq hoi hm hneI ho hst
      rcases wordCmp_vals word xi with hv | hv | hv
      · rw [hv] at hcall
        have Hcall := Lib.hid hcall
        have Hv := Lib.hid hv
        clear hcall hv
        cases pl with
        | false =>
          have hpi : p ≤ i := by have := Hlen.out rfl; have := hp.out; omega
          clear Hlen
          go_wp2_with fail
          refine Hcall.out.mono ?_
          rintro e w2 ⟨rfl, hs2⟩
          have hq9 : w2.cell? ⟨g, i, none⟩ = some (Value.slice (some ⟨bi, 0, none⟩) xi.length ci) := (cell_still hs2 _).trans hq'
          have hB9 := below_still hb hs2
          have hO9 := hO.still hs2
          have hoi9 := hoi'.still hs2
          have hgn9 := hgn
          clear hb hO hoi' hq' Hcall hs2
          go_wp2_with (at_builtin; refine wpList_clone (w := w2) rfl _ _ rfl g1 o1 _ c1 word rfl (Nat.lt_of_lt_of_le hg1 hB9.size) (hc1.below hB9 hg1) rfl rfl (by omega) ?_)
          intro g3 c3 w3 ho3 hb3
          have hB3 : Below w.heap.size w w3 := hB9.trans (hb3.mono hB9.size)
          have hO3 : OwnRows w3 B0 g' c' acc := hO9.below hb3
          have hne3 : ∀ s ∈ acc, s.1 ≠ g3 := fun s hs e => by
            have h1 := (hO9.2.1 s hs).lt
            have h2 := ho3.base
            omega
          have hg3 : w.heap.size ≤ g3 := by have := ho3.base; have := hB9.size; omega
          have ho3' : Own w3 B0 g3 c3 word := ho3.mono (by have := hB9.size; omega)
          have hoi3 : Own w3 B0 bi ci xi := hoi9.below hb3 hoi9.lt
          have hq3 : w3.cell? ⟨g, i, none⟩ = some (Value.slice (some ⟨bi, 0, none⟩) xi.length ci) := (hb3.cell (p := ⟨g, i, none⟩) (Nat.lt_of_lt_of_le hg hB9.size)).trans hq9
          clear hq9 hoi9 hO9 hB9 hb3
          go_wp2_with (at_builtin; refine wpList_append_row rfl _ _ rfl B0 g' c' p w3.heap.size acc (g3, c3, word) _ hp.out rfl rfl hO3 ho3' hne3 rfl rfl (by omega) ?_)
          intro g4 c4 w4 hO9 hg4 hor4
          have hB9 : Below w.heap.size w w4 := hB3.grown hg4 hB3.size (by intro j hj; cases hj; exact hgn)
          have hoi9 : Own w4 B0 bi ci xi := hoi3.grown hg4 (fun e => hO3.1.ne hoi3.toV (by decide) (Option.some.inj e).symm)
          have hgn9 : w.heap.size ≤ g4 := by
            rcases hor4 with h | h
            · omega
            · have := hB3.size; omega
          have hq9 : w4.cell? ⟨g, i, none⟩ = some (Value.slice (some ⟨bi, 0, none⟩) xi.length ci) := hg4.cell (a := ⟨g, i, none⟩) hq3 (by simp; omega)
          have hne9 : ∀ s ∈ acc ++ [(g3, c3, word)], s.1 ≠ bi := fun s hs => by
            rcases List.mem_append.1 hs with h | h
            · exact HneI.out s h
            · simp at h; subst h; show g3 ≠ bi; omega
          have hl9 : (acc ++ [(g3, c3, word)]).length = p + 1 := by rw [List.length_append, hp.out]; rfl
          have Hl9 := Lib.hid hl9
          clear hq3 hoi3 hO3 hB3 hg4 hor4 ho3 ho3' hne3 hl9
          go_wp2_with (at_builtin; refine wpList_append_row rfl _ _ rfl B0 g4 _ (p + 1) w4.heap.size (acc ++ [(g3, c3, word)]) (bi, ci, xi) _ Hl9.out rfl rfl hO9 hoi9 hne9 rfl rfl (by omega) ?_)
          intro g5 c5 w5 hO5 hg5 hor5
          have hB5 : Below w.heap.size w w5 := hB9.grown hg5 hB9.size (by intro j hj; cases hj; exact hgn9)
          have hg5n : w.heap.size ≤ g5 := by
            rcases hor5 with h | h
            · omega
            · have := hB9.size; omega
          go_wp2
          go_roundw
          case rel =>
            refine ⟨i + 1, p + 1 + 1, g5, c5, acc ++ [(g3, c3, word), (bi, ci, xi)], true, by omega, by go_num, by first | rfl | trivial, by first | rfl | trivial, ?_, by omega, ?_, hO5, hg5n, hB5⟩
            · show _ = _
              have := Hl9.out
              simp at this ⊢; omega
            · show PutSt _ _ _ _ _ _
              have := HS'.out [(g3, c3, word)] true (by intro s hs; simp at hs; subst hs; exact hg3) (by rw [hp.out]; simpa using hpi) (by intro e; simp at e) (by simp only [if_true]; rw [Hcd.out]; exact (putL_lt Hv.out)); simpa using this
          case measure => simp [intOf]; omega
        | true =>
          clear Hlen
          go_wp2_with fail
          refine Hcall.out.mono ?_
          rintro e w2 ⟨rfl, hs2⟩
          have hq9 : w2.cell? ⟨g, i, none⟩ = some (Value.slice (some ⟨bi, 0, none⟩) xi.length ci) := (cell_still hs2 _).trans hq'
          have hB9 := below_still hb hs2
          have hO9 := hO.still hs2
          have hoi9 := hoi'.still hs2
          have hgn9 := hgn
          clear hb hO hoi' hq' Hcall hs2
          have hne9 := HneI.out
          go_wp2_with (at_builtin; refine wpList_append_row rfl _ _ rfl B0 g' _ (p) w2.heap.size (acc) (bi, ci, xi) _ hp.out rfl rfl hO9 hoi9 hne9 rfl rfl (by omega) ?_)
          intro g5 c5 w5 hO5 hg5 hor5
          have hB5 : Below w.heap.size w w5 := hB9.grown hg5 hB9.size (by intro j hj; cases hj; exact hgn9)
          have hg5n : w.heap.size ≤ g5 := by
            rcases hor5 with h | h
            · omega
            · have := hB9.size; omega
          go_wp2
          go_roundw
          case rel =>
            refine ⟨i + 1, p + 1, g5, c5, acc ++ [(bi, ci, xi)], true, by omega, by go_num, by first | rfl | trivial, by first | rfl | trivial, ?_, by omega, ?_, hO5, hg5n, hB5⟩
            · show _ = _
              have := hp.out
              simp at this ⊢; omega
            · show PutSt _ _ _ _ _ _
              have := HS'.out [] true (by simp) (by rw [hp.out]; simpa using hpl) (by simp) (by simp only [if_true]; rw [Hcd.out]; rfl); simpa using this
          case measure => simp [intOf]; omega
      · rw [hv] at hcall
        have Hcall := Lib.hid hcall
        have Hv := Lib.hid hv
        clear hcall hv
        cases pl with
        | false =>
          have hpi : p ≤ i := by have := Hlen.out rfl; have := hp.out; omega
          clear Hlen
          go_wp2_with fail
          refine Hcall.out.mono ?_
          rintro e w2 ⟨rfl, hs2⟩
          have hq9 : w2.cell? ⟨g, i, none⟩ = some (Value.slice (some ⟨bi, 0, none⟩) xi.length ci) := (cell_still hs2 _).trans hq'
          have hB9 := below_still hb hs2
          have hO9 := hO.still hs2
          have hoi9 := hoi'.still hs2
          have hgn9 := hgn
          clear hb hO hoi' hq' Hcall hs2
          have hne9 := HneI.out
          go_wp2_with (at_builtin; refine wpList_append_row rfl _ _ rfl B0 g' _ (p) w2.heap.size (acc) (bi, ci, xi) _ hp.out rfl rfl hO9 hoi9 hne9 rfl rfl (by omega) ?_)
          intro g5 c5 w5 hO5 hg5 hor5
          have hB5 : Below w.heap.size w w5 := hB9.grown hg5 hB9.size (by intro j hj; cases hj; exact hgn9)
          have hg5n : w.heap.size ≤ g5 := by
            rcases hor5 with h | h
            · omega
            · have := hB9.size; omega
          go_wp2
          go_roundw
          case rel =>
            refine ⟨i + 1, p + 1, g5, c5, acc ++ [(bi, ci, xi)], true, by omega, by go_num, by first | rfl | trivial, by first | rfl | trivial, ?_, by omega, ?_, hO5, hg5n, hB5⟩
            · show _ = _
              have := hp.out
              simp at this ⊢; omega
            · show PutSt _ _ _ _ _ _
              have := HS'.out [] true (by simp) (by rw [hp.out]; simpa using hpl) (by simp) (by simp only [if_true]; rw [Hcd.out]; exact (putL_eq Hv.out)); simpa using this
          case measure => simp [intOf]; omega
        | true =>
          clear Hlen
          go_wp2_with fail
          refine Hcall.out.mono ?_
          rintro e w2 ⟨rfl, hs2⟩
          have hq9 : w2.cell? ⟨g, i, none⟩ = some (Value.slice (some ⟨bi, 0, none⟩) xi.length ci) := (cell_still hs2 _).trans hq'
          have hB9 := below_still hb hs2
          have hO9 := hO.still hs2
          have hoi9 := hoi'.still hs2
          have hgn9 := hgn
          clear hb hO hoi' hq' Hcall hs2
          have hne9 := HneI.out
          go_wp2_with (at_builtin; refine wpList_append_row rfl _ _ rfl B0 g' _ (p) w2.heap.size (acc) (bi, ci, xi) _ hp.out rfl rfl hO9 hoi9 hne9 rfl rfl (by omega) ?_)
          intro g5 c5 w5 hO5 hg5 hor5
          have hB5 : Below w.heap.size w w5 := hB9.grown hg5 hB9.size (by intro j hj; cases hj; exact hgn9)
          have hg5n : w.heap.size ≤ g5 := by
            rcases hor5 with h | h
            · omega
            · have := hB9.size; omega
          go_wp2
          go_roundw
          case rel =>
            refine ⟨i + 1, p + 1, g5, c5, acc ++ [(bi, ci, xi)], true, by omega, by go_num, by first | rfl | trivial, by first | rfl | trivial, ?_, by omega, ?_, hO5, hg5n, hB5⟩
            · show _ = _
              have := hp.out
              simp at this ⊢; omega
            · show PutSt _ _ _ _ _ _
              have := HS'.out [] true (by simp) (by rw [hp.out]; simpa using hpl) (by simp) (by simp only [if_true]; rw [Hcd.out]; rfl); simpa using this
          case measure => simp [intOf]; omega
      · rw [hv] at hcall
        have Hcall := Lib.hid hcall
        have Hv := Lib.hid hv
        clear hcall hv
        cases pl with
        | false =>
          have hpi : p ≤ i := by have := Hlen.out rfl; have := hp.out; omega
          clear Hlen
          go_wp2_with fail
          refine Hcall.out.mono ?_
          rintro e w2 ⟨rfl, hs2⟩
          have hq9 : w2.cell? ⟨g, i, none⟩ = some (Value.slice (some ⟨bi, 0, none⟩) xi.length ci) := (cell_still hs2 _).trans hq'
          have hB9 := below_still hb hs2
          have hO9 := hO.still hs2
          have hoi9 := hoi'.still hs2
          have hgn9 := hgn
          clear hb hO hoi' hq' Hcall hs2
          have hne9 := HneI.out
          go_wp2_with (at_builtin; refine wpList_append_row rfl _ _ rfl B0 g' _ (p) w2.heap.size (acc) (bi, ci, xi) _ hp.out rfl rfl hO9 hoi9 hne9 rfl rfl (by omega) ?_)
          intro g5 c5 w5 hO5 hg5 hor5
          have hB5 : Below w.heap.size w w5 := hB9.grown hg5 hB9.size (by intro j hj; cases hj; exact hgn9)
          have hg5n : w.heap.size ≤ g5 := by
            rcases hor5 with h | h
            · omega
            · have := hB9.size; omega
          go_wp2
          go_roundw
          case rel =>
            refine ⟨i + 1, p + 1, g5, c5, acc ++ [(bi, ci, xi)], false, by omega, by go_num, by first | rfl | trivial, by first | rfl | trivial, ?_, by omega, ?_, hO5, hg5n, hB5⟩
            · show _ = _
              have := hp.out
              simp at this ⊢; omega
            · show PutSt _ _ _ _ _ _
              have := HS'.out [] false (by simp) (by rw [hp.out]; simpa using hpl) (by simp) (by rw [Hcd.out]; exact (putL_gt Hv.out)); simpa using this
          case measure => simp [intOf]; omega
        | true =>
          clear Hlen
          go_wp2_with fail
          refine Hcall.out.mono ?_
          rintro e w2 ⟨rfl, hs2⟩
          have hq9 : w2.cell? ⟨g, i, none⟩ = some (Value.slice (some ⟨bi, 0, none⟩) xi.length ci) := (cell_still hs2 _).trans hq'
          have hB9 := below_still hb hs2
          have hO9 := hO.still hs2
          have hoi9 := hoi'.still hs2
          have hgn9 := hgn
          clear hb hO hoi' hq' Hcall hs2
          have hne9 := HneI.out
          go_wp2_with (at_builtin; refine wpList_append_row rfl _ _ rfl B0 g' _ (p) w2.heap.size (acc) (bi, ci, xi) _ hp.out rfl rfl hO9 hoi9 hne9 rfl rfl (by omega) ?_)
          intro g5 c5 w5 hO5 hg5 hor5
          have hB5 : Below w.heap.size w w5 := hB9.grown hg5 hB9.size (by intro j hj; cases hj; exact hgn9)
          have hg5n : w.heap.size ≤ g5 := by
            rcases hor5 with h | h
            · omega
            · have := hB9.size; omega
          go_wp2
          go_roundw
          case rel =>
            refine ⟨i + 1, p + 1, g5, c5, acc ++ [(bi, ci, xi)], true, by omega, by go_num, by first | rfl | trivial, by first | rfl | trivial, ?_, by omega, ?_, hO5, hg5n, hB5⟩
            · show _ = _
              have := hp.out
              simp at this ⊢; omega
            · show PutSt _ _ _ _ _ _
              have := HS'.out [] true (by simp) (by rw [hp.out]; simpa using hpl) (by simp) (by simp only [if_true]; rw [Hcd.out]; rfl); simpa using this
          case measure => simp [intOf]; omega
    · obtain rfl : i = rs.length := by omega
      cases pl with
      | true =>
        go_wp2_with fail
        go_ret
        have hd := hst.out.done
        exact GotPut.mk' g' c' acc hp.out hd hO hgn hb
      | false =>
        go_wp2_with (at_builtin; refine wpList_clone (w := wr) rfl _ _ rfl g1 o1 _ c1 word rfl (Nat.lt_of_lt_of_le hg1 hb.size) (hc1.below hb hg1) rfl rfl (by omega) ?_)
        intro g3 c3 w3 ho3 hb3
        have hB3 : Below w.heap.size w w3 := hb.trans (hb3.mono hb.size)
        have hO3 : OwnRows w3 B0 g' c' acc := hO.below hb3
        have hne3 : ∀ s ∈ acc, s.1 ≠ g3 := fun s hs e => by
          have h1 := (hO.2.1 s hs).lt
          have h2 := ho3.base
          omega
        have ho3' : Own w3 B0 g3 c3 word := ho3.mono (by have := hb.size; omega)
        go_wp2_with (at_builtin; refine wpList_append_row rfl _ _ rfl B0 g' c' p w3.heap.size acc (g3, c3, word) _ hp.out rfl rfl hO3 ho3' hne3 rfl rfl (by omega) ?_)
        intro g4 c4 w4 hO4 hg4 hor4
        have hB4 : Below w.heap.size w w4 := hB3.grown hg4 hB3.size (by intro j hj; cases hj; exact hgn)
        have hg4n : w.heap.size ≤ g4 := by
          rcases hor4 with h | h
          · omega
          · have := hB3.size; omega
        go_wp2_with fail
        go_ret
        have hd := hst.out.last (g3, c3, word) rfl
        exact GotPut.mk' g4 c4 (acc ++ [(g3, c3, word)]) (by rw [List.length_append, hp.out]; rfl) hd hO4 hg4n hB4
end Go.Proofs.YtkjglfafphffiaaGreat
