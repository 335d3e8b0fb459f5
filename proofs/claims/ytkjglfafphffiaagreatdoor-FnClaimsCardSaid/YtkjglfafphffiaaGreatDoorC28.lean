/- RwS Que -/
import Derived.Test.YtkjglfafphffiaaGreatDoorC27
import Derived.Test.YtkjglfafphffiaaGreatDoorC15
import Derived.Test.YtkjglfafphffiaaGreatDoorC07
import Derived.Test.YtkjglfafphffiaaGreatDoorC03
namespace Go.Proofs.YtkjglfafphffiaaGreatDoor
set_option maxRecDepth 100000
open Go.RowKit Game
theorem rows_one {w : World} {B g cap : Nat} {xs : List Int} (h : Own w B g cap xs) (hB : B ≤ w.heap.size) :
    OwnRows (w.alloc (.cells #[(Value.slice (some ⟨g, 0, none⟩) xs.length cap)] 25)) B w.heap.size 1 [(g, cap, xs)] := by
  have h2 : OwnV (w.alloc (.cells #[(Value.slice (some ⟨g, 0, none⟩) xs.length cap)] 25)) B 25 w.heap.size 1 [(Value.slice (some ⟨g, 0, none⟩) xs.length cap)] := OwnV.new (w := w) (B := B) (E := 25) (Value.slice (some ⟨g, 0, none⟩) xs.length cap) rfl hB
  exact ⟨h2, ⟨fun r hr => by rw [List.mem_singleton] at hr; subst hr; exact h.alloc _, by simp⟩⟩
theorem OwnRows.at {w : World} {B g cap : Nat} {rs : List RowRef} (h : OwnRows w B g cap rs) {k : Nat} (hk : k < rs.length) :
    ∃ gj cj, w.cell? ⟨g, k, none⟩ = some (Value.slice (some ⟨gj, 0, none⟩) (((contents rs).getD k []).length) cj) ∧ Own w B gj cj ((contents rs).getD k []) := by
  have e : (contents rs).getD k [] = rs[k].2.2 := by simp [contents, List.getD, hk]
  refine ⟨rs[k].1, rs[k].2.1, ?_, ?_⟩
  · rw [h.1.cell k (by simpa using hk), e]
    simp [rowVal]
  · rw [e]; exact h.2.1 _ (List.getElem_mem hk)
set_option maxHeartbeats 1000000 in
theorem spec_ReducedWords_any (gc oc n cc g o m cp : Nat) (c : List (List Int)) (v : List Int) (w : World) (hn : c.length = n) (hm : v.length = m) (hx : c.length ≤ 1048576) (hrl : ∀ j, j < c.length → (c.getD j []).length ≤ 1048576) (hl : v.length ≤ 1048576)
    (hgc : gc < w.heap.size) (hg : g < w.heap.size) (hr : Rows2 w gc oc c) (hv : Cells w g o v) :
    Calls Tryz.prog 132 #[(Value.slice (some ⟨gc, oc, none⟩) n cc), (Value.slice (some ⟨g, o, none⟩) m cp)] w (GotRowsB w (rwL c v) (rwB c v)) := by
  have kN := spec_NormalForm_any gc oc n cc g o m cp c v w hn hm hx hrl hl hgc hg hr hv
  cases hw : isWordB c v with
  | false =>
    rw [hw] at kN
    have e1 : rwL c v = [] := by unfold rwL; rw [if_neg (by rw [hw]; decide)]
    have e2 : rwB c v = false := by unfold rwB; rw [hw]; rfl
    rw [e1, e2]
    have KN := Lib.hid kN
    clear kN hr hv e1 e2 hw
    go_enter Tryz.func132, Tryz.ntmps132
    go_wp2_with fail
    refine KN.out.mono ?_
    rintro e w1 ⟨g1, c1, rfl, ho1, hb1⟩
    go_wp2_with fail
    go_ret2
    exact ⟨_, 0, [], rfl, rfl, OwnRows.empty hb1.size, hb1.alloc hb1.size _⟩
  | true =>
  rw [hw] at kN
  have hA := wordOk_of hw
  have hU := nw_nf hA
  have hC := hA.isC
  have hn4 := hC.2.1
  have hcl := hC.2.2.1
  rw [show nfA c v = nfI c v from if_pos hw] at kN
  have e1 : rwL c v = if (wordsL c (nfI c v)).length ≤ 120 then wordsL c (nfI c v) else [] := by unfold rwL; rw [if_pos hw]
  have e2 : rwB c v = decide ((wordsL c (nfI c v)).length ≤ 120) := by unfold rwB; rw [hw, Bool.true_and]
  rw [e1, e2]
  obtain ⟨R, hR⟩ : ∃ R, (if (wordsL c (nfI c v)).length ≤ 120 then wordsL c (nfI c v) else []) = R := ⟨_, rfl⟩
  obtain ⟨Bv, hBv⟩ : ∃ b, decide ((wordsL c (nfI c v)).length ≤ 120) = b := ⟨_, rfl⟩
  rw [hR, hBv]
  have HR := Lib.hid hR; have HBv := Lib.hid hBv
  clear hR hBv
  generalize nfI c v = U at *
  have hU15 := hU.lets.few
  obtain ⟨lu, hlu⟩ : ∃ l, U.length = l := ⟨_, rfl⟩
  have HOne := Lib.hid (RwOk.one hU)
  have kP := Lib.hid (fun (u : List Int) (hu : u.length = lu) (W : World) (B gj cj : Nat) (hb : Below w.heap.size w W) (ho : Own W B gj cj u) => spec_BraidPlaces_any gc oc n cc gj 0 lu cj c u W hn hu (by omega) (fun j hj => by have := hcl j hj; omega) (by omega) ho.capLe (Nat.lt_of_lt_of_le hgc hb.size) ho.lt (hr.below hb hgc) ho.cells)
  have kB := Lib.hid (fun (u : List Int) (hu : u.length = lu) (x : Int) (hx : 0 ≤ x ∧ x < 16) (W : World) (B gj cj : Nat) (hb : Below w.heap.size w W) (ho : Own W B gj cj u) => spec_BraidAt_any gc oc n cc gj 0 lu cj x c u W hn hu (by omega) (fun j hj => by have := hcl j hj; omega) (by omega) ho.capLe ⟨by omega, by omega⟩ (Nat.lt_of_lt_of_le hgc hb.size) ho.lt (hr.below hb hgc) ho.cells)
  have HU := Lib.hid hU; have KN := Lib.hid kN; have Hlu := Lib.hid hlu
  have hlu15 : lu ≤ 15 := by omega
  clear kN hr hv hA hC hcl hw e1 e2 hU hlu hU15 hx hrl hl
  go_enter Tryz.func132, Tryz.ntmps132
  go_wp2_with fail
  refine KN.out.mono ?_
  rintro e w1 ⟨g1, c1, rfl, ho1, hb1⟩
  rw [Hlu.out]
  have d15 : ¬ (15 : Int) < (lu : Int) := by omega
  have hO1 := rows_one ho1 hb1.size
  rw [Hlu.out] at hO1
  have hB1 : Below w.heap.size w (w1.alloc (.cells #[(Value.slice (some ⟨g1, 0, none⟩) lu c1)] 25)) := hb1.alloc hb1.size _
  have HO1 := Lib.hid hO1
  clear ho1 hb1 hO1 KN
  go_wp2_with fail
  go_loopw [8, 9] (fun qv kv wr => ∃ (k gQ cQ m : Nat) (rs : List RowRef) (Q : List (List Int)), kv = .int .i64 k ∧ qv = (Value.slice (some ⟨gQ, 0, none⟩) m cQ) ∧ k ≤ m ∧ m ≤ 120 ∧ Hid (rs.length = m) ∧ Hid (Q.length = m) ∧ Hid (contents rs = Q) ∧ Hid (RwOk c U Q) ∧ Hid (RwDone c Q k) ∧ OwnRows wr w.heap.size gQ cQ rs ∧ Below w.heap.size w wr) (fun _ kv _ => 121 - (intOf kv).toNat)
  case atStart => exact ⟨0, w1.heap.size, 1, 1, [(g1, c1, U)], [U], rfl, rfl, by omega, by omega, rfl, rfl, rfl, HOne.out, fun j hj => absurd hj (by omega), HO1.out, hB1⟩
  case round =>
    clear hB1 HO1 HOne
    obtain ⟨k, gQ, cQ, m, rs, Q, rfl, rfl, hkm, hm120, hrl, hQl, hcon, hok, hdone, hO, hb⟩ := hrel
    by_cases hlt : k < m
    · have hkr : k < rs.length := by rw [hrl.out]; exact hlt
      have hkQ : k < Q.length := by rw [hQl.out]; exact hlt
      obtain ⟨gj, cj, q1, q2⟩ := hO.at hkr
      rw [hcon.out] at q1 q2
      have hku := hok.out.red _ (show Q.getD k [] ∈ Q by simp [List.getD, hkQ])
      obtain ⟨u, hu⟩ : ∃ u, Q.getD k [] = u := ⟨_, rfl⟩
      rw [hu] at q1 q2 hku
      have hul : u.length = lu := hku.len.trans Hlu.out
      rw [hul] at q1
      have hcall := Lib.hid (kP.out u hul wr _ gj cj hb q2)
      have Hku := Lib.hid hku
      have hmem := fun (x : Int) (hx : x ∈ placesL c u) => placesL_mem hx
      have htl : (placesL c u).length ≤ 15 := by have := placesTo_len c u u.length; unfold placesL; omega
      obtain ⟨t, ht⟩ : ∃ t, (placesL c u).length = t := ⟨_, rfl⟩
      rw [ht] at htl
      have Ht := Lib.hid ht; have Hmem := Lib.hid hmem; have Hu := Lib.hid hu
      have HO := Lib.hid hO
      have kBu := Lib.hid (kB.out u hul)
      have Hul := Lib.hid hul
      clear hku hmem ht hu hul q2 hO
      go_wp2_with fail
      refine hcall.out.mono ?_
      rintro e w2 ⟨gL, cL, rfl, hoL, hb2⟩
      rw [Ht.out]
      have hB2 := hb.trans (hb2.mono hb.size)
      have hO2 := HO.out.below hb2
      have hLQ : gL ≠ gQ := by have h1 := hoL.base; have h2 := HO.out.lt; omega
      have hoL2 := hoL.mono hb.size
      clear q1 hb hb2 hoL HO hcall hkr hkQ
      go_wp2_with fail
      go_loopw [8, 11] (fun qv sv wx => ∃ (s gQ cQ m : Nat) (rs : List RowRef) (Q : List (List Int)), sv = .int .i64 s ∧ qv = (Value.slice (some ⟨gQ, 0, none⟩) m cQ) ∧ s ≤ t ∧ k < m ∧ m ≤ 120 ∧ gL ≠ gQ ∧ Hid (rs.length = m) ∧ Hid (Q.length = m) ∧ Hid (contents rs = Q) ∧ Hid (Q.getD k [] = u) ∧ Hid (RwOk c U Q) ∧ Hid (RwDone c Q k) ∧ Hid (RwRow c Q u s) ∧ OwnRows wx w.heap.size gQ cQ rs ∧ Own wx w.heap.size gL cL (placesL c u) ∧ Below w.heap.size w wx) (fun _ sv _ => t - (intOf sv).toNat)
      case atStart => exact ⟨0, gQ, cQ, m, rs, Q, rfl, rfl, Nat.zero_le _, hlt, hm120, hLQ, hrl.out, hQl.out, hcon.out, Hu.out, hok.out, hdone.out, fun j hj => absurd hj (by omega), hO2, hoL2, hB2⟩
      case round =>
        clear hO2 hoL2 hB2 hLQ hrl hQl hcon Hu hok hdone hlt hm120 hkm
        obtain ⟨s, gQ, cQ, m, rs, Q, rfl, rfl, hst, hkm, hm120, hLQ, hrl, hQl, hcon, Hu, hok, hdone, hrow, hO, hoL, hb⟩ := hrel
        have hkr : k < rs.length := by rw [hrl.out]; exact hkm
        by_cases hlt : s < t
        · obtain ⟨gj, cj, q1, q2⟩ := hO.at hkr
          rw [hcon.out, Hu.out] at q1 q2
          rw [Hul.out] at q1
          have qn := hoL.cell s (by rw [Ht.out]; exact hlt)
          have hxm := Hmem.out ((placesL c u).getD s 0) (getD_memI (by rw [Ht.out]; exact hlt))
          have hnext : (braidA c u ((placesL c u).getD s 0)).getD u ∈ Q → RwRow c Q u (s + 1) := fun h => hrow.out.next h
          have hnew : ∀ Q', RwRow c Q' u s → (braidA c u ((placesL c u).getD s 0)).getD u ∈ Q' → RwRow c Q' u (s + 1) := fun Q' h1 h2 => h1.next h2
          have hLX := Lib.hid (fun (W : World) (ho : Own W w.heap.size gL cL (placesL c u)) => ho.cell s (by rw [Ht.out]; exact hlt))
          generalize (placesL c u).getD s 0 = x at *
          have hred : RedOf c U ((braidA c u x).getD u) := by
            obtain ⟨z, hz⟩ := Option.isSome_iff_exists.1 hxm.2
            rw [hz]
            exact Hku.out.braid hz
          have hx16 : 0 ≤ x ∧ x < 16 := ⟨hxm.1.1, by have := hxm.1.2; have := Hul.out; omega⟩
          have qnR : wr.drew.cell? ⟨gL, s, none⟩ = some (.int .i64 x) := qn
          have q1R : wr.drew.cell? ⟨gQ, k, none⟩ = some (Value.slice (some ⟨gj, 0, none⟩) lu cj) := q1
          have q2R : Own wr.drew w.heap.size gj cj u := q2
          have kBR := Lib.hid (kBu.out x hx16 wr.drew _ gj cj (Below.drew hb) q2R)
          generalize (braidA c u x).getD u = y at *
          have hyl : y.length = lu := hred.len.trans Hlu.out
          have kI := Lib.hid (fun (W : World) (gY cY B : Nat) (hOW : OwnRows W w.heap.size gQ cQ rs) (hoY : Own W B gY cY y) => spec_l7In_any gQ 0 m cQ gY 0 lu cY Q y W hQl.out hyl (by rw [hQl.out]; omega) (fun j hj => by
            have h1 := hok.out.red (Q.getD j []) (by simp [List.getD, hj])
            have h2 := h1.len
            have h3 := Hlu.out
            omega) (by have := hOW.rows2; rw [hcon.out] at this; exact this) hoY.cells)
          have Hyl := Lib.hid hyl; have Hred := Lib.hid hred; have Hnext := Lib.hid hnext; have Hnew := Lib.hid hnew
          have HO := Lib.hid hO; have HL := Lib.hid hoL; have HB := Lib.hid hb
          have b1 : (0 : Int) ≤ (s : Int) := by omega
          have b2 : (s : Int) < (t : Int) := by omega
          have b3 : (0 : Int) ≤ (k : Int) := by omega
          have b4 : (k : Int) < (m : Int) := by omega
          clear q1 q2 q2R qn hO hoL hb hyl hred hnext hnew hxm hx16 hkr
          go_wp2_with fail
          go_region_held3 (fun W => W.cell? ⟨gQ, k, none⟩ = some (Value.slice (some ⟨gj, 0, none⟩) lu cj) ∧ W.cell? ⟨gL, s, none⟩ = some (.int .i64 x))
            (first | exact ⟨q1R, qnR⟩ | exact ⟨keepCell hbA q1R, keepCell hbA qnR⟩)
            (first
              | (go_at_call 114; refine kBR.out.mono ?_; rintro e wA ⟨gY, cY, rfl, hoY, hbA⟩; rw [Hyl.out]))
          have hBA := (Below.drew HB.out).trans (hbA.mono (Below.drew HB.out).size)
          have hOA : OwnRows wA w.heap.size gQ cQ rs := OwnRows.below (w := wr.drew) (HO.out.drewN 1) hbA
          have hLA : Own wA w.heap.size gL cL (placesL c u) := Own.below (w := wr.drew) HL.out hbA HL.out.lt
          have hYQ : gY ≠ gQ := by have h1 : wr.heap.size ≤ gY := hoY.base; have h2 := HO.out.lt; omega
          have hYL : gY ≠ gL := by have h1 : wr.heap.size ≤ gY := hoY.base; have h2 := HL.out.lt; omega
          have hYR : ∀ r ∈ rs, r.1 ≠ gY := fun r hr e => by have h1 : wr.heap.size ≤ gY := hoY.base; have h2 := (HO.out.2.1 r hr).lt; omega
          have HYR := Lib.hid hYR
          have kIA := Lib.hid (kI.out wA gY cY _ hOA hoY)
          have hoYw := hoY.mono (show w.heap.size ≤ wr.drew.heap.size from HB.out.size)
          clear HB HO HL qnR q1R kBR hbA kI hoY hYR
          by_cases hin : y ∈ Q
          · rw [decide_eq_true hin] at kIA
            have hr2 := Lib.hid (Hnext.out hin)
            clear hin Hnext Hnew
            go_wp2_with fail
            refine kIA.out.mono ?_
            rintro e wC ⟨rfl, hsC⟩
            have hBC := below_still hBA hsC
            have hOC := hOA.still hsC; have hLC := hLA.still hsC
            clear hBA hOA hLA hsC hoYw kIA
            go_wp2_with fail
            go_roundw
            case rel => exact ⟨s + 1, gQ, cQ, m, rs, Q, by go_num, rfl, by omega, hkm, hm120, hLQ, hrl.out, hQl.out, hcon.out, Hu.out, hok.out, hdone.out, hr2.out, hOC, hLC, hBC⟩
            case measure => simp [intOf]; omega
          · rw [decide_eq_false hin] at kIA
            by_cases hfull : m < 120
            · have bm : ¬ (120 : Int) ≤ (m : Int) := by omega
              have hok2 := Lib.hid (hok.out.new Hred.out hin)
              have hdone2 := Lib.hid (hdone.out.new (by rw [hQl.out]; omega) y)
              have hrow2 := Lib.hid (Hnew.out (Q ++ [y]) (hrow.out.new y) (by simp))
              have hu2 : Hid ((Q ++ [y]).getD k [] = u) := Lib.hid (by simp only [List.getD]; rw [List.getElem?_append_left (by rw [hQl.out]; exact hkm)]; exact Hu.out)
              have hq2 : Hid ((Q ++ [y]).length = m + 1) := Lib.hid (by rw [List.length_append, hQl.out]; rfl)
              clear hin Hnext Hnew hok hdone hrow
              go_wp2_with fail
              refine kIA.out.mono ?_
              rintro e wC ⟨rfl, hsC⟩
              have hBC := below_still hBA hsC
              have hOC := hOA.still hsC; have hLC := hLA.still hsC; have hYC := hoYw.still hsC
              clear hBA hOA hLA hsC hoYw kIA
              go_wp2_with (at_builtin; refine wpList_append_row (w := wC) rfl _ _ rfl w.heap.size gQ cQ m wC.heap.size rs (gY, cY, y) _ hrl.out (by unfold rowVal; rw [Hyl.out]) rfl hOC hYC HYR.out rfl rfl (by omega) ?_)
              intro gQ2 cQ2 w4 hO4 hg4 hor4
              have hB4 : Below w.heap.size w w4 := hBC.grown hg4 hBC.size (by intro z hz; cases hz; exact hOC.base)
              have hL4 := hLC.grown hg4 (by intro e; cases e; exact hLQ rfl)
              have hLQ4 : gL ≠ gQ2 := by have := hLC.lt; rcases hor4 with rfl | q; exact hLQ; omega
              have hr4 : Hid ((rs ++ [(gY, cY, y)]).length = m + 1) := Lib.hid (by rw [List.length_append, hrl.out]; rfl)
              have hc4 : Hid (contents (rs ++ [(gY, cY, y)]) = Q ++ [y]) := Lib.hid (by rw [contents_push, hcon.out])
              clear hOC hBC hLC hYC hg4 hor4
              go_wp2_with fail
              go_roundw
              case rel => exact ⟨s + 1, gQ2, cQ2, m + 1, _, Q ++ [y], by go_num, rfl, by omega, by omega, by omega, hLQ4, hr4.out, hq2.out, hc4.out, hu2.out, hok2.out, hdone2.out, hrow2.out, hO4, hL4, hB4⟩
              case measure => simp [intOf]; omega
            · have bm : (120 : Int) ≤ (m : Int) := by omega
              have hov := hok.out.over HU.out Hred.out hin
              have h1 : ¬ (wordsL c U).length ≤ 120 := by have := hQl.out; omega
              have H1 := Lib.hid h1
              clear hin Hnext Hnew hov h1
              go_wp2_with fail
              refine kIA.out.mono ?_
              rintro e wC ⟨rfl, hsC⟩
              have hBC := below_still hBA hsC
              clear hBA hOA hLA hsC hoYw kIA
              go_wp2_with fail
              go_ret2
              rw [← HR.out, ← HBv.out, if_neg H1.out, decide_eq_false H1.out]
              exact ⟨_, 0, [], rfl, rfl, OwnRows.empty hBC.size, hBC.alloc hBC.size _⟩
        · obtain rfl : s = t := by omega
          have hd2 := Lib.hid (hdone.out.next (by rw [Hu.out, Ht.out]; exact hrow.out))
          clear hoL hrow
          go_wp2_with fail
          go_roundw
          case rel => exact ⟨k + 1, gQ, cQ, m, rs, Q, by go_num, rfl, by omega, hm120, hrl.out, hQl.out, hcon.out, hok.out, hd2.out, hO, hb⟩
          case measure => simp [intOf]; omega
    · obtain rfl : k = m := by omega
      have hd := hdone.out
      rw [show k = Q.length from hQl.out.symm] at hd
      have h1 : (wordsL c U).length ≤ 120 := by rw [hok.out.full HU.out hd, hQl.out]; exact hm120
      have hput := hok.out.put HU.out hd
      rw [hQl.out] at hput
      have hlens : ∀ j, j < k → (Q.getD j []).length = lu := fun j hj => (hok.out.red _ (by simp [List.getD, show j < Q.length by rw [hQl.out]; exact hj])).len.trans Hlu.out
      have H1 := Lib.hid h1; have Hput := Lib.hid hput; have Hlens := Lib.hid hlens
      have hpl := fun t (ht : t ≤ k) => putAll_len Q t (by rw [hQl.out]; exact ht)
      have Hpl := Lib.hid hpl
      have hps := fun t (ht : t < k) => putAll_succ (Q := Q) (k := t) (by rw [hQl.out]; exact ht)
      have Hps := Lib.hid hps
      have HO := Lib.hid hO
      have hE0 : OwnRows (wr.alloc (.cells #[] 25)) w.heap.size wr.heap.size 0 [] := OwnRows.empty hb.size
      have hBE : Below w.heap.size w (wr.alloc (.cells #[] 25)) := hb.alloc hb.size _
      have bE := (Below.refl wr.heap.size wr).alloc (Nat.le_refl _) (.cells #[] 25)
      have hOE := HO.out.below bE
      have hneE : gQ ≠ wr.heap.size := by have := HO.out.lt; omega
      clear hd h1 hput hlens hpl hps hok hdone hO HO hb bE
      go_wp2_with fail
      go_loopw [14, 15] (fun ov iv wx => ∃ (i go' co mo : Nat) (ro : List RowRef), iv = .int .i64 i ∧ ov = (Value.slice (some ⟨go', 0, none⟩) mo co) ∧ i ≤ k ∧ Hid (ro.length = mo) ∧ Hid (contents ro = putAll Q i) ∧ OwnRows wx w.heap.size go' co ro ∧ OwnRows wx w.heap.size gQ cQ rs ∧ Below w.heap.size w wx) (fun _ iv _ => k - (intOf iv).toNat)
      case atStart => exact ⟨0, wr.heap.size, 0, 0, [], rfl, rfl, Nat.zero_le _, rfl, rfl, hE0, hOE, hBE⟩
      case round =>
        clear hE0 hOE hBE hneE
        obtain ⟨i, go', co, mo, ro, rfl, rfl, hik, hro, hco, hOo, hOQ, hb⟩ := hrel
        have hml : mo ≤ 120 := by
          have := Hpl.out i hik
          rw [← hco.out, contents_length, hro.out] at this
          omega
        by_cases hlt2 : i < k
        · obtain ⟨gj, cj, q1, q2⟩ := hOQ.at (k := i) (by rw [hrl.out]; exact hlt2)
          rw [hcon.out] at q1 q2
          have hjl := Hlens.out i hlt2
          have hsucc := Hps.out i hlt2
          generalize Q.getD i [] = z at *
          rw [hjl] at q1
          have hcall := Lib.hid (spec_l11Put_any w.heap.size go' co mo gj 0 lu cj ro z wr hro.out hjl (by rw [hro.out]; omega) (by rw [hjl]; omega) hOo q2.lt q2.cells)
          have Hsucc := Lib.hid hsucc; have HOQ := Lib.hid hOQ; have HB := Lib.hid hb
          clear hjl hsucc q2 hOo hOQ hb
          go_wp2_with fail
          refine hcall.out.mono ?_
          rintro e w6 ⟨g6, c6, ro6, rfl, hc6, hO6, hg6, hb6⟩
          have hB6 := HB.out.trans (hb6.mono HB.out.size)
          have hQ6 := HOQ.out.below hb6
          have hr6 : Hid (ro6.length = (putL (contents ro) z).length) := Lib.hid (by rw [← hc6, contents_length])
          have hc6' : Hid (contents ro6 = putAll Q (i + 1)) := Lib.hid (by rw [Hsucc.out, ← hco.out]; exact hc6)
          clear hcall HB HOQ hb6 hc6 hg6
          generalize (putL (contents ro) z).length = mo6 at *
          go_wp2_with fail
          go_roundw
          case rel => exact ⟨i + 1, g6, c6, mo6, ro6, by go_num, rfl, by omega, hr6.out, hc6'.out, hO6, hQ6, hB6⟩
          case measure => simp [intOf]; omega
        · obtain rfl : i = k := by omega
          have hcc := hco.out
          rw [Hput.out] at hcc
          have Hcc := Lib.hid hcc
          clear hcc
          go_wp2_with fail
          go_ret2
          rw [← HR.out, ← HBv.out, if_pos H1.out, decide_eq_true H1.out]
          exact GotRowsB.mk' go' co ro hro.out Hcc.out hOo hb
end Go.Proofs.YtkjglfafphffiaaGreatDoor
namespace Go.Proofs.YtkjglfafphffiaaGreatDoor
set_option maxRecDepth 100000
open Go.RowKit
theorem run_append_rowC {w : World} {B g cap : Nat} {vs : List Value} (hown : OwnV w B 25 g cap vs) (v : Value) (hv : v.oneCell' = true) (hlen : vs.length + 1 ≤ 1048576) (ty : TypeId) :
    ∃ g' cap' w', (Builtin.append_ #[24, 24] ty #[(Value.slice (some ⟨g, 0, none⟩) vs.length cap), (Value.slice (some ⟨w.heap.size, 0, none⟩) 1 1)]).run Tryz.prog (w.alloc (.cells #[v] 25)) = .ok (Value.slice (some ⟨g', 0, none⟩) (vs.length + 1) cap') w' ∧
      OwnV w' B 25 g' cap' (vs ++ [v]) ∧ w.grownBy w' (some g) ∧ (g' = g ∨ w.heap.size < g') ∧ (∀ j, j < vs.length → w'.cell? ⟨g, j, none⟩ = some (vs.getD j undef)) := by
  obtain ⟨i0, hi, hz0, hz1, hz2⟩ := info_parts infoRow
  have hBg := hown.base
  have hlt := hown.lt
  have hown' : OwnV (w.alloc (.cells #[v] 25)) B 25 g cap vs := hown.alloc _
  have hcell : (w.alloc (.cells #[v] 25)).cell? ⟨w.heap.size, 0, none⟩ = some v := (OwnV.new (B := w.heap.size) v hv (Nat.le_refl _)).cell 0 (by simp)
  have hnews : ∀ j u, ([v] : List Value)[j]? = some u → (w.alloc (.cells #[v] 25)).cell? ((⟨w.heap.size, 0, none⟩ : Addr).add j) = some u := by
    intro j u hu
    have hj : j = 0 := by have := (List.getElem?_eq_some_iff.1 hu).1; simp at this; exact this
    subst hj
    simp at hu; subst hu
    rw [Addr.add_lit]; exact hcell
  have h1 : ∀ u ∈ ([v] : List Value), u.oneCell' = true := by simp [hv]
  have hl : ([v] : List Value).length = 1 * i0.size := by simp [hz1]
  obtain ⟨v', w', hr, ho, hg, -⟩ := run_append_own (P := Tryz.prog) (w.alloc (.cells #[v] 25)) B 24 ty 25 i0 (.slice none 0 0) 1 24 Tryz.underlying24 hi hz0 hz1 hz2 rfl (by decide) _ vs.length _ hown' ⟨w.heap.size, 0, none⟩ 1 1
    [v] (by simp) hnews h1 (by unfold maxLen; omega) (by omega) (by simp; omega)
  have hgr : w.grownBy w' (some g) := ⟨hg.os, hg.tape, hg.output, Nat.le_trans (by simp) hg.size, fun k hk hne => (hg.block k (by simp; omega) hne).trans (Below.heap_alloc _ _ _ hk)⟩
  have fin : ∀ g' cap', v' = (Value.slice (some ⟨g', 0, none⟩) (vs.length + 1) cap') → (g' = g ∨ w.heap.size < g') → (∀ j, j < vs.length → w'.cell? ⟨g, j, none⟩ = some (vs.getD j undef)) → ∃ g' cap' w', (Builtin.append_ #[24, 24] ty #[(Value.slice (some ⟨g, 0, none⟩) vs.length cap), (Value.slice (some ⟨w.heap.size, 0, none⟩) 1 1)]).run Tryz.prog (w.alloc (.cells #[v] 25)) = .ok (Value.slice (some ⟨g', 0, none⟩) (vs.length + 1) cap') w' ∧
      OwnV w' B 25 g' cap' (vs ++ [v]) ∧ w.grownBy w' (some g) ∧ (g' = g ∨ w.heap.size < g') ∧ (∀ j, j < vs.length → w'.cell? ⟨g, j, none⟩ = some (vs.getD j undef)) := by
    intro g' cap' hv' hor hcs
    subst hv'
    refine ⟨g', cap', w', hr, ?_, hgr, hor, hcs⟩
    unfold OwnV
    rw [List.length_append]
    exact ho
  by_cases hroom : vs.length + 1 ≤ cap
  · rcases hown'.2 with ⟨h', _⟩ | ⟨g1, cap1, cur, hv', hb, hh, hn, hm, hs, htk⟩
    · simp at h'
    simp only [Value.slice.injEq, Option.some.injEq, Addr.mk.injEq, and_true, true_and] at hv'
    obtain ⟨rfl, rfl⟩ := hv'
    have hr2 := run_append_room (P := Tryz.prog) (w.alloc (.cells #[v] 25)) 24 ty 25 i0 Tryz.underlying24 hi g vs.length cap cur hh ⟨w.heap.size, 0, none⟩ 1 1 [v] hl hnews h1 hroom (by rw [hz1] at *; simp; omega)
    rw [hr2] at hr
    simp only [Result.ok.injEq] at hr
    refine fin g cap hr.1.symm (.inl rfl) fun j hj => ?_
    have hv2 := hr.1
    rw [← hv2] at ho
    have ho' : OwnV w' B 25 g cap (vs ++ [v]) := by unfold OwnV; rw [List.length_append]; exact ho
    rw [ho'.cell j (by simp; omega)]
    simp [List.getD, hj, List.getElem_append_left]
  · have hr2 := run_append_grow (P := Tryz.prog) (w.alloc (.cells #[v] 25)) 24 ty 25 i0 (.slice none 0 0) Tryz.underlying24 hi hz0 ⟨g, 0, none⟩ vs.length cap vs (by simp [hz1]) (World.ownsRow.cells hown' rfl) ⟨w.heap.size, 0, none⟩ 1 1 _ hl hnews (by omega) (by omega) (growslice_fits (by omega) (by rw [hz2]; omega))
    rw [hr2] at hr
    simp only [Result.ok.injEq] at hr
    refine fin _ _ hr.1.symm (.inr (by simp)) fun j hj => ?_
    rw [← hr.2]
    have hb1 : Below w.heap.size w ((w.alloc (.cells #[v] 25)).drew.alloc (.cells (vs.toArray ++ [v].toArray ++ Builtin.zeroCells (Value.slice none 0 0).cells (grownCap (w.alloc (.cells #[v] 25)) (vs.length + 1) cap 25 - (vs.length + 1))) 25)) := by
      have h1 := (Below.refl w.heap.size w).alloc (Nat.le_refl _) (.cells #[v] 25)
      exact (Below.drew h1).alloc h1.size _
    have := (hb1.cell (p := ⟨g, j, none⟩) hlt).trans (hown.cell j hj)
    rw [show vs.getD j undef = vs[j] by simp [List.getD, hj]]
    exact this
def RowsIn (w : World) (A : List Nat) (vs : List Value) (rows : List (List Int)) : Prop :=
  vs.length = rows.length ∧ ∀ j, j < rows.length → ∃ g o c, vs[j]? = some (Value.slice (some ⟨g, o, none⟩) ((rows.getD j []).length) c) ∧ (rows.getD j []).length ≤ c ∧ g < w.heap.size ∧ g ∉ A ∧ Cells w g o (rows.getD j [])
def Que (w : World) (B g cap : Nat) (A : List Nat) (rows : List (List Int)) : Prop := ∃ vs, OwnV w B 25 g cap vs ∧ RowsIn w A vs rows ∧ g ∈ A
section
variable {w w' : World} {A A' : List Nat} {vs : List Value} {rows : List (List Int)} {B g cap : Nat}
theorem RowsIn.below (h : RowsIn w A vs rows) (hb : Below w.heap.size w w') : RowsIn w' A vs rows :=
  ⟨h.1, fun j hj => by obtain ⟨g, o, c, h1, h2, h3, h4, h5⟩ := h.2 j hj; exact ⟨g, o, c, h1, h2, Nat.lt_of_lt_of_le h3 hb.size, h4, h5.below hb h3⟩⟩
theorem RowsIn.grown {k : Nat} (h : RowsIn w A vs rows) (hg : w.grownBy w' (some k)) (hk : k ∈ A) : RowsIn w' A vs rows :=
  ⟨h.1, fun j hj => by
    obtain ⟨g, o, c, h1, h2, h3, h4, h5⟩ := h.2 j hj
    exact ⟨g, o, c, h1, h2, Nat.lt_of_lt_of_le h3 hg.size, h4, h5.grown hg (fun e => h4 (by rw [Option.some.inj e]; exact hk))⟩⟩
theorem RowsIn.avoid (h : RowsIn w A vs rows) (hA : ∀ x ∈ A', x ∈ A ∨ w.heap.size ≤ x) : RowsIn w A' vs rows :=
  ⟨h.1, fun j hj => by
    obtain ⟨g, o, c, h1, h2, h3, h4, h5⟩ := h.2 j hj
    exact ⟨g, o, c, h1, h2, h3, fun hm => by rcases hA g hm with q | q; exact h4 q; omega, h5⟩⟩
theorem RowsIn.push {o c : Nat} {y : List Int} (h : RowsIn w A vs rows) (hg : g < w.heap.size) (hA : g ∉ A) (hc : y.length ≤ c) (hy : Cells w g o y) : RowsIn w A (vs ++ [(Value.slice (some ⟨g, o, none⟩) y.length c)]) (rows ++ [y]) := by
  refine ⟨by simp [h.1], fun j hj => ?_⟩
  by_cases e : j < rows.length
  · obtain ⟨g', o', c', h1, h2, h3, h4, h5⟩ := h.2 j e
    have er : (rows ++ [y]).getD j [] = rows.getD j [] := by simp [List.getD, List.getElem?_append_left e]
    rw [er]
    exact ⟨g', o', c', by rw [List.getElem?_append_left (by rw [h.1]; exact e)]; exact h1, h2, h3, h4, h5⟩
  · have : j = rows.length := by simp at hj; omega
    subst this
    have er : (rows ++ [y]).getD rows.length [] = y := by simp [List.getD]
    rw [er]
    exact ⟨g, o, c, by rw [← h.1]; simp, hc, hg, hA, hy⟩
theorem Que.base (h : Que w B g cap A rows) : B ≤ g := by obtain ⟨vs, h, -⟩ := h; exact h.base
theorem Que.lt (h : Que w B g cap A rows) : g < w.heap.size := by obtain ⟨vs, h, -⟩ := h; exact h.lt
theorem Que.below (h : Que w B g cap A rows) (hb : Below w.heap.size w w') : Que w' B g cap A rows := by
  obtain ⟨vs, h1, h2, h3⟩ := h; exact ⟨vs, h1.below hb h1.lt, h2.below hb, h3⟩
theorem Que.still (h : Que w B g cap A rows) (hs : ∃ k, w' = w.drewN k) : Que w' B g cap A rows := by obtain ⟨k, rfl⟩ := hs; exact h
theorem Que.grown {k : Nat} (h : Que w B g cap A rows) (hg : w.grownBy w' (some k)) (hk : k ∈ A) (hne : g ≠ k) : Que w' B g cap A rows := by
  obtain ⟨vs, h1, h2, h3⟩ := h; exact ⟨vs, h1.grown hg (fun e => hne (Option.some.inj e)), h2.grown hg hk, h3⟩
theorem Que.avoid (h : Que w B g cap A rows) (hA : ∀ x ∈ A', x ∈ A ∨ w.heap.size ≤ x) (hg : g ∈ A') : Que w B g cap A' rows := by
  obtain ⟨vs, h1, h2, h3⟩ := h; exact ⟨vs, h1, h2.avoid hA, hg⟩
theorem Que.at (h : Que w B g cap A rows) {k : Nat} (hk : k < rows.length) : ∃ gj oj cj, w.cell? ⟨g, k, none⟩ = some (Value.slice (some ⟨gj, oj, none⟩) ((rows.getD k []).length) cj) ∧ (rows.getD k []).length ≤ cj ∧ gj < w.heap.size ∧ gj ∉ A ∧ Cells w gj oj (rows.getD k []) := by
  obtain ⟨vs, h1, h2, h3⟩ := h
  obtain ⟨gj, oj, cj, q1, q2, q3, q4, q5⟩ := h2.2 k hk
  have hkv : k < vs.length := by rw [h2.1]; exact hk
  refine ⟨gj, oj, cj, ?_, q2, q3, q4, q5⟩
  rw [h1.cell k hkv, ← q1, List.getElem?_eq_getElem hkv]
theorem Que.rows2 (h : Que w B g cap A rows) : Rows2 w g 0 rows := fun j hj => by
  obtain ⟨gj, oj, cj, q1, q2, q3, -, q5⟩ := h.at hj
  exact ⟨gj, oj, cj, by rw [Nat.zero_add]; exact q1, q2, q3, q5⟩
theorem Que.one {x : Nat} {o c : Nat} {y : List Int} (hB : B ≤ w.heap.size) (hx : x < w.heap.size) (hc : y.length ≤ c) (hy : Cells w x o y) (hA : x ∉ A) (hm : w.heap.size ∈ A) :
    Que (w.alloc (.cells #[(Value.slice (some ⟨x, o, none⟩) y.length c)] 25)) B w.heap.size 1 A [y] :=
  ⟨[(Value.slice (some ⟨x, o, none⟩) y.length c)], OwnV.new _ rfl hB, ⟨rfl, fun j hj => by
    have : j = 0 := by simp at hj; exact hj
    subst this
    exact ⟨x, o, c, rfl, hc, by simp; omega, hA, hy.below ((Below.refl _ _).alloc (Nat.le_refl _) _) hx⟩⟩, hm⟩
theorem run_append_que (h : Que w B g cap A rows) {gy oy cy : Nat} {y : List Int} (hy1 : gy < w.heap.size) (hy2 : gy ∉ A) (hy3 : y.length ≤ cy) (hy4 : Cells w gy oy y) (hlen : rows.length + 1 ≤ 1048576) (ty : TypeId) :
    ∃ g' cap' w', (Builtin.append_ #[24, 24] ty #[(Value.slice (some ⟨g, 0, none⟩) rows.length cap), (Value.slice (some ⟨w.heap.size, 0, none⟩) 1 1)]).run Tryz.prog (w.alloc (.cells #[(Value.slice (some ⟨gy, oy, none⟩) y.length cy)] 25)) = .ok (Value.slice (some ⟨g', 0, none⟩) (rows.length + 1) cap') w' ∧
      Que w' B g' cap' (g' :: A) (rows ++ [y]) ∧ w.grownBy w' (some g) ∧ (g' = g ∨ w.heap.size < g') ∧ (∀ j, j < rows.length → w'.cell? ⟨g, j, none⟩ = w.cell? ⟨g, j, none⟩) := by
  obtain ⟨vs, h1, h2, h3⟩ := h
  obtain ⟨g', cap', w', hrun, q1, q2, q3, q4⟩ := run_append_rowC h1 (Value.slice (some ⟨gy, oy, none⟩) y.length cy) rfl (by rw [h2.1]; exact hlen) ty
  rw [h2.1] at hrun
  refine ⟨g', cap', w', hrun, ⟨_, q1, ?_, by simp⟩, q2, q3, fun j hj => by
    have hj' : j < vs.length := by rw [h2.1]; exact hj
    rw [q4 j hj', h1.cell j hj']; simp [List.getD, hj']⟩
  have r1 := (h2.push hy1 hy2 hy3 hy4).grown q2 h3
  exact ⟨r1.1, fun j hj => by
    obtain ⟨a, b, d, e1, e2, e3, e4, e5⟩ := r1.2 j hj
    refine ⟨a, b, d, e1, e2, e3, fun hm => ?_, e5⟩
    rcases List.mem_cons.1 hm with e | e
    · subst e
      rcases q3 with q | q
      · exact e4 (by rw [q]; exact h3)
      · have : a < w.heap.size := by
          obtain ⟨a', b', d', f1, f2, f3, f4, f5⟩ := (h2.push hy1 hy2 hy3 hy4).2 j hj
          rw [f1] at e1
          have e2 := Option.some.inj e1
          simp only [Value.slice.injEq, Option.some.injEq, Addr.mk.injEq] at e2
          have e3 := e2.1.1
          omega
        omega
    · exact e4 e⟩
theorem wpList_append_que {ops : Array Oper} {rest : List Oper} {o : Oper} {a : Act} {Q : Exit → Act → World → Prop} (hgd : o.guard = none) (s x : Operand)
    (ho : o.op = .call { callee := .builtin .append, args := #[s, x], argTypes := #[24, 24] })
    (B g cap n H gy oy ly cy : Nat) (A : List Nat) (rows : List (List Int)) (y : List Int) (W : World) (hn : rows.length = n) (hly : y.length = ly) (hW : W = w.alloc (.cells #[(Value.slice (some ⟨gy, oy, none⟩) ly cy)] 25)) (hH : w.heap.size = H) (hown : Que w B g cap A rows)
    (hy1 : gy < w.heap.size) (hy2 : gy ∉ A) (hy3 : ly ≤ cy) (hy4 : Cells w gy oy y) (hs : a.eval s = (Value.slice (some ⟨g, 0, none⟩) n cap)) (hx : a.eval x = (Value.slice (some ⟨H, 0, none⟩) 1 1)) (hlen : n + 1 ≤ 1048576)
    (h : ∀ g' cap' w', Que w' B g' cap' (g' :: A) (rows ++ [y]) → w.grownBy w' (some g) → (g' = g ∨ w.heap.size < g') → wpList Tryz.prog ops Q rest (a.put o.dst (Value.slice (some ⟨g', 0, none⟩) (n + 1) cap')) w') :
    wpList Tryz.prog ops Q (o :: rest) a W := by
  subst hn; subst hW; subst hH; subst hly
  obtain ⟨g', cap', w', hrun, h2, h3, h4, h5⟩ := run_append_que hown hy1 hy2 hy3 hy4 hlen o.type
  refine wpList_plain hgd fun K hK => ?_
  unfold Oper.wp execOp
  simp only [ho, resolve, invoke, builtin, Sem.run_bind, Sem.run_pure, Result.andThen_ok, List.map_toArray, List.map_cons, List.map_nil, hs, hx, hrun]
  exact hK _ _ (h g' cap' w' h2 h3 h4)
theorem step_append_que {ops : Array Oper} {o : Oper} {a : Act} {K : Act → World → Prop} {Q : Exit → Act → World → Prop} {E : Prop} (hgd : o.guard = none) (s x : Operand)
    (ho : o.op = .call { callee := .builtin .append, args := #[s, x], argTypes := #[24, 24] })
    (B g cap n H gy oy ly cy : Nat) (A : List Nat) (rows : List (List Int)) (y : List Int) (W : World) (hn : rows.length = n) (hly : y.length = ly) (hW : W = w.alloc (.cells #[(Value.slice (some ⟨gy, oy, none⟩) ly cy)] 25)) (hH : w.heap.size = H) (hown : Que w B g cap A rows)
    (hy1 : gy < w.heap.size) (hy2 : gy ∉ A) (hy3 : ly ≤ cy) (hy4 : Cells w gy oy y) (hs : a.eval s = (Value.slice (some ⟨g, 0, none⟩) n cap)) (hx : a.eval x = (Value.slice (some ⟨H, 0, none⟩) 1 1)) (hlen : n + 1 ≤ 1048576)
    (h : ∀ g' cap' w', Que w' B g' cap' (g' :: A) (rows ++ [y]) → w.grownBy w' (some g) → (g' = g ∨ w.heap.size < g') → (∀ j, j < rows.length → w'.cell? ⟨g, j, none⟩ = w.cell? ⟨g, j, none⟩) → K (a.put o.dst (Value.slice (some ⟨g', 0, none⟩) (n + 1) cap')) w') :
    if Region.wanted o (yielded ops a.tmps) = true then Oper.wp Tryz.prog o a W K Q else E := by
  subst hn; subst hW; subst hH; subst hly
  have hw : Region.wanted o (yielded ops a.tmps) = true := by simp [Region.wanted, hgd]
  rw [if_pos hw]
  obtain ⟨g', cap', w', hrun, h2, h3, h4, h5⟩ := run_append_que hown hy1 hy2 hy3 hy4 hlen o.type
  unfold Oper.wp execOp
  simp only [ho, resolve, invoke, builtin, Sem.run_bind, Sem.run_pure, Result.andThen_ok, List.map_toArray, List.map_cons, List.map_nil, hs, hx, hrun]
  exact h g' cap' w' h2 h3 h4 h5
end
end Go.Proofs.YtkjglfafphffiaaGreatDoor
