/- The program's table of all polynomials: contract. The program's KLPolynomial: contract. The program's KLPolynomial: contract. The reference's KLRow, KLPolynomial, MuOf at any words; ReversePoly; LengthOf: contracts. -/
import Derived.Test.YtdedkfbiookofaaGreatDoorK43
import Derived.Test.YtdedkfbiookofaaGreatDoorK44
import Derived.Test.YtdedkfbiookofaaGreatDoorK38
import Derived.Test.YtdedkfbiookofaaGreatDoorK41
import Derived.Deep.RegionHeld3
import Derived.Deep.RegionWith
import Derived.Deep.RegionLaw
import Derived.Deep.DrawnRows
import Derived.Test.YtdedkfbiookofaaGreatDoorK21
import Derived.Test.YtdedkfbiookofaaGreatDoorK14
import Derived.Maps.OwnSet
import Derived.Test.YtdedkfbiookofaaGreatDoorK42
import Derived.Test.YtdedkfbiookofaaGreatDoorK11
import Derived.Test.YtdedkfbiookofaaGreatDoorK08
namespace Go.Proofs.YtdedkfbiookofaaGreatDoor
set_option maxRecDepth 100000
open Go.RowKit Game
/-- the table, made: what is read of it -/
structure KzR (w : World) (k N gl cl gt ct gp cp b : Nat) (L T : List (List Int)) (P : List (List (List Int))) : Prop where
  F : KzF w k gl cl gt ct gp cp N
  places : w.cell? ⟨k, 2, none⟩ = some (.map (some b))
  hl : gl < w.heap.size
  ht : gt < w.heap.size
  hp : gp < w.heap.size
  hL : Rows2 w gl 0 L
  hT : Rows2 w gt 0 T
  hP : ∀ i j, i < N → j < N → PolAt w gp N i j (pol P i j)
  hA : AtW w b N L
theorem KzR.below {w w' : World} {k N gl cl gt ct gp cp b : Nat} {L T : List (List Int)} {P : List (List (List Int))} (h : KzR w k N gl cl gt ct gp cp b L T P) (hb : Below w.heap.size w w') : KzR w' k N gl cl gt ct gp cp b L T P where
  F := h.F.below hb
  places := (hb.cell (p := ⟨k, 2, none⟩) h.F.lt).trans h.places
  hl := Nat.lt_of_lt_of_le h.hl hb.size
  ht := Nat.lt_of_lt_of_le h.ht hb.size
  hp := Nat.lt_of_lt_of_le h.hp hb.size
  hL := h.hL.below hb h.hl
  hT := h.hT.below hb h.ht
  hP := fun i j hi hj => (h.hP i j hi hj).below h.hp hb
  hA := h.hA.below hb h.hA.lt
theorem tabU_shape {L T : List (List Int)} {P : List (List (List Int))} {N v : Nat} (h : P.length = N ∧ ∀ i, i < N → (P.getD i []).length = N) : ∀ t, (tabU L T P v t).length = N ∧ ∀ i, i < N → ((tabU L T P v t).getD i []).length = N
  | 0 => h
  | t + 1 => by
    have ih := tabU_shape (L := L) (T := T) (v := v) h t
    rw [tabU_succ]
    exact ⟨by rw [setP_length]; exact ih.1, fun i hi => by rw [setP_row]; exact ih.2 i hi⟩
theorem tabV_shape {L T : List (List Int)} {N : Nat} (h : L.length = N) : ∀ t, (tabV L T t).length = N ∧ ∀ i, i < N → ((tabV L T t).getD i []).length = N
  | 0 => ⟨by simp [tabV, h], fun i hi => by simp [tabV, List.getD, h, hi]⟩
  | t + 1 => by rw [tabV_succ]; exact tabU_shape (tabV_shape h t) L.length
def GotKz (w : World) (c : List (List Int)) (e : Ending) (w' : World) : Prop :=
  ∃ k gl cl gt ct gp cp b, e = .returned (.tuple #[.pointer (some ⟨k, 0, none⟩), .bool true]) ∧ w.heap.size ≤ k ∧
    KzR w' k (elemL c).length gl cl gt ct gp cp b (elemL c) (leftT c) (tabI (elemL c) (leftT c)) ∧ Below w.heap.size w w'
set_option maxHeartbeats 1000000 in
theorem impl_newKazhdan_no (gc oc n cc : Nat) (c : List (List Int)) (w : World) (hn : c.length = n) (hx : c.length ≤ 1048576) (hrl : ∀ j, j < c.length → (c.getD j []).length ≤ 1048576) (hk : klB c = false) (hgc : gc < w.heap.size) (hr : Rows2 w gc oc c) (hm : MaxL w) :
    Calls Tryz.prog 43 #[(Value.slice (some ⟨gc, oc, none⟩) n cc)] w (Gives w (.tuple #[.pointer none, .bool false])) := by
  have Hc := Lib.hid (impl_few24_no gc oc n cc c w hn hx hrl hk hgc hr hm)
  clear hr hrl hk hm hn
  go_enter Tryz.func43, Tryz.ntmps43
  go_wp2_with fail
  refine Hc.out.mono ?_
  rintro e w1 ⟨rfl, hb1⟩
  go_wp2_with fail
  go_ret2
  exact ⟨rfl, hb1⟩
set_option maxRecDepth 100000 in
set_option maxHeartbeats 4000000 in
theorem impl_newKazhdan_yes (gc oc n cc : Nat) (c : List (List Int)) (w : World) (hn : c.length = n) (hk : klB c = true) (hgc : gc < w.heap.size) (hr : Rows2 w gc oc c) (hm : MaxL w) :
    Calls Tryz.prog 43 #[(Value.slice (some ⟨gc, oc, none⟩) n cc)] w (GotKz w c) := by
  have H := klOk_of hk
  have hG := klB_grp hk
  have hC := hG.hC
  have hn4 := hC.2.1
  have hrl : ∀ j, j < c.length → (c.getD j []).length ≤ 1048576 := fun j hj => by rw [hC.2.2.1 j hj]; omega
  have hN0 : 0 < (elemL c).length := by have := (klB_len hk).2; have := (klB_iff c).1 hk; omega
  have Hc := Lib.hid (impl_few24_yes gc oc n cc c w hn hk hgc hr hm)
  have HT := Lib.hid (fun (W : World) (hb : Below w.heap.size w W) => impl_LeftTable_any gc oc n cc c W hn (by omega) hrl (Nat.lt_of_lt_of_le hgc hb.size) (hr.below hb hgc) (hm.below hb))
  have HP := Lib.hid (fun (W : World) (g cp : Nat) (hg : g < W.heap.size) (hr : Rows2 W g 0 (elemL c)) => impl_places_ok g cp _ (elemL c) W rfl (by have := H.few; omega) hG.asc.nodup (fun j hj => elem_let hG (by simp [List.getD, hj])) hg hr)
  have hdef : GotKz w c = fun e w' => ∃ k gl cl gt ct gp cp b, e = .returned (.tuple #[.pointer (some ⟨k, 0, none⟩), .bool true]) ∧ w.heap.size ≤ k ∧
    KzR w' k (elemL c).length gl cl gt ct gp cp b (elemL c) (leftT c) (tabI (elemL c) (leftT c)) ∧ Below w.heap.size w w' := rfl
  rw [hdef]
  clear hdef hr hrl hm hk hG hC
  generalize leftT c = T at *
  generalize elemL c = L at *
  obtain ⟨N, hNL⟩ : ∃ N, L.length = N := ⟨_, rfl⟩
  have hNT : T.length = N := by rw [H.tlen, hNL]
  rw [hNL] at H HP hN0 ⊢
  have HNL := Lib.hid hNL; have HNT := Lib.hid hNT; have HH := Lib.hid H
  have hN24 := H.few
  clear hNL hNT H
  go_enter Tryz.func43, Tryz.ntmps43
  go_wp2_with fail
  refine Hc.out.mono ?_
  rintro e w1 ⟨g1, c1, rs1, rfl, hc1, hO1, hb1⟩
  rw [HNL.out]
  have hL1 := hO1.rows2
  rw [hc1] at hL1
  have hg1 := hO1.lt
  clear hc1 hO1 Hc
  go_wp2_with fail
  refine (HT.out w1 hb1).mono ?_
  rintro e w2 ⟨g2, c2, rs2, rfl, hc2, hO2, hb2⟩
  rw [HNT.out]
  have hT2 := hO2.rows2
  rw [hc2] at hT2
  have hg2 := hO2.lt
  have hL2 := hL1.below hb2 hg1
  have hg12 := Nat.lt_of_lt_of_le hg1 hb2.size
  have hB2 := hb1.trans (hb2.mono hb1.size)
  clear hc2 hO2 HT hL1 hb1 hb2 hg1
  go_wp2_with fail
  refine (HP.out w2 g1 c1 hg12 hL2).mono ?_
  rintro e w3 ⟨bM, rfl, hbM, hA3, hb3⟩
  have hL3 := hL2.below hb3 hg12
  have hT3 := hT2.below hb3 hg2
  have hg13 := Nat.lt_of_lt_of_le hg12 hb3.size
  have hg23 := Nat.lt_of_lt_of_le hg2 hb3.size
  have hB3 := hB2.trans (hb3.mono hB2.size)
  have hbM3 := hA3.lt
  clear HP hL2 hT2 hg12 hg2 hB2 hb3 hbM
  obtain ⟨w4, hw4⟩ : ∃ w4, w4 = w3.alloc (.cells #[(Value.slice (some ⟨g1, 0, none⟩) N c1), (Value.slice (some ⟨g2, 0, none⟩) N c2), .map (some bM), .slice none 0 0] 62) := ⟨_, rfl⟩
  have hK4 : KzS w4 w3.heap.size (Value.slice (some ⟨g1, 0, none⟩) N c1) (Value.slice (some ⟨g2, 0, none⟩) N c2) (.map (some bM)) (.slice none 0 0) := by rw [hw4]; exact heap_alloc_new w3 _
  have hb4 : Below w3.heap.size w3 w4 := by rw [hw4]; exact (Below.refl _ _).alloc (Nat.le_refl _) _
  have hs4 : w3.heap.size + 1 ≤ w4.heap.size := by rw [hw4]; simp
  go_wp2_with fail
  rw [← hw4]
  clear hw4
  generalize hgk : w3.heap.size = gk at *
  have hnil : List.replicate N (Value.slice none 0 0) = List.replicate N (Value.slice none 0 0) := rfl
  generalize hnv : List.replicate N (Value.slice none 0 0) = nils at hnil
  have Hnv := Lib.hid hnv
  have hnvl : nils.length = N := by rw [← hnv]; simp
  clear hnil hnv
  go_loopw [25] (fun iv wr => ∃ (j : Nat) (pv : Value) (rr : List (Nat × Nat)), j ≤ N ∧ iv = .int .i64 (j : Nat) ∧ Hid (rr.length = j) ∧ Hid ((j = 0 ∧ pv = .slice none 0 0) ∨ ∃ gp cp, pv = (Value.slice (some ⟨gp, 0, none⟩) j cp)) ∧ KzS wr gk (Value.slice (some ⟨g1, 0, none⟩) N c1) (Value.slice (some ⟨g2, 0, none⟩) N c2) (.map (some bM)) pv ∧ Hid (wr.ownsRow (gk + 1) 24 1 pv j (rr.map (rvN N))) ∧ Hid ((rr.map Prod.fst).Nodup) ∧ Hid (∀ r ∈ rr, OwnV wr (gk + 1) 25 r.1 r.2 nils) ∧ gk + 1 ≤ wr.heap.size ∧ Below gk w3 wr) (fun iv _ => N - (intOf iv).toNat)
  case atStart => exact ⟨0, _, [], Nat.zero_le _, rfl, rfl, Lib.hid (.inl ⟨rfl, rfl⟩), hK4, Lib.hid ⟨rfl, .inl ⟨rfl, rfl⟩⟩, Lib.hid (by simp), Lib.hid (by simp), hs4, hb4⟩
  case round =>
    clear hK4 hb4 hs4
    obtain ⟨j, pv, rr, hj, rfl, hrl, hpv, hK, hO, hnd, hR, hs, hb⟩ := hrel
    by_cases hlt : j < N
    · obtain ⟨-, -, -, k3⟩ := hK.cells
      have kf := hK.free 3
      have hKs := hK
      have F0 : wr.drew.cell? ⟨gk, 3, none⟩ = some pv ∧ wr.drew.frozen? ⟨gk, 3, none⟩ = false := ⟨k3, kf⟩
      have F1 : ∀ w1, wr.drew.grownBy w1 none → KzS w1 gk (Value.slice (some ⟨g1, 0, none⟩) N c1) (Value.slice (some ⟨g2, 0, none⟩) N c2) (.map (some bM)) pv := fun w1 hg => hK.same (hg.block gk hK.lt (by simp))
      have F2 : ∀ w1 o, wr.drew.grownBy w1 none → KzS (w1.alloc o) gk (Value.slice (some ⟨g1, 0, none⟩) N c1) (Value.slice (some ⟨g2, 0, none⟩) N c2) (.map (some bM)) pv := fun w1 o hg => (F1 w1 hg).same (Below.heap_alloc _ _ _ (F1 w1 hg).lt)
      have F2' : ∀ w1 o, wr.drew.grownBy w1 none → (w1.alloc o).cell? ⟨gk, 3, none⟩ = some pv ∧ (w1.alloc o).frozen? ⟨gk, 3, none⟩ = false := fun w1 o hg => ⟨(F2 w1 o hg).cells.2.2.2, (F2 w1 o hg).free 3⟩
      have F1' : ∀ w1, wr.drew.grownBy w1 none → w1.cell? ⟨gk, 3, none⟩ = some pv ∧ w1.frozen? ⟨gk, 3, none⟩ = false := fun w1 hg => ⟨(F1 w1 hg).cells.2.2.2, (F1 w1 hg).free 3⟩
      have hne : ∀ g, pv.ownBlock = some g → gk + 1 ≤ g ∧ g < wr.heap.size := fun g hg => by
        rcases hO.out.2 with ⟨h1, -⟩ | ⟨g', cap, cur, h1, h2, h3, -⟩
        · rw [h1] at hg; simp [Value.ownBlock] at hg
        · rw [h1] at hg
          simp only [Value.ownBlock, Option.some.injEq] at hg
          subst hg
          exact ⟨h2, lt_of_block h3⟩
      have hnk : some gk ≠ pv.ownBlock := fun e => by have := (hne gk e.symm).1; omega
      have F3 : ∀ w1 o w2, wr.drew.grownBy w1 none → (w1.alloc o).grownBy w2 pv.ownBlock → KzS w2 gk (Value.slice (some ⟨g1, 0, none⟩) N c1) (Value.slice (some ⟨g2, 0, none⟩) N c2) (.map (some bM)) pv := fun w1 o w2 h1 h2 => (F2 w1 o h1).same (h2.block gk (F2 w1 o h1).lt hnk)
      have F3' : ∀ w1 o w2, wr.drew.grownBy w1 none → (w1.alloc o).grownBy w2 pv.ownBlock → w2.cell? ⟨gk, 3, none⟩ = some pv ∧ w2.frozen? ⟨gk, 3, none⟩ = false := fun w1 o w2 h1 h2 => ⟨(F3 w1 o w2 h1 h2).cells.2.2.2, (F3 w1 o w2 h1 h2).free 3⟩
      have FO : ∀ w1 o, wr.drew.grownBy w1 none → (w1.alloc o).ownsRow (gk + 1) 24 1 pv j (rr.map (rvN N)) := fun w1 o hg => own_row_same hO.out (fun g hgv => (Below.heap_alloc _ _ _ (Nat.lt_of_lt_of_le (hne g hgv).2 hg.size)).trans (hg.block g (hne g hgv).2 (by simp)))
      have FB : ∀ w1 o, wr.drew.grownBy w1 none → gk + 1 ≤ (w1.alloc o).heap.size := fun w1 o hg => by have h1 : wr.heap.size ≤ w1.heap.size := hg.size; simp; omega
      have HF1 := Lib.hid F1'; have HF2 := Lib.hid F2'; have HF3 := Lib.hid F3'; have HFK := Lib.hid F3; have HFO := Lib.hid FO; have HFB := Lib.hid FB; have Hne := Lib.hid hne
      clear F1 F1' F2 F2' F3 F3' FO FB k3 kf hKs hnk hne
      have HFS := Lib.hid (fun w1 o w2 v (h1 : wr.drew.grownBy w1 none) (h2 : (w1.alloc o).grownBy w2 pv.ownBlock) => ((HFK.out w1 o w2 h1 h2).set v).free 3)
      have F0c := F0.1
      have F0f := F0.2
      go_wp2_with fail
      obtain ⟨wA, hmk, hoA, hgA⟩ := run_make_rows (w := wr.drew) (gk + 1) N (by omega) hs
      have hcA := (HF1.out _ hgA).1
      have hcA2 : ∀ o, (wA.alloc o).cell? ⟨gk, 3, none⟩ = some pv := fun o => (HF2.out _ o hgA).1
      go_region_law (refine step_append_N infoTab Tryz.underlying60 (by rfl) (by decide) (by rfl) _ _ (by rfl) (gk + 1) j pv (rr.map (rvN N)) wA.heap.size 0 1 (rvN N (wr.heap.size, N)) (by rfl) _ (by exact HFB.out _ _ hgA) (by exact HFO.out _ _ hgA) (by exact (cell_of_cells (heap_alloc_new wA _) 0)) (by rfl) (by rfl) (by omega) ?_; intro gB cB wB hoB hgB; have hcB := (HF3.out _ _ _ hgA hgB).1; have hfB := (HF3.out _ _ _ hgA hgB).2)
      all_goals (
        go_wp2_with fail
        have hKB := HFK.out wA _ wB hgA hgB
        generalize hvB : (Value.slice (some ⟨gB, 0, none⟩) (j + 1) cB) = vB at *
        have hsz : wr.heap.size ≤ wA.heap.size := hgA.size
        have hszB : wA.heap.size + 1 ≤ wB.heap.size := by have := hgB.size; simpa using this
        have hpres : ∀ g, gk + 1 ≤ g → some g ≠ pv.ownBlock → g < wA.heap.size → (wB.setCell ⟨gk, 3, none⟩ vB).heap[g]? = wA.heap[g]? := fun g h1 h2 h3 => by
          rw [Below.heap_setCell _ _ _ _ (show g ≠ gk by omega), hgB.block g (by simp; omega) h2]
          exact Below.heap_alloc _ _ _ h3
        have hbl : ∀ r ∈ rr, some r.1 ≠ pv.ownBlock := fun r hr e => by
          rcases hO.out.2 with ⟨h1, -⟩ | ⟨g', cap, cur, h1, h2, h3, -⟩
          · rw [h1] at e; simp [Value.ownBlock] at e
          · rw [h1] at e
            simp only [Value.ownBlock, Option.some.injEq] at e
            obtain ⟨cur2, h4, -⟩ := (hR.out r hr).row
            rw [e, h3] at h4
            simp at h4
        have hrows : ∀ r ∈ rr ++ [(wr.heap.size, N)], OwnV (wB.setCell ⟨gk, 3, none⟩ vB) (gk + 1) 25 r.1 r.2 nils := fun r hr => by
          rw [List.mem_append, List.mem_singleton] at hr
          rcases hr with hr | rfl
          · have h1 := (hR.out r hr).lt
            exact (hR.out r hr).same ((hpres r.1 (hR.out r hr).base (hbl r hr) (by omega)).trans (hgA.block r.1 h1 (by simp)))
          · have h1 : OwnV wA (gk + 1) 25 wr.heap.size N nils := by rw [← Hnv.out]; exact hoA
            refine h1.same (hpres wr.heap.size hs (fun e => ?_) h1.lt)
            have := (Hne.out _ e.symm).2
            omega
        have hnd2 : ((rr ++ [(wr.heap.size, N)]).map Prod.fst).Nodup := by
          rw [List.map_append, List.nodup_append]
          refine ⟨hnd.out, by simp, ?_⟩
          intro x hx y hy
          obtain ⟨r, hr, rfl⟩ := List.mem_map.1 hx
          simp only [List.map_cons, List.map_nil, List.mem_singleton] at hy
          have := (hR.out r hr).lt
          omega
        have hgBk := hoB.base
        have hOB : (wB.setCell ⟨gk, 3, none⟩ vB).ownsRow (gk + 1) 24 1 vB (j + 1) ((rr ++ [(wr.heap.size, N)]).map (rvN N)) := by
          have h1 := hoB
          unfold OwnV at h1
          have e1 : (rr.map (rvN N) ++ [rvN N (wr.heap.size, N)]).length = j + 1 := by rw [List.length_append, List.length_map, hrl.out]; rfl
          rw [e1, hvB] at h1
          rw [List.map_append]
          refine own_row_same h1 (fun g hg => ?_)
          rw [← hvB] at hg
          simp only [Value.ownBlock, Option.some.injEq] at hg
          subst hg
          exact Below.heap_setCell _ _ _ _ (show gB ≠ gk by omega)
        have hlen2 : (rr ++ [(wr.heap.size, N)]).length = j + 1 := by rw [List.length_append, hrl.out]; rfl
        have hbA : Below gk w3 wA := (Below.drew hb).grown hgA (by show gk ≤ wr.heap.size; omega) (by intro t ht; cases ht)
        have hbB : Below gk w3 wB := (hbA.alloc (by omega) _).grown hgB (by simp; omega) (by intro t ht; have := (Hne.out t ht).1; omega)
        have hbC : Below gk w3 (wB.setCell ⟨gk, 3, none⟩ vB) := hbB.setCell (Nat.le_refl _) _
        have hsC : gk + 1 ≤ (wB.setCell ⟨gk, 3, none⟩ vB).heap.size := by simp; omega
        have hKC := hKB.set vB
        go_roundw
        case rel => exact ⟨j + 1, vB, _, by omega, by go_num, hlen2, Lib.hid (.inr ⟨gB, cB, hvB.symm⟩), hKC, Lib.hid hOB, Lib.hid hnd2, Lib.hid hrows, hsC, hbC⟩
        case measure => simp [intOf]; omega)
    · obtain rfl : j = N := by omega
      rcases hpv.out with ⟨h1, -⟩ | ⟨gp, cp, rfl⟩
      · omega
      have hT0 : PolT wr (gk + 1) gp cp j 0 0 (tabV L T 0) rr := ⟨hrl.out, by
        have h1 := hO.out
        unfold OwnV
        rw [List.length_map, hrl.out]; exact h1, hnd.out, fun i hi => ⟨nils, hR.out _ (List.getElem_mem hi), hnvl, fun j' hj' h => by omega⟩⟩
      have hK0 : Known (tabV L T 0) j 0 0 := fun i j' hi h => by omega
      clear hpv hO hnd hR hrl hnvl Hnv
      have hgkl := hK.lt
      go_wp2_with fail
      go_loopw [7, 8, 42] (fun _ _ iv wr => ∃ v : Nat, v ≤ j ∧ iv = .int .i64 (v : Nat) ∧ PolT wr (gk + 1) gp cp j v 0 (tabV L T v) rr ∧ Hid (Known (tabV L T v) j v 0) ∧ KzS wr gk (Value.slice (some ⟨g1, 0, none⟩) j c1) (Value.slice (some ⟨g2, 0, none⟩) j c2) (.map (some bM)) (Value.slice (some ⟨gp, 0, none⟩) j cp) ∧ gk + 1 ≤ wr.heap.size ∧ Below gk w3 wr) (fun _ _ iv _ => j - (intOf iv).toNat)
      case atStart => exact ⟨0, Nat.zero_le _, rfl, hT0, Lib.hid hK0, hK, hs, hb⟩
      case round =>
        clear hT0 hK0 hK hs hb hgkl
        obtain ⟨v, hv, rfl, hT, hKn, hK, hs, hb⟩ := hrel
        by_cases hvN : v < j
        · have hsh := tabV_shape (L := L) (T := T) HNL.out v
          have hT0 : PolT wr (gk + 1) gp cp j v 0 (tabU L T (tabV L T v) v 0) rr := hT
          have hK0 : Known (tabU L T (tabV L T v) v 0) j v 0 := hKn.out
          have hsuV := tabV_succ L T v
          rw [HNL.out] at hsuV
          have HsuV := Lib.hid hsuV; have Hsh := Lib.hid hsh
          clear hT hKn hsuV hsh
          generalize tabV L T v = PV at *
          go_wp2_with fail
          go_loopw [8, 47] (fun _ iv wr => ∃ u : Nat, u ≤ j ∧ iv = .int .i64 (u : Nat) ∧ PolT wr (gk + 1) gp cp j v u (tabU L T PV v u) rr ∧ Hid (Known (tabU L T PV v u) j v u) ∧ KzS wr gk (Value.slice (some ⟨g1, 0, none⟩) j c1) (Value.slice (some ⟨g2, 0, none⟩) j c2) (.map (some bM)) (Value.slice (some ⟨gp, 0, none⟩) j cp) ∧ gk + 1 ≤ wr.heap.size ∧ Below gk w3 wr) (fun _ iv _ => j - (intOf iv).toNat)
          case atStart => exact ⟨0, Nat.zero_le _, rfl, hT0, Lib.hid hK0, hK, hs, hb⟩
          case round =>
            clear hT0 hK0 hK hs hb
            obtain ⟨u, hu, rfl, hT, hKn, hK, hs, hb⟩ := hrel
            by_cases huN : u < j
            · have hb' : Below w3.heap.size w3 wr := by rw [hgk]; exact hb
              have hLr := hL3.below hb' (by omega)
              have hTr := hT3.below hb' (by omega)
              obtain ⟨k0, k1, -, k3⟩ := hK.cells
              have hshU := tabU_shape (L := L) (T := T) (v := v) Hsh.out u
              have hK0 : Known (tabU L T PV v u) j v 0 := fun i j' hi h => hKn.out i j' hi (by omega)
              have hmd := impl_made_ok gk g1 c1 g2 c2 gp cp j c.length u v L T (tabU L T PV v u) wr.drew HH.out ⟨k0, k1, k3, hK.lt⟩ (by show _ < wr.heap.size; omega) (by show _ < wr.heap.size; omega) hT.out.lt hLr hTr hK0 (fun i j' hi hj' => hT.at hi hj' (by omega)) huN hvN
              have hsu := tabU_succ L T PV v u
              have hml := madeI_le HH.out hK0 huN hvN
              have hKn2 := hKn.out.next hml hshU.1 (hshU.2 u huN) huN hvN
              rw [← hsu] at hKn2
              generalize madeI L T (tabU L T PV v u) u v = X at *
              have hst := fun (wB : World) (gB cB : Nat) (hbB : Below wr.heap.size wr wB) (ho : Own wB wr.heap.size gB cB X) => (hT.below hbB).store huN hvN hshU.1 hshU.2 (ho.mono hs)
              have hnx := fun (wB : World) (hbB : Below wr.heap.size wr wB) => (hT.below hbB).next huN hvN
              have hgc := fun (wB : World) (hbB : Below wr.heap.size wr wB) => (hT.below hbB).gcell huN
              have hgr := (hT.next huN hvN).2.2
              rw [← hsu] at hst
              generalize (rr.getD u (0, 0)).1 = gu at *
              generalize (rr.getD u (0, 0)).2 = cu at *
              have hneK : gu ≠ gk := by omega
              have hneP : gu ≠ gp := fun e => hgr.2.2 e.symm
              have HM := Lib.hid hmd; have HN := Lib.hid hnx; have HG := Lib.hid hgc; have HKn2 := Lib.hid hKn2; have HS := Lib.hid hst
              have HKs := Lib.hid (fun (wB : World) (hbB : Below wr.heap.size wr wB) => hK.below hbB hK.lt)
              have hd1 : Below wr.heap.size wr wr.drew := Below.drew (Below.refl _ _)
              have HC := Lib.hid (fun (wB : World) (hbB : Below wr.heap.size wr wB) => show wB.cell? ⟨gk, 3, none⟩ = some (Value.slice (some ⟨gp, 0, none⟩) j cp) ∧ wB.cell? ⟨gp, u, none⟩ = some (Value.slice (some ⟨gu, 0, none⟩) j cu) from ⟨(hK.below hbB hK.lt).cells.2.2.2, hgc wB hbB⟩)
              have HCs := Lib.hid (fun (wB : World) (x : Value) (hbB : Below wr.heap.size wr wB) => show (wB.setCell ⟨gu, v, none⟩ x).cell? ⟨gk, 3, none⟩ = some (Value.slice (some ⟨gp, 0, none⟩) j cp) ∧ (wB.setCell ⟨gu, v, none⟩ x).cell? ⟨gp, u, none⟩ = some (Value.slice (some ⟨gu, 0, none⟩) j cu) from
                ⟨(World.cell?_of_block (a := ⟨gk, 3, none⟩) (Below.heap_setCell _ _ _ _ (Ne.symm hneK))).trans (HC.out wB hbB).1, (World.cell?_of_block (a := ⟨gp, u, none⟩) (Below.heap_setCell _ _ _ _ (Ne.symm hneP))).trans (HC.out wB hbB).2⟩)
              clear k0 k1 k3 hLr hTr hb' hK0 hmd hsu hml hKn hKn2 hst hnx hgc hT
              go_wp2_with fail
              go_region_held3 (fun W => W.cell? ⟨gk, 3, none⟩ = some (Value.slice (some ⟨gp, 0, none⟩) j cp) ∧ W.cell? ⟨gp, u, none⟩ = some (Value.slice (some ⟨gu, 0, none⟩) j cu))
                (first | with_reducible exact HC.out _ hd1 | with_reducible exact HC.out _ hbB1 | with_reducible exact HCs.out _ _ hbB1)
                (first
                  | (go_at_call 88; (with_reducible refine HM.out.mono ?_); rintro e wB ⟨gB, cB, rfl, hoB, hbB⟩; have hbB1 := hd1.trans (hbB.mono hd1.size); obtain ⟨⟨x0, hn1⟩, hn2, -⟩ := HN.out wB hbB1))
              obtain ⟨hTn, -⟩ := HS.out wB gB cB hbB1 (hoB.mono hd1.size)
              have hKs := (HKs.out wB hbB1).same (w' := wB.setCell ⟨gu, v, none⟩ (Value.slice (some ⟨gB, 0, none⟩) X.length cB)) (Below.heap_setCell _ _ _ _ (Ne.symm hneK))
              have hbn : Below gk w3 (wB.setCell ⟨gu, v, none⟩ (Value.slice (some ⟨gB, 0, none⟩) X.length cB)) := (hb.trans (hbB1.mono (by omega))).setCell (show gk ≤ gu by omega) _
              have hsn : gk + 1 ≤ (wB.setCell ⟨gu, v, none⟩ (Value.slice (some ⟨gB, 0, none⟩) X.length cB)).heap.size := by have := hbB1.size; simp; omega
              clear hbB1 hbB hoB hn1 hn2 HM HN HG HS HKs HC HCs hd1 hb hs hK
              go_wp2_with fail
              go_roundw
              case rel => exact ⟨u + 1, by omega, by go_num, hTn, HKn2, hKs, hsn, hbn⟩
              case measure => simp [intOf]; omega
            · obtain rfl : u = j := by omega
              have hT2 := hT.col
              rw [← HsuV.out] at hT2
              have hK2 : Known (tabV L T (v + 1)) u (v + 1) 0 := fun i j' hi h => by
                rw [HsuV.out]; exact hKn.out i j' hi (by omega)
              have HK2 := Lib.hid hK2
              clear hT hKn hK2
              go_wp2_with fail
              go_roundw
              case rel => exact ⟨v + 1, by omega, by go_num, hT2, HK2, hK, hs, hb⟩
              case measure => simp [intOf]; omega
        · obtain rfl : v = j := by omega
          obtain ⟨k0, k1, k2, k3⟩ := hK.cells
          have hgk3 : w.heap.size ≤ gk := by rw [← hgk]; exact hB3.size
          have hb' : Below w3.heap.size w3 wr := by rw [hgk]; exact hb
          have hLf := hL3.below hb' (by omega)
          have hTf := hT3.below hb' (by omega)
          have hAf := hA3.below hb' (by omega)
          have hBf := hB3.trans (hb'.mono hB3.size)
          have htabI : tabI L T = tabV L T v := by unfold tabI; rw [HNL.out]
          have hres : KzR wr gk v g1 c1 g2 c2 gp cp bM L T (tabI L T) :=
            ⟨⟨k0, k1, k3, hK.lt⟩, k2, by omega, by omega, hT.out.lt, hLf, hTf, fun i j' hi hj' => by rw [htabI]; exact hT.at hi hj' hj', hAf⟩
          go_wp2_with fail
          go_ret2
          exact ⟨gk, g1, c1, g2, c2, gp, cp, bM, rfl, hgk3, hres, hBf⟩
end Go.Proofs.YtdedkfbiookofaaGreatDoor
namespace Go.Proofs.YtdedkfbiookofaaGreatDoor
set_option maxRecDepth 100000
open Go.RowKit Game
attribute [local go_sem ↓] Go.wp_at_zero Go.wp_at_succ
theorem AtW.run {w : World} {b n : Nat} {L : List (List Int)} (h : AtW w b n L) {v : List Int} (hv : LetW v) (hL : v ∈ L) : (Instr.lookup 59 (.map (some b)) (.string ⟨(wordL v).toArray⟩) false).run Tryz.prog w = .ok (.int .i64 (idxL L v)) w := by
  obtain ⟨D, hD, -, hat⟩ := h
  obtain ⟨z, hrun, hz, -⟩ := hD.lookup_int strKeyedW Tryz.underlying59 Tryz.underlying3 (intZeroW w) (keyOf_let hv)
  have h3 := hat v hv hL
  rw [hz] at h3
  have e : z = idxL L v := by simpa using h3
  rw [hrun, e]
end Go.Proofs.YtdedkfbiookofaaGreatDoor
namespace Go.Proofs.YtdedkfbiookofaaGreatDoor
set_option maxRecDepth 100000
open Go.RowKit Game
theorem clone_intsK (g o n cp : Nat) (v : List Int) (w : World) (hn : v.length = n) (hx : v.length ≤ 1048576) (hg : g < w.heap.size) (hc : Cells w g o v) :
    Calls Tryz.prog 46 #[(Value.slice (some ⟨g, o, none⟩) n cp)] w (GotInts w v) := by
  subst hn
  have hnil : ∀ W, (binOp .eql 25 (Value.slice (some ⟨g, o, none⟩) v.length cp) (.slice none 0 0)).run Tryz.prog W = .ok (.bool false) W := fun W => Lib.run_eql_slice_nil W 25 3 _ _ _ _ _ Tryz.underlying25
  go_enter Tryz.func46, Tryz.ntmps46
  go_wp2_with (at_builtin; refine wpList_clone rfl _ _ rfl g o _ cp v rfl hg hc rfl rfl (by omega) ?_)
  intro g1 c1 w1 ho hb
  go_wp2_with fail
  go_ret
  exact GotInts.mk' g1 c1 rfl ho hb
theorem let_nf {c : List (List Int)} (hG : Grp c) {v : List Int} (h : WordOk c v) : LetW (nfI c v) := by
  have := nf_mem hG (h.lets.mono (show 15 ≤ 30 by omega))
  exact elem_let hG this
end Go.Proofs.YtdedkfbiookofaaGreatDoor
namespace Go.Proofs.YtdedkfbiookofaaGreatDoor
set_option maxRecDepth 100000
open Go.RowKit Game
def krB (c : List (List Int)) (v : List Int) : Bool := klB c && isWordB c v
def krL (c : List (List Int)) (v : List Int) : List (List Int) := if krB c v = true then klRow c v else []
def kpB (c : List (List Int)) (a b : List Int) : Bool := krB c b && isWordB c a
def kpL (c : List (List Int)) (a b : List Int) : List Int := if kpB c a b = true then klP c a b else []
theorem krB_no {c : List (List Int)} {v : List Int} (h : krB c v = false) : klB c = false ∨ (klB c = true ∧ isWordB c v = false) := by
  unfold krB at h
  cases hk : klB c with
  | false => exact .inl rfl
  | true => rw [hk] at h; exact .inr ⟨rfl, by simpa using h⟩
theorem kpB_yes {c : List (List Int)} {a b : List Int} (h : kpB c a b = true) : klB c = true ∧ WordOk c a ∧ WordOk c b := by
  unfold kpB krB at h
  rw [Bool.and_eq_true, Bool.and_eq_true] at h
  exact ⟨h.1.1, wordOk_of h.2, wordOk_of h.1.2⟩
theorem krB_yes {c : List (List Int)} {b : List Int} (h : krB c b = true) : klB c = true ∧ WordOk c b := by
  unfold krB at h
  rw [Bool.and_eq_true] at h
  exact ⟨h.1, wordOk_of h.2⟩
def GotRowA (w : World) (row : List (List Int)) (b : Bool) (e : Ending) (w' : World) : Prop :=
  ∃ g cap, e = .returned (.tuple #[(Value.slice (some ⟨g, 0, none⟩) row.length cap), .bool b]) ∧ g < w'.heap.size ∧ Rows2 w' g 0 row ∧ Below w.heap.size w w'
set_option maxHeartbeats 1000000 in
theorem spec_KLRow_any (gc oc n cc g2 o2 n2 c2 : Nat) (c : List (List Int)) (v : List Int) (w : World) (hn : c.length = n) (hn2 : v.length = n2) (hx : c.length ≤ 1048576) (hrl : ∀ j, j < c.length → (c.getD j []).length ≤ 1048576) (hl : v.length ≤ 1048576) (hgc : gc < w.heap.size) (hg2 : g2 < w.heap.size) (hr : Rows2 w gc oc c) (hv : Cells w g2 o2 v) :
    Calls Tryz.prog 14 #[(Value.slice (some ⟨gc, oc, none⟩) n cc), (Value.slice (some ⟨g2, o2, none⟩) n2 c2)] w (GotRowA w (krL c v) (krB c v)) := by
  cases hk : krB c v with
  | true =>
    obtain ⟨h1, h2⟩ := krB_yes hk
    rw [show krL c v = klRow c v from if_pos hk]
    exact (spec_KLRow_yes gc oc n cc g2 o2 n2 c2 c v w hn hn2 h1 h2 hgc hg2 hr hv).mono fun e w' h => h
  | false =>
    rw [show krL c v = [] from if_neg (by rw [hk]; decide)]
    rcases krB_no hk with h1 | ⟨h1, h2⟩
    · have hc := spec_l23Ready_any gc oc n cc c w hn hx hrl hgc hr
      rw [h1, show klL c = [] from if_neg (by rw [h1]; decide)] at hc
      have Hc := Lib.hid hc
      clear hc hr hrl hv hk h1
      go_enter Tryz.func14, Tryz.ntmps14
      go_wp2_with fail
      refine Hc.out.mono ?_
      rintro e w1 ⟨g1, c1, rs1, rfl, -, -, hb1⟩
      go_wp2_with fail
      go_ret2
      exact ⟨w1.heap.size, 0, rfl, by simp, fun j hj => absurd hj (by simp), hb1.alloc hb1.size _⟩
    · have hG := klB_grp h1
      have hfew := hG.few
      have hc := spec_l23Ready_any gc oc n cc c w hn hx hrl hgc hr
      rw [h1, show klL c = elemL c from if_pos h1] at hc
      have Hc := Lib.hid hc
      have I2 := Lib.hid (fun (W : World) (hb : Below w.heap.size w W) => by
        have := spec_IsWord_any gc oc n cc g2 o2 n2 c2 c v W hn hn2 hx hrl hl (hr.below hb hgc) (hv.below hb hg2)
        rw [h2] at this
        exact this)
      clear hr hv hc hrl hk h1 h2 hG
      generalize elemL c = L at *
      obtain ⟨N, hN⟩ : ∃ N, L.length = N := ⟨_, rfl⟩
      have HN := Lib.hid hN
      clear hN
      go_enter Tryz.func14, Tryz.ntmps14
      go_wp2_with fail
      refine Hc.out.mono ?_
      rintro e w1 ⟨g1, c1, rs1, rfl, hcr, hO, hb1⟩
      rw [HN.out]
      go_wp2_with fail
      refine (I2.out w1 hb1).mono ?_
      rintro e w2 ⟨rfl, hs2⟩
      have hB2 := below_still hb1 hs2
      go_wp2_with fail
      go_ret2
      exact ⟨w2.heap.size, 0, rfl, by simp, fun j hj => absurd hj (by simp), hB2.alloc hB2.size _⟩
set_option maxHeartbeats 1000000 in
theorem spec_KLPolynomial_any (gc oc n cc g1 o1 n1 c1 g2 o2 n2 c2 : Nat) (c : List (List Int)) (a b : List Int) (w : World) (hn : c.length = n) (hn1 : a.length = n1) (hn2 : b.length = n2) (hx : c.length ≤ 1048576) (hrl : ∀ j, j < c.length → (c.getD j []).length ≤ 1048576) (hl1 : a.length ≤ 1048576) (hl2 : b.length ≤ 1048576)
    (hgc : gc < w.heap.size) (hg1 : g1 < w.heap.size) (hg2 : g2 < w.heap.size) (hr : Rows2 w gc oc c) (hc1 : Cells w g1 o1 a) (hc2 : Cells w g2 o2 b) :
    Calls Tryz.prog 8 #[(Value.slice (some ⟨gc, oc, none⟩) n cc), (Value.slice (some ⟨g1, o1, none⟩) n1 c1), (Value.slice (some ⟨g2, o2, none⟩) n2 c2)] w (GotIntsB w (kpL c a b) (kpB c a b)) := by
  cases hk : kpB c a b with
  | true =>
    obtain ⟨h1, h2, h3⟩ := kpB_yes hk
    rw [show kpL c a b = klP c a b from if_pos hk, ← h1]
    exact spec_KLPolynomial_ok gc oc n cc g1 o1 n1 c1 g2 o2 n2 c2 c a b w hn hn1 hn2 h2 h3 hgc hg1 hg2 hr hc1 hc2
  | false =>
    rw [show kpL c a b = [] from if_neg (by rw [hk]; decide)]
    have hR := spec_KLRow_any gc oc n cc g2 o2 n2 c2 c b w hn hn2 hx hrl hl2 hgc hg2 hr hc2
    unfold kpB at hk
    cases hkr : krB c b with
    | false =>
      rw [hkr] at hR
      have HR := Lib.hid hR
      clear hR hr hc1 hc2 hrl hk hkr
      generalize krL c b = row at *
      go_enter Tryz.func8, Tryz.ntmps8
      go_wp2_with fail
      refine HR.out.mono ?_
      rintro e w1 ⟨g3, c3, rfl, -, -, hb1⟩
      go_wp2_with fail
      go_ret2
      exact ⟨_, 0, rfl, Own.empty hb1.size, hb1.alloc hb1.size _⟩
    | true =>
      have hwa : isWordB c a = false := by rw [hkr] at hk; simpa using hk
      rw [hkr] at hR
      have HR := Lib.hid hR
      have I1 := Lib.hid (fun (W : World) (hb : Below w.heap.size w W) => by
        have := spec_IsWord_any gc oc n cc g1 o1 n1 c1 c a W hn hn1 hx hrl hl1 (hr.below hb hgc) (hc1.below hb hg1)
        rw [hwa] at this
        exact this)
      clear hR hr hc1 hc2 hrl hk hkr hwa
      generalize krL c b = row at *
      go_enter Tryz.func8, Tryz.ntmps8
      go_wp2_with fail
      refine HR.out.mono ?_
      rintro e w1 ⟨g3, c3, rfl, -, -, hb1⟩
      go_wp2_with fail
      refine (I1.out w1 hb1).mono ?_
      rintro e w2 ⟨rfl, hs2⟩
      have hB2 := below_still hb1 hs2
      go_wp2_with fail
      go_ret2
      exact ⟨_, 0, rfl, Own.empty hB2.size, hB2.alloc hB2.size _⟩
set_option maxHeartbeats 1000000 in
theorem spec_LengthOf_ok (gc oc n cc g o m cp : Nat) (c : List (List Int)) (v : List Int) (w : World) (hn : c.length = n) (hm : v.length = m) (hW : WordOk c v) (hgc : gc < w.heap.size) (hg : g < w.heap.size) (hr : Rows2 w gc oc c) (hv : Cells w g o v) :
    Calls Tryz.prog 10 #[(Value.slice (some ⟨gc, oc, none⟩) n cc), (Value.slice (some ⟨g, o, none⟩) m cp)] w (Gives w (.int .i64 ((nfI c v).length : Int))) := by
  have hn4 := hW.isC.2.1
  have hf := hW.few
  have hNF := spec_NormalForm_any gc oc n cc g o m cp c v w hn hm (by omega) (fun j hj => by rw [hW.isC.2.2.1 j hj]; omega) (by omega) hgc hg hr hv
  rw [hW.isWord] at hNF
  rw [show nfA c v = nfI c v from if_pos hW.isWord] at hNF
  have Hn := Lib.hid hNF
  clear hNF hr hv hW
  generalize nfI c v = y at *
  go_enter Tryz.func10, Tryz.ntmps10
  go_wp2_with fail
  refine Hn.out.mono ?_
  rintro e w1 ⟨g1, c1, rfl, ho1, hb1⟩
  go_wp2_with fail
  go_ret
  exact ⟨rfl, hb1⟩
def muL (c : List (List Int)) (a b : List Int) : Int := if kpB c a b = true then muS (klP c a b) (((nfI c b).length : Int) - ((nfI c a).length : Int)) else 0
set_option maxHeartbeats 1000000 in
theorem spec_MuOf_any (gc oc n cc g1 o1 n1 c1 g2 o2 n2 c2 : Nat) (c : List (List Int)) (a b : List Int) (w : World) (hn : c.length = n) (hn1 : a.length = n1) (hn2 : b.length = n2) (hx : c.length ≤ 1048576) (hrl : ∀ j, j < c.length → (c.getD j []).length ≤ 1048576) (hl1 : a.length ≤ 1048576) (hl2 : b.length ≤ 1048576)
    (hgc : gc < w.heap.size) (hg1 : g1 < w.heap.size) (hg2 : g2 < w.heap.size) (hr : Rows2 w gc oc c) (hc1 : Cells w g1 o1 a) (hc2 : Cells w g2 o2 b) :
    Calls Tryz.prog 21 #[(Value.slice (some ⟨gc, oc, none⟩) n cc), (Value.slice (some ⟨g1, o1, none⟩) n1 c1), (Value.slice (some ⟨g2, o2, none⟩) n2 c2)] w (Gives w (.tuple #[.int .i64 (muL c a b), .bool (kpB c a b)])) := by
  have HP := Lib.hid (spec_KLPolynomial_any gc oc n cc g1 o1 n1 c1 g2 o2 n2 c2 c a b w hn hn1 hn2 hx hrl hl1 hl2 hgc hg1 hg2 hr hc1 hc2)
  cases hk : kpB c a b with
  | false =>
    rw [show muL c a b = 0 from if_neg (by rw [hk]; decide)]
    rw [hk] at HP
    clear hr hc1 hc2 hrl hk
    generalize kpL c a b = p at *
    go_enter Tryz.func21, Tryz.ntmps21
    go_wp2_with fail
    refine HP.out.mono ?_
    rintro e w1 ⟨g3, c3, rfl, -, hb1⟩
    go_wp2_with fail
    go_ret2
    exact ⟨rfl, hb1⟩
  | true =>
    obtain ⟨h1, h2, h3⟩ := kpB_yes hk
    rw [hk, show kpL c a b = klP c a b from if_pos hk] at HP
    rw [show muL c a b = muS (klP c a b) (((nfI c b).length : Int) - ((nfI c a).length : Int)) from if_pos hk]
    have hpl : (klP c a b).length ≤ 1000 := by
      have H := klOk_of h1
      have hG := klB_grp h1
      have q1 := (ixK_at hG h3).2
      have q2 := klRows_len H (ixK c b) q1 (ixK c b) (ixK c a)
      have q3 := H.few
      rw [show klP c a b = (klRow c b).getD (ixK c a) [] from if_pos h1]
      unfold pol at q2
      unfold klRow
      omega
    have L1 := Lib.hid (fun (W : World) (hb : Below w.heap.size w W) => spec_LengthOf_ok gc oc n cc g1 o1 n1 c1 c a W hn hn1 h2 (Nat.lt_of_lt_of_le hgc hb.size) (Nat.lt_of_lt_of_le hg1 hb.size) (hr.below hb hgc) (hc1.below hb hg1))
    have L2 := Lib.hid (fun (W : World) (hb : Below w.heap.size w W) => spec_LengthOf_ok gc oc n cc g2 o2 n2 c2 c b W hn hn2 h3 (Nat.lt_of_lt_of_le hgc hb.size) (Nat.lt_of_lt_of_le hg2 hb.size) (hr.below hb hgc) (hc2.below hb hg2))
    have z1 := (nw_nf h2).lets.few
    have z2 := (nw_nf h3).lets.few
    generalize (nfI c a).length = x1 at *
    generalize (nfI c b).length = x2 at *
    generalize klP c a b = p at *
    obtain ⟨np, hnp⟩ : ∃ m, p.length = m := ⟨_, rfl⟩
    have K := Lib.hid (fun (W : World) (g cp : Nat) (hc : Cells W g 0 p) => spec_l23Mu_any g 0 np cp ((x2 : Int) - (x1 : Int)) p W hnp (by omega) (by omega) hc)
    have Hnp := Lib.hid hnp
    have ew : IntKind.i64.wrap ((x2 : Int) - (x1 : Int)) = (x2 : Int) - (x1 : Int) := IntWalk.i64_in _ (by omega)
    clear hr hc1 hc2 hrl hk h1 h2 h3 hnp
    go_enter Tryz.func21, Tryz.ntmps21
    go_wp2_with fail
    refine HP.out.mono ?_
    rintro e w1 ⟨g3, c3, rfl, ho1, hb1⟩
    rw [Hnp.out]
    go_wp2_with fail
    refine (L2.out w1 hb1).mono ?_
    rintro e w2 ⟨rfl, hb2⟩
    have hB2 := hb1.trans (hb2.mono hb1.size)
    have ho2 := ho1.below hb2 ho1.lt
    go_wp2_with fail
    refine (L1.out w2 hB2).mono ?_
    rintro e w3 ⟨rfl, hb3⟩
    have hB3 := hB2.trans (hb3.mono hB2.size)
    have ho3 := ho2.below hb3 ho2.lt
    go_wp2_with fail
    refine (K.out w3 g3 c3 ho3.cells).mono ?_
    rintro e w4 ⟨rfl, hs4⟩
    go_wp2_with fail
    go_ret2
    exact ⟨rfl, below_still hB3 hs4⟩
def revTo (t : List Int) (d i : Nat) : List Int := (List.range (d + 1)).map fun j => if d - j < i then t.getD (d - j) 0 else 0
theorem revTo_length (t : List Int) (d i : Nat) : (revTo t d i).length = d + 1 := by simp [revTo]
theorem revTo_at (t : List Int) (d i j : Nat) (h : j < (revTo t d i).length) : (revTo t d i)[j] = if d - j < i then t.getD (d - j) 0 else 0 := by simp [revTo]
theorem revTo_set (t : List Int) (k i : Nat) (hi : i < t.length) : (revTo t (k + i) i).set k (t[i]) = revTo t (k + i) (i + 1) := by
  apply List.ext_getElem (by simp [revTo])
  intro j h1 h2
  rw [List.length_set, revTo_length] at h1
  rw [List.getElem_set, revTo_at, revTo_at]
  by_cases e : k = j
  · subst e
    rw [if_pos rfl, if_pos (by omega)]
    simp [List.getD, hi]
  · rw [if_neg e]
    by_cases q : k + i - j < i
    · rw [if_pos q, if_pos (by omega)]
    · rw [if_neg q, if_neg (by omega)]
theorem revTo_end (t : List Int) (d : Nat) : revTo t d t.length = (List.range (d + 1)).map fun j => t.getD (d - j) 0 := by
  unfold revTo
  apply List.map_congr_left
  intro j _
  by_cases h : d - j < t.length
  · rw [if_pos h]
  · rw [if_neg h]; simp [List.getD, Nat.le_of_not_lt h]
theorem revTo_zero (t : List Int) (d : Nat) : revTo t d 0 = List.replicate (d + 1) 0 := by
  apply List.ext_getElem (by simp [revTo])
  intro j h1 h2
  simp [revTo]
set_option maxHeartbeats 1000000 in
theorem spec_ReversePoly_ok (g o n cp d : Nat) (p : List Int) (w : World) (hn : p.length = n) (hl : p.length ≤ 1000) (hcap : n ≤ cp) (hd : d ≤ 30) (hpd : p.length ≤ d + 1) (hg : g < w.heap.size) (hc : Cells w g o p) :
    Calls Tryz.prog 18 #[(Value.slice (some ⟨g, o, none⟩) n cp), .int .i64 (d : Int)] w (GotIntsB w (revL p d) true) := by
  have HT := Lib.hid (spec_TrimPoly_any g o n cp p w hn (by omega) hcap hg hc)
  have htl := trim_le p
  unfold revL
  generalize trim p = t at *
  have hend := revTo_end t d
  rw [← hend]
  obtain ⟨m, hm⟩ : ∃ m, t.length = m := ⟨_, rfl⟩
  have Hm := Lib.hid hm
  rw [hm] at htl ⊢
  have KT := Lib.hid (fun (W : World) (g2 c2 : Nat) (h : Own W w.heap.size g2 c2 (revTo t d m)) => spec_TrimPoly_any g2 0 (d + 1) c2 (revTo t d m) W (revTo_length _ _ _) (by rw [revTo_length]; omega) (by have := h.capLe; rw [revTo_length] at this; exact this) h.lt h.cells)
  have hz := Lib.hid (revTo_zero t d)
  clear hc hm hend
  go_enter Tryz.func18, Tryz.ntmps18
  go_wp2_with fail
  refine HT.out.mono ?_
  rintro e w1 ⟨g1, c1, rfl, ho1, hb1⟩
  rw [Hm.out]
  go_wp2_with (at_make; refine wpList_make_ints rfl _ _ rfl w.heap.size (d + 1) ((d : Int) + 1) (by omega) rfl rfl (by omega) hb1.size ?_)
  intro w2 hown2 hgr2
  have hB2 : Below w.heap.size w w2 := hb1.trans ((below_of_grown hgr2).mono hb1.size)
  have ho2 : Own w2 w.heap.size g1 c1 t := ho1.below (below_of_grown hgr2) ho1.lt
  rw [← hz.out] at hown2
  have hne : w1.heap.size ≠ g1 := by have := ho1.lt; omega
  generalize w1.heap.size = g2 at *
  clear ho1 hb1 hgr2
  go_wp2_with fail
  go_loopw [8] (fun iv wr => ∃ i : Nat, i ≤ m ∧ iv = .int .i64 (i : Nat) ∧ Own wr w.heap.size g2 (d + 1) (revTo t d i) ∧ Own wr w.heap.size g1 c1 t ∧ Below w.heap.size w wr) (fun iv _ => m - (intOf iv).toNat)
  case atStart => exact ⟨0, Nat.zero_le _, rfl, hown2, ho2, hB2⟩
  case round =>
    clear hown2 ho2 hB2
    obtain ⟨i, hi, rfl, hq, ht, hb⟩ := hrel
    by_cases hlt : i < m
    · have hit : i < t.length := by rw [Hm.out]; exact hlt
      obtain ⟨k, rfl⟩ : ∃ k, d = k + i := ⟨d - i, by omega⟩
      have h1 := ht.cell i hit
      have h2 := hq.frozen k
      have h3 := hq.cell k (by rw [revTo_length]; omega)
      have hs := hq.set k t[i]
      rw [revTo_set t k i hit] at hs
      have e1 : t.getD i 0 = t[i] := by simp [List.getD, hit]
      rw [e1] at h1
      have ht2 : Own (wr.setCell ⟨g2, k, none⟩ (.int .i64 t[i])) w.heap.size g1 c1 t := ht.grown hs.2 (by intro e; cases e; exact hne rfl)
      have hb2 : Below w.heap.size w (wr.setCell ⟨g2, k, none⟩ (.int .i64 t[i])) := hb.grown hs.2 hb.size (by intro j hj; cases hj; exact hq.base)
      have hs1 := Lib.hid hs.1
      have ek : ((k : Int) + (i : Int) - (i : Int)) = (k : Int) := by omega
      generalize t[i] = x at *
      clear hs hq e1 ht hb
      go_wp2_with fail
      go_roundw
      case rel => exact ⟨i + 1, by omega, by go_num, hs1.out, ht2, hb2⟩
      case measure => simp [intOf]; omega
    · obtain rfl : i = m := by omega
      have KT' := Lib.hid (KT.out wr g2 (d + 1) hq)
      go_wp2_with fail
      refine KT'.out.mono ?_
      rintro e w5 ⟨g5, c5, rfl, ho5, hb5⟩
      go_wp2_with fail
      go_ret2
      exact ⟨g5, c5, rfl, ho5.mono hb.size, hb.trans (hb5.mono hb.size)⟩
def smB (c : List (List Int)) (b : List Int) : Bool := kpB c [] b && decide (kpL c [] b = [1])
set_option maxHeartbeats 1000000 in
theorem spec_IsRationallySmooth_any (gc oc n cc g2 o2 n2 c2 : Nat) (c : List (List Int)) (b : List Int) (w : World) (hn : c.length = n) (hn2 : b.length = n2) (hx : c.length ≤ 1048576) (hrl : ∀ j, j < c.length → (c.getD j []).length ≤ 1048576) (hl2 : b.length ≤ 1048576)
    (hgc : gc < w.heap.size) (hg2 : g2 < w.heap.size) (hr : Rows2 w gc oc c) (hc2 : Cells w g2 o2 b) :
    Calls Tryz.prog 34 #[(Value.slice (some ⟨gc, oc, none⟩) n cc), (Value.slice (some ⟨g2, o2, none⟩) n2 c2)] w (Gives w (.bool (smB c b))) := by
  have hbA : Below w.heap.size w (w.alloc (.cells #[] 3)) := (Below.refl _ _).alloc (Nat.le_refl _) _
  have HP := Lib.hid (spec_KLPolynomial_any gc oc n cc w.heap.size 0 0 0 g2 o2 n2 c2 c [] b (w.alloc (.cells #[] 3)) hn rfl hn2 hx hrl (by simp) hl2 (Nat.lt_of_lt_of_le hgc hbA.size) (by simp) (Nat.lt_of_lt_of_le hg2 hbA.size) (hr.below hbA hgc) (fun j hj => absurd hj (by simp)) (hc2.below hbA hg2))
  unfold smB
  have hpl : (kpL c [] b).length ≤ 1000 := by
    by_cases hk : kpB c [] b = true
    · obtain ⟨h1, h2, h3⟩ := kpB_yes hk
      rw [show kpL c [] b = klP c [] b from if_pos hk]
      have H := klOk_of h1
      have hG := klB_grp h1
      have q1 := (ixK_at hG h3).2
      have q2 := klRows_len H (ixK c b) q1 (ixK c b) (ixK c [])
      have q3 := H.few
      rw [show klP c [] b = (klRow c b).getD (ixK c []) [] from if_pos h1]
      unfold pol at q2
      unfold klRow
      omega
    · rw [show kpL c [] b = [] from if_neg hk]; simp
  generalize kpL c [] b = p at *
  obtain ⟨m, hm⟩ : ∃ m, p.length = m := ⟨_, rfl⟩
  have KE := Lib.hid (fun (W : World) (g1 c1 g2 : Nat) (h1 : Cells W g1 0 p) (h2 : Cells W g2 0 [1]) => spec_EqualWords_any g1 0 m c1 g2 0 1 1 p [1] W hm rfl (by omega) h1 h2)
  have Hm := Lib.hid hm
  have HbA := Lib.hid hbA
  clear hr hc2 hrl hbA hm
  cases hk : kpB c [] b with
  | false =>
    rw [hk] at HP
    clear hk
    go_enter Tryz.func34, Tryz.ntmps34
    go_wp2_with fail
    refine HP.out.mono ?_
    rintro e w1 ⟨g3, c3, rfl, ho1, hb1⟩
    rw [Hm.out]
    go_wp2_with fail
    go_ret
    exact ⟨rfl, HbA.out.trans (hb1.mono HbA.out.size)⟩
  | true =>
    rw [hk] at HP
    clear hk
    go_enter Tryz.func34, Tryz.ntmps34
    go_wp2_with fail
    refine HP.out.mono ?_
    rintro e w1 ⟨g3, c3, rfl, ho1, hb1⟩
    rw [Hm.out]
    have hB1 := HbA.out.trans (hb1.mono HbA.out.size)
    have ho2 : Own (w1.alloc (.cells #[.int .i64 1] 3)) w1.heap.size w1.heap.size 1 [1] := Own.new 1 (Nat.le_refl _)
    have ho3 := ho1.alloc (.cells #[.int .i64 1] 3)
    have KE' := Lib.hid (KE.out _ g3 c3 w1.heap.size ho3.cells ho2.cells)
    have hB2 : Below w.heap.size w (w1.alloc (.cells #[.int .i64 1] 3)) := hB1.alloc hB1.size _
    clear ho1 ho2 ho3 KE hb1
    go_wp2_with fail
    refine KE'.out.mono ?_
    rintro e w2 ⟨rfl, hs2⟩
    go_wp2_with fail
    go_ret
    exact ⟨by simp, below_still hB2 hs2⟩
end Go.Proofs.YtdedkfbiookofaaGreatDoor
