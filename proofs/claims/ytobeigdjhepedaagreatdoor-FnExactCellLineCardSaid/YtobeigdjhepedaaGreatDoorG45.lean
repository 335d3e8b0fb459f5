/- The program's table of all polynomials: contract. Sums, differences and shifts of polynomials by the reference: contracts. -/
import Derived.Test.YtobeigdjhepedaaGreatDoorG35
import Derived.Test.YtobeigdjhepedaaGreatDoorG36
import Derived.Test.YtobeigdjhepedaaGreatDoorG39
import Derived.Test.YtobeigdjhepedaaGreatDoorG43
import Derived.Test.YtobeigdjhepedaaGreatDoorG44
import Derived.Deep.RegionHeld3
import Derived.Deep.RegionWith
import Derived.Deep.RegionLaw
import Derived.Test.YtobeigdjhepedaaGreatDoorG33
import Derived.Test.YtobeigdjhepedaaGreatDoorG32
import Derived.Test.YtobeigdjhepedaaGreatDoorG34
namespace Go.Proofs.YtobeigdjhepedaaGreatDoor
set_option maxRecDepth 100000
open Go.RowKit Game

theorem onlyK_setC (w : World) (p k : Nat) (u : Value) : Only p (p + 1) w (w.setCell ⟨p, k, none⟩ u) :=
  ⟨rfl, rfl, rfl, by simp [World.setCell], fun j _ hd => Below.heap_setCell _ _ _ _ (by show j ≠ p; omega)⟩
structure KzR (w : World) (k N gl cl gt ct gp cp b : Nat) (L T : List (List Int)) (P : List (List (List Int))) : Prop where
  F : KzF w k gl cl gt ct gp cp N
  places : w.cell? ⟨k, 2, none⟩ = some (.map (some b))
  hl : gl < w.heap.size
  ht : gt < w.heap.size
  hp : gp < w.heap.size
  hL : Rows2 w gl 0 L
  hT : Rows2 w gt 0 T
  hP : ∀ i j, i < N → j < N → PolAt w gp N i j (pol P i j)
  hA : AtW w b N L
theorem KzR.below {w w' : World} {k N gl cl gt ct gp cp b : Nat} {L T : List (List Int)} {P : List (List (List Int))} (h : KzR w k N gl cl gt ct gp cp b L T P) (hb : Below w.heap.size w w') : KzR w' k N gl cl gt ct gp cp b L T P where
  F := h.F.below hb
  places := (hb.cell (p := ⟨k, 2, none⟩) h.F.lt).trans h.places
  hl := Nat.lt_of_lt_of_le h.hl hb.size
  ht := Nat.lt_of_lt_of_le h.ht hb.size
  hp := Nat.lt_of_lt_of_le h.hp hb.size
  hL := h.hL.below hb h.hl
  hT := h.hT.below hb h.ht
  hP := fun i j hi hj => (h.hP i j hi hj).below h.hp hb
  hA := h.hA.below hb h.hA.lt
theorem tabU_shape {L T : List (List Int)} {P : List (List (List Int))} {N v : Nat} (h : P.length = N ∧ ∀ i, i < N → (P.getD i []).length = N) : ∀ t, (tabU L T P v t).length = N ∧ ∀ i, i < N → ((tabU L T P v t).getD i []).length = N
  | 0 => h
  | t + 1 => by
    have ih := tabU_shape (L := L) (T := T) (v := v) h t
    rw [tabU_succ]
    exact ⟨by rw [setP_length]; exact ih.1, fun i hi => by rw [setP_row]; exact ih.2 i hi⟩
theorem tabV_shape {L T : List (List Int)} {N : Nat} (h : L.length = N) : ∀ t, (tabV L T t).length = N ∧ ∀ i, i < N → ((tabV L T t).getD i []).length = N
  | 0 => ⟨by simp [tabV, h], fun i hi => by simp [tabV, List.getD, h, hi]⟩
  | t + 1 => by rw [tabV_succ]; exact tabU_shape (tabV_shape h t) L.length
def GotKz (w : World) (c : List (List Int)) (e : Ending) (w' : World) : Prop :=
  ∃ k gl cl gt ct gp cp b, e = .returned (.tuple #[.pointer (some ⟨k, 0, none⟩), .bool true]) ∧ w.heap.size ≤ k ∧
    KzR w' k (elemL c).length gl cl gt ct gp cp b (elemL c) (leftT c) (tabI (elemL c) (leftT c)) ∧ Below w.heap.size w w'

set_option maxHeartbeats 1000000 in
theorem impl_newKazhdan_no (gc oc n cc : Nat) (c : List (List Int)) (w : World) (hn : c.length = n) (hx : c.length ≤ 1048576) (hrl : ∀ j, j < c.length → (c.getD j []).length ≤ 1048576) (hk : klB c = false) (hgc : gc < w.heap.size) (hr : Rows2 w gc oc c) (hm : MaxL w) :
    Calls Tryz.prog 75 #[(Value.slice (some ⟨gc, oc, none⟩) n cc)] w (Gives w (.tuple #[.pointer none, .bool false])) := by
  have Hc := Lib.hid (impl_few24_no gc oc n cc c w hn hx hrl hk hgc hr hm)
  clear hr hrl hk hm hn
  go_enter Tryz.func75, Tryz.ntmps75
  go_wp2_with fail
  refine Hc.out.mono ?_
  rintro e w1 ⟨rfl, hb1⟩
  go_wp2_with fail
  go_ret2
  exact ⟨rfl, hb1⟩
set_option maxRecDepth 100000 in
set_option maxHeartbeats 4000000 in
theorem impl_newKazhdan_yes (gc oc n cc : Nat) (c : List (List Int)) (w : World) (hn : c.length = n) (hk : klB c = true) (hgc : gc < w.heap.size) (hr : Rows2 w gc oc c) (hm : MaxL w) :
    Calls Tryz.prog 75 #[(Value.slice (some ⟨gc, oc, none⟩) n cc)] w (GotKz w c) := by
  have H := klOk_of hk
  have hG := klB_grp hk
  have hC := hG.hC
  have hn4 := hC.2.1
  have hrl : ∀ j, j < c.length → (c.getD j []).length ≤ 1048576 := fun j hj => by rw [hC.2.2.1 j hj]; omega
  have hN0 : 0 < (elemL c).length := by have := (klB_len hk).2; have := (klB_iff c).1 hk; omega
  have Hc := Lib.hid (impl_few24_yes gc oc n cc c w hn hk hgc hr hm)
  have HT := Lib.hid (fun (W : World) (hb : Below w.heap.size w W) => impl_LeftTable_any gc oc n cc c W hn (by omega) hrl (Nat.lt_of_lt_of_le hgc hb.size) (hr.below hb hgc) (hm.below hb))
  have HP := Lib.hid (fun (W : World) (g cp : Nat) (hg : g < W.heap.size) (hr : Rows2 W g 0 (elemL c)) => impl_places_ok g cp _ (elemL c) W rfl (by have := H.few; omega) hG.asc.nodup (fun j hj => elem_let hG (by simp [List.getD, hj])) hg hr)
  have hdef : GotKz w c = fun e w' => ∃ k gl cl gt ct gp cp b, e = .returned (.tuple #[.pointer (some ⟨k, 0, none⟩), .bool true]) ∧ w.heap.size ≤ k ∧
    KzR w' k (elemL c).length gl cl gt ct gp cp b (elemL c) (leftT c) (tabI (elemL c) (leftT c)) ∧ Below w.heap.size w w' := rfl
  rw [hdef]
  clear hdef hr hrl hm hk hG hC
  generalize leftT c = T at *
  generalize elemL c = L at *
  obtain ⟨N, hNL⟩ : ∃ N, L.length = N := ⟨_, rfl⟩
  have hNT : T.length = N := by rw [H.tlen, hNL]
  rw [hNL] at H HP hN0 ⊢
  have HNL := Lib.hid hNL; have HNT := Lib.hid hNT; have HH := Lib.hid H
  have hN24 := H.few
  clear hNL hNT H
  go_enter Tryz.func75, Tryz.ntmps75
  go_wp2_with fail
  refine Hc.out.mono ?_
  rintro e w1 ⟨g1, c1, rs1, rfl, hc1, hO1, hb1⟩
  rw [HNL.out]
  have hL1 := hO1.rows2
  rw [hc1] at hL1
  have hg1 := hO1.lt
  clear hc1 hO1 Hc
  go_wp2_with fail
  refine (HT.out w1 hb1).mono ?_
  rintro e w2 ⟨g2, c2, rs2, rfl, hc2, hO2, hb2⟩
  rw [HNT.out]
  have hT2 := hO2.rows2
  rw [hc2] at hT2
  have hg2 := hO2.lt
  have hL2 := hL1.below hb2 hg1
  have hg12 := Nat.lt_of_lt_of_le hg1 hb2.size
  have hB2 := hb1.trans (hb2.mono hb1.size)
  clear hc2 hO2 HT hL1 hb1 hb2 hg1
  go_wp2_with fail
  refine (HP.out w2 g1 c1 hg12 hL2).mono ?_
  rintro e w3 ⟨bM, rfl, hbM, hA3, hb3⟩
  have hL3 := hL2.below hb3 hg12
  have hT3 := hT2.below hb3 hg2
  have hg13 := Nat.lt_of_lt_of_le hg12 hb3.size
  have hg23 := Nat.lt_of_lt_of_le hg2 hb3.size
  have hB3 := hB2.trans (hb3.mono hB2.size)
  have hbM3 := hA3.lt
  clear HP hL2 hT2 hg12 hg2 hB2 hb3 hbM
  obtain ⟨w4, hw4⟩ : ∃ w4, w4 = w3.alloc (.cells #[(Value.slice (some ⟨g1, 0, none⟩) N c1), (Value.slice (some ⟨g2, 0, none⟩) N c2), .map (some bM), .slice none 0 0] 73) := ⟨_, rfl⟩
  have hK4 : KzS w4 w3.heap.size (Value.slice (some ⟨g1, 0, none⟩) N c1) (Value.slice (some ⟨g2, 0, none⟩) N c2) (.map (some bM)) (.slice none 0 0) := by rw [hw4]; exact heap_alloc_new w3 _
  have hb4 : Below w3.heap.size w3 w4 := by rw [hw4]; exact (Below.refl _ _).alloc (Nat.le_refl _) _
  have hs4 : w3.heap.size + 1 ≤ w4.heap.size := by rw [hw4]; simp
  go_wp2_with fail
  rw [← hw4]
  clear hw4
  generalize hgk : w3.heap.size = gk at *
  have hnil : List.replicate N (Value.slice none 0 0) = List.replicate N (Value.slice none 0 0) := rfl
  generalize hnv : List.replicate N (Value.slice none 0 0) = nils at hnil
  have Hnv := Lib.hid hnv
  have hnvl : nils.length = N := by rw [← hnv]; simp
  clear hnil hnv
  go_loopw [25] (fun iv wr => ∃ (j : Nat) (pv : Value) (rr : List (Nat × Nat)), j ≤ N ∧ iv = .int .i64 (j : Nat) ∧ Hid (rr.length = j) ∧ Hid ((j = 0 ∧ pv = .slice none 0 0) ∨ ∃ gp cp, pv = (Value.slice (some ⟨gp, 0, none⟩) j cp)) ∧ KzS wr gk (Value.slice (some ⟨g1, 0, none⟩) N c1) (Value.slice (some ⟨g2, 0, none⟩) N c2) (.map (some bM)) pv ∧ Hid (wr.ownsRow (gk + 1) 22 1 pv j (rr.map (rvN N))) ∧ Hid ((rr.map Prod.fst).Nodup) ∧ Hid (∀ r ∈ rr, OwnV wr (gk + 1) 28 r.1 r.2 nils) ∧ gk + 1 ≤ wr.heap.size ∧ Below gk w3 wr) (fun iv _ => N - (intOf iv).toNat)
  case atStart => exact ⟨0, _, [], Nat.zero_le _, rfl, rfl, Lib.hid (.inl ⟨rfl, rfl⟩), hK4, Lib.hid ⟨rfl, .inl ⟨rfl, rfl⟩⟩, Lib.hid (by simp), Lib.hid (by simp), hs4, hb4⟩
  case round =>
    clear hK4 hb4 hs4
    obtain ⟨j, pv, rr, hj, rfl, hrl, hpv, hK, hO, hnd, hR, hs, hb⟩ := hrel
    by_cases hlt : j < N
    · obtain ⟨-, -, -, k3⟩ := hK.cells
      have kf := hK.free 3
      have hKs := hK
      have F0 : wr.drew.cell? ⟨gk, 3, none⟩ = some pv ∧ wr.drew.frozen? ⟨gk, 3, none⟩ = false := ⟨k3, kf⟩
      have F1 : ∀ w1, wr.drew.grownBy w1 none → KzS w1 gk (Value.slice (some ⟨g1, 0, none⟩) N c1) (Value.slice (some ⟨g2, 0, none⟩) N c2) (.map (some bM)) pv := fun w1 hg => hK.same (hg.block gk hK.lt (by simp))
      have F2 : ∀ w1 o, wr.drew.grownBy w1 none → KzS (w1.alloc o) gk (Value.slice (some ⟨g1, 0, none⟩) N c1) (Value.slice (some ⟨g2, 0, none⟩) N c2) (.map (some bM)) pv := fun w1 o hg => (F1 w1 hg).same (Below.heap_alloc _ _ _ (F1 w1 hg).lt)
      have F2' : ∀ w1 o, wr.drew.grownBy w1 none → (w1.alloc o).cell? ⟨gk, 3, none⟩ = some pv ∧ (w1.alloc o).frozen? ⟨gk, 3, none⟩ = false := fun w1 o hg => ⟨(F2 w1 o hg).cells.2.2.2, (F2 w1 o hg).free 3⟩
      have F1' : ∀ w1, wr.drew.grownBy w1 none → w1.cell? ⟨gk, 3, none⟩ = some pv ∧ w1.frozen? ⟨gk, 3, none⟩ = false := fun w1 hg => ⟨(F1 w1 hg).cells.2.2.2, (F1 w1 hg).free 3⟩
      have hne : ∀ g, pv.ownBlock = some g → gk + 1 ≤ g ∧ g < wr.heap.size := fun g hg => by
        rcases hO.out.2 with ⟨h1, -⟩ | ⟨g', cap, cur, h1, h2, h3, -⟩
        · rw [h1] at hg; simp [Value.ownBlock] at hg
        · rw [h1] at hg
          simp only [Value.ownBlock, Option.some.injEq] at hg
          subst hg
          exact ⟨h2, lt_of_block h3⟩
      have hnk : some gk ≠ pv.ownBlock := fun e => by have := (hne gk e.symm).1; omega
      have F3 : ∀ w1 o w2, wr.drew.grownBy w1 none → (w1.alloc o).grownBy w2 pv.ownBlock → KzS w2 gk (Value.slice (some ⟨g1, 0, none⟩) N c1) (Value.slice (some ⟨g2, 0, none⟩) N c2) (.map (some bM)) pv := fun w1 o w2 h1 h2 => (F2 w1 o h1).same (h2.block gk (F2 w1 o h1).lt hnk)
      have F3' : ∀ w1 o w2, wr.drew.grownBy w1 none → (w1.alloc o).grownBy w2 pv.ownBlock → w2.cell? ⟨gk, 3, none⟩ = some pv ∧ w2.frozen? ⟨gk, 3, none⟩ = false := fun w1 o w2 h1 h2 => ⟨(F3 w1 o w2 h1 h2).cells.2.2.2, (F3 w1 o w2 h1 h2).free 3⟩
      have FO : ∀ w1 o, wr.drew.grownBy w1 none → (w1.alloc o).ownsRow (gk + 1) 22 1 pv j (rr.map (rvN N)) := fun w1 o hg => own_row_same hO.out (fun g hgv => (Below.heap_alloc _ _ _ (Nat.lt_of_lt_of_le (hne g hgv).2 hg.size)).trans (hg.block g (hne g hgv).2 (by simp)))
      have FB : ∀ w1 o, wr.drew.grownBy w1 none → gk + 1 ≤ (w1.alloc o).heap.size := fun w1 o hg => by have h1 : wr.heap.size ≤ w1.heap.size := hg.size; simp; omega
      have HF1 := Lib.hid F1'; have HF2 := Lib.hid F2'; have HF3 := Lib.hid F3'; have HFK := Lib.hid F3; have HFO := Lib.hid FO; have HFB := Lib.hid FB; have Hne := Lib.hid hne
      clear F1 F1' F2 F2' F3 F3' FO FB k3 kf hKs hnk hne
      have HFS := Lib.hid (fun w1 o w2 v (h1 : wr.drew.grownBy w1 none) (h2 : (w1.alloc o).grownBy w2 pv.ownBlock) => ((HFK.out w1 o w2 h1 h2).set v).free 3)
      have F0c := F0.1
      have F0f := F0.2
      go_wp2_with fail
      obtain ⟨wA, hmk, hoA, hgA⟩ := run_make_rows (w := wr.drew) (gk + 1) N (by omega) hs
      have hcA := (HF1.out _ hgA).1
      have hcA2 : ∀ o, (wA.alloc o).cell? ⟨gk, 3, none⟩ = some pv := fun o => (HF2.out _ o hgA).1
      go_region_law (refine step_append_N infoTab Tryz.underlying71 (by rfl) (by decide) (by rfl) _ _ (by rfl) (gk + 1) j pv (rr.map (rvN N)) wA.heap.size 0 1 (rvN N (wr.heap.size, N)) (by rfl) _ (by exact HFB.out _ _ hgA) (by exact HFO.out _ _ hgA) (by exact (cell_of_cells (heap_alloc_new wA _) 0)) (by rfl) (by rfl) (by omega) ?_; intro gB cB wB hoB hgB; have hcB := (HF3.out _ _ _ hgA hgB).1; have hfB := (HF3.out _ _ _ hgA hgB).2)
      all_goals (
        go_wp2_with fail
        have hKB := HFK.out wA _ wB hgA hgB
        generalize hvB : (Value.slice (some ⟨gB, 0, none⟩) (j + 1) cB) = vB at *
        have hsz : wr.heap.size ≤ wA.heap.size := hgA.size
        have hszB : wA.heap.size + 1 ≤ wB.heap.size := by have := hgB.size; simpa using this
        have hpres : ∀ g, gk + 1 ≤ g → some g ≠ pv.ownBlock → g < wA.heap.size → (wB.setCell ⟨gk, 3, none⟩ vB).heap[g]? = wA.heap[g]? := fun g h1 h2 h3 => by
          rw [Below.heap_setCell _ _ _ _ (show g ≠ gk by omega), hgB.block g (by simp; omega) h2]
          exact Below.heap_alloc _ _ _ h3
        have hbl : ∀ r ∈ rr, some r.1 ≠ pv.ownBlock := fun r hr e => by
          rcases hO.out.2 with ⟨h1, -⟩ | ⟨g', cap, cur, h1, h2, h3, -⟩
          · rw [h1] at e; simp [Value.ownBlock] at e
          · rw [h1] at e
            simp only [Value.ownBlock, Option.some.injEq] at e
            obtain ⟨cur2, h4, -⟩ := (hR.out r hr).row
            rw [e, h3] at h4
            simp at h4
        have hrows : ∀ r ∈ rr ++ [(wr.heap.size, N)], OwnV (wB.setCell ⟨gk, 3, none⟩ vB) (gk + 1) 28 r.1 r.2 nils := fun r hr => by
          rw [List.mem_append, List.mem_singleton] at hr
          rcases hr with hr | rfl
          · have h1 := (hR.out r hr).lt
            exact (hR.out r hr).same ((hpres r.1 (hR.out r hr).base (hbl r hr) (by omega)).trans (hgA.block r.1 h1 (by simp)))
          · have h1 : OwnV wA (gk + 1) 28 wr.heap.size N nils := by rw [← Hnv.out]; exact hoA
            refine h1.same (hpres wr.heap.size hs (fun e => ?_) h1.lt)
            have := (Hne.out _ e.symm).2
            omega
        have hnd2 : ((rr ++ [(wr.heap.size, N)]).map Prod.fst).Nodup := by
          rw [List.map_append, List.nodup_append]
          refine ⟨hnd.out, by simp, ?_⟩
          intro x hx y hy
          obtain ⟨r, hr, rfl⟩ := List.mem_map.1 hx
          simp only [List.map_cons, List.map_nil, List.mem_singleton] at hy
          have := (hR.out r hr).lt
          omega
        have hgBk := hoB.base
        have hOB : (wB.setCell ⟨gk, 3, none⟩ vB).ownsRow (gk + 1) 22 1 vB (j + 1) ((rr ++ [(wr.heap.size, N)]).map (rvN N)) := by
          have h1 := hoB
          unfold OwnV at h1
          have e1 : (rr.map (rvN N) ++ [rvN N (wr.heap.size, N)]).length = j + 1 := by rw [List.length_append, List.length_map, hrl.out]; rfl
          rw [e1, hvB] at h1
          rw [List.map_append]
          refine own_row_same h1 (fun g hg => ?_)
          rw [← hvB] at hg
          simp only [Value.ownBlock, Option.some.injEq] at hg
          subst hg
          exact Below.heap_setCell _ _ _ _ (show gB ≠ gk by omega)
        have hlen2 : (rr ++ [(wr.heap.size, N)]).length = j + 1 := by rw [List.length_append, hrl.out]; rfl
        have hbA : Below gk w3 wA := (Below.drew hb).grown hgA (by show gk ≤ wr.heap.size; omega) (by intro t ht; cases ht)
        have hbB : Below gk w3 wB := (hbA.alloc (by omega) _).grown hgB (by simp; omega) (by intro t ht; have := (Hne.out t ht).1; omega)
        have hbC : Below gk w3 (wB.setCell ⟨gk, 3, none⟩ vB) := hbB.setCell (Nat.le_refl _) _
        have hsC : gk + 1 ≤ (wB.setCell ⟨gk, 3, none⟩ vB).heap.size := by simp; omega
        have hKC := hKB.set vB
        go_roundw
        case rel => exact ⟨j + 1, vB, _, by omega, by go_num, hlen2, Lib.hid (.inr ⟨gB, cB, hvB.symm⟩), hKC, Lib.hid hOB, Lib.hid hnd2, Lib.hid hrows, hsC, hbC⟩
        case measure => simp [intOf]; omega)
    · obtain rfl : j = N := by omega
      rcases hpv.out with ⟨h1, -⟩ | ⟨gp, cp, rfl⟩
      · omega
      have hT0 : PolT wr (gk + 1) gp cp j 0 0 (tabV L T 0) rr := ⟨hrl.out, by
        have h1 := hO.out
        unfold OwnV
        rw [List.length_map, hrl.out]; exact h1, hnd.out, fun i hi => ⟨nils, hR.out _ (List.getElem_mem hi), hnvl, fun j' hj' h => by omega⟩⟩
      have hK0 : Known (tabV L T 0) j 0 0 := fun i j' hi h => by omega
      clear hpv hO hnd hR hrl hnvl Hnv
      have hgkl := hK.lt
      go_wp2_with fail
      go_loopw [7, 8, 42] (fun _ _ iv wr => ∃ v : Nat, v ≤ j ∧ iv = .int .i64 (v : Nat) ∧ PolT wr (gk + 1) gp cp j v 0 (tabV L T v) rr ∧ Hid (Known (tabV L T v) j v 0) ∧ KzS wr gk (Value.slice (some ⟨g1, 0, none⟩) j c1) (Value.slice (some ⟨g2, 0, none⟩) j c2) (.map (some bM)) (Value.slice (some ⟨gp, 0, none⟩) j cp) ∧ gk + 1 ≤ wr.heap.size ∧ Below gk w3 wr) (fun _ _ iv _ => j - (intOf iv).toNat)
      case atStart => exact ⟨0, Nat.zero_le _, rfl, hT0, Lib.hid hK0, hK, hs, hb⟩
      case round =>
        clear hT0 hK0 hK hs hb hgkl
        obtain ⟨v, hv, rfl, hT, hKn, hK, hs, hb⟩ := hrel
        by_cases hvN : v < j
        · have hsh := tabV_shape (L := L) (T := T) HNL.out v
          have hT0 : PolT wr (gk + 1) gp cp j v 0 (tabU L T (tabV L T v) v 0) rr := hT
          have hK0 : Known (tabU L T (tabV L T v) v 0) j v 0 := hKn.out
          have hsuV := tabV_succ L T v
          rw [HNL.out] at hsuV
          have HsuV := Lib.hid hsuV; have Hsh := Lib.hid hsh
          clear hT hKn hsuV hsh
          generalize tabV L T v = PV at *
          go_wp2_with fail
          go_loopw [8, 47] (fun _ iv wr => ∃ u : Nat, u ≤ j ∧ iv = .int .i64 (u : Nat) ∧ PolT wr (gk + 1) gp cp j v u (tabU L T PV v u) rr ∧ Hid (Known (tabU L T PV v u) j v u) ∧ KzS wr gk (Value.slice (some ⟨g1, 0, none⟩) j c1) (Value.slice (some ⟨g2, 0, none⟩) j c2) (.map (some bM)) (Value.slice (some ⟨gp, 0, none⟩) j cp) ∧ gk + 1 ≤ wr.heap.size ∧ Below gk w3 wr) (fun _ iv _ => j - (intOf iv).toNat)
          case atStart => exact ⟨0, Nat.zero_le _, rfl, hT0, Lib.hid hK0, hK, hs, hb⟩
          case round =>
            clear hT0 hK0 hK hs hb
            obtain ⟨u, hu, rfl, hT, hKn, hK, hs, hb⟩ := hrel
            by_cases huN : u < j
            · have hb' : Below w3.heap.size w3 wr := by rw [hgk]; exact hb
              have hLr := hL3.below hb' (by omega)
              have hTr := hT3.below hb' (by omega)
              obtain ⟨k0, k1, -, k3⟩ := hK.cells
              have hshU := tabU_shape (L := L) (T := T) (v := v) Hsh.out u
              have hK0 : Known (tabU L T PV v u) j v 0 := fun i j' hi h => hKn.out i j' hi (by omega)
              have hmd := impl_made_ok gk g1 c1 g2 c2 gp cp j c.length u v L T (tabU L T PV v u) wr.drew HH.out ⟨k0, k1, k3, hK.lt⟩ (by show _ < wr.heap.size; omega) (by show _ < wr.heap.size; omega) hT.out.lt hLr hTr hK0 (fun i j' hi hj' => hT.at hi hj' (by omega)) huN hvN
              have hsu := tabU_succ L T PV v u
              have hml := madeI_le HH.out hK0 huN hvN
              have hKn2 := hKn.out.next hml hshU.1 (hshU.2 u huN) huN hvN
              rw [← hsu] at hKn2
              generalize madeI L T (tabU L T PV v u) u v = X at *
              have hst := fun (wB : World) (gB cB : Nat) (hbB : Below wr.heap.size wr wB) (ho : Own wB wr.heap.size gB cB X) => (hT.below hbB).store huN hvN hshU.1 hshU.2 (ho.mono hs)
              have hnx := fun (wB : World) (hbB : Below wr.heap.size wr wB) => (hT.below hbB).next huN hvN
              have hgc := fun (wB : World) (hbB : Below wr.heap.size wr wB) => (hT.below hbB).gcell huN
              have hgr := (hT.next huN hvN).2.2
              rw [← hsu] at hst
              generalize (rr.getD u (0, 0)).1 = gu at *
              generalize (rr.getD u (0, 0)).2 = cu at *
              have hneK : gu ≠ gk := by omega
              have hneP : gu ≠ gp := fun e => hgr.2.2 e.symm
              have HM := Lib.hid hmd; have HN := Lib.hid hnx; have HG := Lib.hid hgc; have HKn2 := Lib.hid hKn2; have HS := Lib.hid hst
              have HKs := Lib.hid (fun (wB : World) (hbB : Below wr.heap.size wr wB) => hK.below hbB hK.lt)
              have hd1 : Below wr.heap.size wr wr.drew := Below.drew (Below.refl _ _)
              have HC := Lib.hid (fun (wB : World) (hbB : Below wr.heap.size wr wB) => show wB.cell? ⟨gk, 3, none⟩ = some (Value.slice (some ⟨gp, 0, none⟩) j cp) ∧ wB.cell? ⟨gp, u, none⟩ = some (Value.slice (some ⟨gu, 0, none⟩) j cu) from ⟨(hK.below hbB hK.lt).cells.2.2.2, hgc wB hbB⟩)
              have HCs := Lib.hid (fun (wB : World) (x : Value) (hbB : Below wr.heap.size wr wB) => show (wB.setCell ⟨gu, v, none⟩ x).cell? ⟨gk, 3, none⟩ = some (Value.slice (some ⟨gp, 0, none⟩) j cp) ∧ (wB.setCell ⟨gu, v, none⟩ x).cell? ⟨gp, u, none⟩ = some (Value.slice (some ⟨gu, 0, none⟩) j cu) from
                ⟨(World.cell?_of_block (a := ⟨gk, 3, none⟩) (Below.heap_setCell _ _ _ _ (Ne.symm hneK))).trans (HC.out wB hbB).1, (World.cell?_of_block (a := ⟨gp, u, none⟩) (Below.heap_setCell _ _ _ _ (Ne.symm hneP))).trans (HC.out wB hbB).2⟩)
              clear k0 k1 k3 hLr hTr hb' hK0 hmd hsu hml hKn hKn2 hst hnx hgc hT
              go_wp2_with fail
              go_region_held3 (fun W => W.cell? ⟨gk, 3, none⟩ = some (Value.slice (some ⟨gp, 0, none⟩) j cp) ∧ W.cell? ⟨gp, u, none⟩ = some (Value.slice (some ⟨gu, 0, none⟩) j cu))
                (first | with_reducible exact HC.out _ hd1 | with_reducible exact HC.out _ hbB1 | with_reducible exact HCs.out _ _ hbB1)
                (first
                  | (go_at_call 118; (with_reducible refine HM.out.mono ?_); rintro e wB ⟨gB, cB, rfl, hoB, hbB⟩; have hbB1 := hd1.trans (hbB.mono hd1.size); obtain ⟨⟨x0, hn1⟩, hn2, -⟩ := HN.out wB hbB1))
              obtain ⟨hTn, -⟩ := HS.out wB gB cB hbB1 (hoB.mono hd1.size)
              have hKs := (HKs.out wB hbB1).same (w' := wB.setCell ⟨gu, v, none⟩ (Value.slice (some ⟨gB, 0, none⟩) X.length cB)) (Below.heap_setCell _ _ _ _ (Ne.symm hneK))
              have hbn : Below gk w3 (wB.setCell ⟨gu, v, none⟩ (Value.slice (some ⟨gB, 0, none⟩) X.length cB)) := (hb.trans (hbB1.mono (by omega))).setCell (show gk ≤ gu by omega) _
              have hsn : gk + 1 ≤ (wB.setCell ⟨gu, v, none⟩ (Value.slice (some ⟨gB, 0, none⟩) X.length cB)).heap.size := by have := hbB1.size; simp; omega
              clear hbB1 hbB hoB hn1 hn2 HM HN HG HS HKs HC HCs hd1 hb hs hK
              go_wp2_with fail
              go_roundw
              case rel => exact ⟨u + 1, by omega, by go_num, hTn, HKn2, hKs, hsn, hbn⟩
              case measure => simp [intOf]; omega
            · obtain rfl : u = j := by omega
              have hT2 := hT.col
              rw [← HsuV.out] at hT2
              have hK2 : Known (tabV L T (v + 1)) u (v + 1) 0 := fun i j' hi h => by
                rw [HsuV.out]; exact hKn.out i j' hi (by omega)
              have HK2 := Lib.hid hK2
              clear hT hKn hK2
              go_wp2_with fail
              go_roundw
              case rel => exact ⟨v + 1, by omega, by go_num, hT2, HK2, hK, hs, hb⟩
              case measure => simp [intOf]; omega
        · obtain rfl : v = j := by omega
          obtain ⟨k0, k1, k2, k3⟩ := hK.cells
          have hgk3 : w.heap.size ≤ gk := by rw [← hgk]; exact hB3.size
          have hb' : Below w3.heap.size w3 wr := by rw [hgk]; exact hb
          have hLf := hL3.below hb' (by omega)
          have hTf := hT3.below hb' (by omega)
          have hAf := hA3.below hb' (by omega)
          have hBf := hB3.trans (hb'.mono hB3.size)
          have htabI : tabI L T = tabV L T v := by unfold tabI; rw [HNL.out]
          have hres : KzR wr gk v g1 c1 g2 c2 gp cp bM L T (tabI L T) :=
            ⟨⟨k0, k1, k3, hK.lt⟩, k2, by omega, by omega, hT.out.lt, hLf, hTf, fun i j' hi hj' => by rw [htabI]; exact hT.at hi hj' hj', hAf⟩
          go_wp2_with fail
          go_ret2
          exact ⟨gk, g1, c1, g2, c2, gp, cp, bM, rfl, hgk3, hres, hBf⟩
end Go.Proofs.YtobeigdjhepedaaGreatDoor
namespace Go.Proofs.YtobeigdjhepedaaGreatDoor
set_option maxRecDepth 100000
open Go.RowKit

def addL (a b : List Int) (t : Nat) : List Int := (List.range t).map fun i => if i < b.length then wrap64 (a.getD i 0 + b.getD i 0) else a.getD i 0
theorem addL_succ (a b : List Int) (t : Nat) : addL a b (t + 1) = addL a b t ++ [if t < b.length then wrap64 (a.getD t 0 + b.getD t 0) else a.getD t 0] := by simp [addL, List.range_succ]
theorem addL_length (a b : List Int) (t : Nat) : (addL a b t).length = t := by simp [addL]
theorem addP_eq (a b : List Int) : addP a b = trim (addL a b (max a.length b.length)) := rfl
def negTo (b : List Int) (t : Nat) : List Int := (b.take t).map fun x => wrap64 (-x)
theorem negTo_succ {b : List Int} {t : Nat} (ht : t < b.length) : negTo b (t + 1) = negTo b t ++ [wrap64 (- b.getD t 0)] := by
  unfold negTo
  rw [List.take_succ_eq_append_getElem ht, List.map_append]
  simp [List.getD, ht]
theorem negTo_length {b : List Int} {t : Nat} (ht : t ≤ b.length) : (negTo b t).length = t := by simp [negTo]; omega

set_option maxHeartbeats 2000000 in
theorem spec_AddPoly_any (g1 o1 n1 c1 g2 o2 n2 c2 : Nat) (a b : List Int) (w : World) (hn1 : a.length = n1) (hn2 : b.length = n2) (hx : a.length ≤ 100000) (hy : b.length ≤ 100000)
    (hg1 : g1 < w.heap.size) (hg2 : g2 < w.heap.size) (hc1 : Cells w g1 o1 a) (hc2 : Cells w g2 o2 b) :
    Calls Tryz.prog 101 #[(Value.slice (some ⟨g1, o1, none⟩) n1 c1), (Value.slice (some ⟨g2, o2, none⟩) n2 c2)] w (GotInts w (addP a b)) := by
  have Hn1 := Lib.hid hn1; have Hn2 := Lib.hid hn2
  rw [hn1] at hx
  rw [hn2] at hy
  rw [addP_eq]
  obtain ⟨M, hM⟩ : ∃ M, max a.length b.length = M := ⟨_, rfl⟩
  rw [hM]
  have hM1 : M ≤ 100000 := by omega
  have hM2 : ∀ i, i < M ↔ i < n1 ∨ i < n2 := by omega
  clear hn1 hn2 hM
  go_enter Tryz.func101, Tryz.ntmps101
  go_wp2
  have hE : Own (w.alloc (.cells #[] 3)) w.heap.size w.heap.size 0 [] := Own.empty (Nat.le_refl _)
  have hb0 : Below w.heap.size w (w.alloc (.cells #[] 3)) := (Below.refl _ _).alloc (Nat.le_refl _) _
  go_loopw [5, 6, 7] (fun ov iv _ wr => ∃ i g c, i ≤ M ∧ iv = .int .i64 (i : Nat) ∧ ov = (Value.slice (some ⟨g, 0, none⟩) i c) ∧ Own wr w.heap.size g c (addL a b i) ∧ Below w.heap.size w wr) (fun _ iv _ _ => M - (intOf iv).toNat)
  case atStart => exact ⟨0, w.heap.size, 0, Nat.zero_le _, rfl, rfl, hE, hb0⟩
  case round =>
    clear hE hb0
    obtain ⟨i, g, c, hi, rfl, rfl, ho, hb⟩ := hrel
    by_cases hlt : i < M
    · have hor := (hM2 i).1 hlt
      have Hs := Lib.hid (addL_succ a b i)
      have Hl := Lib.hid (addL_length a b i)
      by_cases h1 : i < n1
      · have q1 := hc1.below hb hg1 i (by rw [Hn1.out]; exact h1)
        have h1I : (i : Int) < (n1 : Int) := by omega
        by_cases h2 : i < n2
        · have q2 := hc2.below hb hg2 i (by rw [Hn2.out]; exact h2)
          have h2I : (i : Int) < (n2 : Int) := by omega
          have hv : (if i < b.length then wrap64 (a.getD i 0 + b.getD i 0) else a.getD i 0) = wrap64 (a.getD i 0 + b.getD i 0) := if_pos (by rw [Hn2.out]; exact h2)
          rw [hv] at Hs
          generalize a.getD i 0 = x at *
          generalize b.getD i 0 = y at *
          have hll := Lib.hid (show (addL a b i ++ [wrap64 (x + y)]).length = i + 1 from by rw [List.length_append, Hl.out]; rfl)
          go_wp2_with (at_builtin; refine wpList_append_int_n (w := wr) rfl _ _ rfl w.heap.size g c i (addL a b i) (wrap64 (x + y)) Hl.out ho rfl rfl (by omega) ?_)
          intro g3 c3 w3 ho3 hg3 _
          rw [← Hs.out] at ho3
          have hb3 := hb.grown hg3 hb.size (by intro t ht; cases ht; exact ho.base)
          clear ho hb hg3
          go_wp2_with fail
          go_roundw
          case rel => exact ⟨i + 1, g3, c3, by omega, by go_num, rfl, ho3, hb3⟩
          case measure => simp [intOf]; omega
        · have h2I : ¬ (i : Int) < (n2 : Int) := by omega
          have hv : (if i < b.length then wrap64 (a.getD i 0 + b.getD i 0) else a.getD i 0) = a.getD i 0 := if_neg (by rw [Hn2.out]; exact h2)
          rw [hv] at Hs
          generalize a.getD i 0 = x at *
          have hll := Lib.hid (show (addL a b i ++ [x]).length = i + 1 from by rw [List.length_append, Hl.out]; rfl)
          go_wp2_with (at_builtin; refine wpList_append_int_n (w := wr) rfl _ _ rfl w.heap.size g c i (addL a b i) (x) Hl.out ho rfl rfl (by omega) ?_)
          intro g3 c3 w3 ho3 hg3 _
          rw [← Hs.out] at ho3
          have hb3 := hb.grown hg3 hb.size (by intro t ht; cases ht; exact ho.base)
          clear ho hb hg3
          go_wp2_with fail
          go_roundw
          case rel => exact ⟨i + 1, g3, c3, by omega, by go_num, rfl, ho3, hb3⟩
          case measure => simp [intOf]; omega
      · have h2 : i < n2 := by omega
        have h1I : ¬ (i : Int) < (n1 : Int) := by omega
        have h2I : (i : Int) < (n2 : Int) := by omega
        have q2 := hc2.below hb hg2 i (by rw [Hn2.out]; exact h2)
        have ha0 : a.getD i 0 = 0 := by have : a.length ≤ i := by rw [Hn1.out]; omega
                                        simp [List.getD, this]
        have hv : (if i < b.length then wrap64 (a.getD i 0 + b.getD i 0) else a.getD i 0) = wrap64 (0 + b.getD i 0) := by rw [if_pos (by rw [Hn2.out]; exact h2), ha0]
        rw [hv] at Hs
        generalize b.getD i 0 = y at *
        have e0 : wrap64 (0 + y) = wrap64 y := by rw [Int.zero_add]
        rw [e0] at Hs
        have hll := Lib.hid (show (addL a b i ++ [wrap64 y]).length = i + 1 from by rw [List.length_append, Hl.out]; rfl)
        go_wp2_with (at_builtin; refine wpList_append_int_n (w := wr) rfl _ _ rfl w.heap.size g c i (addL a b i) (wrap64 y) Hl.out ho rfl rfl (by omega) ?_)
        intro g3 c3 w3 ho3 hg3 _
        rw [← Hs.out] at ho3
        have hb3 := hb.grown hg3 hb.size (by intro t ht; cases ht; exact ho.base)
        clear ho hb hg3
        go_wp2_with fail
        go_roundw
        case rel => exact ⟨i + 1, g3, c3, by omega, by go_num, rfl, ho3, hb3⟩
        case measure => simp [intOf]; omega
    · obtain rfl : i = M := by omega
      have h1I : ¬ (i : Int) < (n1 : Int) := by have := (hM2 i).2; omega
      have h2I : ¬ (i : Int) < (n2 : Int) := by have := (hM2 i).2; omega
      have Hl := Lib.hid (addL_length a b i)
      have T1 := Lib.hid (spec_TrimPoly_any g 0 i c (addL a b i) wr Hl.out (by rw [Hl.out]; omega) (by have := ho.capLe; rw [Hl.out] at this; exact this) ho.lt ho.cells)
      clear ho
      go_wp2_with fail
      refine T1.out.mono ?_
      rintro e w3 ⟨g3, c3, rfl, ho3, hb3⟩
      go_wp2_with fail
      go_ret
      exact ⟨g3, c3, rfl, ho3.mono hb.size, hb.trans (hb3.mono hb.size)⟩

set_option maxHeartbeats 2000000 in
theorem spec_SubPoly_any (g1 o1 n1 c1 g2 o2 n2 c2 : Nat) (a b : List Int) (w : World) (hn1 : a.length = n1) (hn2 : b.length = n2) (hx : a.length ≤ 100000) (hy : b.length ≤ 100000)
    (hg1 : g1 < w.heap.size) (hg2 : g2 < w.heap.size) (hc1 : Cells w g1 o1 a) (hc2 : Cells w g2 o2 b) :
    Calls Tryz.prog 102 #[(Value.slice (some ⟨g1, o1, none⟩) n1 c1), (Value.slice (some ⟨g2, o2, none⟩) n2 c2)] w (GotInts w (addP a (negP b))) := by
  have Hn2 := Lib.hid hn2
  rw [hn2] at hy
  have HA := Lib.hid (fun (W : World) (g c : Nat) (hb : Below w.heap.size w W) (ho : g < W.heap.size) (hc : Cells W g 0 (negP b)) => spec_AddPoly_any g1 o1 n1 c1 g 0 n2 c a (negP b) W hn1 (by rw [negP_length]; exact Hn2.out) hx (by rw [negP_length, Hn2.out]; exact hy) (Nat.lt_of_lt_of_le hg1 hb.size) ho (hc1.below hb hg1) hc)
  clear hn1 hn2 hx
  go_enter Tryz.func102, Tryz.ntmps102
  go_wp2
  have hE : Own (w.alloc (.cells #[] 3)) w.heap.size w.heap.size 0 (negTo b 0) := Own.empty (Nat.le_refl _)
  have hb0 : Below w.heap.size w (w.alloc (.cells #[] 3)) := (Below.refl _ _).alloc (Nat.le_refl _) _
  go_loopw [5, 6] (fun ov iv wr => ∃ i g c, i ≤ n2 ∧ iv = .int .i64 (i : Nat) ∧ ov = (Value.slice (some ⟨g, 0, none⟩) i c) ∧ Own wr w.heap.size g c (negTo b i) ∧ Below w.heap.size w wr) (fun _ iv _ => n2 - (intOf iv).toNat)
  case atStart => exact ⟨0, w.heap.size, 0, Nat.zero_le _, rfl, rfl, hE, hb0⟩
  case round =>
    clear hE hb0
    obtain ⟨i, g, c, hi, rfl, rfl, ho, hb⟩ := hrel
    have Hl := Lib.hid (negTo_length (b := b) (t := i) (by rw [Hn2.out]; exact hi))
    by_cases hlt : i < n2
    · have q2 := hc2.below hb hg2 i (by rw [Hn2.out]; exact hlt)
      have Hs := Lib.hid (negTo_succ (b := b) (t := i) (by rw [Hn2.out]; exact hlt))
      generalize b.getD i 0 = y at *
      go_wp2_with (at_builtin; refine wpList_append_int_n (w := wr) rfl _ _ rfl w.heap.size g c i (negTo b i) (wrap64 (-y)) Hl.out ho rfl rfl (by omega) ?_)
      intro g3 c3 w3 ho3 hg3 _
      rw [← Hs.out] at ho3
      have hb3 := hb.grown hg3 hb.size (by intro t ht; cases ht; exact ho.base)
      clear ho hb hg3
      go_wp2_with fail
      go_roundw
      case rel => exact ⟨i + 1, g3, c3, by omega, by go_num, rfl, ho3, hb3⟩
      case measure => simp [intOf]; omega
    · obtain rfl : i = n2 := by omega
      have he : negTo b i = negP b := by unfold negTo negP; rw [← Hn2.out, List.take_length]
      rw [he] at ho
      have A1 := Lib.hid (HA.out wr g c hb ho.lt ho.cells)
      clear ho
      go_wp2_with fail
      refine A1.out.mono ?_
      rintro e w3 ⟨g3, c3, rfl, ho3, hb3⟩
      go_wp2_with fail
      go_ret
      exact ⟨g3, c3, rfl, ho3.mono hb.size, hb.trans (hb3.mono hb.size)⟩

set_option maxHeartbeats 2000000 in
theorem spec_ShiftPoly_any (g o n c k : Nat) (p : List Int) (w : World) (hn : p.length = n) (hx : p.length ≤ 100000) (hcap : n ≤ c) (hk : k ≤ 60) (hg : g < w.heap.size) (hc : Cells w g o p) :
    Calls Tryz.prog 100 #[(Value.slice (some ⟨g, o, none⟩) n c), .int .i64 (k : Int)] w (GotInts w (shS p k)) := by
  have Hn := Lib.hid hn
  rw [hn] at hx
  have hk0 : ¬ (k : Int) < 0 := by omega
  have hk6 : ¬ (60 : Int) < (k : Int) := by omega
  have hsh : shS p k = if p.length = 0 then trim p else trim (List.replicate k 0 ++ p) := rfl
  rw [hsh]
  by_cases h0 : n = 0
  · rw [if_pos (by rw [hn]; exact h0)]
    have T1 := Lib.hid (spec_TrimPoly_any g o n c p w hn (by omega) hcap hg hc)
    have hlI : ((n : Int) == 0) = true := by simpa using h0
    clear hn hc hsh Hn h0
    go_enter Tryz.func100, Tryz.ntmps100
    go_wp2_with fail
    refine T1.out.mono ?_
    rintro e w1 ⟨g1, c1, rfl, ho1, hb1⟩
    go_wp2_with fail
    go_ret
    exact ⟨g1, c1, rfl, ho1, hb1⟩
  · rw [if_neg (by rw [hn]; exact h0)]
    have hlI : ((n : Int) == 0) = false := by simpa using h0
    have hl2 : (List.replicate k (0 : Int) ++ p).length = k + n := by rw [List.length_append, List.length_replicate, hn]
    have Hl2 := Lib.hid hl2
    clear hn hsh h0 hl2
    go_enter Tryz.func100, Tryz.ntmps100
    go_wp2_with (at_make; refine wpList_make_ints rfl _ _ rfl w.heap.size k _ rfl rfl rfl (by omega) (Nat.le_refl _) ?_)
    intro w2 ho2 hg2
    have hb2 := (Below.refl w.heap.size w).grown hg2 (Nat.le_refl _) (by intro t ht; cases ht)
    have hc2 := hc.below hb2 hg
    have hlk : (List.replicate k (0 : Int)).length = k := by simp
    go_wp2_with (at_builtin; refine wpList_append_ints_n rfl _ _ rfl w.heap.size w.heap.size k k (List.replicate k 0) hlk ho2 g o n c p Hn.out hc2 rfl rfl (by omega) ?_)
    intro g3 c3 w3 ho3 hg3 _
    have hb3 := hb2.grown hg3 hb2.size (by intro t ht; cases ht; exact Nat.le_refl _)
    have T1 := Lib.hid (spec_TrimPoly_any g3 0 (k + n) c3 _ w3 Hl2.out (by rw [Hl2.out]; omega) (by have := ho3.capLe; rw [Hl2.out] at this; exact this) ho3.lt ho3.cells)
    clear ho2 hg2 hc2 hg3 ho3
    go_wp2_with fail
    refine T1.out.mono ?_
    rintro e w4 ⟨g4, c4, rfl, ho4, hb4⟩
    go_wp2_with fail
    go_ret
    exact ⟨g4, c4, rfl, ho4.mono hb3.size, hb3.trans (hb4.mono hb3.size)⟩
set_option maxHeartbeats 1000000 in
theorem spec_l23Mu_any (g o n c : Nat) (d : Int) (p : List Int) (w : World) (hn : p.length = n) (hx : p.length ≤ 100000) (hd : -1000 ≤ d ∧ d ≤ 1000) (hc : Cells w g o p) :
    Calls Tryz.prog 119 #[(Value.slice (some ⟨g, o, none⟩) n c), .int .i64 d] w (Reads w (.int .i64 (muS p d))) := by
  have Hn := Lib.hid hn
  have hdef : muS p d = if d % 2 = 0 ∨ (p.length : Int) ≤ (d - 1) / 2 ∨ d < 0 then 0 else p.getD ((d - 1) / 2).toNat 0 := rfl
  rw [hdef]
  rw [hn] at hx ⊢
  clear hdef hn
  have ht : d.tmod 2 = 0 ↔ d % 2 = 0 := by rw [← Int.dvd_iff_tmod_eq_zero, ← Int.dvd_iff_emod_eq_zero]
  by_cases h0 : d % 2 = 0
  · rw [if_pos (.inl h0)]
    have e1 : (d.tmod 2 == 0) = true := by rw [beq_iff_eq]; exact ht.2 h0
    clear h0 ht
    go_enter Tryz.func119, Tryz.ntmps119
    go_wp2_with fail
    go_ret
    exact ⟨rfl, (by first | exact ⟨_, rfl⟩ | exact ⟨0, rfl⟩ | exact still2 _ _ _ | exact still3 _ _ _ _)⟩
  have e1 : (d.tmod 2 == 0) = false := by rw [beq_eq_false_iff_ne]; exact fun h => h0 (ht.1 h)
  have e1' : (d % 2 == 0) = false := by rw [beq_eq_false_iff_ne]; exact h0
  have ew : IntKind.i64.wrap (d - 1) = d - 1 := IntWalk.i64_in _ (by omega)
  by_cases h1 : d < 0
  · rw [if_pos (.inr (.inr h1))]
    have e2 : decide ((n : Int) ≤ (d - 1).tdiv 2) = false := decide_eq_false (by
      have : d - 1 = 2 * ((d - 1) / 2) := by omega
      rw [this, Int.mul_tdiv_cancel_left _ (by decide)]; omega)
    have e3 : decide (d < 0) = true := decide_eq_true h1
    clear h0 h1 ht
    go_enter Tryz.func119, Tryz.ntmps119
    go_wp2_with fail
    go_ret
    exact ⟨rfl, (by first | exact ⟨_, rfl⟩ | exact ⟨0, rfl⟩ | exact still2 _ _ _ | exact still3 _ _ _ _)⟩
  obtain ⟨q, hq⟩ : ∃ q : Nat, d = 2 * (q : Int) + 1 := ⟨(d / 2).toNat, by omega⟩
  have e4 : (d - 1) / 2 = (q : Int) := by omega
  have e5 : (d - 1).tdiv 2 = (q : Int) := by rw [hq, Int.add_sub_cancel, Int.mul_tdiv_cancel_left _ (by decide)]
  have e3 : decide (d < 0) = false := decide_eq_false h1
  rw [e4, Int.toNat_natCast]
  by_cases h2 : n ≤ q
  · rw [if_pos (.inr (.inl (by omega)))]
    have e2 : decide ((n : Int) ≤ (q : Int)) = true := decide_eq_true (by omega)
    clear h0 h1 hq ht
    go_enter Tryz.func119, Tryz.ntmps119
    go_wp2_with fail
    go_ret
    exact ⟨rfl, (by first | exact ⟨_, rfl⟩ | exact ⟨0, rfl⟩ | exact still2 _ _ _ | exact still3 _ _ _ _)⟩
  · rw [if_neg (by omega)]
    have e2 : decide ((n : Int) ≤ (q : Int)) = false := decide_eq_false (by omega)
    have c1 := hc q (by rw [Hn.out]; omega)
    generalize p.getD q 0 = y at *
    have b1 : (q : Int) < (n : Int) := by omega
    clear h0 h1 hq h2 e4 ht
    go_enter Tryz.func119, Tryz.ntmps119
    go_wp2_with fail
    go_ret
    exact ⟨rfl, (by first | exact ⟨_, rfl⟩ | exact ⟨0, rfl⟩ | exact still2 _ _ _ | exact still3 _ _ _ _)⟩
end Go.Proofs.YtobeigdjhepedaaGreatDoor
