/- The laws' draw of any matrix, spoiled at times: contract. -/
import Derived.Test.YtkjglfafphffiaaGreatT45
import Derived.Deep.RegionHeld3
namespace Go.Proofs.YtkjglfafphffiaaGreat
set_option maxRecDepth 100000
open Go.RowKit
theorem MatR.cutRow {w : World} {B g cap m i : Nat} {rs : List RowRef} (P : OwnRows w B g cap rs) (hl : rs.length = m) (hm4 : m ≤ 4) (hr : ∀ j, j < m → ((contents rs).getD j []).length = m) (hi : i < m) (g4 o4 c' : Nat) (Y : List Int)
    (hY : Y.length ≤ 5) (hYc : Y.length ≤ c') (hg4 : B ≤ g4) (hg4l : g4 < w.heap.size) (hne : g4 ≠ g) (hc : Cells w g4 o4 Y) :
    MatR (w.setCell ⟨g, i, none⟩ (Value.slice (some ⟨g4, o4, none⟩) Y.length c')) B g cap ((contents rs).set i Y) := by
  have hz : (w.setCell ⟨g, i, none⟩ (Value.slice (some ⟨g4, o4, none⟩) Y.length c')).heap.size = w.heap.size := by simp [World.setCell]
  have hb : ∀ k, k ≠ g → (w.setCell ⟨g, i, none⟩ (Value.slice (some ⟨g4, o4, none⟩) Y.length c')).heap[k]? = w.heap[k]? := fun k hk => Below.heap_setCell w ⟨g, i, none⟩ _ k hk
  have s1 := P.1.set i (Value.slice (some ⟨g4, o4, none⟩) Y.length c')
  have hcl : (contents rs).length = m := by rw [contents_length]; exact hl
  refine ⟨P.base, by rw [hz]; exact P.lt, by rw [List.length_set, hcl]; have := P.capLe; omega, by rw [List.length_set, hcl]; omega, fun j hj => ?_⟩
  rw [List.length_set, hcl] at hj
  have hjr : j < rs.length := by omega
  have hcell := s1.1.cell j (by rw [List.length_set, List.length_map]; exact hjr)
  by_cases e : i = j
  · subst e
    have e2 : ((contents rs).set i Y).getD i [] = Y := by simp [List.getD, hcl, hi]
    rw [e2]
    refine ⟨g4, o4, c', ?_, hYc, hg4, by rw [hz]; exact hg4l, fun t ht => (World.cell?_of_block (a := ⟨g4, o4 + t, none⟩) (hb g4 hne)).trans (hc t ht), hY⟩
    rw [hcell]
    simp
  · have e2 : ((contents rs).set i Y).getD j [] = (contents rs).getD j [] := by simp only [List.getD]; rw [List.getElem?_set_ne e]
    have ho := P.2.1 rs[j] (List.getElem_mem _)
    have hgj : rs[j].1 ≠ g := fun h => P.1.ne ho.toV (by decide) h.symm
    have e3 : (contents rs).getD j [] = rs[j].2.2 := by simp [contents, List.getD, hjr]
    have hlj := hr j hj
    rw [e2]
    rw [e3] at hlj ⊢
    refine ⟨rs[j].1, 0, rs[j].2.1, ?_, ho.capLe, ho.base, by rw [hz]; exact ho.lt, fun t ht => (World.cell?_of_block (a := ⟨rs[j].1, 0 + t, none⟩) (hb _ hgj)).trans (ho.cells t ht), by omega⟩
    rw [hcell, List.getElem_set_ne e]
    simp [rowVal]
set_option maxHeartbeats 4000000 in
theorem spec_l2Any_any (B p : Nat) (a : Option Addr) (n c : Nat) (w : World) (hn : n ≤ 1048576) (hc : CodeV w B a n) (hp : B ≤ p) (hcur : Cur w p a n c) :
    Calls Tryz.prog 63 #[.pointer (some ⟨p, 0, none⟩)] w (DrewA w B p a n c) := by
  have hps := hcur.lt
  have Hcall := Lib.hid (spec_l2Drawn_any B p a n c w hn hc hp hcur)
  clear hc hcur
  go_enter Tryz.func63, Tryz.ntmps63
  go_wp2_with fail
  refine Hcall.out.mono ?_
  rintro e w1 ⟨g, cap, rs, rfl, hO1, hsq, hcur1, hc1, hOn1⟩
  have Hsq := Lib.hid hsq
  have hs1 := hOn1.size
  have hm4 : rs.length ≤ 4 := by have := hsq.1.2; rwa [contents_length] at this
  have hm1 : 1 ≤ rs.length := by have := hsq.1.1; rwa [contents_length] at this
  have Hon := Lib.hid (spec_l1Once_any B p a n c 12 w1 (by omega) hn hc1 hp hcur1)
  clear hsq hc1 hcur1 Hcall
  go_wp2_with fail
  refine Hon.out.mono ?_
  rintro e w2 ⟨b, rfl, hcur2, hc2, hO2⟩
  have hOn2 : Only p (p + 1) w w2 := Only.trans hOn1 hO2
  have hR2 : OwnRows w2 w.heap.size g cap rs := hO1.only' hO2 hps
  clear hO1 hO2 hOn1 Hon
  cases b with
  | false =>
    have hM := MatR.of_own hR2 (by omega) (sqr_five Hsq.out)
    have HM := Lib.hid hM
    clear hM
    go_wp2_with fail
    go_ret
    exact ⟨g, cap, contents rs, by rw [contents_length]; rfl, HM.out, hcur2, hc2, hOn2⟩
  | true =>
    have Hb := Lib.hid (spec_l1Below_any B p a n c rs.length w2 (by omega) hn hc2 hp hcur2)
    clear hc2 hcur2
    go_wp2_with fail
    refine Hb.out.mono ?_
    rintro e w3 ⟨i0, hi, rfl, hcur3, hc3, hO3⟩
    obtain ⟨i, rfl⟩ : ∃ i : Nat, i0 = i := ⟨i0.toNat, by omega⟩
    have hi : i < rs.length := by omega
    have hOn3 : Only p (p + 1) w w3 := Only.trans hOn2 hO3
    have hR3 : OwnRows w3 w.heap.size g cap rs := hR2.only' hO3 hps
    clear hO3 hR2 hOn2 Hb
    -- the row is cloned
    have hrow := hR3.2.1 rs[i] (List.getElem_mem _)
    have hq : w3.cell? ⟨g, i, none⟩ = some (rowVal rs[i]) := by rw [hR3.1.cell i (by simpa using hi)]; simp
    have hfz := hR3.1.frozen i
    have hlen : rs[i].2.2.length = rs.length := by
      have := Hsq.out.2 i (by rw [contents_length]; exact hi)
      simp [contents, List.getD, hi] at this
      exact this
    obtain ⟨gr, cr, R, hRi⟩ : ∃ gr cr R, rs[i] = (gr, cr, R) := ⟨_, _, _, rfl⟩
    rw [hRi] at hrow hq hlen
    simp only at hrow hlen
    obtain ⟨m, hm⟩ : ∃ m, rs.length = m := ⟨_, rfl⟩
    rw [hm] at hlen
    have hq' : w3.cell? ⟨g, i, none⟩ = some (Value.slice (some ⟨gr, 0, none⟩) m cr) := by rw [hq]; unfold rowVal; simp only [hlen]
    have hE := (Below.refl w3.heap.size w3).alloc (Nat.le_refl _) (.cells #[] 3)
    have q1' := (hE.cell (p := ⟨g, i, none⟩) hR3.lt).trans hq'
    have Hm := Lib.hid hm; have Hlen := Lib.hid hlen; have HRi := Lib.hid hRi
    rw [hm] at hm4 hm1 hi
    rw [hm]
    have hmI : (i : Int) < (m : Int) := by omega
    clear hq hE hm hlen hRi
    go_wp2_with (at_builtin; refine wpList_clone rfl _ _ rfl gr 0 m cr R Hlen.out hrow.lt hrow.cells rfl rfl (by rw [Hlen.out]; omega) ?_)
    intro g4 c4 w4 ho4 hb4
    have hR4 := hR3.below hb4
    have hcur4 := hcur3.below' hb4 hcur3.lt
    have hc4 := hc3.below' hb4 (by have := hcur3.lt; omega)
    have hOn4 : Only p (p + 1) w w4 := hOn3.below' hb4 hOn3.size
    have hne4 : ∀ s ∈ rs, s.1 ≠ g4 := fun s hs e => by have h1 := (hR3.2.1 s hs).lt; have h2 := ho4.base; omega
    have ho4' := ho4.mono hOn3.size
    have x0 := hR4.1.cell i (by simp [Hm.out]; exact hi)
    have y0 := hR4.1.frozen i
    have P := hR4.put2 (i := i) (r := (g4, c4, R)) ho4' hne4
    have hrv : rowVal (g4, c4, R) = (Value.slice (some ⟨g4, 0, none⟩) m c4) := by unfold rowVal; rw [Hlen.out]
    rw [hrv] at P
    have hg4w : w.heap.size ≤ g := hR4.base
    have hgp : p < g := by omega
    have hOn5 : Only p (p + 1) w (w4.setCell ⟨g, i, none⟩ (Value.slice (some ⟨g4, 0, none⟩) m c4)) := Only.grown hOn4 P.2 hg4w
    have hcur5 := hcur4.grown P.2 hgp
    have hc5 := hc4.grown P.2 (by omega)
    obtain ⟨P1, -⟩ := P
    have HL5 : Hid ((rs.set i (g4, c4, R)).length = m) := Lib.hid (by rw [List.length_set]; exact Hm.out)
    have HC5 : Hid (∀ j, j < m → ((contents (rs.set i (g4, c4, R))).getD j []).length = m) := Lib.hid (fun j hj => by
      have e : contents (rs.set i (g4, c4, R)) = contents rs := by
        unfold contents
        rw [List.map_set]
        have hil : i < rs.length := by rw [Hm.out]; exact hi
        have e2 : (rs.map fun r => r.2.2)[i]? = some R := by rw [List.getElem?_map, List.getElem?_eq_getElem hil, HRi.out]; rfl
        apply List.ext_getElem?
        intro t
        by_cases ht : i = t
        · subst ht; rw [List.getElem?_set_self (by simpa using hil), e2]
        · rw [List.getElem?_set_ne ht]
      rw [e]
      have := Hsq.out.2 j (by rw [contents_length, Hm.out]; exact hj)
      rw [this, contents_length, Hm.out])
    obtain ⟨w5, hw5⟩ : ∃ w5, w5 = w4.setCell ⟨g, i, none⟩ (Value.slice (some ⟨g4, 0, none⟩) m c4) := ⟨_, rfl⟩
    rw [← hw5] at P1 hOn5 hcur5 hc5
    have Hw5 := Lib.hid hw5
    generalize hrs5 : rs.set i (g4, c4, R) = rs5 at *
    clear hw5 hR4 hcur4 hc4 hOn4 hR3 hcur3 hc3 hOn3 hb4 ho4 hrow q1' hq' hrv hne4
    have HR5 : Hid (∀ h : i < rs5.length, rs5[i] = (g4, c4, R)) := Lib.hid (fun h => by subst hrs5; simp)
    clear hrs5
    have Ht := Lib.hid (spec_l1Below_any B p a n c 3 w5 (by omega) hn hc5 hp hcur5)
    clear hc5 hcur5
    go_wp2_with fail
    clear x0 y0
    rw [← Hw5.out]
    refine Ht.out.mono ?_
    rintro e w6 ⟨t, ht, rfl, hcur6, hc6, hO6⟩
    have hOn6 : Only p (p + 1) w w6 := Only.trans hOn5 hO6
    have P6 : OwnRows w6 w.heap.size g cap rs5 := P1.only' hO6 hps
    clear hO6 P1 hOn5 Ht Hw5 Hsq HRi
    have hi5 : i < rs5.length := by rw [HL5.out]; exact hi
    have hri := HR5.out hi5
    have hrow := P6.2.1 rs5[i] (List.getElem_mem _)
    have hcell : w6.cell? ⟨g, i, none⟩ = some (Value.slice (some ⟨g4, 0, none⟩) m c4) := by
      rw [P6.1.cell i (by simpa using hi5)]
      simp only [List.getElem_map, hri]
      unfold rowVal
      rw [Hlen.out]
    have hfz6 := P6.1.frozen i
    rw [hri] at hrow
    simp only at hrow
    have hgl := P6.lt
    have hMat : ∀ (w' : World) (rs' : List RowRef), OwnRows w' w.heap.size g cap rs' → (contents rs').length = m → (∀ j, j < m → ((contents rs').getD j []).length = m) → MatR w' w.heap.size g cap (contents rs') := fun w' rs' h hl hr => MatR.of_own h (by rw [contents_length] at hl; omega) (fun j hj => by have := hr j (by rw [← hl]; exact hj); omega)
    have ht3 : t = 0 ∨ t = 1 ∨ t = 2 := by omega
    rcases ht3 with rfl | rfl | rfl
    · -- a number is spoiled
      obtain ⟨gr2, cr2, -, hbr, hlr, hner, hcr, hcl, hset⟩ := P6.setMat rfl i (by rw [contents_length]; exact hi5)
      have e1 : (gr2 : Nat) = g4 ∧ cr2 = c4 := by
        have := hcr.symm.trans hcell
        simp at this
        exact ⟨this.1, this.2.2⟩
      obtain ⟨rfl, rfl⟩ := e1
      have hz := hcl 0 (by rw [HC5.out i hi]; omega)
      generalize ((contents rs5).getD i []).getD 0 0 = z0 at *
      have hg4p : p < gr2 := by omega
      have K : ∀ W : World, w6.heap.size ≤ W.heap.size → (∀ k, k < w6.heap.size → (k < p ∨ p + 1 ≤ k) → W.heap[k]? = w6.heap[k]?) → (W.cell? ⟨g, i, none⟩ = some (Value.slice (some ⟨gr2, 0, none⟩) m cr2) ∧ W.cell? ⟨gr2, 0, none⟩ = some (.int .i64 z0) ∧ W.frozen? ⟨gr2, 0, none⟩ = false) := fun W _ hs =>
        ⟨(World.cell?_of_block (a := ⟨g, i, none⟩) (hs g hgl (.inr (by omega)))).trans hcell, (World.cell?_of_block (a := ⟨gr2, 0, none⟩) (hs gr2 hlr (.inr (by omega)))).trans hz.1, (World.frozen?_of_block (a := ⟨gr2, 0, none⟩) (hs gr2 hlr (.inr (by omega)))).trans hz.2⟩
      have BA : Below w6.heap.size w6 (w6.drew.alloc (.cells #[.int .i64 (-4), .int .i64 1, .int .i64 0, .int .i64 2] 3)) := (Below.drew (Below.refl _ _)).alloc (Nat.le_refl _) _
      have hcurA := hcur6.below' BA hcur6.lt
      have hcA := hc6.below' BA (by have := hcur6.lt; omega)
      have HpI := Lib.hid (spec_l1PickInt_any B p a n c w6.heap.size 4 [-4, 1, 0, 2] _ rfl (by omega) (by omega) hn hcA hp hcurA hcur6.lt (by show w6.heap.size < (w6.heap.push _).size; rw [Array.size_push]; omega) (fun j hj => by
        have : j = 0 ∨ j = 1 ∨ j = 2 ∨ j = 3 := by simp at hj; omega
        rcases this with rfl | rfl | rfl | rfl <;> exact (cell_of_cells (heap_alloc_new w6.drew _) _).trans rfl))
      have k0 := K w6.drew (Nat.le_refl _) (fun _ _ _ => rfl)
      have kA := K _ BA.size (fun k hk _ => BA.block k hk)
      have kB : ∀ W, Only p (p + 1) (w6.drew.alloc (.cells #[.int .i64 (-4), .int .i64 1, .int .i64 0, .int .i64 2] 3)) W → (W.cell? ⟨g, i, none⟩ = some (Value.slice (some ⟨gr2, 0, none⟩) m cr2) ∧ W.cell? ⟨gr2, 0, none⟩ = some (.int .i64 z0) ∧ W.frozen? ⟨gr2, 0, none⟩ = false) := fun W hW =>
        K W (Nat.le_trans BA.size hW.size) (fun k hk hd => (hW.block k (Nat.lt_of_lt_of_le hk BA.size) hd).trans (BA.block k hk))
      have HBA := Lib.hid BA
      have hm0I : (0 : Int) < (m : Int) := by omega
      have hm0N : 0 < m := by omega
      have hm0D : decide (0 < m) = true := decide_eq_true hm0N
      have kS : ∀ (W : World) (v : Value), W.cell? ⟨g, i, none⟩ = some (Value.slice (some ⟨gr2, 0, none⟩) m cr2) → (W.setCell ⟨gr2, 0, none⟩ v).cell? ⟨g, i, none⟩ = some (Value.slice (some ⟨gr2, 0, none⟩) m cr2) := fun W v h => (World.cell?_of_block (a := ⟨g, i, none⟩) (Below.heap_setCell W ⟨gr2, 0, none⟩ v g hner)).trans h
      clear hcurA hcA BA hz K
      go_wp2_with fail
      go_region_held3 (fun W => W.cell? ⟨g, i, none⟩ = some (Value.slice (some ⟨gr2, 0, none⟩) m cr2))
        (first | exact k0.1 | exact kA.1 | exact (kB _ hOA).1 | exact kS _ _ (kB _ hOA).1)
        (first | (go_at_call 106; refine HpI.out.mono ?_; rintro e w7 ⟨x, rfl, hcur7, hc7, hOA⟩; obtain ⟨f1, f2, f3⟩ := kB _ hOA))
      have hb7 : Only p (p + 1) w6 w7 := Only.trans (Only.of_below p (p + 1) HBA.out) hOA
      have P7 : OwnRows w7 w.heap.size g cap rs5 := (P6.below HBA.out).only' hOA hps
      obtain ⟨gr3, cr3, -, hbr3, hlr3, hner3, hcr3, hcl3, hset3⟩ := P7.setMat rfl i (by rw [contents_length]; exact hi5)
      have e3 : gr3 = gr2 := by
        have := hcr3.symm.trans f1
        simp at this
        exact this.1
      subst e3
      obtain ⟨rs8, -, hcon8, hl8, hO8, hg8⟩ := hset3 0 x
      have hcur8 := hcur7.grown hg8 hg4p
      have hc8 := hc7.grown hg8 (by omega)
      have hOn8 : Only p (p + 1) w (w7.setCell ⟨gr3, 0, none⟩ (.int .i64 x)) := Only.grown (Only.trans hOn6 hb7) hg8 hbr
      have hM := hMat _ rs8 hO8 (by rw [hcon8, setM_length, contents_length, HL5.out]) (fun j hj => by
        rw [hcon8]
        unfold setM
        by_cases e : i = j
        · subst e
          have := HC5.out i hi
          simp [List.getD, contents_length, hi5] at this ⊢
          exact this
        · have := HC5.out j hj
          simp only [List.getD] at this ⊢
          rw [List.getElem?_set_ne e]; exact this)
      have HM := Lib.hid hM
      have hlen8 : (contents rs8).length = m := by rw [contents_length, hl8, HL5.out]
      have Hlen8 := Lib.hid hlen8
      clear hM hlen8 hset3 hcl3 f1 f2 f3 k0 kA kB kS hO8 hset hcl P7
      go_wp2_with fail
      go_ret
      exact ⟨g, cap, contents rs8, by rw [Hlen8.out]; rfl, HM.out, hcur8, hc8, hOn8⟩
    · -- a row is cut
      have x0 := hcell
      have b1 : (1 : Int) ≤ (m : Int) := by omega
      have b2 : (m : Int) ≤ (c4 : Int) := by have := hrow.capLe; rw [Hlen.out] at this; omega
      have b3 : (1 : Int) ≤ (c4 : Int) := by omega
      have hne4 : g4 ≠ g := fun h => P6.1.ne hrow.toV (by decide) h.symm
      have hYl : (R.drop 1).length = m - 1 := by rw [List.length_drop, Hlen.out]
      have HYl := Lib.hid hYl
      have hPs : ∀ v, w6.grownBy (w6.setCell ⟨g, i, none⟩ v) (some g) := fun v => (P6.1.set i v).2
      have hcurS := fun v => hcur6.grown (hPs v) hgp
      have hcS := fun v => hc6.grown (hPs v) (by omega)
      have hOnS := fun v => Only.grown hOn6 (hPs v) hg4w
      have hL : Hid (((contents rs5).set i (R.drop 1)).length = m) := Lib.hid (by rw [List.length_set, contents_length, HL5.out])
      have hM1 := Lib.hid (MatR.cutRow P6 HL5.out hm4 HC5.out hi g4 1 (c4 - 1) (R.drop 1) (by omega) (by omega) hrow.base hrow.lt hne4 (hrow.cells.drop 1))
      have hM0 : Hid (c4 = 1 → MatR (w6.setCell ⟨g, i, none⟩ (Value.slice (some ⟨g4, 0, none⟩) (m - 1) 0)) w.heap.size g cap ((contents rs5).set i (R.drop 1))) := Lib.hid (fun h => by
        have e : R.drop 1 = [] := List.drop_eq_nil_of_le (by rw [Hlen.out]; omega)
        have := MatR.cutRow P6 HL5.out hm4 HC5.out hi g4 0 0 [] (by simp) (by simp) hrow.base hrow.lt hne4 (fun t ht => absurd ht (by simp))
        rw [e]
        rw [show m - 1 = ([] : List Int).length by simp; omega]
        exact this)
      rw [HYl.out] at hM1
      clear hPs hYl hMat
      go_wp2_with fail
      all_goals go_ret
      · rename_i h
        exact ⟨g, cap, (contents rs5).set i (R.drop 1), by rw [hL.out]; rfl, hM0.out h, hcurS _, hcS _, hOnS _⟩
      · exact ⟨g, cap, (contents rs5).set i (R.drop 1), by rw [hL.out]; rfl, hM1.out, hcurS _, hcS _, hOnS _⟩
    · -- a row more
      have hcur7 := hcur6.below' ((Below.refl w6.heap.size w6).alloc (Nat.le_refl _) (.cells #[.int .i64 2] 3)) hcur6.lt
      have hR7 : OwnRows (w6.alloc (.cells #[.int .i64 2] 3)) w.heap.size g cap rs5 := P6.below ((Below.refl _ _).alloc (Nat.le_refl _) _)
      have ho7 : Own (w6.alloc (.cells #[.int .i64 2] 3)) w6.heap.size w6.heap.size 1 [2] := Own.new _ (Nat.le_refl _)
      have hOn7 : Only p (p + 1) w (w6.alloc (.cells #[.int .i64 2] 3)) := hOn6.below' ((Below.refl w6.heap.size w6).alloc (Nat.le_refl _) _) hOn6.size
      have hc7 := hc6.below' ((Below.refl w6.heap.size w6).alloc (Nat.le_refl _) (.cells #[.int .i64 2] 3)) (by have := hcur6.lt; omega)
      have hne7 : ∀ s ∈ rs5, s.1 ≠ w6.heap.size := fun s hs e => by have := (P6.2.1 s hs).lt; omega
      have ho7' := ho7.mono hOn6.size
      obtain ⟨w7, hw7⟩ : ∃ w7, w7 = w6.alloc (.cells #[.int .i64 2] 3) := ⟨_, rfl⟩
      rw [← hw7] at hcur7 hR7 ho7' hOn7 hc7
      have Hw7 := Lib.hid hw7
      go_wp2_with (at_builtin; refine wpList_append_row (w := w6.alloc (.cells #[.int .i64 2] 3)) rfl _ _ rfl w.heap.size g cap m (w6.heap.size + 1) rs5 (w6.heap.size, 1, [2]) _ HL5.out rfl (by show (w6.heap.push _).size = _; rw [Array.size_push]) (by rw [← Hw7.out]; exact hR7) (by rw [← Hw7.out]; exact ho7') hne7 rfl rfl (by omega) ?_)
      intro g8 c8 w8 hO8 hg8 hor8
      rw [← Hw7.out] at hg8
      have hcur8 := hcur7.grown hg8 hgp
      have hc8 := hc7.grown hg8 (by omega)
      have hOn8 : Only p (p + 1) w w8 := Only.grown hOn7 hg8 hg4w
      have hl8 : (rs5 ++ [(w6.heap.size, 1, [2])]).length = m + 1 := by rw [List.length_append, HL5.out]; rfl
      have hM := MatR.of_own hO8 (by omega) (fun j hj => by
        rw [contents_length, hl8] at hj
        have e : contents (rs5 ++ [(w6.heap.size, 1, [2])]) = contents rs5 ++ [[2]] := by simp [contents]
        rw [e]
        by_cases hjm : j < m
        · have := HC5.out j hjm
          simp only [List.getD] at this ⊢
          rw [List.getElem?_append_left (by rw [contents_length, HL5.out]; exact hjm)]
          omega
        · obtain rfl : j = m := by omega
          simp [List.getD, contents_length, HL5.out])
      have HM := Lib.hid hM; have Hl8 := Lib.hid hl8
      clear hM hl8 hO8 hg8
      go_wp2_with fail
      go_ret
      exact ⟨g8, c8, _, by rw [contents_length, Hl8.out]; rfl, HM.out, hcur8, hc8, hOn8⟩
end Go.Proofs.YtkjglfafphffiaaGreat
