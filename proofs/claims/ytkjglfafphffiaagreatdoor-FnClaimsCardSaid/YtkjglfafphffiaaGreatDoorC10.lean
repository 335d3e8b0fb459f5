/- DrA L5w Det -/
import Derived.Test.YtkjglfafphffiaaGreatDoorC09
import Derived.Deep.RegionHeld3
import Derived.Test.YtkjglfafphffiaaGreatDoorC06
import Derived.Test.YtkjglfafphffiaaGreatDoorC03
namespace Go.Proofs.YtkjglfafphffiaaGreatDoor
set_option maxRecDepth 100000
open Go.RowKit
theorem MatR.cutRow {w : World} {B g cap m i : Nat} {rs : List RowRef} (P : OwnRows w B g cap rs) (hl : rs.length = m) (hm4 : m ≤ 4) (hr : ∀ j, j < m → ((contents rs).getD j []).length = m) (hi : i < m) (g4 o4 c' : Nat) (Y : List Int)
    (hY : Y.length ≤ 5) (hYc : Y.length ≤ c') (hg4 : B ≤ g4) (hg4l : g4 < w.heap.size) (hne : g4 ≠ g) (hc : Cells w g4 o4 Y) :
    MatR (w.setCell ⟨g, i, none⟩ (Value.slice (some ⟨g4, o4, none⟩) Y.length c')) B g cap ((contents rs).set i Y) := by
  have hz : (w.setCell ⟨g, i, none⟩ (Value.slice (some ⟨g4, o4, none⟩) Y.length c')).heap.size = w.heap.size := by simp [World.setCell]
  have hb : ∀ k, k ≠ g → (w.setCell ⟨g, i, none⟩ (Value.slice (some ⟨g4, o4, none⟩) Y.length c')).heap[k]? = w.heap[k]? := fun k hk => Below.heap_setCell w ⟨g, i, none⟩ _ k hk
  have s1 := P.1.set i (Value.slice (some ⟨g4, o4, none⟩) Y.length c')
  have hcl : (contents rs).length = m := by rw [contents_length]; exact hl
  refine ⟨P.base, by rw [hz]; exact P.lt, by rw [List.length_set, hcl]; have := P.capLe; omega, by rw [List.length_set, hcl]; omega, fun j hj => ?_⟩
  rw [List.length_set, hcl] at hj
  have hjr : j < rs.length := by omega
  have hcell := s1.1.cell j (by rw [List.length_set, List.length_map]; exact hjr)
  by_cases e : i = j
  · subst e
    have e2 : ((contents rs).set i Y).getD i [] = Y := by simp [List.getD, hcl, hi]
    rw [e2]
    refine ⟨g4, o4, c', ?_, hYc, hg4, by rw [hz]; exact hg4l, fun t ht => (World.cell?_of_block (a := ⟨g4, o4 + t, none⟩) (hb g4 hne)).trans (hc t ht), hY⟩
    rw [hcell]
    simp
  · have e2 : ((contents rs).set i Y).getD j [] = (contents rs).getD j [] := by simp only [List.getD]; rw [List.getElem?_set_ne e]
    have ho := P.2.1 rs[j] (List.getElem_mem _)
    have hgj : rs[j].1 ≠ g := fun h => P.1.ne ho.toV (by decide) h.symm
    have e3 : (contents rs).getD j [] = rs[j].2.2 := by simp [contents, List.getD, hjr]
    have hlj := hr j hj
    rw [e2]
    rw [e3] at hlj ⊢
    refine ⟨rs[j].1, 0, rs[j].2.1, ?_, ho.capLe, ho.base, by rw [hz]; exact ho.lt, fun t ht => (World.cell?_of_block (a := ⟨rs[j].1, 0 + t, none⟩) (hb _ hgj)).trans (ho.cells t ht), by omega⟩
    rw [hcell, List.getElem_set_ne e]
    simp [rowVal]
set_option maxHeartbeats 4000000 in
theorem spec_l2Any_any (B p : Nat) (a : Option Addr) (n c : Nat) (w : World) (hn : n ≤ 1048577) (hc : CodeV w B a n) (hp : B ≤ p) (hcur : Cur w p a n c) :
    Calls Tryz.prog 136 #[.pointer (some ⟨p, 0, none⟩)] w (DrewA w B p a n c) := by
  have hps := hcur.lt
  have Hcall := Lib.hid (spec_l2Drawn_any B p a n c w hn hc hp hcur)
  clear hc hcur
  go_enter Tryz.func136, Tryz.ntmps136
  go_wp2_with fail
  refine Hcall.out.mono ?_
  rintro e w1 ⟨g, cap, rs, rfl, hO1, hsq, hcur1, hc1, hOn1⟩
  have Hsq := Lib.hid hsq
  have hs1 := hOn1.size
  have hm4 : rs.length ≤ 4 := by have := hsq.1.2; rwa [contents_length] at this
  have hm1 : 1 ≤ rs.length := by have := hsq.1.1; rwa [contents_length] at this
  have Hon := Lib.hid (spec_l1Once_any B p a n c 12 w1 (by omega) hn hc1 hp hcur1)
  clear hsq hc1 hcur1 Hcall
  go_wp2_with fail
  refine Hon.out.mono ?_
  rintro e w2 ⟨b, rfl, hcur2, hc2, hO2⟩
  have hOn2 : Only p (p + 1) w w2 := Only.trans hOn1 hO2
  have hR2 : OwnRows w2 w.heap.size g cap rs := hO1.only' hO2 hps
  clear hO1 hO2 hOn1 Hon
  cases b with
  | false =>
    have hM := MatR.of_own hR2 (by omega) (sqr_five Hsq.out)
    have HM := Lib.hid hM
    clear hM
    go_wp2_with fail
    go_ret
    exact ⟨g, cap, contents rs, by rw [contents_length]; rfl, HM.out, hcur2, hc2, hOn2⟩
  | true =>
    have Hb := Lib.hid (spec_l1Below_any B p a n c rs.length w2 (by omega) hn hc2 hp hcur2)
    clear hc2 hcur2
    go_wp2_with fail
    refine Hb.out.mono ?_
    rintro e w3 ⟨i0, hi, rfl, hcur3, hc3, hO3⟩
    obtain ⟨i, rfl⟩ : ∃ i : Nat, i0 = i := ⟨i0.toNat, by omega⟩
    have hi : i < rs.length := by omega
    have hOn3 : Only p (p + 1) w w3 := Only.trans hOn2 hO3
    have hR3 : OwnRows w3 w.heap.size g cap rs := hR2.only' hO3 hps
    clear hO3 hR2 hOn2 Hb
    -- the row is cloned
    have hrow := hR3.2.1 rs[i] (List.getElem_mem _)
    have hq : w3.cell? ⟨g, i, none⟩ = some (rowVal rs[i]) := by rw [hR3.1.cell i (by simpa using hi)]; simp
    have hfz := hR3.1.frozen i
    have hlen : rs[i].2.2.length = rs.length := by
      have := Hsq.out.2 i (by rw [contents_length]; exact hi)
      simp [contents, List.getD, hi] at this
      exact this
    obtain ⟨gr, cr, R, hRi⟩ : ∃ gr cr R, rs[i] = (gr, cr, R) := ⟨_, _, _, rfl⟩
    rw [hRi] at hrow hq hlen
    simp only at hrow hlen
    obtain ⟨m, hm⟩ : ∃ m, rs.length = m := ⟨_, rfl⟩
    rw [hm] at hlen
    have hq' : w3.cell? ⟨g, i, none⟩ = some (Value.slice (some ⟨gr, 0, none⟩) m cr) := by rw [hq]; unfold rowVal; simp only [hlen]
    have hE := (Below.refl w3.heap.size w3).alloc (Nat.le_refl _) (.cells #[] 3)
    have q1' := (hE.cell (p := ⟨g, i, none⟩) hR3.lt).trans hq'
    have Hm := Lib.hid hm; have Hlen := Lib.hid hlen; have HRi := Lib.hid hRi
    rw [hm] at hm4 hm1 hi
    rw [hm]
    have hmI : (i : Int) < (m : Int) := by omega
    clear hq hE hm hlen hRi
    go_wp2_with (at_builtin; refine wpList_clone rfl _ _ rfl gr 0 m cr R Hlen.out hrow.lt hrow.cells rfl rfl (by rw [Hlen.out]; omega) ?_)
    intro g4 c4 w4 ho4 hb4
    have hR4 := hR3.below hb4
    have hcur4 := hcur3.below' hb4 hcur3.lt
    have hc4 := hc3.below' hb4 (by have := hcur3.lt; omega)
    have hOn4 : Only p (p + 1) w w4 := hOn3.below' hb4 hOn3.size
    have hne4 : ∀ s ∈ rs, s.1 ≠ g4 := fun s hs e => by have h1 := (hR3.2.1 s hs).lt; have h2 := ho4.base; omega
    have ho4' := ho4.mono hOn3.size
    have x0 := hR4.1.cell i (by simp [Hm.out]; exact hi)
    have y0 := hR4.1.frozen i
    have P := hR4.put2 (i := i) (r := (g4, c4, R)) ho4' hne4
    have hrv : rowVal (g4, c4, R) = (Value.slice (some ⟨g4, 0, none⟩) m c4) := by unfold rowVal; rw [Hlen.out]
    rw [hrv] at P
    have hg4w : w.heap.size ≤ g := hR4.base
    have hgp : p < g := by omega
    have hOn5 : Only p (p + 1) w (w4.setCell ⟨g, i, none⟩ (Value.slice (some ⟨g4, 0, none⟩) m c4)) := Only.grown hOn4 P.2 hg4w
    have hcur5 := hcur4.grown P.2 hgp
    have hc5 := hc4.grown P.2 (by omega)
    obtain ⟨P1, -⟩ := P
    have HL5 : Hid ((rs.set i (g4, c4, R)).length = m) := Lib.hid (by rw [List.length_set]; exact Hm.out)
    have HC5 : Hid (∀ j, j < m → ((contents (rs.set i (g4, c4, R))).getD j []).length = m) := Lib.hid (fun j hj => by
      have e : contents (rs.set i (g4, c4, R)) = contents rs := by
        unfold contents
        rw [List.map_set]
        have hil : i < rs.length := by rw [Hm.out]; exact hi
        have e2 : (rs.map fun r => r.2.2)[i]? = some R := by rw [List.getElem?_map, List.getElem?_eq_getElem hil, HRi.out]; rfl
        apply List.ext_getElem?
        intro t
        by_cases ht : i = t
        · subst ht; rw [List.getElem?_set_self (by simpa using hil), e2]
        · rw [List.getElem?_set_ne ht]
      rw [e]
      have := Hsq.out.2 j (by rw [contents_length, Hm.out]; exact hj)
      rw [this, contents_length, Hm.out])
    obtain ⟨w5, hw5⟩ : ∃ w5, w5 = w4.setCell ⟨g, i, none⟩ (Value.slice (some ⟨g4, 0, none⟩) m c4) := ⟨_, rfl⟩
    rw [← hw5] at P1 hOn5 hcur5 hc5
    have Hw5 := Lib.hid hw5
    generalize hrs5 : rs.set i (g4, c4, R) = rs5 at *
    clear hw5 hR4 hcur4 hc4 hOn4 hR3 hcur3 hc3 hOn3 hb4 ho4 hrow q1' hq' hrv hne4
    have HR5 : Hid (∀ h : i < rs5.length, rs5[i] = (g4, c4, R)) := Lib.hid (fun h => by subst hrs5; simp)
    clear hrs5
    have Ht := Lib.hid (spec_l1Below_any B p a n c 3 w5 (by omega) hn hc5 hp hcur5)
    clear hc5 hcur5
    go_wp2_with fail
    clear x0 y0
    rw [← Hw5.out]
    refine Ht.out.mono ?_
    rintro e w6 ⟨t, ht, rfl, hcur6, hc6, hO6⟩
    have hOn6 : Only p (p + 1) w w6 := Only.trans hOn5 hO6
    have P6 : OwnRows w6 w.heap.size g cap rs5 := P1.only' hO6 hps
    clear hO6 P1 hOn5 Ht Hw5 Hsq HRi
    have hi5 : i < rs5.length := by rw [HL5.out]; exact hi
    have hri := HR5.out hi5
    have hrow := P6.2.1 rs5[i] (List.getElem_mem _)
    have hcell : w6.cell? ⟨g, i, none⟩ = some (Value.slice (some ⟨g4, 0, none⟩) m c4) := by
      rw [P6.1.cell i (by simpa using hi5)]
      simp only [List.getElem_map, hri]
      unfold rowVal
      rw [Hlen.out]
    have hfz6 := P6.1.frozen i
    rw [hri] at hrow
    simp only at hrow
    have hgl := P6.lt
    have hMat : ∀ (w' : World) (rs' : List RowRef), OwnRows w' w.heap.size g cap rs' → (contents rs').length = m → (∀ j, j < m → ((contents rs').getD j []).length = m) → MatR w' w.heap.size g cap (contents rs') := fun w' rs' h hl hr => MatR.of_own h (by rw [contents_length] at hl; omega) (fun j hj => by have := hr j (by rw [← hl]; exact hj); omega)
    have ht3 : t = 0 ∨ t = 1 ∨ t = 2 := by omega
    rcases ht3 with rfl | rfl | rfl
    · -- a number is spoiled
      obtain ⟨gr2, cr2, -, hbr, hlr, hner, hcr, hcl, hset⟩ := P6.setMat rfl i (by rw [contents_length]; exact hi5)
      have e1 : (gr2 : Nat) = g4 ∧ cr2 = c4 := by
        have := hcr.symm.trans hcell
        simp at this
        exact ⟨this.1, this.2.2⟩
      obtain ⟨rfl, rfl⟩ := e1
      have hz := hcl 0 (by rw [HC5.out i hi]; omega)
      generalize ((contents rs5).getD i []).getD 0 0 = z0 at *
      have hg4p : p < gr2 := by omega
      have K : ∀ W : World, w6.heap.size ≤ W.heap.size → (∀ k, k < w6.heap.size → (k < p ∨ p + 1 ≤ k) → W.heap[k]? = w6.heap[k]?) → (W.cell? ⟨g, i, none⟩ = some (Value.slice (some ⟨gr2, 0, none⟩) m cr2) ∧ W.cell? ⟨gr2, 0, none⟩ = some (.int .i64 z0) ∧ W.frozen? ⟨gr2, 0, none⟩ = false) := fun W _ hs =>
        ⟨(World.cell?_of_block (a := ⟨g, i, none⟩) (hs g hgl (.inr (by omega)))).trans hcell, (World.cell?_of_block (a := ⟨gr2, 0, none⟩) (hs gr2 hlr (.inr (by omega)))).trans hz.1, (World.frozen?_of_block (a := ⟨gr2, 0, none⟩) (hs gr2 hlr (.inr (by omega)))).trans hz.2⟩
      have BA : Below w6.heap.size w6 (w6.drew.alloc (.cells #[.int .i64 (-4), .int .i64 1, .int .i64 0, .int .i64 2] 3)) := (Below.drew (Below.refl _ _)).alloc (Nat.le_refl _) _
      have hcurA := hcur6.below' BA hcur6.lt
      have hcA := hc6.below' BA (by have := hcur6.lt; omega)
      have HpI := Lib.hid (spec_l1PickInt_any B p a n c w6.heap.size 4 [-4, 1, 0, 2] _ rfl (by omega) (by omega) hn hcA hp hcurA hcur6.lt (by show w6.heap.size < (w6.heap.push _).size; rw [Array.size_push]; omega) (fun j hj => by
        have : j = 0 ∨ j = 1 ∨ j = 2 ∨ j = 3 := by simp at hj; omega
        rcases this with rfl | rfl | rfl | rfl <;> exact (cell_of_cells (heap_alloc_new w6.drew _) _).trans rfl))
      have k0 := K w6.drew (Nat.le_refl _) (fun _ _ _ => rfl)
      have kA := K _ BA.size (fun k hk _ => BA.block k hk)
      have kB : ∀ W, Only p (p + 1) (w6.drew.alloc (.cells #[.int .i64 (-4), .int .i64 1, .int .i64 0, .int .i64 2] 3)) W → (W.cell? ⟨g, i, none⟩ = some (Value.slice (some ⟨gr2, 0, none⟩) m cr2) ∧ W.cell? ⟨gr2, 0, none⟩ = some (.int .i64 z0) ∧ W.frozen? ⟨gr2, 0, none⟩ = false) := fun W hW =>
        K W (Nat.le_trans BA.size hW.size) (fun k hk hd => (hW.block k (Nat.lt_of_lt_of_le hk BA.size) hd).trans (BA.block k hk))
      have HBA := Lib.hid BA
      have hm0I : (0 : Int) < (m : Int) := by omega
      have hm0N : 0 < m := by omega
      have hm0D : decide (0 < m) = true := decide_eq_true hm0N
      have kS : ∀ (W : World) (v : Value), W.cell? ⟨g, i, none⟩ = some (Value.slice (some ⟨gr2, 0, none⟩) m cr2) → (W.setCell ⟨gr2, 0, none⟩ v).cell? ⟨g, i, none⟩ = some (Value.slice (some ⟨gr2, 0, none⟩) m cr2) := fun W v h => (World.cell?_of_block (a := ⟨g, i, none⟩) (Below.heap_setCell W ⟨gr2, 0, none⟩ v g hner)).trans h
      clear hcurA hcA BA hz K
      go_wp2_with fail
      go_region_held3 (fun W => W.cell? ⟨g, i, none⟩ = some (Value.slice (some ⟨gr2, 0, none⟩) m cr2))
        (first | exact k0.1 | exact kA.1 | exact (kB _ hOA).1 | exact kS _ _ (kB _ hOA).1)
        (first | (go_at_call 154; refine HpI.out.mono ?_; rintro e w7 ⟨x, rfl, hcur7, hc7, hOA⟩; obtain ⟨f1, f2, f3⟩ := kB _ hOA))
      have hb7 : Only p (p + 1) w6 w7 := Only.trans (Only.of_below p (p + 1) HBA.out) hOA
      have P7 : OwnRows w7 w.heap.size g cap rs5 := (P6.below HBA.out).only' hOA hps
      obtain ⟨gr3, cr3, -, hbr3, hlr3, hner3, hcr3, hcl3, hset3⟩ := P7.setMat rfl i (by rw [contents_length]; exact hi5)
      have e3 : gr3 = gr2 := by
        have := hcr3.symm.trans f1
        simp at this
        exact this.1
      subst e3
      obtain ⟨rs8, -, hcon8, hl8, hO8, hg8⟩ := hset3 0 x
      have hcur8 := hcur7.grown hg8 hg4p
      have hc8 := hc7.grown hg8 (by omega)
      have hOn8 : Only p (p + 1) w (w7.setCell ⟨gr3, 0, none⟩ (.int .i64 x)) := Only.grown (Only.trans hOn6 hb7) hg8 hbr
      have hM := hMat _ rs8 hO8 (by rw [hcon8, setM_length, contents_length, HL5.out]) (fun j hj => by
        rw [hcon8]
        unfold setM
        by_cases e : i = j
        · subst e
          have := HC5.out i hi
          simp [List.getD, contents_length, hi5] at this ⊢
          exact this
        · have := HC5.out j hj
          simp only [List.getD] at this ⊢
          rw [List.getElem?_set_ne e]; exact this)
      have HM := Lib.hid hM
      have hlen8 : (contents rs8).length = m := by rw [contents_length, hl8, HL5.out]
      have Hlen8 := Lib.hid hlen8
      clear hM hlen8 hset3 hcl3 f1 f2 f3 k0 kA kB kS hO8 hset hcl P7
      go_wp2_with fail
      go_ret
      exact ⟨g, cap, contents rs8, by rw [Hlen8.out]; rfl, HM.out, hcur8, hc8, hOn8⟩
    · -- a row is cut
      have x0 := hcell
      have b1 : (1 : Int) ≤ (m : Int) := by omega
      have b2 : (m : Int) ≤ (c4 : Int) := by have := hrow.capLe; rw [Hlen.out] at this; omega
      have b3 : (1 : Int) ≤ (c4 : Int) := by omega
      have hne4 : g4 ≠ g := fun h => P6.1.ne hrow.toV (by decide) h.symm
      have hYl : (R.drop 1).length = m - 1 := by rw [List.length_drop, Hlen.out]
      have HYl := Lib.hid hYl
      have hPs : ∀ v, w6.grownBy (w6.setCell ⟨g, i, none⟩ v) (some g) := fun v => (P6.1.set i v).2
      have hcurS := fun v => hcur6.grown (hPs v) hgp
      have hcS := fun v => hc6.grown (hPs v) (by omega)
      have hOnS := fun v => Only.grown hOn6 (hPs v) hg4w
      have hL : Hid (((contents rs5).set i (R.drop 1)).length = m) := Lib.hid (by rw [List.length_set, contents_length, HL5.out])
      have hM1 := Lib.hid (MatR.cutRow P6 HL5.out hm4 HC5.out hi g4 1 (c4 - 1) (R.drop 1) (by omega) (by omega) hrow.base hrow.lt hne4 (hrow.cells.drop 1))
      have hM0 : Hid (c4 = 1 → MatR (w6.setCell ⟨g, i, none⟩ (Value.slice (some ⟨g4, 0, none⟩) (m - 1) 0)) w.heap.size g cap ((contents rs5).set i (R.drop 1))) := Lib.hid (fun h => by
        have e : R.drop 1 = [] := List.drop_eq_nil_of_le (by rw [Hlen.out]; omega)
        have := MatR.cutRow P6 HL5.out hm4 HC5.out hi g4 0 0 [] (by simp) (by simp) hrow.base hrow.lt hne4 (fun t ht => absurd ht (by simp))
        rw [e]
        rw [show m - 1 = ([] : List Int).length by simp; omega]
        exact this)
      rw [HYl.out] at hM1
      clear hPs hYl hMat
      go_wp2_with fail
      all_goals go_ret
      · rename_i h
        exact ⟨g, cap, (contents rs5).set i (R.drop 1), by rw [hL.out]; rfl, hM0.out h, hcurS _, hcS _, hOnS _⟩
      · exact ⟨g, cap, (contents rs5).set i (R.drop 1), by rw [hL.out]; rfl, hM1.out, hcurS _, hcS _, hOnS _⟩
    · -- a row more
      have hcur7 := hcur6.below' ((Below.refl w6.heap.size w6).alloc (Nat.le_refl _) (.cells #[.int .i64 2] 3)) hcur6.lt
      have hR7 : OwnRows (w6.alloc (.cells #[.int .i64 2] 3)) w.heap.size g cap rs5 := P6.below ((Below.refl _ _).alloc (Nat.le_refl _) _)
      have ho7 : Own (w6.alloc (.cells #[.int .i64 2] 3)) w6.heap.size w6.heap.size 1 [2] := Own.new _ (Nat.le_refl _)
      have hOn7 : Only p (p + 1) w (w6.alloc (.cells #[.int .i64 2] 3)) := hOn6.below' ((Below.refl w6.heap.size w6).alloc (Nat.le_refl _) _) hOn6.size
      have hc7 := hc6.below' ((Below.refl w6.heap.size w6).alloc (Nat.le_refl _) (.cells #[.int .i64 2] 3)) (by have := hcur6.lt; omega)
      have hne7 : ∀ s ∈ rs5, s.1 ≠ w6.heap.size := fun s hs e => by have := (P6.2.1 s hs).lt; omega
      have ho7' := ho7.mono hOn6.size
      obtain ⟨w7, hw7⟩ : ∃ w7, w7 = w6.alloc (.cells #[.int .i64 2] 3) := ⟨_, rfl⟩
      rw [← hw7] at hcur7 hR7 ho7' hOn7 hc7
      have Hw7 := Lib.hid hw7
      go_wp2_with (at_builtin; refine wpList_append_row (w := w6.alloc (.cells #[.int .i64 2] 3)) rfl _ _ rfl w.heap.size g cap m (w6.heap.size + 1) rs5 (w6.heap.size, 1, [2]) _ HL5.out rfl (by show (w6.heap.push _).size = _; rw [Array.size_push]) (by rw [← Hw7.out]; exact hR7) (by rw [← Hw7.out]; exact ho7') hne7 rfl rfl (by omega) ?_)
      intro g8 c8 w8 hO8 hg8 hor8
      rw [← Hw7.out] at hg8
      have hcur8 := hcur7.grown hg8 hgp
      have hc8 := hc7.grown hg8 (by omega)
      have hOn8 : Only p (p + 1) w w8 := Only.grown hOn7 hg8 hg4w
      have hl8 : (rs5 ++ [(w6.heap.size, 1, [2])]).length = m + 1 := by rw [List.length_append, HL5.out]; rfl
      have hM := MatR.of_own hO8 (by omega) (fun j hj => by
        rw [contents_length, hl8] at hj
        have e : contents (rs5 ++ [(w6.heap.size, 1, [2])]) = contents rs5 ++ [[2]] := by simp [contents]
        rw [e]
        by_cases hjm : j < m
        · have := HC5.out j hjm
          simp only [List.getD] at this ⊢
          rw [List.getElem?_append_left (by rw [contents_length, HL5.out]; exact hjm)]
          omega
        · obtain rfl : j = m := by omega
          simp [List.getD, contents_length, HL5.out])
      have HM := Lib.hid hM; have Hl8 := Lib.hid hl8
      clear hM hl8 hO8 hg8
      go_wp2_with fail
      go_ret
      exact ⟨g8, c8, _, by rw [contents_length, Hl8.out]; rfl, HM.out, hcur8, hc8, hOn8⟩
end Go.Proofs.YtkjglfafphffiaaGreatDoor
namespace Go.Proofs.YtkjglfafphffiaaGreatDoor
set_option maxRecDepth 100000
open Go.RowKit
set_option maxHeartbeats 1000000 in
theorem spec_l5Word_gen (B p : Nat) (a : Option Addr) (n c : Nat) (gx ox nx cx most : Nat) (w : World) (hN : nx ≤ 5) (hmost : most ≤ 12) (hn : n ≤ 1048577) (hc : CodeV w B a n) (hp : B ≤ p) (hcur : Cur w p a n c) :
    Calls Tryz.prog 134 #[.pointer (some ⟨p, 0, none⟩), (Value.slice (some ⟨gx, ox, none⟩) nx cx), .int .i64 (most : Int)] w (DrewL w B p a n c most (max 1 (nx : Int))) := by
  have hps := hcur.lt
  obtain ⟨M, hM⟩ : ∃ M : Int, max 1 (nx : Int) = M := ⟨_, rfl⟩
  have hM1 : 1 ≤ M ∧ M ≤ 5 := by omega
  rw [hM]
  obtain ⟨M0, hM0⟩ : ∃ M0 : Int, (nx : Int) = M0 := ⟨_, rfl⟩
  rw [hM0] at hM
  have eW : IntKind.i64.wrap ((most : Int) + 1) = (most : Int) + 1 := IntWalk.i64_in _ (by omega)
  have K := Lib.hid (fun (W : World) (hc : CodeV W B a n) (hcur : Cur W p a n c) => spec_l1Below_any B p a n c ((most : Int) + 1) W (by omega) hn hc hp hcur)
  have K2 := Lib.hid (fun (W : World) (hc : CodeV W B a n) (hcur : Cur W p a n c) => spec_l1Below_any B p a n c M W (by omega) hn hc hp hcur)
  have O0 : Only p (p + 1) w (w.alloc (.cells #[] 3)) := Only.of_below _ _ ((Below.refl w.heap.size w).alloc (Nat.le_refl _) _)
  have C0 := hc.only O0 hp
  have U0 : Cur (w.alloc (.cells #[] 3)) p a n c := by obtain ⟨i, x, hi, hb⟩ := hcur; exact ⟨i, x, hi, (((Below.refl w.heap.size w).alloc (Nat.le_refl _) _).block p hps).trans hb⟩
  have hE : Own (w.alloc (.cells #[] 3)) w.heap.size w.heap.size 0 [] := Own.empty (Nat.le_refl _)
  clear hc hcur
  go_enter Tryz.func134, Tryz.ntmps134
  go_wp2_with fail
  refine (K.out _ C0 U0).mono ?_
  rintro e w1 ⟨x, hx, rfl, hcur1, hc1, hO1⟩
  have hE1 := hE.only hO1 (.inr (by omega))
  have hO := O0.trans hO1
  clear C0 U0 hE O0 hO1
  go_wp2_with fail
  go_loopw [7, 8] (fun lv kv wr => ∃ (k m g2 c2 : Nat) (xs : List Int), k + m ≤ most ∧ kv = .int .i64 k ∧ lv = (Value.slice (some ⟨g2, 0, none⟩) m c2) ∧ Hid (xs.length = m) ∧ Hid (∀ y ∈ xs, 0 ≤ y ∧ y < M) ∧ p < g2 ∧ Own wr w.heap.size g2 c2 xs ∧ Cur wr p a n c ∧ CodeV wr B a n ∧ Only p (p + 1) w wr) (fun _ kv _ => (intOf kv).toNat)
  case atStart => exact ⟨x.toNat, 0, w.heap.size, 0, [], by omega, by congr 1; omega, rfl, rfl, by simp [Hid], hps, hE1, hcur1, hc1, hO⟩
  case round =>
    clear hE1 hcur1 hc1 hO
    obtain ⟨k, m, g2, c2, xs, hkm, rfl, rfl, hml, hall, hpg, hown, hcur, hc, hO⟩ := hrel
    by_cases hlt : 0 < k
    · have hltI : (0 : Int) < (k : Int) := by omega
      have hcall := Lib.hid (K2.out wr hc hcur)
      clear hc hcur
      go_wp2_with fail
      try rw [hM]
      with_reducible refine hcall.out.mono ?_
      all_goals
        rintro e w2 ⟨y, hy, rfl, hcur2, hc2, hO2⟩
        have hown2 := hown.only hO2 (.inr (by omega))
        have hO' := hO.trans hO2
        clear hown hO hO2 hcall
        go_wp2_with (at_builtin; refine wpList_append_int_n (w := w2) rfl _ _ rfl w.heap.size g2 c2 m xs y hml.out hown2 rfl rfl (by omega) ?_)
        intro g3 c3 w3 ho3 hg3 hor3
        have hgs := hown2.base
        have hO3 : Only p (p + 1) w w3 := ⟨hg3.os.trans hO'.os, hg3.tape.trans hO'.tape, hg3.output.trans hO'.output, Nat.le_trans hO'.size hg3.size, fun j hj hd => (hg3.block j (Nat.lt_of_lt_of_le hj hO'.size) (by intro e; cases e; omega)).trans (hO'.block j hj hd)⟩
        have hcur3 : Cur w3 p a n c := by obtain ⟨i, z, hi, hb⟩ := hcur2; exact ⟨i, z, hi, (hg3.block p (lt_of_block hb) (by intro e; cases e; omega)).trans hb⟩
        have hc3 : CodeV w3 B a n := hc2.only (p := p + 1) (E := g2 + 1) ⟨hg3.os, hg3.tape, hg3.output, hg3.size, fun j hj hd => hg3.block j hj (by intro e; cases e; omega)⟩ (by omega)
        have hps2 := hcur2.lt
        have hl3 : Hid ((xs ++ [y]).length = m + 1) := Lib.hid (by rw [List.length_append, hml.out]; rfl)
        have ha3 := Lib.hid (all_snoc hall.out hy)
        have hpg3 : p < g3 := by rcases hor3 with rfl | q <;> omega
        clear hown2 hO' hcur2 hc2 hg3 hor3
        go_wp2_with fail
        go_roundw
        case rel => exact ⟨k - 1, m + 1, g3, c3, _, by omega, by go_num, rfl, hl3.out, ha3.out, hpg3, ho3, hcur3, hc3, hO3⟩
        case measure => simp [intOf]; omega
    · obtain rfl : k = 0 := by omega
      have Hml := Lib.hid hml.out
      go_wp2_with fail
      go_ret
      exact ⟨xs, g2, c2, ⟨by have := hml.out; omega, hall.out⟩, congrArg (fun z => Ending.returned (Value.slice (some ⟨g2, 0, none⟩) z c2)) Hml.out.symm, hown, hcur, hc, hO⟩
def Drew2 (w : World) (e : Ending) (w' : World) : Prop :=
  ∃ (g cap g1 c1 g2 c2 : Nat) (R : List (List Int)) (u v : List Int), e = .returned (.tuple #[(Value.slice (some ⟨g, 0, none⟩) R.length cap), (Value.slice (some ⟨g1, 0, none⟩) u.length c1), (Value.slice (some ⟨g2, 0, none⟩) v.length c2)]) ∧ MatR w' w.heap.size g cap R ∧ Own w' w.heap.size g1 c1 u ∧ Own w' w.heap.size g2 c2 v ∧ (u.length ≤ 12 ∧ v.length ≤ 12) ∧ Below w.heap.size w w'
def Drew1 (w : World) (e : Ending) (w' : World) : Prop :=
  ∃ (g cap g2 c2 : Nat) (R : List (List Int)) (v : List Int), e = .returned (.tuple #[(Value.slice (some ⟨g, 0, none⟩) R.length cap), (Value.slice (some ⟨g2, 0, none⟩) v.length c2)]) ∧ MatR w' w.heap.size g cap R ∧ Own w' w.heap.size g2 c2 v ∧ v.length ≤ 12 ∧ Below w.heap.size w w'
end Go.Proofs.YtkjglfafphffiaaGreatDoor
namespace Go.Proofs.YtkjglfafphffiaaGreatDoor
set_option maxRecDepth 100000
open Go.RowKit
theorem minorOf_length (m : List (List Int)) (j : Nat) : (minorOf m j).length = m.length - 1 := by simp [minorOf]
theorem minor_take {m : List (List Int)} {j k : Nat} (hk : k + 1 < m.length) : (minorOf m j).take (k + 1) = (minorOf m j).take k ++ [cutAt (m.getD (k + 1) []) j] := by
  have hk' : k < (minorOf m j).length := by rw [minorOf_length]; omega
  rw [List.take_succ_eq_append_getElem hk']
  congr 2
  simp [minorOf, List.getD, hk]
theorem sgn_succ (t : Nat) : sgn (t + 1) = -(sgn t) := by
  unfold sgn
  by_cases h : t % 2 = 0
  · rw [if_pos h, if_neg (by omega)]
  · rw [if_neg h, if_pos (by omega)]; rfl
theorem sgn_cases (t : Nat) : sgn t = 1 ∨ sgn t = -1 := by unfold sgn; split <;> simp
theorem detB_le {n : Nat} (h : n ≤ 3) : 0 ≤ detB n ∧ detB n ≤ 162 := by
  have : n = 0 ∨ n = 1 ∨ n = 2 ∨ n = 3 := by omega
  rcases this with rfl | rfl | rfl | rfl <;> simp [detB]
theorem term_bound {G x d : Int} (hG : G = 1 ∨ G = -1) (hx : -3 ≤ x ∧ x ≤ 3) (hd : -162 ≤ d ∧ d ≤ 162) : -486 ≤ G * x * d ∧ G * x * d ≤ 486 ∧ -3 ≤ G * x ∧ G * x ≤ 3 := by
  have hx' : x = -3 ∨ x = -2 ∨ x = -1 ∨ x = 0 ∨ x = 1 ∨ x = 2 ∨ x = 3 := by omega
  rcases hG with rfl | rfl <;> rcases hx' with rfl | rfl | rfl | rfl | rfl | rfl | rfl <;> omega
theorem det_sum_bound {n : Nat} {m : List (List Int)} (hsq : Sq (n + 1) m) (hn : n ≤ 3) {t : Nat} (ht : t ≤ n + 1) :
    -1944 ≤ (sumTo t fun j => sgn j * ent m 0 j * det n (minorOf m j)) ∧ (sumTo t fun j => sgn j * ent m 0 j * det n (minorOf m j)) ≤ 1944 := by
  have := sumTo_bound (fun j => sgn j * ent m 0 j * det n (minorOf m j)) 486 t (fun j hj => by
    have h1 := det_bound n _ (minorOf_sq hsq (j := j) (by omega))
    have h2 := detB_le hn
    have h3 := term_bound (d := det n (minorOf m j)) (sgn_cases j) (hsq.2.2 0 j) ⟨by omega, by omega⟩
    exact ⟨h3.1, h3.2.1⟩)
  omega
attribute [local go_sem ↓] Go.wp_at_zero Go.wp_at_succ
set_option maxHeartbeats 4000000 in
theorem impl_determinant_step (n : Nat) (hn1 : 1 ≤ n) (hn4 : n + 1 ≤ 4) (ih : ∀ (g o cap : Nat) (m : List (List Int)) (w : World), Sq n m → g < w.heap.size → n ≤ cap → Rows2 w g o m → Calls Tryz.prog 45 #[(Value.slice (some ⟨g, o, none⟩) n cap)] w (Gives w (.int .i64 (det n m))))
    (g o cap : Nat) (m : List (List Int)) (w : World) (hsq : Sq (n + 1) m) (hg : g < w.heap.size) (hcap : n + 1 ≤ cap) (hr : Rows2 w g o m) :
    Calls Tryz.prog 45 #[(Value.slice (some ⟨g, o, none⟩) (n + 1) cap)] w (Gives w (.int .i64 (det (n + 1) m))) := by
  have IH := Lib.hid ih; clear ih
  obtain ⟨g0, o0, c0, p1, p2, p3, p4⟩ := hr 0 (by rw [hsq.1]; omega)
  have hr0 := hsq.2.1 0 (by omega)
  rw [hr0] at p1 p2
  have Hr0 := Lib.hid hr0; clear hr0
  rw [Nat.add_zero] at p1
  have hcap1 : ¬ cap = 1 := by omega
  have hcap2 : 1 < cap := by omega
  have c1 : (0 : Int) < ((n + 1 : Nat) : Int) := by omega
  have hD : ((n : Int) + 1 == 0) = false := by simp; omega
  go_enter Tryz.func45, Tryz.ntmps45
  go_wp2
  go_loopw [3, 4, 17] (fun s sg i wr => ∃ t : Nat, t ≤ n + 1 ∧ i = .int .i64 t ∧ s = .int .i64 (sumTo t fun j => sgn j * ent m 0 j * det n (minorOf m j)) ∧ sg = .int .i64 (sgn t) ∧ Below w.heap.size w wr) (fun _ _ i _ => n + 1 - (intOf i).toNat)
  case atStart => exact ⟨0, Nat.zero_le _, rfl, rfl, rfl, Below.refl _ _⟩
  case round =>
    obtain ⟨t, ht, rfl, rfl, rfl, hb⟩ := hrel
    by_cases hlt : t < n + 1
    · have e0 := p4.below hb p3 t (by rw [Hr0.out]; exact hlt)
      have hee : (m.getD 0 []).getD t 0 = ent m 0 t := rfl
      rw [hee] at e0
      have hbx := hsq.2.2 0 t
      by_cases hx0 : ent m 0 t = 0
      · have hterm : (sumTo (t + 1) fun j => sgn j * ent m 0 j * det n (minorOf m j)) = sumTo t fun j => sgn j * ent m 0 j * det n (minorOf m j) := by
          simp only [sumTo]; rw [hx0]; simp
        have Hterm := Lib.hid hterm; clear hterm hee hbx
        rw [hx0] at e0
        have Hx0 := Lib.hid hx0; clear hx0
        generalize (sumTo t fun j => sgn j * ent m 0 j * det n (minorOf m j)) = S at *
        have hsg := sgn_succ t
        have Hsg := Lib.hid hsg; clear hsg
        have hGc := sgn_cases t
        generalize hG : sgn t = G at *
        have HG := Lib.hid hG; clear hG
        have hG1 : -1 ≤ G ∧ G ≤ 1 := by omega
        clear hGc
        go_wp2
        go_roundw
        case rel => exact ⟨t + 1, by omega, by go_num, by rw [Hterm.out], by rw [Hsg.out], hb⟩
        case measure => simp [intOf]; omega
      · have hxb : (ent m 0 t != 0) = true := by simpa using hx0
        generalize hxx : ent m 0 t = x at *
        have Hxx := Lib.hid hxx; clear hxx hee
        have hltI : (t : Int) < (n : Int) + 1 := by omega
        obtain ⟨wo, rfl⟩ : ∃ wo : World, wo = wr := ⟨_, rfl⟩
        go_wp2
        go_loopw [7, 28] (fun mn i wr => ∃ (k g' c' : Nat) (rs : List RowRef), k ≤ n ∧ i = .int .i64 k ∧ mn = (Value.slice (some ⟨g', 0, none⟩) k c') ∧ Hid (rs.length = k) ∧ Hid (contents rs = (minorOf m t).take k) ∧ OwnRows wr wo.heap.size g' c' rs ∧ Below wo.heap.size wo wr) (fun _ i _ => n - (intOf i).toNat)
        case atStart => exact ⟨0, wo.heap.size, 0, [], Nat.zero_le _, rfl, rfl, rfl, rfl, OwnRows.empty (Nat.le_refl _), (Below.refl _ _).alloc (Nat.le_refl _) _⟩
        case round =>
          obtain ⟨k, g', c', rs, hk, rfl, rfl, hrs, hcont, ho, hb2⟩ := hrel
          have hbb := hb.trans (hb2.mono hb.size)
          by_cases hltk : k < n
          · obtain ⟨ga, oa, ca, q1, q2, q3, q4⟩ := hr (k + 1) (by rw [hsq.1]; omega)
            have hrk := hsq.2.1 (k + 1) (by omega)
            rw [hrk] at q1 q2
            have hq1 := (hbb.cell (p := ⟨g, o + (k + 1), none⟩) hg).trans q1
            have hq1' : wr.cell? ⟨g, o + 1 + k, none⟩ = some (Value.slice (some ⟨ga, oa, none⟩) (n + 1) ca) := by rw [show o + 1 + k = o + (k + 1) by omega]; exact hq1
            have hrow := q4.below hbb q3
            clear q1 hq1
            go_wp2
            have b1 : (0 : Int) ≤ (t : Int) := by omega
            have b2 : (t : Int) ≤ (ca : Int) := by omega
            have b3 : (0 : Int) ≤ (t : Int) + 1 := by omega
            have b4 : (t : Int) + 1 ≤ ((n + 1 : Nat) : Int) := by omega
            have b5 : (t : Int) + 1 ≤ (n : Int) + 1 := by omega
            have b6 : (n : Int) + 1 ≤ (ca : Int) := by omega
            have b7 : IntKind.i64.wrap ((t : Int) + 1) = (t : Int) + 1 := IntWalk.i64_in _ (by omega)
            have HN : Hid (n + 1 ≤ 4) := hn4
            have hrl : (m.getD (k + 1) []).length = n + 1 := hrk
            generalize hR : m.getD (k + 1) [] = R at *
            have l1 : (R.take t).length = t := by simp; omega
            have l2 : (R.drop (t + 1)).length = n - t := by simp; omega
            have B0 : Below wr.heap.size wr ((wr.alloc (.cells #[] 3)).drew) := Below.drew ((Below.refl _ _).alloc (Nat.le_refl _) _)
            have F1 : ∀ w1, ((wr.alloc (.cells #[] 3)).drew).grownBy w1 (some wr.heap.size) → Below wr.heap.size wr w1 := fun w1 h => B0.grown h B0.size (by intro j hj; cases hj; exact Nat.le_refl _)
            have F2 : ∀ (w1 w2 : World) (g1 : Nat), Below wr.heap.size wr w1 → wr.heap.size ≤ g1 → w1.grownBy w2 (some g1) → Below wr.heap.size wr w2 := fun w1 w2 g1 h hg h2 => h.grown h2 h.size (by intro j hj; cases hj; exact hg)
            have hga : ga < wr.heap.size := Nat.lt_of_lt_of_le q3 hbb.size
            have FA : Hid (∀ W, Cells W ga oa R → ∃ g2 o2, (if ca = t + 1 then some (⟨ga, oa, none⟩ : Addr) else some ⟨ga, oa + (t + 1), none⟩) = some ⟨g2, o2, none⟩ ∧ Cells W g2 o2 (R.drop (t + 1))) := fun W hW => by
              by_cases hca : ca = t + 1
              · rw [if_pos hca]
                refine ⟨_, _, rfl, ?_⟩
                have : R.drop (t + 1) = [] := List.drop_eq_nil_of_le (by omega)
                rw [this]; intro j hj; simp at hj
              · rw [if_neg hca]; exact ⟨_, _, rfl, hW.drop (t + 1)⟩
            have l3 : (([] ++ R.take t) ++ R.drop (t + 1)).length = t + (n - t) := by simp; omega
            have hrv : ∀ g2 c2 : Nat, rowVal (g2, c2, ([] ++ R.take t) ++ R.drop (t + 1)) = (Value.slice (some ⟨g2, 0, none⟩) (t + (n - t)) c2) := fun g2 c2 => by unfold rowVal; rw [l3]
            have Hrv := Lib.hid hrv; have L3 := Lib.hid l3; clear hrv l3
            have F3 : Hid (∀ (w2 : World) (g2 c2 : Nat), Below wr.heap.size wr w2 → Own w2 wr.heap.size g2 c2 (([] ++ R.take t) ++ R.drop (t + 1)) → OwnRows w2 wo.heap.size g' c' rs ∧ Own w2 wo.heap.size g2 c2 (([] ++ R.take t) ++ R.drop (t + 1)) ∧ ∀ s ∈ rs, s.1 ≠ g2) := fun w2 g2 c2 hB hO =>
              ⟨ho.below hB, hO.mono hb2.size, fun s hs => by have h1 := (ho.2.1 s hs).lt; have h2 := hO.base; omega⟩
            have FB : ∀ w1, Below wr.heap.size wr w1 → Below wo.heap.size wo w1 := fun w1 h => hb2.trans (h.mono hb2.size)
            have hBg : wo.heap.size ≤ g' := ho.base
            go_region_held3 (fun W => Below wo.heap.size wo W)
              (first | exact Below.drew hb2 | exact FB _ B0 | exact (Below.drew hb2).alloc hb2.size _ | exact FB _ (F1 _ hg1) | exact FB _ (F2 _ _ _ (F1 _ hg1) ho1.base hg2) | exact (FB _ (F2 _ _ _ (F1 _ hg1) ho1.base hg2)).alloc (FB _ (F2 _ _ _ (F1 _ hg1) ho1.base hg2)).size _ | exact (FB _ (F2 _ _ _ (F1 _ hg1) ho1.base hg2)).grown hg3 (FB _ (F2 _ _ _ (F1 _ hg1) ho1.base hg2)).size (by intro j hj; cases hj; exact hBg))
              (first
                | (refine step_append_ints (by rfl) _ _ (by rfl) wr.heap.size wr.heap.size 0 0 ga oa t ca [] (R.take t) rfl l1 (by exact (Own.empty (w := wr.drew) (Nat.le_refl _))) (by exact (hrow.below B0 hga).take t) (by rfl) (by rfl) (by omega) ?_; intro g1 c1 w1 ho1 hg1 hor1)
                | (refine step_append_intsA (by rfl) _ _ (by rfl) wr.heap.size g1 c1 (0 + t) (n - t) _ _ ([] ++ R.take t) (R.drop (t + 1)) (by simp; omega) l2 (by exact ho1) (by rfl) (by rfl) (by exact FA.out _ (hrow.below (F1 _ hg1) hga)) (by omega) ?_; intro g2 c2 w2 ho2 hg2 hor2)
                | (refine step_append_row (w := w2) (by rfl) _ _ (by rfl) wo.heap.size g' c' k w2.heap.size rs (g2, c2, ([] ++ R.take t) ++ R.drop (t + 1)) _ hrs.out (by rw [Hrv.out]) (by rfl) (by exact (F3.out w2 g2 c2 (F2 _ _ _ (F1 _ hg1) ho1.base hg2) ho2).1) (by exact (F3.out w2 g2 c2 (F2 _ _ _ (F1 _ hg1) ho1.base hg2) ho2).2.1) (by exact (F3.out w2 g2 c2 (F2 _ _ _ (F1 _ hg1) ho1.base hg2) ho2).2.2) (by rfl) (by rfl) (by omega) ?_; intro g3 c3 w3 ho3 hg3 hor3))
            have hB3 : Below wo.heap.size wo w3 := (FB _ (F2 _ _ _ (F1 _ hg1) ho1.base hg2)).grown hg3 (FB _ (F2 _ _ _ (F1 _ hg1) ho1.base hg2)).size (by intro j hj; cases hj; exact hBg)
            have HB3 := Lib.hid hB3
            clear F1 F2 FB ho1 hg1 hor1 ho2 hg2 hor2 hor3 FA hB3
            generalize (if ca = t + 1 then some (⟨ga, oa, none⟩ : Addr) else some ⟨ga, oa + (t + 1), none⟩) = AA
            go_wp2
            go_roundw
            case rel =>
              refine ⟨k + 1, g3, c3, rs ++ [(g2, c2, ([] ++ R.take t) ++ R.drop (t + 1))], by omega, by go_num, rfl, by show _ = _; rw [List.length_append, hrs.out]; rfl, ?_, ho3, HB3.out⟩
              show _ = _
              rw [contents_push, hcont.out, minor_take (by rw [hsq.1]; omega), hR]
              rfl
            case measure => simp [intOf]; omega
          · obtain rfl : n = k := by omega
            have hcc := hcont.out
            rw [List.take_of_length_le (by rw [minorOf_length, hsq.1]; omega)] at hcc
            have hdc := IH.out g' 0 c' (minorOf m t) wr (minorOf_sq hsq hlt) ho.lt (by have := ho.capLe; rw [hrs.out] at this; exact this) (by rw [← hcc]; exact ho.rows2)
            have hterm : (sumTo (t + 1) fun j => sgn j * ent m 0 j * det n (minorOf m j)) = (sumTo t fun j => sgn j * ent m 0 j * det n (minorOf m j)) + sgn t * x * det n (minorOf m t) := by
              simp only [sumTo]; rw [Hxx.out]
            have hS := det_sum_bound hsq (by omega) (t := t) (by omega)
            have hdb := det_bound n _ (minorOf_sq hsq hlt)
            have hDB := detB_le (n := n) (by omega)
            have htb := term_bound (sgn_cases t) hbx (d := det n (minorOf m t)) ⟨by omega, by omega⟩
            have hsg := sgn_succ t
            have hGc := sgn_cases t
            have Hdc := Lib.hid hdc; clear hdc
            have Hterm := Lib.hid hterm; have Hsg := Lib.hid hsg; clear hterm hsg hcc
            generalize (sumTo t fun j => sgn j * ent m 0 j * det n (minorOf m j)) = S at *
            generalize det n (minorOf m t) = d at *
            generalize sgn t = G at *
            have hG1 : -1 ≤ G ∧ G ≤ 1 := by omega
            have e1 : IntKind.i64.wrap (G * x) = G * x := IntWalk.i64_in _ (by omega)
            have e2 : IntKind.i64.wrap (G * x * d) = G * x * d := IntWalk.i64_in _ (by omega)
            have e3 : IntKind.i64.wrap (S + G * x * d) = S + G * x * d := IntWalk.i64_in _ (by omega)
            have hbb2 := hb.trans (hb2.mono hb.size)
            clear hGc hdb hDB htb hS
            go_wp2_with fail
            refine Hdc.out.mono ?_
            rintro e w1 ⟨rfl, hb3⟩
            go_wp2_with fail
            go_roundw
            case rel => exact ⟨t + 1, by omega, by go_num, by rw [Hterm.out], by rw [Hsg.out], hbb2.trans (hb3.mono hbb2.size)⟩
            case measure => simp [intOf]; omega
    · obtain rfl : t = n + 1 := by omega
      go_wp2
      go_ret
      exact ⟨rfl, hb⟩
theorem impl_determinant_zero (g o cap : Nat) (w : World) : Calls Tryz.prog 45 #[(Value.slice (some ⟨g, o, none⟩) 0 cap)] w (Gives w (.int .i64 1)) := by
  go_enter Tryz.func45, Tryz.ntmps45
  go_wp2
  go_ret
  exact ⟨rfl, Below.refl _ _⟩
set_option maxHeartbeats 4000000 in
theorem impl_determinant_one (g o cap : Nat) (m : List (List Int)) (w : World) (hsq : Sq 1 m) (hcap : 1 ≤ cap) (hr : Rows2 w g o m) :
    Calls Tryz.prog 45 #[(Value.slice (some ⟨g, o, none⟩) 1 cap)] w (Gives w (.int .i64 (det 1 m))) := by
  obtain ⟨g0, o0, c0, p1, p2, p3, p4⟩ := hr 0 (by rw [hsq.1]; omega)
  have hr0 := hsq.2.1 0 (by omega)
  rw [hr0] at p1 p2
  rw [Nat.add_zero] at p1
  have e0 := p4 0 (by rw [hr0]; omega)
  have hee : (m.getD 0 []).getD 0 0 = ent m 0 0 := rfl
  rw [hee, Nat.add_zero] at e0
  have hbx := hsq.2.2 0 0
  have hdet : det 1 m = ent m 0 0 := by simp [det, sumTo, sgn]
  rw [hdet]
  clear hdet hee hr0 p4
  generalize ent m 0 0 = x at *
  go_enter Tryz.func45, Tryz.ntmps45
  go_wp2
  go_loopw [3, 4, 17] (fun s sg i wr => ((i = .int .i64 0 ∧ s = .int .i64 0 ∧ sg = .int .i64 1) ∨ (i = .int .i64 1 ∧ s = .int .i64 x)) ∧ Below w.heap.size w wr) (fun _ _ i _ => 1 - (intOf i).toNat)
  case atStart => exact ⟨.inl ⟨rfl, rfl, rfl⟩, Below.refl _ _⟩
  case round =>
    obtain ⟨h | h, hb⟩ := hrel
    · obtain ⟨rfl, rfl, rfl⟩ := h
      have f0 := (hb.cell (p := ⟨g0, o0, none⟩) p3).trans e0
      by_cases hx0 : x = 0
      · subst hx0
        go_wp2
        go_roundw
        case rel => exact ⟨.inr ⟨rfl, rfl⟩, hb⟩
        case measure => simp [intOf]
      · have hxb : (x != 0) = true := by simpa using hx0
        obtain ⟨wo, rfl⟩ : ∃ wo : World, wo = wr := ⟨_, rfl⟩
        by_cases hc1 : cap = 1
        · subst hc1
          go_wp2
          refine wp_loop_rounds 1 ?_
          rw [rounds_succ]
          go_wp2_with fail
          refine (impl_determinant_zero _ _ _ _).mono ?_
          rintro e w1 ⟨rfl, hb3⟩
          go_wp2_with fail
          go_roundw
          case rel =>
            refine ⟨.inr ⟨rfl, ?_⟩, ?_⟩
            · simp
            · exact (hb.alloc hb.size _).trans (hb3.mono (hb.alloc hb.size _).size)
          case measure => simp [intOf]
        · have hc2 : 1 < cap := by omega
          go_wp2
          refine wp_loop_rounds 1 ?_
          rw [rounds_succ]
          go_wp2_with fail
          refine (impl_determinant_zero _ _ _ _).mono ?_
          rintro e w1 ⟨rfl, hb3⟩
          go_wp2_with fail
          go_roundw
          case rel =>
            refine ⟨.inr ⟨rfl, ?_⟩, ?_⟩
            · simp
            · exact (hb.alloc hb.size _).trans (hb3.mono (hb.alloc hb.size _).size)
          case measure => simp [intOf]
    · obtain ⟨rfl, rfl⟩ := h
      go_wp2
      go_ret
      exact ⟨rfl, hb⟩
theorem impl_determinant_any : ∀ (n : Nat), n ≤ 4 → ∀ (g o cap : Nat) (m : List (List Int)) (w : World), Sq n m → g < w.heap.size → n ≤ cap → Rows2 w g o m → Calls Tryz.prog 45 #[(Value.slice (some ⟨g, o, none⟩) n cap)] w (Gives w (.int .i64 (det n m))) := by
  intro n
  induction n with
  | zero => intro _ g o cap m w _ _ _ _; exact impl_determinant_zero g o cap w
  | succ n ih =>
    intro hn g o cap m w hsq hg hcap hr
    cases n with
    | zero => exact impl_determinant_one g o cap m w hsq hcap hr
    | succ n => exact impl_determinant_step (n + 1) (by omega) hn (ih (by omega)) g o cap m w hsq hg hcap hr
theorem cutAt_range (row : List Int) (j k : Nat) :
    (if k ≠ j then ((List.range k).filter (· ≠ j)).map (fun t => row.getD t 0) ++ [row.getD k 0] else ((List.range k).filter (· ≠ j)).map (fun t => row.getD t 0)) = ((List.range (k + 1)).filter (· ≠ j)).map (fun t => row.getD t 0) := by
  rw [List.range_succ, List.filter_append]
  by_cases h : k = j
  · subst h; simp
  · simp [h]
theorem cutAt_all {row : List Int} {n j : Nat} (hl : row.length = n + 1) (hj : j ≤ n) : ((List.range (n + 1)).filter (· ≠ j)).map (fun t => row.getD t 0) = cutAt row j := by
  have e : List.range (n + 1) = List.range j ++ (j :: (List.range (n - j)).map (fun t => j + 1 + t)) := by
    apply List.ext_getElem
    · simp; omega
    · intro i h1 h2
      simp only [List.getElem_range]
      by_cases hi : i < j
      · rw [List.getElem_append_left (by simpa using hi)]; simp
      · rw [List.getElem_append_right (by simp; omega)]
        simp only [List.length_range]
        by_cases hij : i = j
        · subst hij; simp
        · obtain ⟨d, rfl⟩ : ∃ d, i = j + 1 + d := ⟨i - (j + 1), by omega⟩
          have : j + 1 + d - j = d + 1 := by omega
          simp [this]
  rw [e, List.filter_append, List.map_append]
  unfold cutAt
  congr 1
  · rw [List.filter_eq_self.2 (by intro a ha; have := List.mem_range.1 ha; simp; omega)]
    apply List.ext_getElem
    · simp; omega
    · intro i h1 h2
      simp at h1
      simp [List.getD]
      rw [List.getElem?_eq_getElem (by omega)]; rfl
  · rw [List.filter_cons_of_neg (by simp), List.filter_eq_self.2 (by intro a ha; obtain ⟨b, _, rfl⟩ := List.mem_map.1 ha; simp; omega)]
    apply List.ext_getElem
    · simp; omega
    · intro i h1 h2
      simp at h1
      simp [List.getD]
      rw [List.getElem?_eq_getElem (by omega)]; rfl
end Go.Proofs.YtkjglfafphffiaaGreatDoor
