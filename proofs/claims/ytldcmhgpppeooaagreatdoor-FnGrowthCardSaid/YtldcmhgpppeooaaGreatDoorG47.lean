/- The laws' draw of any matrix, spoiled at times: contract. The reference's elements of a finite group of at most 200 elements; groups of at most 48: contracts. The program's elements of a finite group of at most 200 elements; groups of at most 48: contracts. -/
import Derived.Test.YtldcmhgpppeooaaGreatDoorG46
import Derived.Deep.RegionHeld3
import Derived.Test.YtldcmhgpppeooaaGreatDoorG45
import Derived.Test.YtldcmhgpppeooaaGreatDoorG17
import Derived.Test.YtldcmhgpppeooaaGreatDoorG32
import Derived.Test.YtldcmhgpppeooaaGreatDoorG39
namespace Go.Proofs.YtldcmhgpppeooaaGreatDoor
set_option maxRecDepth 100000
open Go.RowKit

theorem MatR.cutRow {w : World} {B g cap m i : Nat} {rs : List RowRef} (P : OwnRows w B g cap rs) (hl : rs.length = m) (hm4 : m ≤ 4) (hr : ∀ j, j < m → ((contents rs).getD j []).length = m) (hi : i < m) (g4 o4 c' : Nat) (Y : List Int)
    (hY : Y.length ≤ 5) (hYc : Y.length ≤ c') (hg4 : B ≤ g4) (hg4l : g4 < w.heap.size) (hne : g4 ≠ g) (hc : Cells w g4 o4 Y) :
    MatR (w.setCell ⟨g, i, none⟩ (Value.slice (some ⟨g4, o4, none⟩) Y.length c')) B g cap ((contents rs).set i Y) := by
  have hz : (w.setCell ⟨g, i, none⟩ (Value.slice (some ⟨g4, o4, none⟩) Y.length c')).heap.size = w.heap.size := by simp [World.setCell]
  have hb : ∀ k, k ≠ g → (w.setCell ⟨g, i, none⟩ (Value.slice (some ⟨g4, o4, none⟩) Y.length c')).heap[k]? = w.heap[k]? := fun k hk => Below.heap_setCell w ⟨g, i, none⟩ _ k hk
  have s1 := P.1.set i (Value.slice (some ⟨g4, o4, none⟩) Y.length c')
  have hcl : (contents rs).length = m := by rw [contents_length]; exact hl
  refine ⟨P.base, by rw [hz]; exact P.lt, by rw [List.length_set, hcl]; have := P.capLe; omega, by rw [List.length_set, hcl]; omega, fun j hj => ?_⟩
  rw [List.length_set, hcl] at hj
  have hjr : j < rs.length := by omega
  have hcell := s1.1.cell j (by rw [List.length_set, List.length_map]; exact hjr)
  by_cases e : i = j
  · subst e
    have e2 : ((contents rs).set i Y).getD i [] = Y := by simp [List.getD, hcl, hi]
    rw [e2]
    refine ⟨g4, o4, c', ?_, hYc, hg4, by rw [hz]; exact hg4l, fun t ht => (World.cell?_of_block (a := ⟨g4, o4 + t, none⟩) (hb g4 hne)).trans (hc t ht), hY⟩
    rw [hcell]
    simp
  · have e2 : ((contents rs).set i Y).getD j [] = (contents rs).getD j [] := by simp only [List.getD]; rw [List.getElem?_set_ne e]
    have ho := P.2.1 rs[j] (List.getElem_mem _)
    have hgj : rs[j].1 ≠ g := fun h => P.1.ne ho.toV (by decide) h.symm
    have e3 : (contents rs).getD j [] = rs[j].2.2 := by simp [contents, List.getD, hjr]
    have hlj := hr j hj
    rw [e2]
    rw [e3] at hlj ⊢
    refine ⟨rs[j].1, 0, rs[j].2.1, ?_, ho.capLe, ho.base, by rw [hz]; exact ho.lt, fun t ht => (World.cell?_of_block (a := ⟨rs[j].1, 0 + t, none⟩) (hb _ hgj)).trans (ho.cells t ht), by omega⟩
    rw [hcell, List.getElem_set_ne e]
    simp [rowVal]
set_option maxHeartbeats 4000000 in
theorem spec_l2Any_any (B p : Nat) (a : Option Addr) (n c : Nat) (w : World) (hn : n ≤ 1048576) (hc : CodeV w B a n) (hp : B ≤ p) (hcur : Cur w p a n c) :
    Calls Tryz.prog 55 #[.pointer (some ⟨p, 0, none⟩)] w (DrewA w B p a n c) := by
  have hps := hcur.lt
  have Hcall := Lib.hid (spec_l2Drawn_any B p a n c w hn hc hp hcur)
  clear hc hcur
  go_enter Tryz.func55, Tryz.ntmps55
  go_wp2_with fail
  refine Hcall.out.mono ?_
  rintro e w1 ⟨g, cap, rs, rfl, hO1, hsq, hcur1, hc1, hOn1⟩
  have Hsq := Lib.hid hsq
  have hs1 := hOn1.size
  have hm4 : rs.length ≤ 4 := by have := hsq.1.2; rwa [contents_length] at this
  have hm1 : 1 ≤ rs.length := by have := hsq.1.1; rwa [contents_length] at this
  have Hon := Lib.hid (spec_l1Once_any B p a n c 12 w1 (by omega) hn hc1 hp hcur1)
  clear hsq hc1 hcur1 Hcall
  go_wp2_with fail
  refine Hon.out.mono ?_
  rintro e w2 ⟨b, rfl, hcur2, hc2, hO2⟩
  have hOn2 : Only p (p + 1) w w2 := Only.trans hOn1 hO2
  have hR2 : OwnRows w2 w.heap.size g cap rs := hO1.only' hO2 hps
  clear hO1 hO2 hOn1 Hon
  cases b with
  | false =>
    have hM := MatR.of_own hR2 (by omega) (sqr_five Hsq.out)
    have HM := Lib.hid hM
    clear hM
    go_wp2_with fail
    go_ret
    exact ⟨g, cap, contents rs, by rw [contents_length]; rfl, HM.out, hcur2, hc2, hOn2⟩
  | true =>
    have Hb := Lib.hid (spec_l1Below_any B p a n c rs.length w2 (by omega) hn hc2 hp hcur2)
    clear hc2 hcur2
    go_wp2_with fail
    refine Hb.out.mono ?_
    rintro e w3 ⟨i0, hi, rfl, hcur3, hc3, hO3⟩
    obtain ⟨i, rfl⟩ : ∃ i : Nat, i0 = i := ⟨i0.toNat, by omega⟩
    have hi : i < rs.length := by omega
    have hOn3 : Only p (p + 1) w w3 := Only.trans hOn2 hO3
    have hR3 : OwnRows w3 w.heap.size g cap rs := hR2.only' hO3 hps
    clear hO3 hR2 hOn2 Hb
    -- the row is cloned
    have hrow := hR3.2.1 rs[i] (List.getElem_mem _)
    have hq : w3.cell? ⟨g, i, none⟩ = some (rowVal rs[i]) := by rw [hR3.1.cell i (by simpa using hi)]; simp
    have hfz := hR3.1.frozen i
    have hlen : rs[i].2.2.length = rs.length := by
      have := Hsq.out.2 i (by rw [contents_length]; exact hi)
      simp [contents, List.getD, hi] at this
      exact this
    obtain ⟨gr, cr, R, hRi⟩ : ∃ gr cr R, rs[i] = (gr, cr, R) := ⟨_, _, _, rfl⟩
    rw [hRi] at hrow hq hlen
    simp only at hrow hlen
    obtain ⟨m, hm⟩ : ∃ m, rs.length = m := ⟨_, rfl⟩
    rw [hm] at hlen
    have hq' : w3.cell? ⟨g, i, none⟩ = some (Value.slice (some ⟨gr, 0, none⟩) m cr) := by rw [hq]; unfold rowVal; simp only [hlen]
    have hE := (Below.refl w3.heap.size w3).alloc (Nat.le_refl _) (.cells #[] 3)
    have q1' := (hE.cell (p := ⟨g, i, none⟩) hR3.lt).trans hq'
    have Hm := Lib.hid hm; have Hlen := Lib.hid hlen; have HRi := Lib.hid hRi
    rw [hm] at hm4 hm1 hi
    rw [hm]
    have hmI : (i : Int) < (m : Int) := by omega
    clear hq hE hm hlen hRi
    go_wp2_with (at_builtin; refine wpList_clone rfl _ _ rfl gr 0 m cr R Hlen.out hrow.lt hrow.cells rfl rfl (by rw [Hlen.out]; omega) ?_)
    intro g4 c4 w4 ho4 hb4
    have hR4 := hR3.below hb4
    have hcur4 := hcur3.below' hb4 hcur3.lt
    have hc4 := hc3.below' hb4 (by have := hcur3.lt; omega)
    have hOn4 : Only p (p + 1) w w4 := hOn3.below' hb4 hOn3.size
    have hne4 : ∀ s ∈ rs, s.1 ≠ g4 := fun s hs e => by have h1 := (hR3.2.1 s hs).lt; have h2 := ho4.base; omega
    have ho4' := ho4.mono hOn3.size
    have x0 := hR4.1.cell i (by simp [Hm.out]; exact hi)
    have y0 := hR4.1.frozen i
    have P := hR4.put2 (i := i) (r := (g4, c4, R)) ho4' hne4
    have hrv : rowVal (g4, c4, R) = (Value.slice (some ⟨g4, 0, none⟩) m c4) := by unfold rowVal; rw [Hlen.out]
    rw [hrv] at P
    have hg4w : w.heap.size ≤ g := hR4.base
    have hgp : p < g := by omega
    have hOn5 : Only p (p + 1) w (w4.setCell ⟨g, i, none⟩ (Value.slice (some ⟨g4, 0, none⟩) m c4)) := Only.grown hOn4 P.2 hg4w
    have hcur5 := hcur4.grown P.2 hgp
    have hc5 := hc4.grown P.2 (by omega)
    obtain ⟨P1, -⟩ := P
    have HL5 : Hid ((rs.set i (g4, c4, R)).length = m) := Lib.hid (by rw [List.length_set]; exact Hm.out)
    have HC5 : Hid (∀ j, j < m → ((contents (rs.set i (g4, c4, R))).getD j []).length = m) := Lib.hid (fun j hj => by
      have e : contents (rs.set i (g4, c4, R)) = contents rs := by
        unfold contents
        rw [List.map_set]
        have hil : i < rs.length := by rw [Hm.out]; exact hi
        have e2 : (rs.map fun r => r.2.2)[i]? = some R := by rw [List.getElem?_map, List.getElem?_eq_getElem hil, HRi.out]; rfl
        apply List.ext_getElem?
        intro t
        by_cases ht : i = t
        · subst ht; rw [List.getElem?_set_self (by simpa using hil), e2]
        · rw [List.getElem?_set_ne ht]
      rw [e]
      have := Hsq.out.2 j (by rw [contents_length, Hm.out]; exact hj)
      rw [this, contents_length, Hm.out])
    obtain ⟨w5, hw5⟩ : ∃ w5, w5 = w4.setCell ⟨g, i, none⟩ (Value.slice (some ⟨g4, 0, none⟩) m c4) := ⟨_, rfl⟩
    rw [← hw5] at P1 hOn5 hcur5 hc5
    have Hw5 := Lib.hid hw5
    generalize hrs5 : rs.set i (g4, c4, R) = rs5 at *
    clear hw5 hR4 hcur4 hc4 hOn4 hR3 hcur3 hc3 hOn3 hb4 ho4 hrow q1' hq' hrv hne4
    have HR5 : Hid (∀ h : i < rs5.length, rs5[i] = (g4, c4, R)) := Lib.hid (fun h => by subst hrs5; simp)
    clear hrs5
    have Ht := Lib.hid (spec_l1Below_any B p a n c 3 w5 (by omega) hn hc5 hp hcur5)
    clear hc5 hcur5
    go_wp2_with fail
    clear x0 y0
    rw [← Hw5.out]
    refine Ht.out.mono ?_
    rintro e w6 ⟨t, ht, rfl, hcur6, hc6, hO6⟩
    have hOn6 : Only p (p + 1) w w6 := Only.trans hOn5 hO6
    have P6 : OwnRows w6 w.heap.size g cap rs5 := P1.only' hO6 hps
    clear hO6 P1 hOn5 Ht Hw5 Hsq HRi
    have hi5 : i < rs5.length := by rw [HL5.out]; exact hi
    have hri := HR5.out hi5
    have hrow := P6.2.1 rs5[i] (List.getElem_mem _)
    have hcell : w6.cell? ⟨g, i, none⟩ = some (Value.slice (some ⟨g4, 0, none⟩) m c4) := by
      rw [P6.1.cell i (by simpa using hi5)]
      simp only [List.getElem_map, hri]
      unfold rowVal
      rw [Hlen.out]
    have hfz6 := P6.1.frozen i
    rw [hri] at hrow
    simp only at hrow
    have hgl := P6.lt
    have hMat : ∀ (w' : World) (rs' : List RowRef), OwnRows w' w.heap.size g cap rs' → (contents rs').length = m → (∀ j, j < m → ((contents rs').getD j []).length = m) → MatR w' w.heap.size g cap (contents rs') := fun w' rs' h hl hr => MatR.of_own h (by rw [contents_length] at hl; omega) (fun j hj => by have := hr j (by rw [← hl]; exact hj); omega)
    have ht3 : t = 0 ∨ t = 1 ∨ t = 2 := by omega
    rcases ht3 with rfl | rfl | rfl
    · -- a number is spoiled
      obtain ⟨gr2, cr2, -, hbr, hlr, hner, hcr, hcl, hset⟩ := P6.setMat rfl i (by rw [contents_length]; exact hi5)
      have e1 : (gr2 : Nat) = g4 ∧ cr2 = c4 := by
        have := hcr.symm.trans hcell
        simp at this
        exact ⟨this.1, this.2.2⟩
      obtain ⟨rfl, rfl⟩ := e1
      have hz := hcl 0 (by rw [HC5.out i hi]; omega)
      generalize ((contents rs5).getD i []).getD 0 0 = z0 at *
      have hg4p : p < gr2 := by omega
      have K : ∀ W : World, w6.heap.size ≤ W.heap.size → (∀ k, k < w6.heap.size → (k < p ∨ p + 1 ≤ k) → W.heap[k]? = w6.heap[k]?) → (W.cell? ⟨g, i, none⟩ = some (Value.slice (some ⟨gr2, 0, none⟩) m cr2) ∧ W.cell? ⟨gr2, 0, none⟩ = some (.int .i64 z0) ∧ W.frozen? ⟨gr2, 0, none⟩ = false) := fun W _ hs =>
        ⟨(World.cell?_of_block (a := ⟨g, i, none⟩) (hs g hgl (.inr (by omega)))).trans hcell, (World.cell?_of_block (a := ⟨gr2, 0, none⟩) (hs gr2 hlr (.inr (by omega)))).trans hz.1, (World.frozen?_of_block (a := ⟨gr2, 0, none⟩) (hs gr2 hlr (.inr (by omega)))).trans hz.2⟩
      have BA : Below w6.heap.size w6 (w6.drew.alloc (.cells #[.int .i64 (-4), .int .i64 1, .int .i64 0, .int .i64 2] 3)) := (Below.drew (Below.refl _ _)).alloc (Nat.le_refl _) _
      have hcurA := hcur6.below' BA hcur6.lt
      have hcA := hc6.below' BA (by have := hcur6.lt; omega)
      have HpI := Lib.hid (spec_l1PickInt_any B p a n c w6.heap.size 4 [-4, 1, 0, 2] _ rfl (by omega) (by omega) hn hcA hp hcurA hcur6.lt (by show w6.heap.size < (w6.heap.push _).size; rw [Array.size_push]; omega) (fun j hj => by
        have : j = 0 ∨ j = 1 ∨ j = 2 ∨ j = 3 := by simp at hj; omega
        rcases this with rfl | rfl | rfl | rfl <;> exact (cell_of_cells (heap_alloc_new w6.drew _) _).trans rfl))
      have k0 := K w6.drew (Nat.le_refl _) (fun _ _ _ => rfl)
      have kA := K _ BA.size (fun k hk _ => BA.block k hk)
      have kB : ∀ W, Only p (p + 1) (w6.drew.alloc (.cells #[.int .i64 (-4), .int .i64 1, .int .i64 0, .int .i64 2] 3)) W → (W.cell? ⟨g, i, none⟩ = some (Value.slice (some ⟨gr2, 0, none⟩) m cr2) ∧ W.cell? ⟨gr2, 0, none⟩ = some (.int .i64 z0) ∧ W.frozen? ⟨gr2, 0, none⟩ = false) := fun W hW =>
        K W (Nat.le_trans BA.size hW.size) (fun k hk hd => (hW.block k (Nat.lt_of_lt_of_le hk BA.size) hd).trans (BA.block k hk))
      have HBA := Lib.hid BA
      have hm0I : (0 : Int) < (m : Int) := by omega
      have hm0N : 0 < m := by omega
      have hm0D : decide (0 < m) = true := decide_eq_true hm0N
      have kS : ∀ (W : World) (v : Value), W.cell? ⟨g, i, none⟩ = some (Value.slice (some ⟨gr2, 0, none⟩) m cr2) → (W.setCell ⟨gr2, 0, none⟩ v).cell? ⟨g, i, none⟩ = some (Value.slice (some ⟨gr2, 0, none⟩) m cr2) := fun W v h => (World.cell?_of_block (a := ⟨g, i, none⟩) (Below.heap_setCell W ⟨gr2, 0, none⟩ v g hner)).trans h
      clear hcurA hcA BA hz K
      go_wp2_with fail
      go_region_held3 (fun W => W.cell? ⟨g, i, none⟩ = some (Value.slice (some ⟨gr2, 0, none⟩) m cr2))
        (first | exact k0.1 | exact kA.1 | exact (kB _ hOA).1 | exact kS _ _ (kB _ hOA).1)
        (first | (go_at_call 112; refine HpI.out.mono ?_; rintro e w7 ⟨x, rfl, hcur7, hc7, hOA⟩; obtain ⟨f1, f2, f3⟩ := kB _ hOA))
      have hb7 : Only p (p + 1) w6 w7 := Only.trans (Only.of_below p (p + 1) HBA.out) hOA
      have P7 : OwnRows w7 w.heap.size g cap rs5 := (P6.below HBA.out).only' hOA hps
      obtain ⟨gr3, cr3, -, hbr3, hlr3, hner3, hcr3, hcl3, hset3⟩ := P7.setMat rfl i (by rw [contents_length]; exact hi5)
      have e3 : gr3 = gr2 := by
        have := hcr3.symm.trans f1
        simp at this
        exact this.1
      subst e3
      obtain ⟨rs8, -, hcon8, hl8, hO8, hg8⟩ := hset3 0 x
      have hcur8 := hcur7.grown hg8 hg4p
      have hc8 := hc7.grown hg8 (by omega)
      have hOn8 : Only p (p + 1) w (w7.setCell ⟨gr3, 0, none⟩ (.int .i64 x)) := Only.grown (Only.trans hOn6 hb7) hg8 hbr
      have hM := hMat _ rs8 hO8 (by rw [hcon8, setM_length, contents_length, HL5.out]) (fun j hj => by
        rw [hcon8]
        unfold setM
        by_cases e : i = j
        · subst e
          have := HC5.out i hi
          simp [List.getD, contents_length, hi5] at this ⊢
          exact this
        · have := HC5.out j hj
          simp only [List.getD] at this ⊢
          rw [List.getElem?_set_ne e]; exact this)
      have HM := Lib.hid hM
      have hlen8 : (contents rs8).length = m := by rw [contents_length, hl8, HL5.out]
      have Hlen8 := Lib.hid hlen8
      clear hM hlen8 hset3 hcl3 f1 f2 f3 k0 kA kB kS hO8 hset hcl P7
      go_wp2_with fail
      go_ret
      exact ⟨g, cap, contents rs8, by rw [Hlen8.out]; rfl, HM.out, hcur8, hc8, hOn8⟩
    · -- a row is cut
      have x0 := hcell
      have b1 : (1 : Int) ≤ (m : Int) := by omega
      have b2 : (m : Int) ≤ (c4 : Int) := by have := hrow.capLe; rw [Hlen.out] at this; omega
      have b3 : (1 : Int) ≤ (c4 : Int) := by omega
      have hne4 : g4 ≠ g := fun h => P6.1.ne hrow.toV (by decide) h.symm
      have hYl : (R.drop 1).length = m - 1 := by rw [List.length_drop, Hlen.out]
      have HYl := Lib.hid hYl
      have hPs : ∀ v, w6.grownBy (w6.setCell ⟨g, i, none⟩ v) (some g) := fun v => (P6.1.set i v).2
      have hcurS := fun v => hcur6.grown (hPs v) hgp
      have hcS := fun v => hc6.grown (hPs v) (by omega)
      have hOnS := fun v => Only.grown hOn6 (hPs v) hg4w
      have hL : Hid (((contents rs5).set i (R.drop 1)).length = m) := Lib.hid (by rw [List.length_set, contents_length, HL5.out])
      have hM1 := Lib.hid (MatR.cutRow P6 HL5.out hm4 HC5.out hi g4 1 (c4 - 1) (R.drop 1) (by omega) (by omega) hrow.base hrow.lt hne4 (hrow.cells.drop 1))
      have hM0 : Hid (c4 = 1 → MatR (w6.setCell ⟨g, i, none⟩ (Value.slice (some ⟨g4, 0, none⟩) (m - 1) 0)) w.heap.size g cap ((contents rs5).set i (R.drop 1))) := Lib.hid (fun h => by
        have e : R.drop 1 = [] := List.drop_eq_nil_of_le (by rw [Hlen.out]; omega)
        have := MatR.cutRow P6 HL5.out hm4 HC5.out hi g4 0 0 [] (by simp) (by simp) hrow.base hrow.lt hne4 (fun t ht => absurd ht (by simp))
        rw [e]
        rw [show m - 1 = ([] : List Int).length by simp; omega]
        exact this)
      rw [HYl.out] at hM1
      clear hPs hYl hMat
      go_wp2_with fail
      all_goals go_ret
      · rename_i h
        exact ⟨g, cap, (contents rs5).set i (R.drop 1), by rw [hL.out]; rfl, hM0.out h, hcurS _, hcS _, hOnS _⟩
      · exact ⟨g, cap, (contents rs5).set i (R.drop 1), by rw [hL.out]; rfl, hM1.out, hcurS _, hcS _, hOnS _⟩
    · -- a row more
      have hcur7 := hcur6.below' ((Below.refl w6.heap.size w6).alloc (Nat.le_refl _) (.cells #[.int .i64 2] 3)) hcur6.lt
      have hR7 : OwnRows (w6.alloc (.cells #[.int .i64 2] 3)) w.heap.size g cap rs5 := P6.below ((Below.refl _ _).alloc (Nat.le_refl _) _)
      have ho7 : Own (w6.alloc (.cells #[.int .i64 2] 3)) w6.heap.size w6.heap.size 1 [2] := Own.new _ (Nat.le_refl _)
      have hOn7 : Only p (p + 1) w (w6.alloc (.cells #[.int .i64 2] 3)) := hOn6.below' ((Below.refl w6.heap.size w6).alloc (Nat.le_refl _) _) hOn6.size
      have hc7 := hc6.below' ((Below.refl w6.heap.size w6).alloc (Nat.le_refl _) (.cells #[.int .i64 2] 3)) (by have := hcur6.lt; omega)
      have hne7 : ∀ s ∈ rs5, s.1 ≠ w6.heap.size := fun s hs e => by have := (P6.2.1 s hs).lt; omega
      have ho7' := ho7.mono hOn6.size
      obtain ⟨w7, hw7⟩ : ∃ w7, w7 = w6.alloc (.cells #[.int .i64 2] 3) := ⟨_, rfl⟩
      rw [← hw7] at hcur7 hR7 ho7' hOn7 hc7
      have Hw7 := Lib.hid hw7
      go_wp2_with (at_builtin; refine wpList_append_row (w := w6.alloc (.cells #[.int .i64 2] 3)) rfl _ _ rfl w.heap.size g cap m (w6.heap.size + 1) rs5 (w6.heap.size, 1, [2]) _ HL5.out rfl (by show (w6.heap.push _).size = _; rw [Array.size_push]) (by rw [← Hw7.out]; exact hR7) (by rw [← Hw7.out]; exact ho7') hne7 rfl rfl (by omega) ?_)
      intro g8 c8 w8 hO8 hg8 hor8
      rw [← Hw7.out] at hg8
      have hcur8 := hcur7.grown hg8 hgp
      have hc8 := hc7.grown hg8 (by omega)
      have hOn8 : Only p (p + 1) w w8 := Only.grown hOn7 hg8 hg4w
      have hl8 : (rs5 ++ [(w6.heap.size, 1, [2])]).length = m + 1 := by rw [List.length_append, HL5.out]; rfl
      have hM := MatR.of_own hO8 (by omega) (fun j hj => by
        rw [contents_length, hl8] at hj
        have e : contents (rs5 ++ [(w6.heap.size, 1, [2])]) = contents rs5 ++ [[2]] := by simp [contents]
        rw [e]
        by_cases hjm : j < m
        · have := HC5.out j hjm
          simp only [List.getD] at this ⊢
          rw [List.getElem?_append_left (by rw [contents_length, HL5.out]; exact hjm)]
          omega
        · obtain rfl : j = m := by omega
          simp [List.getD, contents_length, HL5.out])
      have HM := Lib.hid hM; have Hl8 := Lib.hid hl8
      clear hM hl8 hO8 hg8
      go_wp2_with fail
      go_ret
      exact ⟨g8, c8, _, by rw [contents_length, Hl8.out]; rfl, HM.out, hcur8, hc8, hOn8⟩
end Go.Proofs.YtldcmhgpppeooaaGreatDoor
namespace Go.Proofs.YtldcmhgpppeooaaGreatDoor
set_option maxRecDepth 100000
open Go.RowKit Game

theorem AllSt.rowFacts {c Q : List (List Int)} {k i : Nat} (h : AllSt c Q k i) (hG : Grp c) (hk : k < Q.length) :
    (Q.getD k []).length ≤ 24 ∧ (∀ j, j < (Q.getD k []).length → 0 ≤ (Q.getD k []).getD j 0 ∧ (Q.getD k []).getD j 0 < c.length) ∧
    ∀ t, t < c.length → normG c 30 (actW c (Q.getD k [] ++ [(t : Int)]) (onesL c.length)) = some (nfI c (Q.getD k [] ++ [(t : Int)])) ∧ (nfI c (Q.getD k [] ++ [(t : Int)])).length ≤ 25 := by
  obtain ⟨n, W, hW, hWe⟩ := h.mem (Q.getD k []) (by simp [List.getD, hk])
  have h24 := elt24 hG.hC hG.fin hW
  rw [hWe]
  refine ⟨by rw [intsOf_length, hW.len]; exact h24, fun j hj => ?_, fun t ht => ?_⟩
  · rw [intsOf_length] at hj
    rw [intsOf_getD _ _ hj]
    have := hW.nf.lt (W.getD j 0) (by simp [List.getD, hj])
    omega
  · obtain ⟨X, hX, hXe, -, hXl⟩ := word_push hG.hC hG.fin hW ht
    have e : intsOf W ++ [(t : Int)] = intsOf (W ++ [t]) := by rw [intsOf_append]; rfl
    rw [hXe, intsOf_length, e]
    exact ⟨hX.norm, by omega⟩
theorem AllSt.rowsFew {c Q : List (List Int)} {k i : Nat} (h : AllSt c Q k i) (hG : Grp c) : ∀ j, j < Q.length → (Q.getD j []).length ≤ 1048576 := by
  intro j hj
  obtain ⟨n, W, hW, hWe⟩ := h.mem (Q.getD j []) (by simp [List.getD, hj])
  have h24 := elt24 hG.hC hG.fin hW
  rw [hWe, intsOf_length, hW.len]; omega

set_option maxHeartbeats 8000000 in
theorem spec_l13All_ok (gc oc n cc : Nat) (c : List (List Int)) (w : World) (hn : c.length = n) (hG : Grp c) (hgc : gc < w.heap.size) (hr : Rows2 w gc oc c) :
    Calls Tryz.prog 87 #[(Value.slice (some ⟨gc, oc, none⟩) n cc)] w (GotRows w (elemL c)) := by
  subst hn
  have hC := hG.hC
  have hn4 := hC.2.1
  have HG := Lib.hid hG; clear hG
  go_enter Tryz.func87, Tryz.ntmps87
  go_wp2
  go_loopw [3, 4, 5, 6] (fun ov kv _ _ wr => ∃ (k g' c' m : Nat) (rs : List RowRef), k ≤ m ∧ m ≤ 200 ∧ kv = .int .i64 k ∧ ov = (Value.slice (some ⟨g', 0, none⟩) m c') ∧ Hid (rs.length = m) ∧ Hid (AllSt c (contents rs) k 0) ∧ OwnRows wr w.heap.size g' c' rs ∧ Below w.heap.size w wr) (fun _ kv _ _ _ => 200 - (intOf kv).toNat)
  case atStart =>
    exact ⟨0, w.heap.size + 1, 1, 1, [(w.heap.size, 0, [])], by omega, by omega, rfl, rfl, rfl, AllSt.start hC, start_rows w, (by repeat (first | with_reducible exact Below.refl _ _ | with_reducible assumption | with_reducible refine below_drewN ?_ _ | with_reducible refine Below.drew ?_ | (with_reducible refine Below.alloc ?_ ?_ _; rotate_left; · first | (simp; done) | (simp; omega) | exact Below.size (by assumption) | (have hsz := Below.size (by assumption : Below _ _ _); simp at hsz ⊢; omega)) | (with_reducible refine Below.setCell ?_ ?_ _; rotate_left; · first | (simp; done) | (simp; omega))))⟩
  case round =>
    obtain ⟨k, g', c', m, rs, hkm, hm200, rfl, rfl, hm, hst, hR, hb⟩ := hrel
    by_cases hlt : k < m
    · clear hkm
      go_wp2
      go_loopw [3, 5, 6] (fun ov iv _ wj => ∃ (i g' c' m : Nat) (rs : List RowRef), i ≤ c.length ∧ k < m ∧ m ≤ 200 ∧ iv = .int .i64 i ∧ ov = (Value.slice (some ⟨g', 0, none⟩) m c') ∧ Hid (rs.length = m) ∧ Hid (AllSt c (contents rs) k i) ∧ OwnRows wj w.heap.size g' c' rs ∧ Below w.heap.size w wj) (fun _ iv _ _ => c.length - (intOf iv).toNat)
      case atStart =>
        exact ⟨0, g', c', m, rs, Nat.zero_le _, hlt, hm200, rfl, rfl, hm, hst, hR, hb⟩
      case round =>
        clear hR hb hm hst hlt hm200
        obtain ⟨i, g', c', m, rs, hi, hlt, hm200, rfl, rfl, hm, hst, hR, hbj⟩ := hrel
        by_cases hil : i < c.length
        · have hkr : k < rs.length := by rw [hm.out]; exact hlt
          have hkc : k < (contents rs).length := by rw [contents_length]; exact hkr
          have hcl : (contents rs).getD k [] = rs[k].2.2 := by simp [contents, List.getD, hkr]
          obtain ⟨hWl, hWin, hWn⟩ := hst.out.rowFacts HG.out hkc
          have hWn := hWn i hil
          have Hrows := Lib.hid (hst.out.rowsFew HG.out)
          have hadd := hst.out.add HG.out hkc hil
          have hskip := AllSt.skip hst.out
          unfold reach at hskip
          have hsub := fun (h : AllSt c (putL (contents rs) (nfI c ((contents rs).getD k [] ++ [(i : Int)]))) k (i + 1)) => h.sub HG.out
          rw [hcl] at hWl hWin hWn hadd hskip hsub
          have hRo := hR.2.1 rs[k] (List.getElem_mem _)
          have hqk : wr.cell? ⟨g', k, none⟩ = some (rowVal rs[k]) := by rw [hR.1.cell k (by simpa using hkr)]; simp
          clear hcl
          generalize rs[k] = RR at *
          obtain ⟨gW, cW, W⟩ := RR
          simp only at hRo hWl hWin hWn hadd hskip hsub
          obtain ⟨n1, hn1⟩ : ∃ n1, W.length = n1 := ⟨_, rfl⟩
          have hqk' : wr.cell? ⟨g', k, none⟩ = some (Value.slice (some ⟨gW, 0, none⟩) n1 cW) := by rw [hqk]; unfold rowVal; simp only [hn1]
          have hgR := hR.lt
          rw [hn1] at hWl hadd hskip
          obtain ⟨hnorm, hXl⟩ := hWn
          have hin2 := letters_push hWin hil
          generalize nfI c (W ++ [(i : Int)]) = X at *
          have Hn1 := Lib.hid hn1; have Hnorm := Lib.hid hnorm; have Hin2 := Lib.hid hin2; have Hadd := Lib.hid hadd; have Hskip := Lib.hid hskip; have Hsub := Lib.hid hsub
          clear hqk hn1 hnorm hin2 hadd hskip hsub hWin hkc hkr
          obtain ⟨xl, hxl⟩ : ∃ xl, X.length = xl := ⟨_, rfl⟩
          rw [hxl] at hXl
          have Hxl := Lib.hid hxl; clear hxl
          obtain ⟨wk, hwk⟩ : ∃ wk, wk = wr.alloc (.cells #[.int .i64 (i : Int)] 3) := ⟨_, rfl⟩
          have hbk : Below wr.heap.size wr wk := by rw [hwk]; exact (Below.refl _ _).alloc (Nat.le_refl _) _
          have hok : Own wk wr.heap.size wr.heap.size 1 [(i : Int)] := by rw [hwk]; exact Own.new _ (Nat.le_refl _)
          have hcall := spec_ConcatWords_any gW 0 n1 cW wr.heap.size 0 1 1 W [(i : Int)] wk Hn1.out rfl (by rw [Hn1.out]; omega) (by simp) (Nat.lt_of_lt_of_le hRo.lt hbk.size) hok.lt (hRo.cells.below hbk hRo.lt) hok.cells
          rw [hwk] at hcall
          have Hcall := Lib.hid hcall; clear hcall
          go_wp2_with fail
          refine Hcall.out.mono ?_
          rintro e w2 ⟨g2, c2, rfl, ho2, hb2⟩
          have hl2 : (W ++ [(i : Int)]).length = n1 + 1 := by simp [Hn1.out]
          rw [hl2]
          have Hl2 := Lib.hid hl2
          rw [← hwk] at hb2 ho2
          have hb2' : Below wr.heap.size wr w2 := hbk.trans (hb2.mono hbk.size)
          have hB2 : Below w.heap.size w w2 := hbj.trans (hb2'.mono hbj.size)
          clear hl2 hwk hbk hok hb2 Hcall
          go_wp2_with fail
          refine (spec_l8Normal_any gc oc _ cc g2 0 (n1 + 1) c2 c (W ++ [(i : Int)]) X w2 rfl Hl2.out hC (by rw [Hl2.out]; omega) Hin2.out Hnorm.out (Nat.lt_of_lt_of_le hgc hB2.size) ho2.lt (hr.below hB2 hgc) ho2.cells).mono ?_
          rintro e w3 ⟨g3, c3, rfl, ho3, hb3⟩
          rw [Hxl.out]
          have hb3' : Below wr.heap.size wr w3 := hb2'.trans (hb3.mono hb2'.size)
          have hR3 := hR.below hb3'
          have hbo3 : Below w.heap.size w w3 := hbj.trans (hb3'.mono hbj.size)
          have hox3 : Own w3 w.heap.size g3 c3 X := ho3.mono (by have := hB2.size; omega)
          have q3 : w3.cell? ⟨g', k, none⟩ = some (Value.slice (some ⟨gW, 0, none⟩) n1 cW) := (hb3'.cell (p := ⟨g', k, none⟩) hgR).trans hqk'
          clear hb3 hb2' hB2 ho2 hR hbj hRo ho3 hqk' hb3'
          by_cases hxt : n1 < xl
          · have hxI : (n1 : Int) < (xl : Int) := by omega
            by_cases hmem : X ∈ contents rs
            · have hcall := spec_l7In_any g' 0 m c' g3 0 xl c3 (contents rs) X w3 (by rw [contents_length]; exact hm.out) Hxl.out (by rw [contents_length, hm.out]; omega) Hrows.out hR3.rows2 hox3.cells
              rw [decide_eq_true hmem] at hcall
              have hnx := Hskip.out (fun _ => hmem)
              have Hcall := Lib.hid hcall; have Hnx := Lib.hid hnx
              clear hcall hmem hnx
              go_wp2_with fail
              refine Hcall.out.mono ?_
              rintro e w4 ⟨rfl, hs4⟩
              have hbo4 := below_still hbo3 hs4
              have hR4 := hR3.still hs4
              clear hs4
              go_wp2_with fail
              go_roundw
              case rel => exact ⟨i + 1, g', c', m, rs, by omega, hlt, hm200, by go_num, rfl, hm, Hnx.out, hR4, hbo4⟩
              case measure => simp [intOf]; omega
            · have hcall := spec_l7In_any g' 0 m c' g3 0 xl c3 (contents rs) X w3 (by rw [contents_length]; exact hm.out) Hxl.out (by rw [contents_length, hm.out]; omega) Hrows.out hR3.rows2 hox3.cells
              rw [decide_eq_false hmem] at hcall
              have hnx := Hadd.out (by rw [Hxl.out]; exact hxt)
              have hsb := Hsub.out hnx
              have Hcall := Lib.hid hcall; have Hnx := Lib.hid hnx
              clear hcall hmem hnx
              go_wp2_with fail
              refine Hcall.out.mono ?_
              rintro e w4 ⟨rfl, hs4⟩
              have hbo4 := below_still hbo3 hs4
              have hR4 := hR3.still hs4
              have hox4 := hox3.still hs4
              clear hs4
              go_wp2_with fail
              refine (spec_l11Put_any w.heap.size g' c' m g3 0 xl c3 rs X w4 hm.out Hxl.out (by rw [hm.out]; omega) (by rw [Hxl.out]; omega) hR4 hox4.lt hox4.cells).mono ?_
              rintro e w5 ⟨g5, c5, rs5, rfl, hc5, hR5, hg5, hb5⟩
              obtain ⟨m5, hm5⟩ : ∃ m5, (putL (contents rs) X).length = m5 := ⟨_, rfl⟩
              rw [hm5] at hsb ⊢
              have hge : m ≤ m5 := by
                have h1 := putL_len (contents rs) X
                rw [contents_length, hm.out, hm5] at h1
                exact h1
              have Hm5 := Lib.hid hm5; have Hc5 := Lib.hid hc5
              have hbo5 : Below w.heap.size w w5 := hbo4.trans (hb5.mono hbo4.size)
              clear hm5 hc5 hb5
              go_wp2_with fail
              go_roundw
              case rel =>
                refine ⟨i + 1, g5, c5, m5, rs5, by omega, by omega, hsb, by go_num, rfl, ?_, ?_, hR5, hbo5⟩
                · show _ = _
                  rw [← Hm5.out, ← Hc5.out, contents_length]
                · show AllSt _ _ _ _
                  rw [Hc5.out]; exact Hnx.out
              case measure => simp [intOf]; omega
          · have hxI : ¬ (n1 : Int) < (xl : Int) := by omega
            have hnx := Hskip.out (fun h => absurd h (by rw [Hxl.out]; exact hxt))
            have Hnx := Lib.hid hnx; clear hnx
            go_wp2_with fail
            go_roundw
            case rel => exact ⟨i + 1, g', c', m, rs, by omega, hlt, hm200, by go_num, rfl, hm, Hnx.out, hR3, hbo3⟩
            case measure => simp [intOf]; omega
        · obtain rfl : i = c.length := by omega
          have hnx := hst.out.next
          have Hnx := Lib.hid hnx; clear hnx
          go_wp2
          go_roundw
          case rel => exact ⟨k + 1, g', c', m, rs, by omega, hm200, by go_num, rfl, hm, Hnx.out, hR, hbj⟩
          case measure => simp [intOf]; omega
    · obtain rfl : k = m := by omega
      have hall : contents rs = elemL c := AllSt.all (by rw [contents_length, hm.out]; exact hst.out) HG.out
      have Hall := Lib.hid hall; clear hall
      go_wp2
      go_ret
      exact ⟨g', c', rs, by rw [← Hall.out, contents_length, hm.out]; rfl, Hall.out, hR, hb⟩

end Go.Proofs.YtldcmhgpppeooaaGreatDoor
namespace Go.Proofs.YtldcmhgpppeooaaGreatDoor
set_option maxRecDepth 100000
open Go.RowKit Game

set_option maxHeartbeats 1000000 in
theorem impl_elements_ok (gc oc n cc : Nat) (c : List (List Int)) (w : World) (hn : c.length = n) (hG : Grp c) (hgc : gc < w.heap.size) (hr : Rows2 w gc oc c) (hm : MaxL w) :
    Calls Tryz.prog 76 #[(Value.slice (some ⟨gc, oc, none⟩) n cc)] w (GotRows w (elemL c)) := by
  have hC := hG.hC
  have hx : c.length ≤ 1048576 := by have := hC.2.1; omega
  have hrl : ∀ j, j < c.length → (c.getD j []).length ≤ 1048576 := fun j hj => by rw [hC.2.2.1 j hj]; exact hx
  have hF := impl_IsFinite_any gc oc n cc c w hn hx hrl hgc hr
  rw [hG.fin] at hF
  have hZ := fun W (hW : Below w.heap.size w W) => impl_SizeOf_any gc oc n cc c W hn hx hrl (Nat.lt_of_lt_of_le hgc hW.size) (hr.below hW hgc) (hm.below hW)
  have hB := fun W (hW : Below w.heap.size w W) => impl_ball_any gc oc n cc 60 c W hn hC (fun t _ ht => by
    rcases Nat.lt_or_ge t 29 with h | h
    · omega
    · have h29 : levS c 29 = [] := by
        by_cases e : levS c 29 = []
        · exact e
        · obtain ⟨W, hW⟩ := (lev_ne hC (by omega)).1 e
          have := elt24 hC hG.fin hW
          omega
      have := lev_stop h29 (t - 29)
      rw [show 29 + (t - 29) = t by omega] at this
      exact absurd this ht) (Nat.lt_of_lt_of_le hgc hW.size) (hr.below hW hgc)
  have hs : szO c ≤ 200 := by have := hG.len; have := hG.few; omega
  have hs0 := (szO_bound c).1
  have HF := Lib.hid hF; have HZ := Lib.hid hZ
  have HB : Hid (∀ W, Below w.heap.size w W → Calls Tryz.prog 58 #[(Value.slice (some ⟨gc, oc, none⟩) n cc), .int .i64 60, .int .i64 200] W (GotRowsB W (elemL c) (ballOk c 60))) := Lib.hid hB
  clear hF hZ hB hrl hx hG hn hr hm
  generalize szO c = z at *
  generalize elemL c = L at *
  generalize ballOk c 60 = b at *
  go_enter Tryz.func76, Tryz.ntmps76
  go_wp2_with fail
  refine HF.out.mono ?_
  rintro e w1 ⟨rfl, hb1⟩
  go_wp2_with fail
  refine (HZ.out w1 hb1).mono ?_
  rintro e w2 ⟨rfl, hb2⟩
  have hB2 := hb1.trans (hb2.mono hb1.size)
  go_wp2_with fail
  refine (HB.out w2 hB2).mono ?_
  rintro e w3 ⟨g3, c3, rs3, rfl, hc3, ho3, hb3⟩
  go_wp2_with fail
  go_ret
  exact ⟨g3, c3, rs3, rfl, hc3, ho3.mono hB2.size, hB2.trans (hb3.mono hB2.size)⟩

set_option maxHeartbeats 1000000 in
theorem impl_ElementsOf_ok (gc oc n cc : Nat) (c : List (List Int)) (w : World) (hn : c.length = n) (hG : Grp c) (hgc : gc < w.heap.size) (hr : Rows2 w gc oc c) (hm : MaxL w) :
    Calls Tryz.prog 32 #[(Value.slice (some ⟨gc, oc, none⟩) n cc)] w (GotRowsB w (elemL c) true) := by
  have HA := Lib.hid (impl_elements_ok gc oc n cc c w hn hG hgc hr hm)
  clear hG hn hr hm
  generalize elemL c = L at *
  have hnil : ∀ (W : World) (g3 n c3 : Nat), (binOp .eql 24 (Value.slice (some ⟨g3, 0, none⟩) n c3) (.slice none 0 0)).run Tryz.prog W = .ok (.bool false) W := fun W g3 n c3 => Lib.run_eql_slice_nil W 24 27 _ _ _ _ _ Tryz.underlying24
  go_enter Tryz.func32, Tryz.ntmps32
  go_wp2_with fail
  refine HA.out.mono ?_
  rintro e w1 ⟨g3, c3, rs3, rfl, hc3, ho3, hb3⟩
  go_wp2_with fail
  go_ret2
  exact ⟨g3, c3, rs3, rfl, hc3, ho3, hb3⟩

end Go.Proofs.YtldcmhgpppeooaaGreatDoor
