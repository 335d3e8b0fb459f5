/- One row of polynomials by the reference: contract. Groups of at most 48 elements: the lists of elements. Plain law. The reference's elements of a finite group of at most 200 elements; groups of at most 48: contracts. -/
import Derived.Test.YtdedkfbiookofaaGreatDoorK34
import Derived.Test.YtdedkfbiookofaaGreatDoorK02
import Derived.Deep.RegionHeld3
import Derived.Deep.CutRange
import Derived.Deep.CutBlock
import Derived.Test.YtdedkfbiookofaaGreatDoorK20
import Derived.Test.YtdedkfbiookofaaGreatDoorK19
import Derived.Test.YtdedkfbiookofaaGreatDoorK04
import Derived.Test.YtdedkfbiookofaaGreatDoorK08
namespace Go.Proofs.YtdedkfbiookofaaGreatDoor
set_option maxRecDepth 100000
open Go.RowKit Game
/-- a row of a table is read -/
def RowAt (w : World) (gr N i : Nat) (row : List (List Int)) : Prop := ∃ gi ci, w.cell? ⟨gr, i, none⟩ = some (Value.slice (some ⟨gi, 0, none⟩) N ci) ∧ gi < w.heap.size ∧ Rows2 w gi 0 row
/-- what a row of the reference must be: by steps -/
structure NxtOk (n N m s K : Nat) (L T : List (List Int)) (R : List (List (List Int))) (Z : Nat → Nat → List Int) : Prop where
  start1 : ∀ u, lenA L (tabA T u s) < lenA L u → Z u 0 = addP (pol R K (tabA T u s)) (shS (pol R K u) 1)
  start2 : ∀ u, ¬ lenA L (tabA T u s) < lenA L u → Z u 0 = addP (shS (pol R K (tabA T u s)) 1) (pol R K u)
  yes : ∀ u z, muS (pol R K z) ((lenA L K : Int) - lenA L z) ≠ 0 → shorter L T s z = true → Z u (z + 1) = addP (Z u z) (negP (shS (mul (pol R z u) [muS (pol R K z) ((lenA L K : Int) - lenA L z)]) ((lenA L m - lenA L z) / 2)))
  no1 : ∀ u z, muS (pol R K z) ((lenA L K : Int) - lenA L z) = 0 → Z u (z + 1) = Z u z
  no2 : ∀ u z, shorter L T s z = false → Z u (z + 1) = Z u z
  few : ∀ u z, (Z u z).length ≤ 200
theorem nxtOk {n N m : Nat} {L T : List (List Int)} {R : List (List (List Int))} (H : KlOk n N L T) (hm : m < N) (h0 : m ≠ 0) (hRl : ∀ i u, i < m → (pol R i u).length ≤ 100 + i) :
    NxtOk n N m (headA L m) (tabA T m (headA L m)) L T R (nextZ L T R m) where
  start1 := fun u h => by show nextS0 L T R m u = _; unfold nextS0; rw [if_pos h]
  start2 := fun u h => by show nextS0 L T R m u = _; unfold nextS0; rw [if_neg h]
  yes := fun u z h1 h2 => by rw [nextZ_succ]; unfold zStepS; rw [if_pos ⟨h1, h2⟩]
  no1 := fun u z h1 => by rw [nextZ_succ]; unfold zStepS; rw [if_neg (fun h => h.1 h1)]
  no2 := fun u z h1 => by rw [nextZ_succ]; unfold zStepS; rw [if_neg (fun h => by rw [h1] at h; exact absurd h.2 (by decide))]
  few := fun u z => by have := nextZ_le H hRl hm h0 z (u := u); have := H.few; omega
set_option maxRecDepth 100000 in
set_option maxHeartbeats 4000000 in
theorem spec_l23Next_ok (gl cl gt ct gr cr n N m : Nat) (L T : List (List Int)) (R : List (List (List Int))) (w : World) (H : KlOk n N L T) (hm : m < N) (h0 : m ≠ 0)
    (hgl : gl < w.heap.size) (hgt : gt < w.heap.size) (hgr : gr < w.heap.size) (hL : Rows2 w gl 0 L) (hT : Rows2 w gt 0 T) (hRl : ∀ i u, i < m → (pol R i u).length ≤ 100 + i) (hRn : ∀ i, i < m → (R.getD i []).length = N)
    (hR : ∀ i, i < m → RowAt w gr N i (R.getD i [])) :
    Calls Tryz.prog 103 #[(Value.slice (some ⟨gl, 0, none⟩) N cl), (Value.slice (some ⟨gt, 0, none⟩) N ct), (Value.slice (some ⟨gr, 0, none⟩) m cr), .int .i64 (m : Int)] w (GotRows w (nextTo' L T R m N)) := by
  obtain ⟨hh1, hh2, hh3, hh4⟩ := H.head m hm h0
  have hlet := H.letter m hm h0
  have hX := nxtOk H hm h0 hRl
  have hgoal : nextTo' L T R m N = (List.range N).map fun u => nextZ L T R m u (tabA T m (headA L m)) := rfl
  rw [hgoal]
  clear hgoal
  generalize nextZ L T R m = Z at *
  obtain ⟨g1, o1, c1, a1, -, -, a4⟩ := hL m (by rw [H.len]; exact hm)
  have a5 := a4 0 hh1
  rw [hlet] at a5
  obtain ⟨g2, o2, c2, b1, -, -, b4⟩ := hT m (by rw [H.tlen]; exact hm)
  have b5 := b4 (headA L m) (by rw [H.row m hm]; exact hh2)
  rw [(H.tab m (headA L m) hm hh2).1] at b5
  rw [H.row m hm] at b1
  change w.cell? _ = some (Value.slice (some ⟨_, _, none⟩) (lenA L m) _) at a1
  generalize tabA T m (headA L m) = K at *
  generalize headA L m = s at *
  rw [Nat.zero_add] at a1 b1
  have hN24 := H.few
  have HHH := Lib.hid H; have HL := Lib.hid hL; have HT := Lib.hid hT; have HR := Lib.hid hR; have HRl := Lib.hid hRl; have HRn := Lib.hid hRn; have HX := Lib.hid hX; have Hh4 := Lib.hid hh4
  clear hL hT hR hRl hRn hX a4 b4 hlet H hh4
  have hE : OwnRows (w.alloc (.cells #[] 25)) w.heap.size w.heap.size 0 [] := OwnRows.empty (Nat.le_refl _)
  have hb0 : Below w.heap.size w (w.alloc (.cells #[] 25)) := (Below.refl _ _).alloc (Nat.le_refl _) _
  obtain ⟨w0, hw0⟩ : ∃ w0, w0 = w.alloc (.cells #[] 25) := ⟨_, rfl⟩
  rw [← hw0] at hE hb0
  have a1' := (hb0.cell (p := ⟨gl, m, none⟩) hgl).trans a1
  have a5' : w0.cell? ⟨g1, o1, none⟩ = some (.int .i64 (s : Int)) := (hb0.cell (p := ⟨g1, o1, none⟩) (World.block_lt_of_cell? w _ a5)).trans a5
  have b1' := (hb0.cell (p := ⟨gt, m, none⟩) hgt).trans b1
  have b5' := (hb0.cell (p := ⟨g2, o2 + s, none⟩) (World.block_lt_of_cell? w _ b5)).trans b5
  rw [hw0] at a1' a5' b1' b5'
  clear a1 a5 b1 b5
  go_enter Tryz.func103, Tryz.ntmps103
  go_wp2_with fail
  rw [← hw0]
  clear a1' a5' b1' b5' hw0
  go_loopw [9, 12, 13, 14, 15, 16] (fun ov uv _ _ _ _ wr => ∃ (u g c : Nat) (rs : List RowRef), u ≤ N ∧ uv = .int .i64 (u : Nat) ∧ ov = (Value.slice (some ⟨g, 0, none⟩) u c) ∧ Hid (rs.length = u) ∧ Hid (contents rs = (List.range u).map fun u => Z u K) ∧ OwnRows wr w.heap.size g c rs ∧ Below w.heap.size w wr) (fun _ uv _ _ _ _ _ => N - (intOf uv).toNat)
  case atStart => exact ⟨0, w.heap.size, 0, [], Nat.zero_le _, rfl, rfl, rfl, rfl, hE, hb0⟩
  case round =>
    clear hE hb0
    obtain ⟨u, g, c, rs, hu, rfl, rfl, hrl, hrc, ho, hb⟩ := hrel
    by_cases hlt : u < N
    · obtain ⟨g3, o3, c3, t1, -, t3, t4⟩ := HT.out u (by rw [HHH.out.tlen]; exact hlt)
      have t5 := t4 s (by rw [HHH.out.row u hlt]; exact hh2)
      obtain ⟨hx1, hx2⟩ := HHH.out.tab u s hlt hh2
      rw [hx1] at t5
      rw [HHH.out.row u hlt, Nat.zero_add] at t1
      obtain ⟨g4, o4, c4, l1, -, -, -⟩ := HL.out (tabA T u s) (by rw [HHH.out.len]; exact hx2)
      obtain ⟨g5, o5, c5, l2, -, -, -⟩ := HL.out u (by rw [HHH.out.len]; exact hlt)
      obtain ⟨gK, cK, r1, r2, r3⟩ := HR.out K hh3
      obtain ⟨ga, oa, ca, d1, d2, d3, d4⟩ := r3 (tabA T u s) (by rw [HRn.out K hh3]; exact hx2)
      obtain ⟨ge, oe, ce, e1, e2, e3, e4⟩ := r3 u (by rw [HRn.out K hh3]; exact hlt)
      have y0 := HRl.out K (tabA T u s) hh3
      have y1 := HRl.out K u hh3
      change w.cell? _ = some (Value.slice (some ⟨_, _, none⟩) ((pol R K (tabA T u s)).length) _) at d1
      change w.cell? _ = some (Value.slice (some ⟨_, _, none⟩) ((pol R K u).length) _) at e1
      change (pol R K (tabA T u s)).length ≤ ca at d2
      change (pol R K u).length ≤ ce at e2
      change Cells w ga oa (pol R K (tabA T u s)) at d4
      change Cells w ge oe (pol R K u) at e4
      have hst1 := HX.out.start1 u
      have hst2 := HX.out.start2 u
      change w.cell? _ = some (Value.slice (some ⟨_, _, none⟩) (lenA L (tabA T u s)) _) at l1
      change w.cell? _ = some (Value.slice (some ⟨_, _, none⟩) (lenA L u) _) at l2
      generalize pol R K (tabA T u s) = p1 at *
      generalize pol R K u = p2 at *
      generalize lenA L (tabA T u s) = lx at *
      generalize lenA L u = lu at *
      generalize tabA T u s = x at *
      rw [Nat.zero_add] at l1 l2 d1 e1
      have HS1 := Lib.hid hst1; have HS2 := Lib.hid hst2
      have hgw := Nat.lt_of_lt_of_le hgl hb.size
      obtain ⟨sb, hsb⟩ : ∃ sb, decide (lx < lu) = sb := ⟨_, rfl⟩
      have m1 := (hb.cell (p := ⟨gt, u, none⟩) hgt).trans t1
      have m2 := (hb.cell (p := ⟨g3, o3 + s, none⟩) t3).trans t5
      have hCl : ∀ W, Below w.heap.size w W → W.cell? ⟨gr, K, none⟩ = some (Value.slice (some ⟨gK, 0, none⟩) N cK) ∧ W.cell? ⟨gK, x, none⟩ = some (Value.slice (some ⟨ga, oa, none⟩) p1.length ca) ∧ W.cell? ⟨gK, u, none⟩ = some (Value.slice (some ⟨ge, oe, none⟩) p2.length ce) := fun W hb =>
        ⟨(hb.cell (p := ⟨gr, K, none⟩) hgr).trans r1, (hb.cell (p := ⟨gK, x, none⟩) r2).trans d1, (hb.cell (p := ⟨gK, u, none⟩) r2).trans e1⟩
      have HCl := Lib.hid hCl
      have hbA : Below w.heap.size w (wr.alloc (.cells #[] 3)) := hb.alloc hb.size _
      have m3 := (hbA.cell (p := ⟨gl, x, none⟩) hgl).trans l1
      have m4 := (hbA.cell (p := ⟨gl, u, none⟩) hgl).trans l2
      have hbB : Below wr.heap.size wr (wr.alloc (.cells #[] 3)) := (Below.refl _ _).alloc (Nat.le_refl _) _
      clear hCl t1 t5 l1 l2 r1 r3 d1 e1 t4 hst1 hst2 hx1
      go_wp2_with fail
      go_quiet (fail)
      have hbC : Below wr.heap.size wr ((wr.alloc (.cells #[] 3)).drewN nq) := below_drewN hbB nq
      have hbD : Below w.heap.size w ((wr.alloc (.cells #[] 3)).drewN nq) := below_drewN hbA nq
      generalize (wr.alloc (.cells #[] 3)).drewN nq = wA at *
      clear m1 m2 m3 m4 hbA hbB
      go_upto_if 55 with fail
      go_cut [14] from 56 to 87 (fun pv wx => ∃ g c, pv = (Value.slice (some ⟨g, 0, none⟩) ((Z u 0).length) c) ∧ Own wx wr.heap.size g c (Z u 0) ∧ Below wr.heap.size wr wx)
      case first =>
        cases sb with
        | true =>
          have HZ := Lib.hid (HS1.out (of_decide_eq_true hsb))
          have K1 := Lib.hid (fun (W : World) (hb : Below w.heap.size w W) => show Calls Tryz.prog 66 #[(Value.slice (some ⟨ge, oe, none⟩) p2.length ce), .int .i64 1] W (GotInts W (shS p2 1)) from spec_ShiftPoly_any ge oe p2.length ce 1 p2 W rfl (by omega) e2 (by omega) (Nat.lt_of_lt_of_le e3 hb.size) (e4.below hb e3))
          have K2 := Lib.hid (fun (W : World) (gA cA : Nat) (hb : Below w.heap.size w W) (hA : Own W wr.heap.size gA cA (shS p2 1)) => show Calls Tryz.prog 16 #[(Value.slice (some ⟨ga, oa, none⟩) p1.length ca), (Value.slice (some ⟨gA, 0, none⟩) ((shS p2 1).length) cA)] W (GotInts W (addP p1 (shS p2 1))) from spec_AddPoly_any ga oa p1.length ca gA 0 (shS p2 1).length cA p1 (shS p2 1) W rfl rfl (by omega) (by have := shS_le p2 1; omega) (Nat.lt_of_lt_of_le d3 hb.size) hA.lt (d4.below hb d3) hA.cells)
          generalize (shS p2 1) = A at *
          generalize addP p1 A = R0 at *
          clear HS1 HS2 hsb
          go_wp2_with fail
          have hd0 : Below wr.heap.size wr wA.drew := Below.drew hbC
          have hd1 : Below w.heap.size w wA.drew := Below.drew hbD
          go_region_held3 (fun W => W.cell? ⟨gr, K, none⟩ = some (Value.slice (some ⟨gK, 0, none⟩) N cK) ∧ W.cell? ⟨gK, x, none⟩ = some (Value.slice (some ⟨ga, oa, none⟩) p1.length ca) ∧ W.cell? ⟨gK, u, none⟩ = some (Value.slice (some ⟨ge, oe, none⟩) p2.length ce))
            (first | with_reducible exact HCl.out _ hd1 | with_reducible exact HCl.out _ hXA | with_reducible exact HCl.out _ hXB)
            (first
              | (go_at_call 66; (with_reducible refine (K1.out _ hd1).mono ?_); rintro e wB ⟨gA, cA, rfl, hoA, hbA⟩; have hXA := hd1.trans (hbA.mono hd1.size); have hYA := hd0.trans (hbA.mono hd0.size))
              | (go_at_call 16; (with_reducible refine (K2.out _ gA cA hXA (hoA.mono hd0.size)).mono ?_); rintro e wC ⟨gB, cB, rfl, hoB, hbB⟩; have hXB := hXA.trans (hbB.mono hXA.size); have hYB := hYA.trans (hbB.mono hYA.size)))
          rw [← HZ.out] at hoB
          go_wp2_with fail
          go_meet
          exact ⟨gB, cB, by rw [HZ.out], hoB.mono hYA.size, hYB⟩
        | false =>
          have HZ := Lib.hid (HS2.out (of_decide_eq_false hsb))
          have K1 := Lib.hid (fun (W : World) (hb : Below w.heap.size w W) => show Calls Tryz.prog 66 #[(Value.slice (some ⟨ga, oa, none⟩) p1.length ca), .int .i64 1] W (GotInts W (shS p1 1)) from spec_ShiftPoly_any ga oa p1.length ca 1 p1 W rfl (by omega) d2 (by omega) (Nat.lt_of_lt_of_le d3 hb.size) (d4.below hb d3))
          have K2 := Lib.hid (fun (W : World) (gA cA : Nat) (hb : Below w.heap.size w W) (hA : Own W wr.heap.size gA cA (shS p1 1)) => show Calls Tryz.prog 16 #[(Value.slice (some ⟨gA, 0, none⟩) ((shS p1 1).length) cA), (Value.slice (some ⟨ge, oe, none⟩) p2.length ce)] W (GotInts W (addP (shS p1 1) p2)) from spec_AddPoly_any gA 0 (shS p1 1).length cA ge oe p2.length ce (shS p1 1) p2 W rfl rfl (by have := shS_le p1 1; omega) (by omega) hA.lt (Nat.lt_of_lt_of_le e3 hb.size) hA.cells (e4.below hb e3))
          generalize (shS p1 1) = A at *
          generalize addP A p2 = R0 at *
          clear HS1 HS2 hsb
          go_wp2_with fail
          have hd0 : Below wr.heap.size wr wA.drew := Below.drew hbC
          have hd1 : Below w.heap.size w wA.drew := Below.drew hbD
          go_region_held3 (fun W => W.cell? ⟨gr, K, none⟩ = some (Value.slice (some ⟨gK, 0, none⟩) N cK) ∧ W.cell? ⟨gK, x, none⟩ = some (Value.slice (some ⟨ga, oa, none⟩) p1.length ca) ∧ W.cell? ⟨gK, u, none⟩ = some (Value.slice (some ⟨ge, oe, none⟩) p2.length ce))
            (first | with_reducible exact HCl.out _ hd1 | with_reducible exact HCl.out _ hXA | with_reducible exact HCl.out _ hXB)
            (first
              | (go_at_call 66; (with_reducible refine (K1.out _ hd1).mono ?_); rintro e wB ⟨gA, cA, rfl, hoA, hbA⟩; have hXA := hd1.trans (hbA.mono hd1.size); have hYA := hd0.trans (hbA.mono hd0.size))
              | (go_at_call 16; (with_reducible refine (K2.out _ gA cA hXA (hoA.mono hd0.size)).mono ?_); rintro e wC ⟨gB, cB, rfl, hoB, hbB⟩; have hXB := hXA.trans (hbB.mono hXA.size); have hYB := hYA.trans (hbB.mono hYA.size)))
          rw [← HZ.out] at hoB
          go_wp2_with fail
          go_meet
          exact ⟨gB, cB, by rw [HZ.out], hoB.mono hYA.size, hYB⟩
      case rest =>
        obtain ⟨g0, c0, rfl, ho0, hb0⟩ := hcut
        clear HS1 HS2 HCl hsb hbC hbD d2 d3 d4 e2 e3 e4 y0 y1
        go_wp2_with fail
        generalize wr = wo at *
        go_loopw [14, 15, 16] (fun pv zv _ wr => ∃ z g c, z ≤ K ∧ zv = .int .i64 (z : Nat) ∧ pv = (Value.slice (some ⟨g, 0, none⟩) ((Z u z).length) c) ∧ Own wr wo.heap.size g c (Z u z) ∧ Below wo.heap.size wo wr) (fun _ zv _ _ => K - (intOf zv).toNat)
        case atStart => exact ⟨0, g0, c0, Nat.zero_le _, rfl, rfl, ho0, hb0⟩
        case round =>
          clear ho0 hb0
          obtain ⟨z, gp, cp, hz, rfl, rfl, hoP, hbP⟩ := hrel
          by_cases hzK : z < K
          · have hzN : z < N := by omega
            have hzm : z < m := by omega
            have hB := hb.trans (hbP.mono hb.size)
            obtain ⟨g3', o3', c3', t1', -, t3', t4'⟩ := HT.out z (by rw [HHH.out.tlen]; exact hzN)
            have t5' := t4' s (by rw [HHH.out.row z hzN]; exact hh2)
            obtain ⟨hy1, hy2⟩ := HHH.out.tab z s hzN hh2
            rw [hy1] at t5'
            rw [HHH.out.row z hzN, Nat.zero_add] at t1'
            obtain ⟨g4', o4', c4', ly1, -, -, -⟩ := HL.out (tabA T z s) (by rw [HHH.out.len]; exact hy2)
            obtain ⟨g5', o5', c5', lz1, -, -, -⟩ := HL.out z (by rw [HHH.out.len]; exact hzN)
            obtain ⟨g6', o6', c6', lK1, -, -, -⟩ := HL.out K (by rw [HHH.out.len]; omega)
            obtain ⟨g7', o7', c7', lm1, -, -, -⟩ := HL.out m (by rw [HHH.out.len]; exact hm)
            obtain ⟨gK, cK, r1, r2, r3⟩ := HR.out K hh3
            obtain ⟨ga, oa, ca, d1, -, d3, d4⟩ := r3 z (by rw [HRn.out K hh3]; exact hzN)
            obtain ⟨gZ, cZ, s1, s2, s3⟩ := HR.out z hzm
            obtain ⟨gq, oq, cq, e1, -, e3, e4⟩ := s3 u (by rw [HRn.out z hzm]; exact hlt)
            have y0 := HRl.out K z hh3
            have y1 := HRl.out z u hzm
            have hKs := HHH.out.short K
            have hzs := HHH.out.short z
            have hms := HHH.out.short m
            have hzm2 := Hh4.out z hzm
            have hyes := HX.out.yes u z
            have hno1 := HX.out.no1 u z
            have hno2 := HX.out.no2 u z
            have hfz := HX.out.few u z
            have hmu := fun (W : World) (hs : Below w.heap.size w W) => spec_l23Mu_any ga oa _ ca ((lenA L K : Int) - lenA L z) (pol R K z) W rfl (by omega) (by omega) (d4.below hs d3)
            change w.cell? _ = some (Value.slice (some ⟨_, _, none⟩) (lenA L (tabA T z s)) _) at ly1
            change w.cell? _ = some (Value.slice (some ⟨_, _, none⟩) (lenA L z) _) at lz1
            change w.cell? _ = some (Value.slice (some ⟨_, _, none⟩) (lenA L K) _) at lK1
            change w.cell? _ = some (Value.slice (some ⟨_, _, none⟩) (lenA L m) _) at lm1
            change w.cell? _ = some (Value.slice (some ⟨_, _, none⟩) ((pol R K z).length) _) at d1
            change w.cell? _ = some (Value.slice (some ⟨_, _, none⟩) ((pol R z u).length) _) at e1
            change Cells w gq oq (pol R z u) at e4
            have hshd : shorter L T s z = decide (lenA L (tabA T z s) < lenA L z) := rfl
            rw [hshd] at hyes hno2
            clear hshd hy1
            generalize muS (pol R K z) ((lenA L K : Int) - lenA L z) = mz at *
            generalize pol R K z = p1 at *
            generalize pol R z u = p2 at *
            generalize lenA L (tabA T z s) = ly at *
            generalize lenA L z = lz at *
            generalize lenA L K = lK at *
            generalize lenA L m = lm at *
            generalize tabA T z s = y at *
            rw [Nat.zero_add] at ly1 lz1 lK1 lm1 d1 e1
            obtain ⟨sb, hsb⟩ : ∃ sb, decide (ly < lz) = sb := ⟨_, rfl⟩
            rw [hsb] at hyes hno2
            have Hmu := Lib.hid (fun (W : World) (h : ∃ q, W = wr.drewN q) => hmu W (below_still hB h))
            have ewl : IntKind.i64.wrap ((lK : Int) - (lz : Int)) = (lK : Int) - (lz : Int) := IntWalk.i64_in _ (by omega)
            have m1 := (hB.cell (p := ⟨gr, K, none⟩) hgr).trans r1
            have m2 := (hB.cell (p := ⟨gK, z, none⟩) r2).trans d1
            have m3 := (hB.cell (p := ⟨gl, K, none⟩) hgl).trans lK1
            have m4 := (hB.cell (p := ⟨gl, z, none⟩) hgl).trans lz1
            have m5 := (hB.cell (p := ⟨gt, z, none⟩) hgt).trans t1'
            have m6 := (hB.cell (p := ⟨g3', o3' + s, none⟩) t3').trans t5'
            have m7 := (hB.cell (p := ⟨gl, y, none⟩) hgl).trans ly1
            have hKN : K < N := by omega
            clear t1' t5' ly1 lK1 t4' r3 s3 hmu d4 r1 d1
            by_cases hm0 : mz = 0
            · have hn := Lib.hid (hno1 hm0)
              have e0 : (mz == 0) = true := by rw [beq_iff_eq]; exact hm0
              have e0' : (mz != 0) = false := by rw [bne, e0]; rfl
              clear hyes hno1 hno2 hm0
              go_wp2_with fail
              go_quiet ((go_at_call 59; first | with_reducible exact Calls.quiet_of (Hmu.out _ ⟨_, rfl⟩) | with_reducible exact Reads.quiet4 (Hmu.out _ ⟨_, rfl⟩)))
              generalize nq = nq1 at *
              go_wp2_with fail
              go_quiet (fail)
              go_wp2_with fail
              have hbQ := below_drewN hbP (nq1 + nq)
              have hoQ : Own (wr.drewN (nq1 + nq)) wo.heap.size gp cp (Z u z) := hoP
              go_roundw
              case rel => exact ⟨z + 1, gp, cp, by omega, by go_num, by rw [hn.out], by rw [hn.out]; exact hoQ, hbQ⟩
              case measure => simp [intOf]; omega
            · have e0 : (mz == 0) = false := by rw [beq_eq_false_iff_ne]; exact hm0
              have e0' : (mz != 0) = true := by rw [bne, e0]; rfl
              have hyes := hyes hm0
              cases sb with
              | false =>
                have hn := Lib.hid (hno2 rfl)
                clear hyes hno1 hno2
                go_wp2_with fail
                go_quiet ((go_at_call 59; first | with_reducible exact Calls.quiet_of (Hmu.out _ ⟨_, rfl⟩) | with_reducible exact Reads.quiet4 (Hmu.out _ ⟨_, rfl⟩)))
                generalize nq = nq1 at *
                go_wp2_with fail
                go_quiet (fail)
                go_wp2_with fail
                have hbQ := below_drewN hbP (nq1 + nq)
                have hoQ : Own (wr.drewN (nq1 + nq)) wo.heap.size gp cp (Z u z) := hoP
                go_roundw
                case rel => exact ⟨z + 1, gp, cp, by omega, by go_num, by rw [hn.out], by rw [hn.out]; exact hoQ, hbQ⟩
                case measure => simp [intOf]; omega
              | true =>
                have hn0 := hyes rfl
                clear hyes hno1 hno2
                obtain ⟨D, hD⟩ : ∃ D, lm = lz + D := ⟨lm - lz, by omega⟩
                subst hD
                have eD0 : lz + D - lz = D := by omega
                rw [eD0] at hn0
                obtain ⟨h, hh⟩ : ∃ h, D / 2 = h := ⟨_, rfl⟩
                rw [hh] at hn0
                have hh24 : h ≤ 24 := by omega
                have eh : (D : Int) / 2 = (h : Int) := by omega
                have eh2 : (D : Int).tdiv 2 = (h : Int) := by rw [← eh]; exact Int.tdiv_eq_ediv_of_nonneg (by omega)
                have eD2 : (lz : Int) + (D : Int) - (lz : Int) = (D : Int) := by omega
                have ewD : IntKind.i64.wrap (D : Int) = (D : Int) := IntWalk.i64_in _ (by omega)
                have ewh : IntKind.i64.wrap (h : Int) = (h : Int) := IntWalk.i64_in _ (by omega)
                have Hn := Lib.hid hn0
                have K1 := Lib.hid (fun (W : World) (gM : Nat) (hb : Below w.heap.size w W) (hM : Own W wo.heap.size gM 1 [mz]) => show Calls Tryz.prog 17 #[(Value.slice (some ⟨gq, oq, none⟩) p2.length cq), (Value.slice (some ⟨gM, 0, none⟩) 1 1)] W (GotInts W (mul p2 [mz])) from spec_MulPoly_any gq oq p2.length cq gM 0 1 1 p2 [mz] W rfl rfl (by omega) (by simp) (Nat.lt_of_lt_of_le e3 hb.size) hM.lt (e4.below hb e3) hM.cells)
                have hml := mul_length_le p2 [mz]
                generalize mul p2 [mz] = A at *
                have K2 := Lib.hid (fun (W : World) (gA cA : Nat) (hA : Own W wo.heap.size gA cA A) => show Calls Tryz.prog 66 #[(Value.slice (some ⟨gA, 0, none⟩) A.length cA), .int .i64 (h : Int)] W (GotInts W (shS A h)) from spec_ShiftPoly_any gA 0 A.length cA h A W rfl (by omega) hA.capLe (by omega) hA.lt hA.cells)
                have hsl := shS_le A h
                generalize shS A h = M at *
                have K3 := Lib.hid (fun (W : World) (gM cM : Nat) (h1 : Own W wo.heap.size gp cp (Z u z)) (hM : Own W wo.heap.size gM cM M) => show Calls Tryz.prog 104 #[(Value.slice (some ⟨gp, 0, none⟩) ((Z u z).length) cp), (Value.slice (some ⟨gM, 0, none⟩) M.length cM)] W (GotInts W (addP (Z u z) (negP M))) from spec_SubPoly_any gp 0 (Z u z).length cp gM 0 M.length cM (Z u z) M W rfl rfl (by omega) (by omega) h1.lt hM.lt h1.cells hM.cells)
                obtain ⟨R2, hR2⟩ : ∃ R, addP (Z u z) (negP M) = R := ⟨_, rfl⟩
                rw [hR2] at Hn K3
                have hCl : ∀ W, Below w.heap.size w W → W.cell? ⟨gr, z, none⟩ = some (Value.slice (some ⟨gZ, 0, none⟩) N cZ) ∧ W.cell? ⟨gZ, u, none⟩ = some (Value.slice (some ⟨gq, oq, none⟩) p2.length cq) ∧ W.cell? ⟨gl, m, none⟩ = some (Value.slice (some ⟨g7', o7', none⟩) (lz + D) c7') ∧ W.cell? ⟨gl, z, none⟩ = some (Value.slice (some ⟨g5', o5', none⟩) lz c5') := fun W hb =>
                  ⟨(hb.cell (p := ⟨gr, z, none⟩) hgr).trans s1, (hb.cell (p := ⟨gZ, u, none⟩) s2).trans e1, (hb.cell (p := ⟨gl, m, none⟩) hgl).trans lm1, (hb.cell (p := ⟨gl, z, none⟩) hgl).trans lz1⟩
                have HCl := Lib.hid hCl
                clear hh hn0 hCl s1 e1 lm1 lz1 hR2 eD0
                go_wp2_with fail
                go_quiet ((go_at_call 59; first | with_reducible exact Calls.quiet_of (Hmu.out _ ⟨_, rfl⟩) | with_reducible exact Reads.quiet4 (Hmu.out _ ⟨_, rfl⟩)))
                generalize nq = nq1 at *
                go_wp2_with fail
                go_quiet (fail)
                have hbQ := below_drewN (below_drewN hB nq1) nq
                have hbY := below_drewN (below_drewN hbP nq1) nq
                have hoQ : Own ((wr.drewN nq1).drewN nq) wo.heap.size gp cp (Z u z) := hoP
                clear m1 m2 m3 m4 m5 m6 m7 hB hbP hoP
                generalize (wr.drewN nq1).drewN nq = w5 at *
                go_wp2_with fail
                have hd1 : Below w.heap.size w w5.drew := Below.drew hbQ
                have hd0 : Below wo.heap.size wo w5.drew := Below.drew hbY
                have hdM : Below w.heap.size w (w5.alloc (.cells #[.int .i64 mz] 3)).drew := Below.drew (hbQ.alloc hbQ.size _)
                have hdM0 : Below wo.heap.size wo (w5.alloc (.cells #[.int .i64 mz] 3)).drew := Below.drew (hbY.alloc hbY.size _)
                have hoM : Own (w5.alloc (.cells #[.int .i64 mz] 3)).drew wo.heap.size w5.heap.size 1 [mz] := Own.drew (Own.new mz hbY.size)
                have hoD : Own (w5.alloc (.cells #[.int .i64 mz] 3)).drew wo.heap.size gp cp (Z u z) := Own.drew (hoQ.alloc _)
                go_region_held3 (fun W => W.cell? ⟨gr, z, none⟩ = some (Value.slice (some ⟨gZ, 0, none⟩) N cZ) ∧ W.cell? ⟨gZ, u, none⟩ = some (Value.slice (some ⟨gq, oq, none⟩) p2.length cq) ∧ W.cell? ⟨gl, m, none⟩ = some (Value.slice (some ⟨g7', o7', none⟩) (lz + D) c7') ∧ W.cell? ⟨gl, z, none⟩ = some (Value.slice (some ⟨g5', o5', none⟩) lz c5'))
                  (first | with_reducible exact HCl.out _ hd1 | with_reducible exact HCl.out _ hdM | with_reducible exact HCl.out _ hXA | with_reducible exact HCl.out _ hXB | with_reducible exact HCl.out _ hXC)
                  (first
                    | (go_at_call 17; (with_reducible refine (K1.out _ _ hdM hoM).mono ?_); rintro e wA ⟨gA, cA, rfl, hoA, hbA⟩; have hXA := hdM.trans (hbA.mono hdM.size); have hYA := hdM0.trans (hbA.mono hdM0.size); have hoA1 := hoA.mono hdM0.size; have hoPA := hoD.below hbA hoD.lt)
                    | (go_at_call 66; (with_reducible refine (K2.out _ gA cA hoA1).mono ?_); rintro e wB ⟨gB, cB, rfl, hoB, hbB⟩; have hXB := hXA.trans (hbB.mono hXA.size); have hYB := hYA.trans (hbB.mono hYA.size); have hoB1 := hoB.mono hYA.size; have hoPB := hoPA.below hbB hoPA.lt)
                    | (go_at_call 104; (with_reducible refine (K3.out _ gB cB hoPB hoB1).mono ?_); rintro e wC ⟨gC, cC, rfl, hoC, hbC⟩; have hXC := hXB.trans (hbC.mono hXB.size); have hYC := hYB.trans (hbC.mono hYB.size); have hoC1 := hoC.mono hYB.size))
                go_wp2_with fail
                go_roundw
                case rel => exact ⟨z + 1, gC, cC, by omega, by go_num, by rw [Hn.out], by rw [Hn.out]; exact hoC1, hYC⟩
                case measure => simp [intOf]; omega
          · obtain rfl : z = K := by omega
            have hB := hb.trans (hbP.mono hb.size)
            have ho1 := ho.below hbP
            have hoP1 := hoP.mono hb.size
            have hne : ∀ s ∈ rs, s.1 ≠ gp := fun s hs e => by have := (ho.2.1 s hs).lt; have := hoP.base; omega
            have hl4 : Hid ((rs ++ [(gp, cp, Z u z)]).length = u + 1) := Lib.hid (by rw [List.length_append, hrl.out]; rfl)
            have hcn4 : Hid (contents (rs ++ [(gp, cp, Z u z)]) = (List.range (u + 1)).map fun u => Z u z) := Lib.hid (by rw [contents_append, hrc.out, List.range_succ, List.map_append]; rfl)
            go_wp2_with (at_builtin; refine wpList_append_row (w := wr) rfl _ _ rfl w.heap.size g c u wr.heap.size rs (gp, cp, Z u z) _ hrl.out rfl rfl ho1 hoP1 hne rfl rfl (by omega) ?_)
            intro g6 c6 w6 ho6 hg6 hor6
            have hB2 := hB.grown hg6 hB.size (by intro t ht; cases ht; exact ho1.base)
            clear ho1 hoP1 hB hg6 hne hor6 ho hoP hb hbP
            go_wp2_with fail
            go_roundw
            case rel => exact ⟨u + 1, g6, c6, _, by omega, by go_num, rfl, hl4.out, hcn4.out, ho6, hB2⟩
            case measure => simp [intOf]; omega
    · obtain rfl : u = N := by omega
      go_wp2_with fail
      go_ret
      exact ⟨g, c, rs, by simp, hrc.out, ho, hb⟩
end Go.Proofs.YtdedkfbiookofaaGreatDoor
namespace Go.Proofs.YtdedkfbiookofaaGreatDoor
set_option maxRecDepth 100000
open Go.RowKit Game
theorem size_fin {c : List (List Int)} (hf : finB c = true) : szB c = true := (Bool.and_eq_true_iff.1 (szK_fin (fin_isC hf) hf)).2
/-- a finite group of at most 48 elements -/
def fewB (c : List (List Int)) : Bool := finB c && decide (szO c ≤ 48)
theorem fewB_fin {c : List (List Int)} (h : fewB c = true) : finB c = true := (Bool.and_eq_true_iff.1 h).1
theorem fewB_48 {c : List (List Int)} (h : fewB c = true) : szO c ≤ 48 := of_decide_eq_true (Bool.and_eq_true_iff.1 h).2
theorem size_pos {c : List (List Int)} (hf : finB c = true) : 1 ≤ szO c := by
  have h := size_fin hf
  have hs : szO c = prodT (nameL c) := if_pos hf
  unfold szB szC at h
  rw [hs]
  exact of_decide_eq_true (Bool.and_eq_true_iff.1 h).1
theorem grp_few {c : List (List Int)} (h : fewB c = true) : Grp c := grp_of (fewB_fin h) (size_fin (fewB_fin h)) (by have := fewB_48 h; omega)
theorem elem_at {c : List (List Int)} (h : fewB c = true) {k : Nat} (hk : k < (elemL c).length) :
    ∃ n W, Elt c n W ∧ (elemL c).getD k [] = intsOf W ∧ n ≤ 9 ∧ W.length = n := by
  have hG := grp_few h
  obtain ⟨n, W, hW, e⟩ := (hG.mem ((elemL c).getD k [])).1 (by simp [List.getD, hk])
  exact ⟨n, W, hW, e, hG.short (fewB_48 h) n W hW, hW.len⟩
theorem elt_word {c : List (List Int)} {n : Nat} {W : List Nat} (hC : IsC c) (hW : Elt c n W) (hn : n ≤ 9) : isWordB c (intsOf W) = true := by
  have hl := hW.len
  unfold isWordB
  rw [decide_eq_true hC, decide_eq_true (by rw [intsOf_length]; omega), Bool.true_and, Bool.true_and]
  unfold lettersB
  rw [List.all_eq_true]
  intro x hx
  obtain ⟨i, hi, rfl⟩ := List.mem_map.1 hx
  have := hW.nf.lt i hi
  simp; omega
end Go.Proofs.YtdedkfbiookofaaGreatDoor
namespace Go.Proofs.YtdedkfbiookofaaGreatDoor
set_option maxRecDepth 100000
open Go.RowKit Game
theorem AllSt.rowFacts {c Q : List (List Int)} {k i : Nat} (h : AllSt c Q k i) (hG : Grp c) (hk : k < Q.length) :
    (Q.getD k []).length ≤ 24 ∧ (∀ j, j < (Q.getD k []).length → 0 ≤ (Q.getD k []).getD j 0 ∧ (Q.getD k []).getD j 0 < c.length) ∧
    ∀ t, t < c.length → normG c 30 (actW c (Q.getD k [] ++ [(t : Int)]) (onesL c.length)) = some (nfI c (Q.getD k [] ++ [(t : Int)])) ∧ (nfI c (Q.getD k [] ++ [(t : Int)])).length ≤ 25 := by
  obtain ⟨n, W, hW, hWe⟩ := h.mem (Q.getD k []) (by simp [List.getD, hk])
  have h24 := elt24 hG.hC hG.fin hW
  rw [hWe]
  refine ⟨by rw [intsOf_length, hW.len]; exact h24, fun j hj => ?_, fun t ht => ?_⟩
  · rw [intsOf_length] at hj
    rw [intsOf_getD _ _ hj]
    have := hW.nf.lt (W.getD j 0) (by simp [List.getD, hj])
    omega
  · obtain ⟨X, hX, hXe, -, hXl⟩ := word_push hG.hC hG.fin hW ht
    have e : intsOf W ++ [(t : Int)] = intsOf (W ++ [t]) := by rw [intsOf_append]; rfl
    rw [hXe, intsOf_length, e]
    exact ⟨hX.norm, by omega⟩
theorem AllSt.rowsFew {c Q : List (List Int)} {k i : Nat} (h : AllSt c Q k i) (hG : Grp c) : ∀ j, j < Q.length → (Q.getD j []).length ≤ 1048576 := by
  intro j hj
  obtain ⟨n, W, hW, hWe⟩ := h.mem (Q.getD j []) (by simp [List.getD, hj])
  have h24 := elt24 hG.hC hG.fin hW
  rw [hWe, intsOf_length, hW.len]; omega
set_option maxHeartbeats 8000000 in
theorem spec_l13All_ok (gc oc n cc : Nat) (c : List (List Int)) (w : World) (hn : c.length = n) (hG : Grp c) (hgc : gc < w.heap.size) (hr : Rows2 w gc oc c) :
    Calls Tryz.prog 54 #[(Value.slice (some ⟨gc, oc, none⟩) n cc)] w (GotRows w (elemL c)) := by
  subst hn
  have hC := hG.hC
  have hn4 := hC.2.1
  have HG := Lib.hid hG; clear hG
  go_enter Tryz.func54, Tryz.ntmps54
  go_wp2
  go_loopw [3, 4, 5, 6] (fun ov kv _ _ wr => ∃ (k g' c' m : Nat) (rs : List RowRef), k ≤ m ∧ m ≤ 200 ∧ kv = .int .i64 k ∧ ov = (Value.slice (some ⟨g', 0, none⟩) m c') ∧ Hid (rs.length = m) ∧ Hid (AllSt c (contents rs) k 0) ∧ OwnRows wr w.heap.size g' c' rs ∧ Below w.heap.size w wr) (fun _ kv _ _ _ => 200 - (intOf kv).toNat)
  case atStart =>
    exact ⟨0, w.heap.size + 1, 1, 1, [(w.heap.size, 0, [])], by omega, by omega, rfl, rfl, rfl, AllSt.start hC, start_rows w, (by repeat (first | with_reducible exact Below.refl _ _ | with_reducible assumption | with_reducible refine below_drewN ?_ _ | with_reducible refine Below.drew ?_ | (with_reducible refine Below.alloc ?_ ?_ _; rotate_left; · first | (simp; done) | (simp; omega) | exact Below.size (by assumption) | (have hsz := Below.size (by assumption : Below _ _ _); simp at hsz ⊢; omega)) | (with_reducible refine Below.setCell ?_ ?_ _; rotate_left; · first | (simp; done) | (simp; omega))))⟩
  case round =>
    obtain ⟨k, g', c', m, rs, hkm, hm200, rfl, rfl, hm, hst, hR, hb⟩ := hrel
    by_cases hlt : k < m
    · clear hkm
      go_wp2
      go_loopw [3, 5, 6] (fun ov iv _ wj => ∃ (i g' c' m : Nat) (rs : List RowRef), i ≤ c.length ∧ k < m ∧ m ≤ 200 ∧ iv = .int .i64 i ∧ ov = (Value.slice (some ⟨g', 0, none⟩) m c') ∧ Hid (rs.length = m) ∧ Hid (AllSt c (contents rs) k i) ∧ OwnRows wj w.heap.size g' c' rs ∧ Below w.heap.size w wj) (fun _ iv _ _ => c.length - (intOf iv).toNat)
      case atStart =>
        exact ⟨0, g', c', m, rs, Nat.zero_le _, hlt, hm200, rfl, rfl, hm, hst, hR, hb⟩
      case round =>
        clear hR hb hm hst hlt hm200
        obtain ⟨i, g', c', m, rs, hi, hlt, hm200, rfl, rfl, hm, hst, hR, hbj⟩ := hrel
        by_cases hil : i < c.length
        · have hkr : k < rs.length := by rw [hm.out]; exact hlt
          have hkc : k < (contents rs).length := by rw [contents_length]; exact hkr
          have hcl : (contents rs).getD k [] = rs[k].2.2 := by simp [contents, List.getD, hkr]
          obtain ⟨hWl, hWin, hWn⟩ := hst.out.rowFacts HG.out hkc
          have hWn := hWn i hil
          have Hrows := Lib.hid (hst.out.rowsFew HG.out)
          have hadd := hst.out.add HG.out hkc hil
          have hskip := AllSt.skip hst.out
          unfold reach at hskip
          have hsub := fun (h : AllSt c (putL (contents rs) (nfI c ((contents rs).getD k [] ++ [(i : Int)]))) k (i + 1)) => h.sub HG.out
          rw [hcl] at hWl hWin hWn hadd hskip hsub
          have hRo := hR.2.1 rs[k] (List.getElem_mem _)
          have hqk : wr.cell? ⟨g', k, none⟩ = some (rowVal rs[k]) := by rw [hR.1.cell k (by simpa using hkr)]; simp
          clear hcl
          generalize rs[k] = RR at *
          obtain ⟨gW, cW, W⟩ := RR
          simp only at hRo hWl hWin hWn hadd hskip hsub
          obtain ⟨n1, hn1⟩ : ∃ n1, W.length = n1 := ⟨_, rfl⟩
          have hqk' : wr.cell? ⟨g', k, none⟩ = some (Value.slice (some ⟨gW, 0, none⟩) n1 cW) := by rw [hqk]; unfold rowVal; simp only [hn1]
          have hgR := hR.lt
          rw [hn1] at hWl hadd hskip
          obtain ⟨hnorm, hXl⟩ := hWn
          have hin2 := letters_push hWin hil
          generalize nfI c (W ++ [(i : Int)]) = X at *
          have Hn1 := Lib.hid hn1; have Hnorm := Lib.hid hnorm; have Hin2 := Lib.hid hin2; have Hadd := Lib.hid hadd; have Hskip := Lib.hid hskip; have Hsub := Lib.hid hsub
          clear hqk hn1 hnorm hin2 hadd hskip hsub hWin hkc hkr
          obtain ⟨xl, hxl⟩ : ∃ xl, X.length = xl := ⟨_, rfl⟩
          rw [hxl] at hXl
          have Hxl := Lib.hid hxl; clear hxl
          obtain ⟨wk, hwk⟩ : ∃ wk, wk = wr.alloc (.cells #[.int .i64 (i : Int)] 3) := ⟨_, rfl⟩
          have hbk : Below wr.heap.size wr wk := by rw [hwk]; exact (Below.refl _ _).alloc (Nat.le_refl _) _
          have hok : Own wk wr.heap.size wr.heap.size 1 [(i : Int)] := by rw [hwk]; exact Own.new _ (Nat.le_refl _)
          have hcall := spec_ConcatWords_any gW 0 n1 cW wr.heap.size 0 1 1 W [(i : Int)] wk Hn1.out rfl (by rw [Hn1.out]; omega) (by simp) (Nat.lt_of_lt_of_le hRo.lt hbk.size) hok.lt (hRo.cells.below hbk hRo.lt) hok.cells
          rw [hwk] at hcall
          have Hcall := Lib.hid hcall; clear hcall
          go_wp2_with fail
          refine Hcall.out.mono ?_
          rintro e w2 ⟨g2, c2, rfl, ho2, hb2⟩
          have hl2 : (W ++ [(i : Int)]).length = n1 + 1 := by simp [Hn1.out]
          rw [hl2]
          have Hl2 := Lib.hid hl2
          rw [← hwk] at hb2 ho2
          have hb2' : Below wr.heap.size wr w2 := hbk.trans (hb2.mono hbk.size)
          have hB2 : Below w.heap.size w w2 := hbj.trans (hb2'.mono hbj.size)
          clear hl2 hwk hbk hok hb2 Hcall
          go_wp2_with fail
          refine (spec_l8Normal_any gc oc _ cc g2 0 (n1 + 1) c2 c (W ++ [(i : Int)]) X w2 rfl Hl2.out hC (by rw [Hl2.out]; omega) Hin2.out Hnorm.out (Nat.lt_of_lt_of_le hgc hB2.size) ho2.lt (hr.below hB2 hgc) ho2.cells).mono ?_
          rintro e w3 ⟨g3, c3, rfl, ho3, hb3⟩
          rw [Hxl.out]
          have hb3' : Below wr.heap.size wr w3 := hb2'.trans (hb3.mono hb2'.size)
          have hR3 := hR.below hb3'
          have hbo3 : Below w.heap.size w w3 := hbj.trans (hb3'.mono hbj.size)
          have hox3 : Own w3 w.heap.size g3 c3 X := ho3.mono (by have := hB2.size; omega)
          have q3 : w3.cell? ⟨g', k, none⟩ = some (Value.slice (some ⟨gW, 0, none⟩) n1 cW) := (hb3'.cell (p := ⟨g', k, none⟩) hgR).trans hqk'
          clear hb3 hb2' hB2 ho2 hR hbj hRo ho3 hqk' hb3'
          by_cases hxt : n1 < xl
          · have hxI : (n1 : Int) < (xl : Int) := by omega
            by_cases hmem : X ∈ contents rs
            · have hcall := spec_l7In_any g' 0 m c' g3 0 xl c3 (contents rs) X w3 (by rw [contents_length]; exact hm.out) Hxl.out (by rw [contents_length, hm.out]; omega) Hrows.out hR3.rows2 hox3.cells
              rw [decide_eq_true hmem] at hcall
              have hnx := Hskip.out (fun _ => hmem)
              have Hcall := Lib.hid hcall; have Hnx := Lib.hid hnx
              clear hcall hmem hnx
              go_wp2_with fail
              refine Hcall.out.mono ?_
              rintro e w4 ⟨rfl, hs4⟩
              have hbo4 := below_still hbo3 hs4
              have hR4 := hR3.still hs4
              clear hs4
              go_wp2_with fail
              go_roundw
              case rel => exact ⟨i + 1, g', c', m, rs, by omega, hlt, hm200, by go_num, rfl, hm, Hnx.out, hR4, hbo4⟩
              case measure => simp [intOf]; omega
            · have hcall := spec_l7In_any g' 0 m c' g3 0 xl c3 (contents rs) X w3 (by rw [contents_length]; exact hm.out) Hxl.out (by rw [contents_length, hm.out]; omega) Hrows.out hR3.rows2 hox3.cells
              rw [decide_eq_false hmem] at hcall
              have hnx := Hadd.out (by rw [Hxl.out]; exact hxt)
              have hsb := Hsub.out hnx
              have Hcall := Lib.hid hcall; have Hnx := Lib.hid hnx
              clear hcall hmem hnx
              go_wp2_with fail
              refine Hcall.out.mono ?_
              rintro e w4 ⟨rfl, hs4⟩
              have hbo4 := below_still hbo3 hs4
              have hR4 := hR3.still hs4
              have hox4 := hox3.still hs4
              clear hs4
              go_wp2_with fail
              refine (spec_l11Put_any w.heap.size g' c' m g3 0 xl c3 rs X w4 hm.out Hxl.out (by rw [hm.out]; omega) (by rw [Hxl.out]; omega) hR4 hox4.lt hox4.cells).mono ?_
              rintro e w5 ⟨g5, c5, rs5, rfl, hc5, hR5, hg5, hb5⟩
              obtain ⟨m5, hm5⟩ : ∃ m5, (putL (contents rs) X).length = m5 := ⟨_, rfl⟩
              rw [hm5] at hsb ⊢
              have hge : m ≤ m5 := by
                have h1 := putL_len (contents rs) X
                rw [contents_length, hm.out, hm5] at h1
                exact h1
              have Hm5 := Lib.hid hm5; have Hc5 := Lib.hid hc5
              have hbo5 : Below w.heap.size w w5 := hbo4.trans (hb5.mono hbo4.size)
              clear hm5 hc5 hb5
              go_wp2_with fail
              go_roundw
              case rel =>
                refine ⟨i + 1, g5, c5, m5, rs5, by omega, by omega, hsb, by go_num, rfl, ?_, ?_, hR5, hbo5⟩
                · show _ = _
                  rw [← Hm5.out, ← Hc5.out, contents_length]
                · show AllSt _ _ _ _
                  rw [Hc5.out]; exact Hnx.out
              case measure => simp [intOf]; omega
          · have hxI : ¬ (n1 : Int) < (xl : Int) := by omega
            have hnx := Hskip.out (fun h => absurd h (by rw [Hxl.out]; exact hxt))
            have Hnx := Lib.hid hnx; clear hnx
            go_wp2_with fail
            go_roundw
            case rel => exact ⟨i + 1, g', c', m, rs, by omega, hlt, hm200, by go_num, rfl, hm, Hnx.out, hR3, hbo3⟩
            case measure => simp [intOf]; omega
        · obtain rfl : i = c.length := by omega
          have hnx := hst.out.next
          have Hnx := Lib.hid hnx; clear hnx
          go_wp2
          go_roundw
          case rel => exact ⟨k + 1, g', c', m, rs, by omega, hm200, by go_num, rfl, hm, Hnx.out, hR, hbj⟩
          case measure => simp [intOf]; omega
    · obtain rfl : k = m := by omega
      have hall : contents rs = elemL c := AllSt.all (by rw [contents_length, hm.out]; exact hst.out) HG.out
      have Hall := Lib.hid hall; clear hall
      go_wp2
      go_ret
      exact ⟨g', c', rs, by rw [← Hall.out, contents_length, hm.out]; rfl, Hall.out, hR, hb⟩
end Go.Proofs.YtdedkfbiookofaaGreatDoor
