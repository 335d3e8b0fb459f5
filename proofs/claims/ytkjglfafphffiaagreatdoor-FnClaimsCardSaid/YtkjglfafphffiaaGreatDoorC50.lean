/- ClW -/
import Derived.Test.YtkjglfafphffiaaGreatDoorC46
import Derived.Test.YtkjglfafphffiaaGreatDoorC48
import Derived.Test.YtkjglfafphffiaaGreatDoorC47
import Derived.Test.YtkjglfafphffiaaGreatDoorC49
import Derived.Test.YtkjglfafphffiaaGreatDoorC42
import Derived.Deep.CutRange
import Derived.Deep.CutBlock
import Derived.Deep.RegionHeld3
namespace Go.Proofs.YtkjglfafphffiaaGreatDoor
set_option maxRecDepth 100000
open Go.RowKit Game
theorem sameClaim_self (x : ClaimD) : sameClaim x x = true := by simp [sameClaim]
theorem nilC_check {v : Value} {x : ClaimD} (h : NilC v x) : checkL x = false := by
  obtain ⟨kd, c, a, b, ps, R⟩ := x
  obtain ⟨-, h2⟩ := h
  dsimp only at h2
  subst h2
  rfl
set_option maxHeartbeats 1000000 in
theorem impl_CheckClaim_nil {v : Value} {x : ClaimD} {w : World} (hM : ClaimM w v x) (hN : NilC v x) : Calls Tryz.prog 9 #[v] w (Gives w (.bool (checkL x))) := by
  rw [nilC_check hN]
  obtain ⟨p1, m1, d1, p2, m2, d2, p3, m3, d3, p4, m4, d4, p5, m5, d5, rfl⟩ := hM.shape6
  obtain ⟨⟨v2, v3, v4, v5, e⟩, -⟩ := hN
  simp only [Value.agg.injEq, Array.mk.injEq, List.cons.injEq, and_true, Value.slice.injEq] at e
  obtain ⟨-, ⟨rfl, rfl, rfl⟩, -⟩ := e
  have C0 := heap_alloc_new w (.cells #[.int .i64 x.kind, .slice none 0 0, .slice p2 m2 d2, .slice p3 m3 d3, .slice p4 m4 d4, .slice p5 m5 d5] 29 (0, 0))
  have hB0 : Below w.heap.size w (w.alloc (.cells #[.int .i64 x.kind, .slice none 0 0, .slice p2 m2 d2, .slice p3 m3 d3, .slice p4 m4 d4, .slice p5 m5 d5] 29)) := (Below.refl _ _).alloc (Nat.le_refl _) _
  obtain ⟨c00, c01, c02, c03, c04, c05⟩ := sixA C0
  have K := Lib.hid (fun W => impl_IsWord_nil p2 m2 d2 W)
  clear hM C0
  generalize x.kind = kd at *
  go_enter Tryz.func9, Tryz.ntmps9
  go_wp2_with fail
  refine (K.out _).mono ?_
  rintro e w1 ⟨rfl, hs1⟩
  have hB1 := below_still hB0 hs1
  clear c00 c01 c02 c03 c04 c05 hB0
  go_wp2_with fail
  go_ret
  exact ⟨rfl, hB1⟩
set_option maxHeartbeats 1000000 in
theorem spec_CheckClaim_nil {v : Value} {x : ClaimD} {w : World} (hM : ClaimM w v x) (hN : NilC v x) : Calls Tryz.prog 11 #[v] w (Gives w (.bool (checkL x))) := by
  rw [nilC_check hN]
  have hM0 := hM
  obtain ⟨p1, m1, d1, p2, m2, d2, p3, m3, d3, p4, m4, d4, p5, m5, d5, rfl⟩ := hM.shape6
  obtain ⟨⟨v2, v3, v4, v5, e⟩, -⟩ := hN
  simp only [Value.agg.injEq, Array.mk.injEq, List.cons.injEq, and_true, Value.slice.injEq] at e
  obtain ⟨-, ⟨rfl, rfl, rfl⟩, -⟩ := e
  obtain ⟨u1, u2, u3, u4, u5, e', -, hA, -⟩ := hM0
  simp only [Value.agg.injEq, Array.mk.injEq, List.cons.injEq, and_true] at e'
  obtain ⟨-, -, rfl, -⟩ := e'
  have C0 := heap_alloc_new w (.cells #[.int .i64 x.kind, .slice none 0 0, .slice p2 m2 d2, .slice p3 m3 d3, .slice p4 m4 d4, .slice p5 m5 d5] 29 (0, 0))
  have hB0 : Below w.heap.size w (w.alloc (.cells #[.int .i64 x.kind, .slice none 0 0, .slice p2 m2 d2, .slice p3 m3 d3, .slice p4 m4 d4, .slice p5 m5 d5] 29)) := (Below.refl _ _).alloc (Nat.le_refl _) _
  obtain ⟨c00, c01, c02, c03, c04, c05⟩ := sixA C0
  have K := Lib.hid (fun W (hb : Below w.heap.size w W) => spec_IsWord_nil (hA.below hb))
  clear hM C0 hA
  generalize x.kind = kd at *
  go_enter Tryz.func11, Tryz.ntmps11
  go_wp2_with fail
  refine (K.out _ hB0).mono ?_
  rintro e w1 ⟨rfl, hs1⟩
  have hB1 := below_still hB0 hs1
  clear c00 c01 c02 c03 c04 c05 hB0
  go_wp2_with fail
  go_ret
  exact ⟨rfl, hB1⟩
theorem impl_CheckClaim_d {v : Value} {x : ClaimD} {w : World} (h : ClaimM w v x ∧ (NilC v x ∨ ClaimN w v x)) (hf : claimFew x) (hw : claimWf x) : Calls Tryz.prog 9 #[v] w (Gives w (.bool (checkL x))) := by
  rcases h.2 with hn | hn
  · exact impl_CheckClaim_nil h.1 hn
  · exact impl_CheckClaim_n v x w hn hf hw.proof'
theorem spec_CheckClaim_d {v : Value} {x : ClaimD} {w : World} (h : ClaimM w v x ∧ (NilC v x ∨ ClaimN w v x)) (hf : claimFew x) (hw : claimWf x) : Calls Tryz.prog 11 #[v] w (Gives w (.bool (checkL x))) := by
  rcases h.2 with hn | hn
  · exact spec_CheckClaim_nil h.1 hn
  · exact spec_CheckClaim_n v x w hn hf hw.proof'
theorem claimd_below {v : Value} {x : ClaimD} {w w' : World} (h : ClaimM w v x ∧ (NilC v x ∨ ClaimN w v x)) (hb : Below w.heap.size w w') : ClaimM w' v x ∧ (NilC v x ∨ ClaimN w' v x) := ⟨h.1.below hb, h.2.imp id (fun h => h.below hb)⟩
theorem box_keep {W W' : World} {b : Nat} {cs : Array Value} {t : TypeId} (h : W.heap[b]? = some (.cells cs t (0, 0))) (hb : Below W.heap.size W W') : W'.heap[b]? = some (.cells cs t (0, 0)) := (hb.block _ (lt_of_block h)).trans h
set_option maxHeartbeats 6000000 in
theorem claims_walk (a : Option Addr) (n c : Nat) (w : World) (hn : n ≤ 1048576) (hc0 : CodeV w w.heap.size a n) (ht : Tab w) :
    Calls Tryz.prog 3 #[.slice a n c] w (Gives w (.bool true)) := by
  have hb := laws_big_any a n c w
  rw [decide_eq_false (show ¬ 1048576 < n by omega)] at hb
  have HC := Lib.hid (fun (W : World) (hb : Below w.heap.size w W) => (hc0.below hb).mono hb.size)
  have HT := Lib.hid (fun (W : World) (hb : Below w.heap.size w W) => ht.below hb)
  have Hb := Lib.hid hb
  clear hc0 hb ht
  go_enter Tryz.func3, Tryz.ntmps3
  go_wp2_with fail
  refine Hb.out.mono ?_
  rintro e v0 ⟨rfl, hs1⟩
  have hB := below_still (Below.refl w.heap.size w) hs1
  clear hs1 Hb
  have KC := Lib.hid (spec_DrawMakeClaim_any a n c v0 (by omega) (HC.out v0 hB))
  go_wp2_with fail
  refine KC.out.mono ?_
  rintro e v1 ⟨kd, g, cap, g1, o1, n1, c1, g2, o2, n2, c2, R, u, v, rfl, hM, i1, i2, hl, hb⟩
  replace hM := hM.mono hB.size
  replace hB := hB.trans (hb.mono hB.size)
  clear KC hb
  have hR5 := hM.few
  have hrl := hM.rl
  have hrw : rowsFew R := by
    refine rowsFew_ofC (by omega) fun x hx => ?_
    obtain ⟨j, hj, rfl⟩ := List.getElem_of_mem hx
    obtain ⟨_, _, _, _, _, _, _, _, h6⟩ := hM.row j hj
    simp [List.getD, hj] at h6
    omega
  have hfew := (make_small (kd := kd) (c := R) (a := u) (b := v) hrw (by omega) (by omega)).toFew
  have hwf := make_64 (kd := kd) (c := R) (a := u) (b := v)
  have hfine := fun h => made_fine (kd := kd) (c := R) (a := u) (b := v) h
  have hkd := fun h => make_kind (kd := kd) (c := R) (a := u) (b := v) h
  have KM1 := Lib.hid (fun (W : World) (hM : MatR W w.heap.size g cap R) (i1 : IntsV W (Value.slice (some ⟨g1, o1, none⟩) n1 c1) u) (i2 : IntsV W (Value.slice (some ⟨g2, o2, none⟩) n2 c2) v) => by
    obtain ⟨_, _, _, _, e1, l1, q1, t1, r1⟩ := i1
    cases e1
    obtain ⟨_, _, _, _, e2, l2, q2, t2, r2⟩ := i2
    cases e2
    exact impl_MakeClaim_any kd g 0 R.length cap g1 o1 n1 c1 g2 o2 n2 c2 R u v W rfl l1 l2 (by omega) hrl (by omega) (by omega) q1 q2 hM.lt t1 t2 hM.rows2 r1 r2)
  have KM2 := Lib.hid (fun (W : World) (hM : MatR W w.heap.size g cap R) (i1 : IntsV W (Value.slice (some ⟨g1, o1, none⟩) n1 c1) u) (i2 : IntsV W (Value.slice (some ⟨g2, o2, none⟩) n2 c2) v) => by
    obtain ⟨_, _, _, _, e1, l1, q1, t1, r1⟩ := i1
    cases e1
    obtain ⟨_, _, _, _, e2, l2, q2, t2, r2⟩ := i2
    cases e2
    exact spec_MakeClaim_any kd g 0 R.length cap g1 o1 n1 c1 g2 o2 n2 c2 R u v W rfl l1 l2 (by omega) hrl (by omega) (by omega) q1 q2 hM.lt t1 t2 hM.rows2 r1 r2)
  generalize makeC kd R u v = X at *
  generalize okM kd R u v = O at *
  have Hfew := Lib.hid hfew; have Hwf := Lib.hid hwf; have Hfine := Lib.hid hfine; have Hkd := Lib.hid hkd
  clear hfew hwf hfine hkd hrw hrl
  have KC := Lib.hid (KM1.out v1 hM i1 i2)
  go_wp2_with fail
  refine KC.out.mono ?_
  rintro e v2 ⟨cx, rfl, hHx, hb, -⟩
  replace hM := hM.below hb
  replace i1 := i1.below hb
  replace i2 := i2.below hb
  replace hB := hB.trans (hb.mono hB.size)
  clear KC hb KM1
  have hX := hHx.toM
  obtain ⟨x1, mx1, dx1, x2, mx2, dx2, x3, mx3, dx3, x4, mx4, dx4, x5, mx5, dx5, rfl⟩ := hX.shape6
  clear hHx
  have ba : Below v2.heap.size v2 (v2.alloc (.cells #[.int .i64 X.kind, .slice x1 mx1 dx1, .slice x2 mx2 dx2, .slice x3 mx3 dx3, .slice x4 mx4 dx4, .slice x5 mx5 dx5] 29)) := (Below.refl _ _).alloc (Nat.le_refl _) _
  have Bx := heap_alloc_new v2 (.cells #[.int .i64 X.kind, .slice x1 mx1 dx1, .slice x2 mx2 dx2, .slice x3 mx3 dx3, .slice x4 mx4 dx4, .slice x5 mx5 dx5] 29 (0, 0))
  obtain ⟨v3, hwx⟩ : ∃ W, W = v2.alloc (.cells #[.int .i64 X.kind, .slice x1 mx1 dx1, .slice x2 mx2 dx2, .slice x3 mx3 dx3, .slice x4 mx4 dx4, .slice x5 mx5 dx5] 29) := ⟨_, rfl⟩
  rw [← hwx] at ba Bx
  have Hwx := Lib.hid hwx
  clear hwx
  replace hM := hM.below ba
  replace i1 := i1.below ba
  replace i2 := i2.below ba
  replace hX := hX.below ba
  replace hB := hB.trans (ba.mono hB.size)
  clear ba
  have KC := Lib.hid (KM2.out v3 hM i1 i2)
  go_wp2_with fail
  rw [← Hwx.out]
  clear Hwx
  refine KC.out.mono ?_
  rintro e v4 ⟨cy, rfl, hHy, hb, hnn⟩
  replace hM := hM.below hb
  replace i1 := i1.below hb
  replace i2 := i2.below hb
  replace hX := hX.below hb
  replace Bx := box_keep Bx hb
  replace hB := hB.trans (hb.mono hB.size)
  clear KC hb KM2
  have hY := hHy.toM
  have hYN := fun h : O = true => hHy.toN hnn (by rw [(Hkd.out h).1]; exact (Hkd.out h).2)
  obtain ⟨y1, my1, dy1, y2, my2, dy2, y3, my3, dy3, y4, my4, dy4, y5, my5, dy5, rfl⟩ := hY.shape6
  clear hHy hnn
  have HYN := Lib.hid hYN
  clear hYN
  have ba : Below v4.heap.size v4 (v4.alloc (.cells #[.int .i64 X.kind, .slice y1 my1 dy1, .slice y2 my2 dy2, .slice y3 my3 dy3, .slice y4 my4 dy4, .slice y5 my5 dy5] 29)) := (Below.refl _ _).alloc (Nat.le_refl _) _
  have By := heap_alloc_new v4 (.cells #[.int .i64 X.kind, .slice y1 my1 dy1, .slice y2 my2 dy2, .slice y3 my3 dy3, .slice y4 my4 dy4, .slice y5 my5 dy5] 29 (0, 0))
  obtain ⟨v5, hwy⟩ : ∃ W, W = v4.alloc (.cells #[.int .i64 X.kind, .slice y1 my1 dy1, .slice y2 my2 dy2, .slice y3 my3 dy3, .slice y4 my4 dy4, .slice y5 my5 dy5] 29) := ⟨_, rfl⟩
  rw [← hwy] at ba By
  have Hwy := Lib.hid hwy
  clear hwy
  replace hM := hM.below ba
  replace i1 := i1.below ba
  replace i2 := i2.below ba
  replace hX := hX.below ba
  replace Bx := box_keep Bx ba
  replace hY := hY.below ba
  replace hB := hB.trans (ba.mono hB.size)
  clear ba
  have HYN : Hid (O = true → ClaimN v5 (.agg #[.int .i64 X.kind, .slice y1 my1 dy1, .slice y2 my2 dy2, .slice y3 my3 dy3, .slice y4 my4 dy4, .slice y5 my5 dy5]) X) := Lib.hid (fun h => (HYN.out h).below (by rw [Hwy.out]; exact (Below.refl _ _).alloc (Nat.le_refl _) _))
  clear hM i1 i2 Hkd
  have KE := spec_EqualClaims_m _ _ X X v5 hX hY Hfew.out Hfew.out
  rw [sameClaim_self] at KE
  have dO : (O != O) = false := by simp
  have KE := Lib.hid KE
  have cX : ∀ j, v5.cell? ⟨v2.heap.size, j, none⟩ = (#[.int .i64 X.kind, .slice x1 mx1 dx1, .slice x2 mx2 dx2, .slice x3 mx3 dx3, .slice x4 mx4 dx4, .slice x5 mx5 dx5] : Array Value)[j]? := fun j => cell_of_cells Bx j
  have cY : ∀ j, v5.cell? ⟨v4.heap.size, j, none⟩ = (#[.int .i64 X.kind, .slice y1 my1 dy1, .slice y2 my2 dy2, .slice y3 my3 dy3, .slice y4 my4 dy4, .slice y5 my5 dy5] : Array Value)[j]? := fun j => cell_of_cells By j
  go_upto_region 6 with fail
  rw [← Hwy.out]
  clear Hwy
  go_cut [57] from 41 to 57 (fun bv wx => bv = .bool false ∧ Below w.heap.size w wx)
  case first =>
    go_wp2_with fail
    refine KE.out.mono ?_
    rintro e v6 ⟨rfl, hb⟩
    replace By := box_keep By hb
    have HYN2 := Lib.hid (fun h => (HYN.out h).below hb)
    replace hB := hB.trans (hb.mono hB.size)
    clear KE hb cX cY HYN
    have cY : ∀ j, v6.cell? ⟨v4.heap.size, j, none⟩ = (#[.int .i64 X.kind, .slice y1 my1 dy1, .slice y2 my2 dy2, .slice y3 my3 dy3, .slice y4 my4 dy4, .slice y5 my5 dy5] : Array Value)[j]? := fun j => cell_of_cells By j
    cases O with
    | false =>
      go_wp2_with fail
      go_meet
      exact ⟨rfl, hB⟩
    | true =>
      have KK := impl_CheckClaim_n _ X v6 (HYN2.out rfl) Hfew.out Hwf.out.proof'
      rw [Hfine.out rfl] at KK
      have KK := Lib.hid KK
      go_wp2_with fail
      refine KK.out.mono ?_
      rintro e vz ⟨rfl, hb⟩
      have hB' := hB.trans (hb.mono hB.size)
      clear cY KK hB hb
      go_wp2_with fail
      go_meet
      exact ⟨rfl, hB'⟩
  case rest =>
    clear hB hX hY Bx By HYN KE cX cY Hfew Hwf Hfine dO
    obtain ⟨rfl, hB⟩ := hcut
    rename World => t0
    have KC := Lib.hid (spec_DrawCheckClaim_any a n c t0 (by omega) (HC.out t0 hB))
    go_wp2_with fail
    refine KC.out.mono ?_
    rintro e v7 ⟨zv, Z, rfl, hP, hf, hw, hb⟩
    replace hB := hB.trans (hb.mono hB.size)
    clear KC hb
    have hZ := hP 0 0 v7 (Nat.zero_le _) (Only.refl 0 0 v7)
    obtain ⟨z1, mz1, dz1, z2, mz2, dz2, z3, mz3, dz3, z4, mz4, dz4, z5, mz5, dz5, rfl⟩ := hZ.1.shape6
    have Hf := Lib.hid hf; have Hw := Lib.hid hw
    clear hP hf hw
    have ba : Below v7.heap.size v7 (v7.alloc (.cells #[.int .i64 Z.kind, .slice z1 mz1 dz1, .slice z2 mz2 dz2, .slice z3 mz3 dz3, .slice z4 mz4 dz4, .slice z5 mz5 dz5] 29)) := (Below.refl _ _).alloc (Nat.le_refl _) _
    have Bz := heap_alloc_new v7 (.cells #[.int .i64 Z.kind, .slice z1 mz1 dz1, .slice z2 mz2 dz2, .slice z3 mz3 dz3, .slice z4 mz4 dz4, .slice z5 mz5 dz5] 29 (0, 0))
    obtain ⟨v8, hwz⟩ : ∃ W, W = v7.alloc (.cells #[.int .i64 Z.kind, .slice z1 mz1 dz1, .slice z2 mz2 dz2, .slice z3 mz3 dz3, .slice z4 mz4 dz4, .slice z5 mz5 dz5] 29) := ⟨_, rfl⟩
    rw [← hwz] at ba Bz
    have Hwz := Lib.hid hwz
    clear hwz
    replace hZ := claimd_below hZ ba
    replace hB := hB.trans (ba.mono hB.size)
    clear ba
    have KC1 := Lib.hid (impl_CheckClaim_d hZ Hf.out Hw.out)
    have cZ : ∀ j, v8.cell? ⟨v7.heap.size, j, none⟩ = (#[.int .i64 Z.kind, .slice z1 mz1 dz1, .slice z2 mz2 dz2, .slice z3 mz3 dz3, .slice z4 mz4 dz4, .slice z5 mz5 dz5] : Array Value)[j]? := fun j => cell_of_cells Bz j
    go_upto_region 9 with fail
    rw [← Hwz.out]
    clear Hwz
    go_wp2_with fail
    refine KC1.out.mono ?_
    rintro e v9 ⟨rfl, hb⟩
    replace hZ := claimd_below hZ hb
    replace Bz := box_keep Bz hb
    replace hB := hB.trans (hb.mono hB.size)
    clear KC1 cZ hb
    have KC2 := Lib.hid (spec_CheckClaim_d hZ Hf.out Hw.out)
    have cZ : ∀ j, v9.cell? ⟨v7.heap.size, j, none⟩ = (#[.int .i64 Z.kind, .slice z1 mz1 dz1, .slice z2 mz2 dz2, .slice z3 mz3 dz3, .slice z4 mz4 dz4, .slice z5 mz5 dz5] : Array Value)[j]? := fun j => cell_of_cells Bz j
    have hnn := fun (h : checkL Z = true) (hn : NilC (.agg #[.int .i64 Z.kind, .slice z1 mz1 dz1, .slice z2 mz2 dz2, .slice z3 mz3 dz3, .slice z4 mz4 dz4, .slice z5 mz5 dz5]) Z) => show False from by rw [nilC_check hn] at h; cases h
    have Hnn := Lib.hid hnn
    clear hnn
    have htrue := fun h => fine_true (x := Z) h
    have Htrue := Lib.hid htrue
    clear htrue
    generalize checkL Z = ck at *
    have dck : (ck != ck) = false := by simp
    go_wp2_with fail
    refine KC2.out.mono ?_
    rintro e v10 ⟨rfl, hb⟩
    replace hZ := claimd_below hZ hb
    replace Bz := box_keep Bz hb
    replace hB := hB.trans (hb.mono hB.size)
    clear KC2 cZ hb
    go_upto_if 66 with fail
    go_cut [2, 12] from 67 to 118 (fun rv yv wx => rv = .bool false ∧ (∃ y : Bool, yv = .bool y) ∧ Below v10.heap.size v10 wx)
    case first =>
      cases ck with
      | false =>
        go_wp2_with fail
        go_meet
        exact ⟨rfl, ⟨_, rfl⟩, Below.refl _ _⟩
      | true =>
      obtain ⟨⟨wa, wb⟩, hk16, htr⟩ := Htrue.out rfl
      have hN := hZ.2.resolve_left (Hnn.out rfl)
      obtain ⟨u1, u2, u3, q4, n4, c4, q5, n5, c5, e, r1, r2, r3, -, -⟩ := hN
      simp only [Value.agg.injEq, Array.mk.injEq, List.cons.injEq, and_true] at e
      obtain ⟨-, rfl, rfl, rfl, -⟩ := e
      obtain ⟨gc, oc, nc, cc, e1, l1, -, t1, rr1⟩ := r1
      obtain ⟨ga, oa, na, ca, e2, l2, -, t2, rr2⟩ := r2
      obtain ⟨gb, ob, nb, cb, e3, l3, -, t3, rr3⟩ := r3
      cases e1
      cases e2
      cases e3
      have hA := wordOk_of wa
      have hB' := wordOk_of wb
      have hn4 := hA.isC.2.1
      have hcl := hA.isC.2.2.1
      have hCrl : ∀ j, j < Z.cartan.length → (Z.cartan.getD j []).length ≤ 1048576 := fun j hj => by have := hcl j hj; omega
      have hfa := hA.few
      by_cases hk : Z.kind = 1
      · have KX := spec_IsReduced_any gc oc _ dz1 ga oa _ dz2 Z.cartan Z.a v10 l1 l2 (by omega) hCrl (by omega) t1 t2 rr1 rr2
        rw [htr.1 hk] at KX
        have KX := Lib.hid KX
        have cZ : ∀ j, v10.cell? ⟨v7.heap.size, j, none⟩ = (#[.int .i64 1, (Value.slice (some ⟨gc, oc, none⟩) mz1 dz1), (Value.slice (some ⟨ga, oa, none⟩) mz2 dz2), (Value.slice (some ⟨gb, ob, none⟩) mz3 dz3), .slice z4 mz4 dz4, .slice z5 mz5 dz5] : Array Value)[j]? := fun j => by rw [← hk]; exact cell_of_cells Bz j
        have hbz := Lib.hid Bz
        clear hZ Bz l1 l2 l3 t1 t2 t3 rr1 rr2 rr3 wa wb hk16 htr hA hB' hcl hCrl hk Htrue Hnn
        go_wp2_with fail
        refine KX.out.mono ?_
        rintro e vz ⟨rfl, hb⟩
        clear cZ KX
        go_wp2_with fail
        go_meet
        exact ⟨rfl, ⟨_, rfl⟩, hb⟩
      by_cases hk : Z.kind = 2
      · have KX := spec_AreSame_ok gc oc _ dz1 ga oa _ dz2 gb ob _ dz3 Z.cartan Z.a Z.b v10 l1 l2 l3 hA hB' t1 t2 t3 rr1 rr2 rr3
        rw [decide_eq_true (htr.2.1 hk)] at KX
        have KX := Lib.hid KX
        have cZ : ∀ j, v10.cell? ⟨v7.heap.size, j, none⟩ = (#[.int .i64 2, (Value.slice (some ⟨gc, oc, none⟩) mz1 dz1), (Value.slice (some ⟨ga, oa, none⟩) mz2 dz2), (Value.slice (some ⟨gb, ob, none⟩) mz3 dz3), .slice z4 mz4 dz4, .slice z5 mz5 dz5] : Array Value)[j]? := fun j => by rw [← hk]; exact cell_of_cells Bz j
        have hbz := Lib.hid Bz
        clear hZ Bz l1 l2 l3 t1 t2 t3 rr1 rr2 rr3 wa wb hk16 htr hA hB' hcl hCrl hk Htrue Hnn
        go_wp2_with fail
        refine KX.out.mono ?_
        rintro e vz ⟨rfl, hb⟩
        clear cZ KX
        go_wp2_with fail
        go_meet
        exact ⟨rfl, ⟨_, rfl⟩, hb⟩
      by_cases hk : Z.kind = 3
      · have KX := spec_IsBruhatBelow_ok gc oc _ dz1 ga oa _ dz2 gb ob _ dz3 Z.cartan Z.a Z.b v10 l1 l2 l3 hA hB' t1 t2 t3 rr1 rr2 rr3
        rw [htr.2.2.1 hk] at KX
        have KX := Lib.hid KX
        have cZ : ∀ j, v10.cell? ⟨v7.heap.size, j, none⟩ = (#[.int .i64 3, (Value.slice (some ⟨gc, oc, none⟩) mz1 dz1), (Value.slice (some ⟨ga, oa, none⟩) mz2 dz2), (Value.slice (some ⟨gb, ob, none⟩) mz3 dz3), .slice z4 mz4 dz4, .slice z5 mz5 dz5] : Array Value)[j]? := fun j => by rw [← hk]; exact cell_of_cells Bz j
        have hbz := Lib.hid Bz
        clear hZ Bz l1 l2 l3 t1 t2 t3 rr1 rr2 rr3 wa wb hk16 htr hA hB' hcl hCrl hk Htrue Hnn
        go_wp2_with fail
        refine KX.out.mono ?_
        rintro e vz ⟨rfl, hb⟩
        clear cZ KX
        go_wp2_with fail
        go_meet
        exact ⟨rfl, ⟨_, rfl⟩, hb⟩
      by_cases hk : Z.kind = 4
      · have KX := spec_IsBruhatBelow_ok gc oc _ dz1 ga oa _ dz2 gb ob _ dz3 Z.cartan Z.a Z.b v10 l1 l2 l3 hA hB' t1 t2 t3 rr1 rr2 rr3
        rw [htr.2.2.2.1 hk] at KX
        have KX := Lib.hid KX
        have cZ : ∀ j, v10.cell? ⟨v7.heap.size, j, none⟩ = (#[.int .i64 4, (Value.slice (some ⟨gc, oc, none⟩) mz1 dz1), (Value.slice (some ⟨ga, oa, none⟩) mz2 dz2), (Value.slice (some ⟨gb, ob, none⟩) mz3 dz3), .slice z4 mz4 dz4, .slice z5 mz5 dz5] : Array Value)[j]? := fun j => by rw [← hk]; exact cell_of_cells Bz j
        have hbz := Lib.hid Bz
        clear hZ Bz l1 l2 l3 t1 t2 t3 rr1 rr2 rr3 wa wb hk16 htr hA hB' hcl hCrl hk Htrue Hnn
        go_wp2_with fail
        refine KX.out.mono ?_
        rintro e vz ⟨rfl, hb⟩
        clear cZ KX
        go_wp2_with fail
        go_meet
        exact ⟨rfl, ⟨_, rfl⟩, hb⟩
      by_cases hk : Z.kind = 5
      · have KX := spec_IsFinite_any gc oc _ dz1 Z.cartan v10 l1 (by omega) hCrl t1 rr1
        rw [htr.2.2.2.2.1 hk] at KX
        have KX := Lib.hid KX
        have cZ : ∀ j, v10.cell? ⟨v7.heap.size, j, none⟩ = (#[.int .i64 5, (Value.slice (some ⟨gc, oc, none⟩) mz1 dz1), (Value.slice (some ⟨ga, oa, none⟩) mz2 dz2), (Value.slice (some ⟨gb, ob, none⟩) mz3 dz3), .slice z4 mz4 dz4, .slice z5 mz5 dz5] : Array Value)[j]? := fun j => by rw [← hk]; exact cell_of_cells Bz j
        have hbz := Lib.hid Bz
        clear hZ Bz l1 l2 l3 t1 t2 t3 rr1 rr2 rr3 wa wb hk16 htr hA hB' hcl hCrl hk Htrue Hnn
        go_wp2_with fail
        refine KX.out.mono ?_
        rintro e vz ⟨rfl, hb⟩
        clear cZ KX
        go_wp2_with fail
        go_meet
        exact ⟨rfl, ⟨_, rfl⟩, hb⟩
      have hk : Z.kind = 6 := by omega
      have KX := spec_CoversAll_ok gc oc _ dz1 ga oa _ dz2 Z.cartan Z.a v10 l1 l2 hA t1 t2 rr1 rr2
      rw [htr.2.2.2.2.2 hk] at KX
      have KX := Lib.hid KX
      have cZ : ∀ j, v10.cell? ⟨v7.heap.size, j, none⟩ = (#[.int .i64 6, (Value.slice (some ⟨gc, oc, none⟩) mz1 dz1), (Value.slice (some ⟨ga, oa, none⟩) mz2 dz2), (Value.slice (some ⟨gb, ob, none⟩) mz3 dz3), .slice z4 mz4 dz4, .slice z5 mz5 dz5] : Array Value)[j]? := fun j => by rw [← hk]; exact cell_of_cells Bz j
      have hbz := Lib.hid Bz
      clear hZ Bz l1 l2 l3 t1 t2 t3 rr1 rr2 rr3 wa wb hk16 htr hA hB' hcl hCrl hk Htrue Hnn
      go_wp2_with fail
      refine KX.out.mono ?_
      rintro e vz ⟨rfl, hb⟩
      clear cZ KX
      go_wp2_with fail
      go_meet
      exact ⟨rfl, ⟨_, rfl⟩, hb⟩
    case rest =>
      obtain ⟨rfl, ⟨yy, rfl⟩, hbc⟩ := hcut
      rename World => t1
      replace hZ := claimd_below hZ hbc
      replace Bz := box_keep Bz hbc
      replace hB := hB.trans (hbc.mono hB.size)
      clear hbc Htrue Hnn dck
      have KC := Lib.hid (spec_DrawEqualClaims_any a n c t1 hn (HC.out t1 hB))
      go_wp2_with fail
      refine KC.out.mono ?_
      rintro e v11 ⟨dv, ev, D, E, rfl, hD, hE, hfd, hfe, hb⟩
      replace hZ := claimd_below hZ hb
      replace Bz := box_keep Bz hb
      replace hB := hB.trans (hb.mono hB.size)
      clear KC hb
      obtain ⟨d1, md1, dd1, d2, md2, dd2, d3, md3, dd3, d4, md4, dd4, d5, md5, dd5, rfl⟩ := hD.shape6
      obtain ⟨e1, me1, de1, e2, me2, de2, e3, me3, de3, e4, me4, de4, e5, me5, de5, rfl⟩ := hE.shape6
      have Hfd := Lib.hid hfd; have Hfe := Lib.hid hfe
      clear hfd hfe
      have ba : Below v11.heap.size v11 (v11.alloc (.cells #[.int .i64 D.kind, .slice d1 md1 dd1, .slice d2 md2 dd2, .slice d3 md3 dd3, .slice d4 md4 dd4, .slice d5 md5 dd5] 29)) := (Below.refl _ _).alloc (Nat.le_refl _) _
      have Bd := heap_alloc_new v11 (.cells #[.int .i64 D.kind, .slice d1 md1 dd1, .slice d2 md2 dd2, .slice d3 md3 dd3, .slice d4 md4 dd4, .slice d5 md5 dd5] 29 (0, 0))
      obtain ⟨v12, hwd⟩ : ∃ W, W = v11.alloc (.cells #[.int .i64 D.kind, .slice d1 md1 dd1, .slice d2 md2 dd2, .slice d3 md3 dd3, .slice d4 md4 dd4, .slice d5 md5 dd5] 29) := ⟨_, rfl⟩
      rw [← hwd] at ba Bd
      have Hwd := Lib.hid hwd
      clear hwd
      replace hZ := claimd_below hZ ba
      replace Bz := box_keep Bz ba
      replace hD := hD.below ba
      replace hE := hE.below ba
      replace hB := hB.trans (ba.mono hB.size)
      clear ba
      have ba : Below v12.heap.size v12 (v12.alloc (.cells #[.int .i64 E.kind, .slice e1 me1 de1, .slice e2 me2 de2, .slice e3 me3 de3, .slice e4 me4 de4, .slice e5 me5 de5] 29)) := (Below.refl _ _).alloc (Nat.le_refl _) _
      have Be := heap_alloc_new v12 (.cells #[.int .i64 E.kind, .slice e1 me1 de1, .slice e2 me2 de2, .slice e3 me3 de3, .slice e4 me4 de4, .slice e5 me5 de5] 29 (0, 0))
      obtain ⟨v13, hwe⟩ : ∃ W, W = v12.alloc (.cells #[.int .i64 E.kind, .slice e1 me1 de1, .slice e2 me2 de2, .slice e3 me3 de3, .slice e4 me4 de4, .slice e5 me5 de5] 29) := ⟨_, rfl⟩
      rw [← hwe] at ba Be
      have Hwe := Lib.hid hwe
      clear hwe
      replace hZ := claimd_below hZ ba
      replace Bz := box_keep Bz ba
      replace hD := hD.below ba
      replace hE := hE.below ba
      replace Bd := box_keep Bd ba
      replace hB := hB.trans (ba.mono hB.size)
      clear ba
      have hde : v12.heap.size = v11.heap.size + 1 := by rw [Hwd.out]; simp
      rw [hde] at Be
      go_upto_region 29 with fail
      rw [← Hwd.out, ← Hwe.out]
      clear hde Hwd Hwe
      have KC := Lib.hid (spec_DrawClaimWord_any a n c v13 (by omega) (HC.out v13 hB))
      go_wp2_with fail
      refine KC.out.mono ?_
      rintro e v14 ⟨k, rfl, hb⟩
      replace hZ := claimd_below hZ hb
      replace Bz := box_keep Bz hb
      replace hD := hD.below hb
      replace hE := hE.below hb
      replace Bd := box_keep Bd hb
      replace Be := box_keep Be hb
      replace hB := hB.trans (hb.mono hB.size)
      clear KC hb
      have KF1 := fun (W : World) (hb : Below v14.heap.size v14 W) => impl_FormatClaim_m _ Z W (hZ.1.below hb) Hf.out Hw.out (HT.out W (hB.trans (hb.mono hB.size)))
      have KF2 := fun (W : World) (hb : Below v14.heap.size v14 W) => spec_FormatClaim_m _ Z W (hZ.1.below hb) Hf.out Hw.out
      have KE1 := fun (W : World) (hb : Below v14.heap.size v14 W) => impl_EqualClaims_m _ _ D E W (hD.below hb) (hE.below hb) Hfd.out Hfe.out
      have KE2 := fun (W : World) (hb : Below v14.heap.size v14 W) => spec_EqualClaims_m _ _ D E W (hD.below hb) (hE.below hb) Hfd.out Hfe.out
      have KW1 := fun (W : World) => impl_ClaimWord_any k W
      have KW2 := fun (W : World) => spec_ClaimWord_any k W
      have y0 : (∀ j, World.cell? (v14.drew) ⟨v7.heap.size, j, none⟩ = (#[.int .i64 Z.kind, .slice z1 mz1 dz1, .slice z2 mz2 dz2, .slice z3 mz3 dz3, .slice z4 mz4 dz4, .slice z5 mz5 dz5] : Array Value)[j]?) ∧ (∀ j, World.cell? (v14.drew) ⟨v11.heap.size, j, none⟩ = (#[.int .i64 D.kind, .slice d1 md1 dd1, .slice d2 md2 dd2, .slice d3 md3 dd3, .slice d4 md4 dd4, .slice d5 md5 dd5] : Array Value)[j]?) ∧ (∀ j, World.cell? (v14.drew) ⟨v11.heap.size + 1, j, none⟩ = (#[.int .i64 E.kind, .slice e1 me1 de1, .slice e2 me2 de2, .slice e3 me3 de3, .slice e4 me4 de4, .slice e5 me5 de5] : Array Value)[j]?) := ⟨fun j => cell_of_cells Bz j, fun j => cell_of_cells Bd j, fun j => cell_of_cells Be j⟩
      generalize (⟨(claimL Z).toArray⟩ : ByteArray) = sS at *
      generalize sameClaim D E = sb at *
      generalize claimWord k = sW at *
      have dB : (sb == sb) = true := by simp
      have KF1 := Lib.hid KF1; have KF2 := Lib.hid KF2; have KE1 := Lib.hid KE1; have KE2 := Lib.hid KE2; have KW1 := Lib.hid KW1; have KW2 := Lib.hid KW2
      have HBz := Lib.hid Bz; have HBd := Lib.hid Bd; have HBe := Lib.hid Be
      have hbd := Lib.hid (Below.drew (Below.refl v14.heap.size v14))
      clear hZ hD hE Bz Bd Be Hf Hw Hfd Hfe HC HT
      go_wp2_with fail
      go_region_held3 (fun W => (∀ j, World.cell? (W) ⟨v7.heap.size, j, none⟩ = (#[.int .i64 Z.kind, .slice z1 mz1 dz1, .slice z2 mz2 dz2, .slice z3 mz3 dz3, .slice z4 mz4 dz4, .slice z5 mz5 dz5] : Array Value)[j]?) ∧ (∀ j, World.cell? (W) ⟨v11.heap.size, j, none⟩ = (#[.int .i64 D.kind, .slice d1 md1 dd1, .slice d2 md2 dd2, .slice d3 md3 dd3, .slice d4 md4 dd4, .slice d5 md5 dd5] : Array Value)[j]?) ∧ (∀ j, World.cell? (W) ⟨v11.heap.size + 1, j, none⟩ = (#[.int .i64 E.kind, .slice e1 me1 de1, .slice e2 me2 de2, .slice e3 me3 de3, .slice e4 me4 de4, .slice e5 me5 de5] : Array Value)[j]?))
        (first | exact y0 | exact yA | exact yB | exact yC | exact yD | exact yE | exact yF)
        (first
          | (go_at_call 19; refine (KF1.out _ hbd.out).mono ?_; rintro e wA ⟨rfl, hbA⟩; have hBA := Lib.hid (hbd.out.trans (hbA.mono hbd.out.size)); have yA : (∀ j, World.cell? (wA) ⟨v7.heap.size, j, none⟩ = (#[.int .i64 Z.kind, .slice z1 mz1 dz1, .slice z2 mz2 dz2, .slice z3 mz3 dz3, .slice z4 mz4 dz4, .slice z5 mz5 dz5] : Array Value)[j]?) ∧ (∀ j, World.cell? (wA) ⟨v11.heap.size, j, none⟩ = (#[.int .i64 D.kind, .slice d1 md1 dd1, .slice d2 md2 dd2, .slice d3 md3 dd3, .slice d4 md4 dd4, .slice d5 md5 dd5] : Array Value)[j]?) ∧ (∀ j, World.cell? (wA) ⟨v11.heap.size + 1, j, none⟩ = (#[.int .i64 E.kind, .slice e1 me1 de1, .slice e2 me2 de2, .slice e3 me3 de3, .slice e4 me4 de4, .slice e5 me5 de5] : Array Value)[j]?) := ⟨fun j => cell_of_cells (box_keep HBz.out hBA.out) j, fun j => cell_of_cells (box_keep HBd.out hBA.out) j, fun j => cell_of_cells (box_keep HBe.out hBA.out) j⟩)
          | (go_at_call 20; refine (KF2.out _ hBA.out).mono ?_; rintro e wB ⟨rfl, hbB⟩; have hBB := Lib.hid (hBA.out.trans (hbB.mono hBA.out.size)); have yB : (∀ j, World.cell? (wB) ⟨v7.heap.size, j, none⟩ = (#[.int .i64 Z.kind, .slice z1 mz1 dz1, .slice z2 mz2 dz2, .slice z3 mz3 dz3, .slice z4 mz4 dz4, .slice z5 mz5 dz5] : Array Value)[j]?) ∧ (∀ j, World.cell? (wB) ⟨v11.heap.size, j, none⟩ = (#[.int .i64 D.kind, .slice d1 md1 dd1, .slice d2 md2 dd2, .slice d3 md3 dd3, .slice d4 md4 dd4, .slice d5 md5 dd5] : Array Value)[j]?) ∧ (∀ j, World.cell? (wB) ⟨v11.heap.size + 1, j, none⟩ = (#[.int .i64 E.kind, .slice e1 me1 de1, .slice e2 me2 de2, .slice e3 me3 de3, .slice e4 me4 de4, .slice e5 me5 de5] : Array Value)[j]?) := ⟨fun j => cell_of_cells (box_keep HBz.out hBB.out) j, fun j => cell_of_cells (box_keep HBd.out hBB.out) j, fun j => cell_of_cells (box_keep HBe.out hBB.out) j⟩)
          | (go_at_call 21; refine (KE1.out _ hBB.out).mono ?_; rintro e wC ⟨rfl, hbC⟩; have hBC := Lib.hid (hBB.out.trans (hbC.mono hBB.out.size)); have yC : (∀ j, World.cell? (wC) ⟨v7.heap.size, j, none⟩ = (#[.int .i64 Z.kind, .slice z1 mz1 dz1, .slice z2 mz2 dz2, .slice z3 mz3 dz3, .slice z4 mz4 dz4, .slice z5 mz5 dz5] : Array Value)[j]?) ∧ (∀ j, World.cell? (wC) ⟨v11.heap.size, j, none⟩ = (#[.int .i64 D.kind, .slice d1 md1 dd1, .slice d2 md2 dd2, .slice d3 md3 dd3, .slice d4 md4 dd4, .slice d5 md5 dd5] : Array Value)[j]?) ∧ (∀ j, World.cell? (wC) ⟨v11.heap.size + 1, j, none⟩ = (#[.int .i64 E.kind, .slice e1 me1 de1, .slice e2 me2 de2, .slice e3 me3 de3, .slice e4 me4 de4, .slice e5 me5 de5] : Array Value)[j]?) := ⟨fun j => cell_of_cells (box_keep HBz.out hBC.out) j, fun j => cell_of_cells (box_keep HBd.out hBC.out) j, fun j => cell_of_cells (box_keep HBe.out hBC.out) j⟩)
          | (go_at_call 8; refine (KE2.out _ hBC.out).mono ?_; rintro e wD ⟨rfl, hbD⟩; have hBD := Lib.hid (hBC.out.trans (hbD.mono hBC.out.size)); have yD : (∀ j, World.cell? (wD) ⟨v7.heap.size, j, none⟩ = (#[.int .i64 Z.kind, .slice z1 mz1 dz1, .slice z2 mz2 dz2, .slice z3 mz3 dz3, .slice z4 mz4 dz4, .slice z5 mz5 dz5] : Array Value)[j]?) ∧ (∀ j, World.cell? (wD) ⟨v11.heap.size, j, none⟩ = (#[.int .i64 D.kind, .slice d1 md1 dd1, .slice d2 md2 dd2, .slice d3 md3 dd3, .slice d4 md4 dd4, .slice d5 md5 dd5] : Array Value)[j]?) ∧ (∀ j, World.cell? (wD) ⟨v11.heap.size + 1, j, none⟩ = (#[.int .i64 E.kind, .slice e1 me1 de1, .slice e2 me2 de2, .slice e3 me3 de3, .slice e4 me4 de4, .slice e5 me5 de5] : Array Value)[j]?) := ⟨fun j => cell_of_cells (box_keep HBz.out hBD.out) j, fun j => cell_of_cells (box_keep HBd.out hBD.out) j, fun j => cell_of_cells (box_keep HBe.out hBD.out) j⟩)
          | (go_at_call 22; refine (KW1.out _).mono ?_; rintro e wE ⟨rfl, hsE⟩; have hBE := Lib.hid (below_still hBD.out hsE); have yE : (∀ j, World.cell? (wE) ⟨v7.heap.size, j, none⟩ = (#[.int .i64 Z.kind, .slice z1 mz1 dz1, .slice z2 mz2 dz2, .slice z3 mz3 dz3, .slice z4 mz4 dz4, .slice z5 mz5 dz5] : Array Value)[j]?) ∧ (∀ j, World.cell? (wE) ⟨v11.heap.size, j, none⟩ = (#[.int .i64 D.kind, .slice d1 md1 dd1, .slice d2 md2 dd2, .slice d3 md3 dd3, .slice d4 md4 dd4, .slice d5 md5 dd5] : Array Value)[j]?) ∧ (∀ j, World.cell? (wE) ⟨v11.heap.size + 1, j, none⟩ = (#[.int .i64 E.kind, .slice e1 me1 de1, .slice e2 me2 de2, .slice e3 me3 de3, .slice e4 me4 de4, .slice e5 me5 de5] : Array Value)[j]?) := ⟨fun j => cell_of_cells (box_keep HBz.out hBE.out) j, fun j => cell_of_cells (box_keep HBd.out hBE.out) j, fun j => cell_of_cells (box_keep HBe.out hBE.out) j⟩)
          | (go_at_call 23; refine (KW2.out _).mono ?_; rintro e wF ⟨rfl, hbF⟩; have hBF := Lib.hid (hBE.out.trans (hbF.mono hBE.out.size)); have yF : (∀ j, World.cell? (wF) ⟨v7.heap.size, j, none⟩ = (#[.int .i64 Z.kind, .slice z1 mz1 dz1, .slice z2 mz2 dz2, .slice z3 mz3 dz3, .slice z4 mz4 dz4, .slice z5 mz5 dz5] : Array Value)[j]?) ∧ (∀ j, World.cell? (wF) ⟨v11.heap.size, j, none⟩ = (#[.int .i64 D.kind, .slice d1 md1 dd1, .slice d2 md2 dd2, .slice d3 md3 dd3, .slice d4 md4 dd4, .slice d5 md5 dd5] : Array Value)[j]?) ∧ (∀ j, World.cell? (wF) ⟨v11.heap.size + 1, j, none⟩ = (#[.int .i64 E.kind, .slice e1 me1 de1, .slice e2 me2 de2, .slice e3 me3 de3, .slice e4 me4 de4, .slice e5 me5 de5] : Array Value)[j]?) := ⟨fun j => cell_of_cells (box_keep HBz.out hBF.out) j, fun j => cell_of_cells (box_keep HBd.out hBF.out) j, fun j => cell_of_cells (box_keep HBe.out hBF.out) j⟩))
      have hfin := Lib.hid (hB.trans (hBF.out.mono hB.size))
      clear y0 yA yB yC yD yE yF
      go_wp2_with fail
      go_ret
      exact ⟨rfl, hfin.out⟩
end Go.Proofs.YtkjglfafphffiaaGreatDoor
