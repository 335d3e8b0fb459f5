/- DrG -/
import Derived.Test.YtkjglfafphffiaaGreatDoorC44
namespace Go.Proofs.YtkjglfafphffiaaGreatDoor
set_option maxRecDepth 100000
open Go.RowKit Game
theorem make_short {kd : Int} {c : List (List Int)} {a b : List Int} (ha : a.length ≤ 15) : (makeC kd c a b).proof.length ≤ 200 ∧ (makeC kd c a b).a.length ≤ 15 := by
  unfold makeC
  split
  · rename_i hok
    have hw := (okM_true hok).1
    rw [Bool.and_eq_true] at hw
    have hA := wordOk_of hw.1
    have hB := wordOk_of hw.2
    refine ⟨?_, ha⟩
    show (proofC kd c a b).length ≤ 200
    unfold proofC
    split
    · cases hp : pathA c a b with
      | none => simp
      | some p => have := (pathA_len hA hp).1; simp; omega
    · split
      · split
        · have h1 := subP_len (c := c) (nfI c b) 0 (nfI c a)
          have h2 := (nw_nf hB).lets.few
          show (subP c (nfI c b) 0 (nfI c a)).length ≤ _
          omega
        · simp
      · split
        · have h1 := dropL_len (c := c) (nfI c b) (nfI c a)
          have h2 := (nw_nf hB).lets.few
          omega
        · split
          · have := witness_len c; omega
          · simp
  · exact ⟨by simp [zeroC], by simp [zeroC]⟩
theorem I64s.snoc {xs : List Int} {z : Int} (h : I64s xs) (hz : 0 ≤ z ∧ z < 4) : I64s (xs ++ [z]) := fun x hx => by
  rcases List.mem_append.1 hx with g | g
  · exact h x g
  · rw [List.mem_singleton] at g
    subst g
    exact small_64 (l := [x]) (fun y hy => by rw [List.mem_singleton] at hy; omega) x (by simp)
theorem NnOr.v4 {kd : Int} {c : List (List Int)} {v1 v2 v3 v4 v5 u : Value} (h : NnOr kd c v1 v2 v3 v4 v5) (hu : NoNil u) : NnOr kd c v1 v2 v3 u v5 := h.imp id fun ⟨a, _, b⟩ => ⟨a, fun _ _ => hu, b⟩
theorem NnOr.v2 {kd : Int} {c : List (List Int)} {v1 v2 v3 v4 v5 u : Value} (h : NnOr kd c v1 v2 v3 v4 v5) (hu : NoNil u) : NnOr kd c v1 u v3 v4 v5 := h.imp id fun ⟨⟨a1, _, a3⟩, b, d⟩ => ⟨⟨a1, hu, a3⟩, b, d⟩
theorem NnOr.v5 {kd : Int} {c : List (List Int)} {v1 v2 v3 v4 v5 u : Value} (h : NnOr kd c v1 v2 v3 v4 v5) (hu : NoNil u) : NnOr kd c v1 v2 v3 v4 u := h.imp id fun ⟨a, b, _⟩ => ⟨a, b, fun _ => hu⟩
theorem own_may {w : World} {B lo g c n : Nat} {xs : List Int} (h : Own w B g c xs) (hlo : lo ≤ B) (hn : xs.length = n) : MayI w lo w.heap.size (Value.slice (some ⟨g, 0, none⟩) n c) xs := .inr ⟨g, c, by rw [hn], h.mono hlo, h.lt⟩
theorem few_drop {rows : List (List Int)} (h : rowsFewC rows) : rowsFewC (rows.drop 1) := by
  refine ⟨by rw [List.length_drop]; have := h.1; omega, fun j hj => ?_⟩
  rw [List.length_drop] at hj
  have e2 : (rows.drop 1).getD j [] = rows.getD (1 + j) [] := by simp [List.getD, Nat.add_comm]
  rw [e2]
  exact h.2 _ (by omega)
theorem MayR.cut {W : World} {lo hi g n c : Nat} {rows : List (List Int)} (h : MayR W lo hi (Value.slice (some ⟨g, 0, none⟩) n c) rows) (h1 : 1 ≤ n) : (c ≠ 1 → RowsM W (Value.slice (some ⟨g, 1, none⟩) (n - 1) (c - 1)) (rows.drop 1)) ∧ (c = 1 → RowsM W (Value.slice (some ⟨g, 0, none⟩) (n - 1) 0) (rows.drop 1)) := by
  rcases h with ⟨e, -⟩ | ⟨g', cap, e, rs, hc, ho, -, -⟩
  · cases e
  · simp only [Value.slice.injEq, Option.some.injEq, Addr.mk.injEq] at e
    obtain ⟨⟨rfl, -⟩, hn, rfl⟩ := e
    have hl : rs.length = rows.length := by rw [← hc, contents_length]
    have hcap := ho.capLe
    have hR := ho.rows2
    rw [hc] at hR
    refine ⟨fun h2 => .inl ⟨g, 1, n - 1, c - 1, rfl, by rw [List.length_drop, hn], by omega, ho.lt, fun j hj => ?_⟩, fun h2 => ?_⟩
    · rw [List.length_drop] at hj
      have h3 := hR (1 + j) (by omega)
      have e2 : (rows.drop 1).getD j [] = rows.getD (1 + j) [] := by simp [List.getD, Nat.add_comm]
      rw [e2]
      rw [Nat.zero_add] at h3
      exact h3
    · have : rows.drop 1 = [] := List.drop_eq_nil_of_le (by omega)
      rw [this]
      exact .inl ⟨g, 0, n - 1, 0, rfl, by simp; omega, by omega, ho.lt, fun j hj => absurd hj (by simp)⟩
set_option maxHeartbeats 8000000 in
theorem spec_l34Claim_any (a : Option Addr) (n c : Nat) (w : World) (hn : n ≤ 1048577) (hc : CodeV w w.heap.size a n) : Calls Tryz.prog 46 #[.slice a n c] w (DrawnC w) := by
  have hZ := heap_alloc_new w (.cells #[.int .i64 0, .slice none 0 0, .slice none 0 0, .slice none 0 0, .slice none 0 0, .slice none 0 0] 29 (0, 0))
  have hB0 : Below w.heap.size w (w.alloc (.cells #[.int .i64 0, .slice none 0 0, .slice none 0 0, .slice none 0 0, .slice none 0 0, .slice none 0 0] 29)) := (Below.refl _ _).alloc (Nat.le_refl _) _
  have hc0 := hc.below hB0
  have h1 := Lib.hid (spec_l1New_any a n c (w.alloc (.cells #[.int .i64 0, .slice none 0 0, .slice none 0 0, .slice none 0 0, .slice none 0 0, .slice none 0 0] 29)) hn (hc0.mono hB0.size))
  have Hc := Lib.hid hc0
  have hrb0 : w.heap.size < (w.alloc (.cells #[.int .i64 0, .slice none 0 0, .slice none 0 0, .slice none 0 0, .slice none 0 0, .slice none 0 0] 29)).heap.size := by simp
  obtain ⟨w0, hw0⟩ : ∃ W, W = w.alloc (.cells #[.int .i64 0, .slice none 0 0, .slice none 0 0, .slice none 0 0, .slice none 0 0, .slice none 0 0] 29) := ⟨_, rfl⟩
  rw [← hw0] at h1 Hc hrb0 hB0
  have hZ : w0.heap[w.heap.size]? = some (.cells #[.int .i64 0, .slice none 0 0, .slice none 0 0, .slice none 0 0, .slice none 0 0, .slice none 0 0] 29 (0, 0)) := by rw [hw0]; exact hZ
  have Hw0 := Lib.hid hw0
  have Z0 := Lib.hid hZ
  clear hc hc0 hZ hw0
  go_enter Tryz.func46, Tryz.ntmps46
  go_wp2_with fail
  rw [← Hw0.out]
  clear Hw0
  refine h1.out.mono ?_
  rintro e w1 ⟨p, hp, rfl, hcur, hb1⟩
  have hc1 := Lib.hid (Hc.out.below (hb1.mono hB0.size))
  have hp1 := hcur.lt
  have hcur1 := Lib.hid hcur
  have Z1 := Lib.hid ((hb1.block _ (lt_of_block Z0.out)).trans Z0.out)
  have hB1 := hB0.trans (hb1.mono hB0.size)
  have K1 := Lib.hid (spec_l34Draw_any a n c w1 hn (hc1.out.mono hB1.size))
  clear h1 Hc hcur hb1 Z0 hB0
  go_wp2_with fail
  refine K1.out.mono ?_
  rintro e w2 ⟨kd, g, cap, g1, o1, n1, c1, g2, o2, n2, c2, R, u, v, rfl, hM, i1, i2, hl, hb2⟩
  have hcur2 := Lib.hid (hcur1.out.below' hb2 hp1)
  have hc2 := Lib.hid (hc1.out.below' hb2 (by omega))
  have Z2 := Lib.hid ((hb2.block _ (lt_of_block Z1.out)).trans Z1.out)
  have hB2 := hB1.trans (hb2.mono hB1.size)
  obtain ⟨g1', o1', n1', c1', e1, l1, q1, t1, r1⟩ := i1
  cases e1
  obtain ⟨g2', o2', n2', c2', e2, l2, q2, t2, r2⟩ := i2
  cases e2
  have hrw : rowsFew R := by
    refine rowsFew_ofC (by have := hM.few; omega) fun x hx => ?_
    obtain ⟨j, hj, rfl⟩ := List.getElem_of_mem hx
    obtain ⟨_, _, _, _, _, _, _, _, h6⟩ := hM.row j hj
    simp [List.getD, hj] at h6
    omega
  have KM := Lib.hid (spec_MakeClaim_any kd g 0 R.length cap g1 o1 n1 c1 g2 o2 n2 c2 R u v w2 rfl l1 l2 (by have := hM.few; omega) hM.rl (by omega) (by omega) q1 q2 hM.lt t1 t2 hM.rows2 r1 r2)
  have hfew := (make_small (kd := kd) (c := R) (a := u) (b := v) hrw (by omega) (by omega)).toFew
  have hwf := make_64 (kd := kd) (c := R) (a := u) (b := v)
  have hsh := make_short (kd := kd) (c := R) (a := u) (b := v) hl.1
  have hnn := fun (cv v1 v2 v3 v4 v5 : Value) => @nnor_of w 0 0 kd R u v cv v1 v2 v3 v4 v5
  clear hM l1 q1 t1 r1 l2 q2 t2 r2 hrw K1 hb2 hcur1 hc1 Z1
  generalize makeC kd R u v = X at *
  generalize okM kd R u v = O at *
  have Hfew := Lib.hid hfew; have Hwf := Lib.hid hwf; have Hsh := Lib.hid hsh; have Hnn := Lib.hid hnn
  clear hfew hwf hsh hnn
  have hrb2 : w.heap.size < w2.heap.size := by have := hB2.size; have := lt_of_block Z2.out; omega
  have hp2 : p < w2.heap.size := hcur2.out.lt
  go_wp2_with fail
  refine KM.out.mono ?_
  rintro e w3 ⟨cv, rfl, hH, hb3, hN⟩
  obtain ⟨v1, v2, v3, v4, v5, E1, E2, E3, E4, hv, hI, a1, a2, a3, a4, a5⟩ := hH
  have hor := Hnn.out cv v1 v2 v3 v4 v5 hN hv
  obtain ⟨xk, xc, xa, xb, xp, xr⟩ := X
  dsimp only at hv a1 a2 a3 a4 a5 hor
  obtain ⟨p1, d1, s1⟩ := a1.shape
  obtain ⟨p2, d2, s2⟩ := a2.shape
  obtain ⟨p3, d3, s3⟩ := a3.shape
  obtain ⟨p4, d4, s4⟩ := a4.shape
  obtain ⟨p5, d5, s5⟩ := a5.shape
  obtain ⟨m1, hm1⟩ : ∃ m, xc.length = m := ⟨_, rfl⟩
  obtain ⟨m2, hm2⟩ : ∃ m, xa.length = m := ⟨_, rfl⟩
  obtain ⟨m3, hm3⟩ : ∃ m, xb.length = m := ⟨_, rfl⟩
  obtain ⟨m4, hm4⟩ : ∃ m, xp.length = m := ⟨_, rfl⟩
  obtain ⟨m5, hm5⟩ : ∃ m, xr.length = m := ⟨_, rfl⟩
  rw [hm1] at s1; rw [hm2] at s2; rw [hm3] at s3; rw [hm4] at s4; rw [hm5] at s5
  subst s1 s2 s3 s4 s5
  subst hv
  have Hm2 := Lib.hid hm2; have Hm4 := Lib.hid hm4; have Hm5 := Lib.hid hm5
  have hx4 : m4 ≤ 200 := by have := Hsh.out.1; dsimp only at this; omega
  have hx2 : m2 ≤ 15 := by have := Hsh.out.2; dsimp only at this; omega
  have hcur3 := hcur2.out.below' hb3 hp2
  have hc3 := hc2.out.below' hb3 (by omega)
  have hB3 := hB2.trans (hb3.mono hB2.size)
  have Z3 := Lib.hid ((hb3.block _ (lt_of_block Z2.out)).trans Z2.out)
  have ba : Below w3.heap.size w3 (w3.alloc (.cells #[.int .i64 xk, .slice p1 m1 d1, .slice p2 m2 d2, .slice p3 m3 d3, .slice p4 m4 d4, .slice p5 m5 d5] 29)) := (Below.refl _ _).alloc (Nat.le_refl _) _
  have C4 := Lib.hid (heap_alloc_new w3 (.cells #[.int .i64 xk, .slice p1 m1 d1, .slice p2 m2 d2, .slice p3 m3 d3, .slice p4 m4 d4, .slice p5 m5 d5] 29 (0, 0)))
  have hB4 := hB3.trans (ba.mono hB3.size)
  have Z4 := Lib.hid ((ba.block _ (lt_of_block Z3.out)).trans Z3.out)
  have hc4 := hc3.below' ba (by have := hb3.size; omega)
  have hcur4 := hcur3.below' ba (by have := hb3.size; omega)
  have k6 := Lib.hid (spec_l1Below_any w.heap.size p a n c 6 (w3.alloc (.cells #[.int .i64 xk, .slice p1 m1 d1, .slice p2 m2 d2, .slice p3 m3 d3, .slice p4 m4 d4, .slice p5 m5 d5] 29)) (by omega) hn hc4 (by omega) hcur4)
  have B1 := Lib.hid (a1.below ba (by omega)); have B2 := Lib.hid (a2.below ba (by omega)); have B3 := Lib.hid (a3.below ba (by omega)); have B4 := Lib.hid (a4.below ba (by omega)); have B5 := Lib.hid (a5.below ba (by omega))
  have Hor := Lib.hid hor
  have HB4 := Lib.hid hB4
  have hsz4 : w3.heap.size < (w3.alloc (.cells #[.int .i64 xk, .slice p1 m1 d1, .slice p2 m2 d2, .slice p3 m3 d3, .slice p4 m4 d4, .slice p5 m5 d5] 29)).heap.size := by simp
  have hbx := hb3.size
  obtain ⟨bx, hbxe⟩ : ∃ bx, w3.heap.size = bx := ⟨_, rfl⟩
  obtain ⟨w4, hw4⟩ : ∃ W, W = w3.alloc (.cells #[.int .i64 xk, .slice p1 m1 d1, .slice p2 m2 d2, .slice p3 m3 d3, .slice p4 m4 d4, .slice p5 m5 d5] 29) := ⟨_, rfl⟩
  have Hw4 := Lib.hid hw4
  rw [← hw4] at k6 B1 B2 B3 B4 B5 HB4 hsz4 Z4
  have C4 : Hid (w4.heap[w3.heap.size]? = some (.cells #[.int .i64 xk, .slice p1 m1 d1, .slice p2 m2 d2, .slice p3 m3 d3, .slice p4 m4 d4, .slice p5 m5 d5] 29 (0, 0))) := Lib.hid (by rw [hw4]; exact C4.out)
  rw [hbxe] at hI hbx hsz4 B5 C4
  have Hbx := Lib.hid hbxe
  clear hm1 hm2 hm3 hm4 hm5 a1 a2 a3 a4 a5 hor hN hb3 ba hc3 hcur3 hc4 hcur4 hB2 hB3 hB4 Z2 Z3 KM hcur2 hc2 hw4 hbxe Hsh
  go_wp2_with fail
  rw [← Hw4.out, Hbx.out]
  clear Hw4
  refine k6.out.mono ?_
  rintro e w5 ⟨x, hx, rfl, hcur5, hc5, hO5⟩
  have hdp : bx < p ∨ p + 1 ≤ bx := .inr (by omega)
  have C5 := Lib.hid ((hO5.block bx (by omega) hdp).trans C4.out)
  have Z5 := Lib.hid ((hO5.block w.heap.size (lt_of_block Z4.out) (.inl (by omega))).trans Z4.out)
  have A1 := Lib.hid (B1.out.only hO5 (.inr (by omega))); have A2 := Lib.hid (B2.out.only hO5 (.inr (by omega))); have A3 := Lib.hid (B3.out.only hO5 (.inr (by omega))); have A4 := Lib.hid (B4.out.only hO5 (.inr (by omega))); have A5 := Lib.hid (B5.out.only hO5 (.inr (by omega)))
  have HB5 := Lib.hid (Below.only HB4.out hO5 (by omega) (Nat.le_refl _))
  have hs5 : bx < w5.heap.size := by have := hO5.size; omega
  have Hc5 := Lib.hid hc5; have Hcur5 := Lib.hid hcur5
  clear k6 B1 B2 B3 B4 B5 C4 Z4 HB4 hO5 hc5 hcur5 hdp hsz4 Hbx
  by_cases x0 : x = 0
  · have e0 : (x == 0) = true := by rw [x0]; rfl
    have kB := Lib.hid (fun (W : World) (hs : ∃ q, W = w5.drewN q) => spec_l1Below_any w.heap.size p a n c 4 W (by omega) hn (by obtain ⟨q, rfl⟩ := hs; exact Hc5.out) (by omega) (by obtain ⟨q, rfl⟩ := hs; exact Hcur5.out))
    have y4 : w5.drew.cell? ⟨bx, 4, none⟩ = some (.slice p4 m4 d4) := cell_of_cells C5.out 4
    clear hx x0
    go_wp2_with fail
    go_region_law (first
      | (go_simp; go_at_call 64; refine (kB.out w5.drew ⟨1, rfl⟩).mono ?_; rintro e wC ⟨z, hz, rfl, hcurC, hcC, hOC'⟩; have hOC : Only p (p + 1) w5 wC := ⟨hOC'.os, hOC'.tape, hOC'.output, hOC'.size, hOC'.block⟩; have CC := Lib.hid ((hOC.block bx (by omega) (.inr (by omega))).trans C5.out); have yC := cell_of_cells CC.out 4; have yCa : ∀ o, (wC.alloc o).cell? ⟨bx, 4, none⟩ = some (.slice p4 m4 d4) := fun o => (((Below.refl wC.heap.size wC).alloc (Nat.le_refl _) o).cell (p := ⟨bx, 4, none⟩) (lt_of_block CC.out)).trans yC; have A4C := Lib.hid (A4.out.only hOC (.inr (by omega))))
      | (refine step_append_may rfl _ _ rfl E3 E4 m4 _ (.slice p4 m4 d4) xp z _ Hm4.out A4C.out (by have := hOC.size; omega) (by omega) rfl rfl rfl rfl (by omega) ?_; intro gD cD wD hoD hOD horD; have CD := Lib.hid ((hOD.block bx (lt_of_block CC.out) (.inr (by omega))).trans CC.out); have yD := cell_of_cells CD.out 4; have fD := free_of_cells CD.out 4))
    all_goals (
      have hszC := hOC.size
      have hszD := hOD.size
      have hgbx : gD ≠ bx := by have := lt_of_block CC.out; omega
      have hOE : Only bx (bx + 1) wD (wD.setCell ⟨bx, 4, none⟩ (Value.slice (some ⟨gD, 0, none⟩) (m4 + 1) cD)) := only_set _ _ _ (Nat.le_refl _) (Nat.lt_succ_self _)
      have MD := Lib.hid (own_may (n := m4 + 1) hoD (Nat.le_refl _) (by rw [List.length_append, Hm4.out]; rfl))
      have ME : Hid (MayI (wD.setCell ⟨bx, 4, none⟩ (Value.slice (some ⟨gD, 0, none⟩) (m4 + 1) cD)) (w.heap.size + 1) wD.heap.size (Value.slice (some ⟨gD, 0, none⟩) (m4 + 1) cD) (xp ++ [z])) := Lib.hid (.inr ⟨gD, cD, by rw [List.length_append, Hm4.out]; rfl, ((hoD.setNe ⟨bx, 4, none⟩ _ hgbx).mono (by omega)), hoD.lt⟩)
      have Hz := Lib.hid hz
      clear y4 yC yCa yD fD kB hoD hcurC hcC hz MD A4C
      have ZW := Lib.hid ((hOE.block w.heap.size (by have := lt_of_block Z5.out; omega) (.inl (by omega))).trans ((hOD.block w.heap.size (by have := lt_of_block Z5.out; omega) (.inl (by omega))).trans ((hOC.block w.heap.size (lt_of_block Z5.out) (.inl (by omega))).trans Z5.out)))
      have CW := Lib.hid (show (wD.setCell ⟨bx, 4, none⟩ (Value.slice (some ⟨gD, 0, none⟩) (m4 + 1) cD)).heap[bx]? = some (.cells #[.int .i64 xk, .slice p1 m1 d1, .slice p2 m2 d2, .slice p3 m3 d3, (Value.slice (some ⟨gD, 0, none⟩) (m4 + 1) cD), .slice p5 m5 d5] 29 (0, 0)) from by rw [heap_setCell_same wD bx 4 _ _ (Value.slice (some ⟨gD, 0, none⟩) (m4 + 1) cD) CD.out]; rfl)
      have HBW := Lib.hid (Below.only (Below.only (Below.only HB5.out hOC (by omega) (Nat.le_refl _)) hOD (by omega) (Nat.le_refl _)) hOE (by omega) (Nat.le_refl _))
      have HNW := Lib.hid (Hor.out.v4 ⟨gD, 0, m4 + 1, cD, rfl⟩)
      have MW1 := Lib.hid ((((A1.out.only hOC (.inr (by omega))).only hOD (.inl (by omega))).only hOE (.inl (by omega))).wide (B2 := w.heap.size + 1) (by omega) (Nat.le_refl _))
      have MW2 := Lib.hid ((((A2.out.only hOC (.inr (by omega))).only hOD (.inl (by omega))).only hOE (.inl (by omega))).wide (B2 := w.heap.size + 1) (by omega) (Nat.le_refl _))
      have MW3 := Lib.hid ((((A3.out.only hOC (.inr (by omega))).only hOD (.inl (by omega))).only hOE (.inl (by omega))).wide (B2 := w.heap.size + 1) (by omega) (Nat.le_refl _))
      have MW4 := Lib.hid (ME.out)
      have MW5 := Lib.hid ((((A5.out.only hOC (.inr (by omega))).only hOD (.inr (by omega))).only hOE (.inl (by omega))).wide (B2 := w.heap.size + 1) (by omega) (Nat.le_refl _))
      have cc : ∀ j, World.cell? (wD.setCell ⟨bx, 4, none⟩ (Value.slice (some ⟨gD, 0, none⟩) (m4 + 1) cD)) ⟨bx, j, none⟩ = (#[.int .i64 xk, .slice p1 m1 d1, .slice p2 m2 d2, .slice p3 m3 d3, (Value.slice (some ⟨gD, 0, none⟩) (m4 + 1) cD), .slice p5 m5 d5] : Array Value)[j]? := fun j => cell_of_cells CW.out j
      have dd : ∀ j, World.cell? (wD.setCell ⟨bx, 4, none⟩ (Value.slice (some ⟨gD, 0, none⟩) (m4 + 1) cD)) ⟨w.heap.size, j, none⟩ = (#[.int .i64 0, .slice none 0 0, .slice none 0 0, .slice none 0 0, .slice none 0 0, .slice none 0 0] : Array Value)[j]? := fun j => cell_of_cells ZW.out j
      have fd : ∀ j, World.frozen? (wD.setCell ⟨bx, 4, none⟩ (Value.slice (some ⟨gD, 0, none⟩) (m4 + 1) cD)) ⟨w.heap.size, j, none⟩ = false := fun j => free_of_cells ZW.out j
      clear A1 A2 A3 A4 A5 Z5 C5 HB5 Hor
      go_wp2_with fail
      refine bodyPost_ret (v := .agg #[.int .i64 xk, .slice p1 m1 d1, .slice p2 m2 d2, .slice p3 m3 d3, (Value.slice (some ⟨gD, 0, none⟩) (m4 + 1) cD), .slice p5 m5 d5]) (by simp [results, Tryz.results46, go_sem, dd]) rfl ?_
      clear cc dd fd
      have hO := only_six (wD.setCell ⟨bx, 4, none⟩ (Value.slice (some ⟨gD, 0, none⟩) (m4 + 1) cD)) w.heap.size (.int .i64 xk) (.slice p1 m1 d1) (.slice p2 m2 d2) (.slice p3 m3 d3) ((Value.slice (some ⟨gD, 0, none⟩) (m4 + 1) cD)) (.slice p5 m5 d5)
      have K := fun (lo hi : Nat) (W' : World) (hhi : hi ≤ w.heap.size) (hO' : Only lo hi _ W') => fin_claim (W := W') (kd := xk) (c := xc) (a := xa) (b := xb) (ps := xp ++ [z]) (R := xr) (((MW1.out.only hO (.inr (by omega))).only hO' (.inr (by omega))).toM) (((MW2.out.only hO (.inr (by omega))).only hO' (.inr (by omega))).toM) (((MW3.out.only hO (.inr (by omega))).only hO' (.inr (by omega))).toM) (((MW4.out.only hO (.inr (by omega))).only hO' (.inr (by omega))).toM) (((MW5.out.only hO (.inr (by omega))).only hO' (.inr (by omega))).toM) HNW.out
      exact ⟨_, _, rfl, K, ⟨Hfew.out.1, Hfew.out.2.1, Hfew.out.2.2.1, (by have := Hm4.out; simp; omega), Hfew.out.2.2.2.2⟩, ⟨Hwf.out.1.snoc Hz.out, Hwf.out.2⟩, Below.only HBW.out hO (Nat.le_refl _) (Nat.le_refl _)⟩)
  have e0 : (x == 0) = false := by rw [beq_eq_false_iff_ne]; exact x0
  by_cases x1 : x = 1
  · have e1 : (x == 1) = true := by rw [x1]; rfl
    have y2 := cell_of_cells C5.out 2
    clear hx x0 x1
    go_wp2_with (at_builtin; refine wpList_append_may rfl _ _ rfl E1 E2 m2 _ (.slice p2 m2 d2) xa 0 _ Hm2.out A2.out (by omega) (by omega) rfl rfl rfl rfl (by omega) ?_)
    intro gD cD wD hoD hOD horD
    have CD := Lib.hid ((hOD.block bx (lt_of_block C5.out) (.inr (by omega))).trans C5.out)
    have yD := cell_of_cells CD.out 2
    have fD := free_of_cells CD.out 2
    have hszD := hOD.size
    have hgbx : gD ≠ bx := by omega
    have hOE : Only bx (bx + 1) wD (wD.setCell ⟨bx, 2, none⟩ (Value.slice (some ⟨gD, 0, none⟩) (m2 + 1) cD)) := only_set _ _ _ (Nat.le_refl _) (Nat.lt_succ_self _)
    have ME : Hid (MayI (wD.setCell ⟨bx, 2, none⟩ (Value.slice (some ⟨gD, 0, none⟩) (m2 + 1) cD)) (w.heap.size + 1) wD.heap.size (Value.slice (some ⟨gD, 0, none⟩) (m2 + 1) cD) (xa ++ [0])) := Lib.hid (.inr ⟨gD, cD, by rw [List.length_append, Hm2.out]; rfl, ((hoD.setNe ⟨bx, 2, none⟩ _ hgbx).mono (by omega)), hoD.lt⟩)
    clear y2 hoD
    have ZW := Lib.hid ((hOE.block w.heap.size (by have := lt_of_block Z5.out; omega) (.inl (by omega))).trans ((hOD.block w.heap.size (by have := lt_of_block Z5.out; omega) (.inl (by omega))).trans Z5.out))
    have CW := Lib.hid (show (wD.setCell ⟨bx, 2, none⟩ (Value.slice (some ⟨gD, 0, none⟩) (m2 + 1) cD)).heap[bx]? = some (.cells #[.int .i64 xk, .slice p1 m1 d1, (Value.slice (some ⟨gD, 0, none⟩) (m2 + 1) cD), .slice p3 m3 d3, .slice p4 m4 d4, .slice p5 m5 d5] 29 (0, 0)) from by rw [heap_setCell_same wD bx 2 _ _ (Value.slice (some ⟨gD, 0, none⟩) (m2 + 1) cD) CD.out]; rfl)
    have HBW := Lib.hid (Below.only (Below.only HB5.out hOD (by omega) (Nat.le_refl _)) hOE (by omega) (Nat.le_refl _))
    have HNW := Lib.hid (Hor.out.v2 ⟨gD, 0, m2 + 1, cD, rfl⟩)
    have MW1 := Lib.hid (((A1.out.only hOD (.inl (by omega))).only hOE (.inl (by omega))).wide (B2 := w.heap.size + 1) (by omega) (Nat.le_refl _))
    have MW2 := Lib.hid (ME.out)
    have MW3 := Lib.hid (((A3.out.only hOD (.inr (by omega))).only hOE (.inl (by omega))).wide (B2 := w.heap.size + 1) (by omega) (Nat.le_refl _))
    have MW4 := Lib.hid (((A4.out.only hOD (.inr (by omega))).only hOE (.inl (by omega))).wide (B2 := w.heap.size + 1) (by omega) (Nat.le_refl _))
    have MW5 := Lib.hid (((A5.out.only hOD (.inr (by omega))).only hOE (.inl (by omega))).wide (B2 := w.heap.size + 1) (by omega) (Nat.le_refl _))
    have cc : ∀ j, World.cell? (wD.setCell ⟨bx, 2, none⟩ (Value.slice (some ⟨gD, 0, none⟩) (m2 + 1) cD)) ⟨bx, j, none⟩ = (#[.int .i64 xk, .slice p1 m1 d1, (Value.slice (some ⟨gD, 0, none⟩) (m2 + 1) cD), .slice p3 m3 d3, .slice p4 m4 d4, .slice p5 m5 d5] : Array Value)[j]? := fun j => cell_of_cells CW.out j
    have dd : ∀ j, World.cell? (wD.setCell ⟨bx, 2, none⟩ (Value.slice (some ⟨gD, 0, none⟩) (m2 + 1) cD)) ⟨w.heap.size, j, none⟩ = (#[.int .i64 0, .slice none 0 0, .slice none 0 0, .slice none 0 0, .slice none 0 0, .slice none 0 0] : Array Value)[j]? := fun j => cell_of_cells ZW.out j
    have fd : ∀ j, World.frozen? (wD.setCell ⟨bx, 2, none⟩ (Value.slice (some ⟨gD, 0, none⟩) (m2 + 1) cD)) ⟨w.heap.size, j, none⟩ = false := fun j => free_of_cells ZW.out j
    clear A1 A2 A3 A4 A5 Z5 C5 HB5 Hor
    go_wp2_with fail
    refine bodyPost_ret (v := .agg #[.int .i64 xk, .slice p1 m1 d1, (Value.slice (some ⟨gD, 0, none⟩) (m2 + 1) cD), .slice p3 m3 d3, .slice p4 m4 d4, .slice p5 m5 d5]) (by simp [results, Tryz.results46, go_sem, dd]) rfl ?_
    clear cc dd fd
    have hO := only_six (wD.setCell ⟨bx, 2, none⟩ (Value.slice (some ⟨gD, 0, none⟩) (m2 + 1) cD)) w.heap.size (.int .i64 xk) (.slice p1 m1 d1) ((Value.slice (some ⟨gD, 0, none⟩) (m2 + 1) cD)) (.slice p3 m3 d3) (.slice p4 m4 d4) (.slice p5 m5 d5)
    have K := fun (lo hi : Nat) (W' : World) (hhi : hi ≤ w.heap.size) (hO' : Only lo hi _ W') => fin_claim (W := W') (kd := xk) (c := xc) (a := xa ++ [0]) (b := xb) (ps := xp) (R := xr) (((MW1.out.only hO (.inr (by omega))).only hO' (.inr (by omega))).toM) (((MW2.out.only hO (.inr (by omega))).only hO' (.inr (by omega))).toM) (((MW3.out.only hO (.inr (by omega))).only hO' (.inr (by omega))).toM) (((MW4.out.only hO (.inr (by omega))).only hO' (.inr (by omega))).toM) (((MW5.out.only hO (.inr (by omega))).only hO' (.inr (by omega))).toM) HNW.out
    exact ⟨_, _, rfl, K, ⟨Hfew.out.1, (by have := Hm2.out; simp; omega), Hfew.out.2.2.1, Hfew.out.2.2.2.1, Hfew.out.2.2.2.2⟩, ⟨Hwf.out.1, Hwf.out.2⟩, Below.only HBW.out hO (Nat.le_refl _) (Nat.le_refl _)⟩
  have e1 : (x == 1) = false := by rw [beq_eq_false_iff_ne]; exact x1
  by_cases x2 : x = 2
  · have e2 : (x == 2) = true := by rw [x2]; rfl
    clear hx x0 x1 x2
    have y5 := cell_of_cells C5.out 5
    by_cases h5 : 0 < m5
    · have h5I : (0 : Int) < (m5 : Int) := by omega
      obtain ⟨g5, ev⟩ : ∃ g5, p5 = some ⟨g5, 0, none⟩ := by
        rcases A5.out with ⟨e, hx'⟩ | ⟨g5, cap5, e, hh⟩
        · have := Hm5.out
          rw [hx'] at this
          simp at this
          omega
        · simp only [Value.slice.injEq] at e
          exact ⟨g5, e.1⟩
      subst ev
      have hcap5 : m5 ≤ d5 := by
        rcases A5.out with ⟨e, -⟩ | ⟨g5', cap5, e, rs, hcn, ho, -, -⟩
        · cases e
        · simp only [Value.slice.injEq] at e
          have := ho.capLe
          rw [← contents_length, hcn] at this
          omega
      have b1 : (1 : Int) ≤ (m5 : Int) := by omega
      have b2 : (m5 : Int) ≤ (d5 : Int) := by omega
      have b3 : (1 : Int) ≤ (d5 : Int) := by omega
      have f5 := free_of_cells C5.out 5
      by_cases hd1 : d5 = 1
      · subst hd1
        obtain rfl : m5 = 1 := by omega
        have hOE : Only bx (bx + 1) w5 (w5.setCell ⟨bx, 5, none⟩ (Value.slice (some ⟨g5, 0, none⟩) 0 0)) := only_set _ _ _ (Nat.le_refl _) (Nat.lt_succ_self _)
        have ZW := Lib.hid ((hOE.block w.heap.size (lt_of_block Z5.out) (.inl (by omega))).trans Z5.out)
        have CW := Lib.hid (show (w5.setCell ⟨bx, 5, none⟩ (Value.slice (some ⟨g5, 0, none⟩) 0 0)).heap[bx]? = some (.cells #[.int .i64 xk, .slice p1 m1 d1, .slice p2 m2 d2, .slice p3 m3 d3, .slice p4 m4 d4, (Value.slice (some ⟨g5, 0, none⟩) 0 0)] 29 (0, 0)) from by rw [heap_setCell_same w5 bx 5 _ _ (Value.slice (some ⟨g5, 0, none⟩) 0 0) C5.out]; rfl)
        have HBW := Lib.hid (Below.only HB5.out hOE (by omega) (Nat.le_refl _))
        have HNW := Lib.hid (Hor.out.v5 (u := (Value.slice (some ⟨g5, 0, none⟩) 0 0)) ⟨_, _, _, _, rfl⟩)
        have MW1 := Lib.hid ((A1.out.only hOE (.inl (by omega))).wide (B2 := w.heap.size + 1) (by omega) (Nat.le_refl _))
        have MW2 := Lib.hid ((A2.out.only hOE (.inl (by omega))).wide (B2 := w.heap.size + 1) (by omega) (Nat.le_refl _))
        have MW3 := Lib.hid ((A3.out.only hOE (.inl (by omega))).wide (B2 := w.heap.size + 1) (by omega) (Nat.le_refl _))
        have MW4 := Lib.hid ((A4.out.only hOE (.inl (by omega))).wide (B2 := w.heap.size + 1) (by omega) (Nat.le_refl _))
        have MW5 := Lib.hid ((A5.out.only hOE (.inl (by omega))).wide (B2 := w.heap.size + 1) (by omega) (Nat.le_refl _))
        have cc : ∀ j, World.cell? (w5.setCell ⟨bx, 5, none⟩ (Value.slice (some ⟨g5, 0, none⟩) 0 0)) ⟨bx, j, none⟩ = (#[.int .i64 xk, .slice p1 m1 d1, .slice p2 m2 d2, .slice p3 m3 d3, .slice p4 m4 d4, (Value.slice (some ⟨g5, 0, none⟩) 0 0)] : Array Value)[j]? := fun j => cell_of_cells CW.out j
        have dd : ∀ j, World.cell? (w5.setCell ⟨bx, 5, none⟩ (Value.slice (some ⟨g5, 0, none⟩) 0 0)) ⟨w.heap.size, j, none⟩ = (#[.int .i64 0, .slice none 0 0, .slice none 0 0, .slice none 0 0, .slice none 0 0, .slice none 0 0] : Array Value)[j]? := fun j => cell_of_cells ZW.out j
        have fd : ∀ j, World.frozen? (w5.setCell ⟨bx, 5, none⟩ (Value.slice (some ⟨g5, 0, none⟩) 0 0)) ⟨w.heap.size, j, none⟩ = false := fun j => free_of_cells ZW.out j
        clear A1 A2 A3 A4 A5 Z5 C5 HB5 Hor
        go_wp2_with fail
        refine bodyPost_ret (v := .agg #[.int .i64 xk, .slice p1 m1 d1, .slice p2 m2 d2, .slice p3 m3 d3, .slice p4 m4 d4, (Value.slice (some ⟨g5, 0, none⟩) 0 0)]) (by simp [results, Tryz.results46, go_sem, dd]) rfl ?_
        clear cc dd fd
        have hO := only_six (w5.setCell ⟨bx, 5, none⟩ (Value.slice (some ⟨g5, 0, none⟩) 0 0)) w.heap.size (.int .i64 xk) (.slice p1 m1 d1) (.slice p2 m2 d2) (.slice p3 m3 d3) (.slice p4 m4 d4) ((Value.slice (some ⟨g5, 0, none⟩) 0 0))
        have K := fun (lo hi : Nat) (W' : World) (hhi : hi ≤ w.heap.size) (hO' : Only lo hi _ W') => fin_claim (W := W') (kd := xk) (c := xc) (a := xa) (b := xb) (ps := xp) (R := (xr.drop 1)) (((MW1.out.only hO (.inr (by omega))).only hO' (.inr (by omega))).toM) (((MW2.out.only hO (.inr (by omega))).only hO' (.inr (by omega))).toM) (((MW3.out.only hO (.inr (by omega))).only hO' (.inr (by omega))).toM) (((MW4.out.only hO (.inr (by omega))).only hO' (.inr (by omega))).toM) ((((MW5.out.only hO (.inr (by omega))).only hO' (.inr (by omega))).cut (by omega)).2 rfl) HNW.out
        exact ⟨_, _, rfl, K, ⟨Hfew.out.1, Hfew.out.2.1, Hfew.out.2.2.1, Hfew.out.2.2.2.1, few_drop Hfew.out.2.2.2.2⟩, ⟨Hwf.out.1, fun r hr => Hwf.out.2 r (List.mem_of_mem_drop hr)⟩, Below.only HBW.out hO (Nat.le_refl _) (Nat.le_refl _)⟩
      · have hOE : Only bx (bx + 1) w5 (w5.setCell ⟨bx, 5, none⟩ (Value.slice (some ⟨g5, 1, none⟩) (m5 - 1) (d5 - 1))) := only_set _ _ _ (Nat.le_refl _) (Nat.lt_succ_self _)
        have ZW := Lib.hid ((hOE.block w.heap.size (lt_of_block Z5.out) (.inl (by omega))).trans Z5.out)
        have CW := Lib.hid (show (w5.setCell ⟨bx, 5, none⟩ (Value.slice (some ⟨g5, 1, none⟩) (m5 - 1) (d5 - 1))).heap[bx]? = some (.cells #[.int .i64 xk, .slice p1 m1 d1, .slice p2 m2 d2, .slice p3 m3 d3, .slice p4 m4 d4, (Value.slice (some ⟨g5, 1, none⟩) (m5 - 1) (d5 - 1))] 29 (0, 0)) from by rw [heap_setCell_same w5 bx 5 _ _ (Value.slice (some ⟨g5, 1, none⟩) (m5 - 1) (d5 - 1)) C5.out]; rfl)
        have HBW := Lib.hid (Below.only HB5.out hOE (by omega) (Nat.le_refl _))
        have HNW := Lib.hid (Hor.out.v5 (u := (Value.slice (some ⟨g5, 1, none⟩) (m5 - 1) (d5 - 1))) ⟨_, _, _, _, rfl⟩)
        have MW1 := Lib.hid ((A1.out.only hOE (.inl (by omega))).wide (B2 := w.heap.size + 1) (by omega) (Nat.le_refl _))
        have MW2 := Lib.hid ((A2.out.only hOE (.inl (by omega))).wide (B2 := w.heap.size + 1) (by omega) (Nat.le_refl _))
        have MW3 := Lib.hid ((A3.out.only hOE (.inl (by omega))).wide (B2 := w.heap.size + 1) (by omega) (Nat.le_refl _))
        have MW4 := Lib.hid ((A4.out.only hOE (.inl (by omega))).wide (B2 := w.heap.size + 1) (by omega) (Nat.le_refl _))
        have MW5 := Lib.hid ((A5.out.only hOE (.inl (by omega))).wide (B2 := w.heap.size + 1) (by omega) (Nat.le_refl _))
        have cc : ∀ j, World.cell? (w5.setCell ⟨bx, 5, none⟩ (Value.slice (some ⟨g5, 1, none⟩) (m5 - 1) (d5 - 1))) ⟨bx, j, none⟩ = (#[.int .i64 xk, .slice p1 m1 d1, .slice p2 m2 d2, .slice p3 m3 d3, .slice p4 m4 d4, (Value.slice (some ⟨g5, 1, none⟩) (m5 - 1) (d5 - 1))] : Array Value)[j]? := fun j => cell_of_cells CW.out j
        have dd : ∀ j, World.cell? (w5.setCell ⟨bx, 5, none⟩ (Value.slice (some ⟨g5, 1, none⟩) (m5 - 1) (d5 - 1))) ⟨w.heap.size, j, none⟩ = (#[.int .i64 0, .slice none 0 0, .slice none 0 0, .slice none 0 0, .slice none 0 0, .slice none 0 0] : Array Value)[j]? := fun j => cell_of_cells ZW.out j
        have fd : ∀ j, World.frozen? (w5.setCell ⟨bx, 5, none⟩ (Value.slice (some ⟨g5, 1, none⟩) (m5 - 1) (d5 - 1))) ⟨w.heap.size, j, none⟩ = false := fun j => free_of_cells ZW.out j
        clear A1 A2 A3 A4 A5 Z5 C5 HB5 Hor
        go_wp2_with fail
        refine bodyPost_ret (v := .agg #[.int .i64 xk, .slice p1 m1 d1, .slice p2 m2 d2, .slice p3 m3 d3, .slice p4 m4 d4, (Value.slice (some ⟨g5, 1, none⟩) (m5 - 1) (d5 - 1))]) (by simp [results, Tryz.results46, go_sem, dd]) rfl ?_
        clear cc dd fd
        have hO := only_six (w5.setCell ⟨bx, 5, none⟩ (Value.slice (some ⟨g5, 1, none⟩) (m5 - 1) (d5 - 1))) w.heap.size (.int .i64 xk) (.slice p1 m1 d1) (.slice p2 m2 d2) (.slice p3 m3 d3) (.slice p4 m4 d4) ((Value.slice (some ⟨g5, 1, none⟩) (m5 - 1) (d5 - 1)))
        have K := fun (lo hi : Nat) (W' : World) (hhi : hi ≤ w.heap.size) (hO' : Only lo hi _ W') => fin_claim (W := W') (kd := xk) (c := xc) (a := xa) (b := xb) (ps := xp) (R := (xr.drop 1)) (((MW1.out.only hO (.inr (by omega))).only hO' (.inr (by omega))).toM) (((MW2.out.only hO (.inr (by omega))).only hO' (.inr (by omega))).toM) (((MW3.out.only hO (.inr (by omega))).only hO' (.inr (by omega))).toM) (((MW4.out.only hO (.inr (by omega))).only hO' (.inr (by omega))).toM) ((((MW5.out.only hO (.inr (by omega))).only hO' (.inr (by omega))).cut (by omega)).1 hd1) HNW.out
        exact ⟨_, _, rfl, K, ⟨Hfew.out.1, Hfew.out.2.1, Hfew.out.2.2.1, Hfew.out.2.2.2.1, few_drop Hfew.out.2.2.2.2⟩, ⟨Hwf.out.1, fun r hr => Hwf.out.2 r (List.mem_of_mem_drop hr)⟩, Below.only HBW.out hO (Nat.le_refl _) (Nat.le_refl _)⟩
    · have h5I : ¬ (0 : Int) < (m5 : Int) := by omega
      have ZW := Lib.hid (Z5.out)
      have CW := Lib.hid (C5.out)
      have HBW := Lib.hid (HB5.out)
      have HNW := Lib.hid (Hor.out)
      have MW1 := Lib.hid ((A1.out.wide (B2 := w.heap.size + 1) (by omega) (Nat.le_refl _)))
      have MW2 := Lib.hid ((A2.out.wide (B2 := w.heap.size + 1) (by omega) (Nat.le_refl _)))
      have MW3 := Lib.hid ((A3.out.wide (B2 := w.heap.size + 1) (by omega) (Nat.le_refl _)))
      have MW4 := Lib.hid ((A4.out.wide (B2 := w.heap.size + 1) (by omega) (Nat.le_refl _)))
      have MW5 := Lib.hid ((A5.out.wide (B2 := w.heap.size + 1) (by omega) (Nat.le_refl _)))
      have cc : ∀ j, World.cell? (w5) ⟨bx, j, none⟩ = (#[.int .i64 xk, .slice p1 m1 d1, .slice p2 m2 d2, .slice p3 m3 d3, .slice p4 m4 d4, .slice p5 m5 d5] : Array Value)[j]? := fun j => cell_of_cells CW.out j
      have dd : ∀ j, World.cell? (w5) ⟨w.heap.size, j, none⟩ = (#[.int .i64 0, .slice none 0 0, .slice none 0 0, .slice none 0 0, .slice none 0 0, .slice none 0 0] : Array Value)[j]? := fun j => cell_of_cells ZW.out j
      have fd : ∀ j, World.frozen? (w5) ⟨w.heap.size, j, none⟩ = false := fun j => free_of_cells ZW.out j
      clear A1 A2 A3 A4 A5 Z5 C5 HB5 Hor
      go_wp2_with fail
      refine bodyPost_ret (v := .agg #[.int .i64 xk, .slice p1 m1 d1, .slice p2 m2 d2, .slice p3 m3 d3, .slice p4 m4 d4, .slice p5 m5 d5]) (by simp [results, Tryz.results46, go_sem, dd]) rfl ?_
      clear cc dd fd
      have hO := only_six (w5) w.heap.size (.int .i64 xk) (.slice p1 m1 d1) (.slice p2 m2 d2) (.slice p3 m3 d3) (.slice p4 m4 d4) (.slice p5 m5 d5)
      have K := fun (lo hi : Nat) (W' : World) (hhi : hi ≤ w.heap.size) (hO' : Only lo hi _ W') => fin_claim (W := W') (kd := xk) (c := xc) (a := xa) (b := xb) (ps := xp) (R := xr) (((MW1.out.only hO (.inr (by omega))).only hO' (.inr (by omega))).toM) (((MW2.out.only hO (.inr (by omega))).only hO' (.inr (by omega))).toM) (((MW3.out.only hO (.inr (by omega))).only hO' (.inr (by omega))).toM) (((MW4.out.only hO (.inr (by omega))).only hO' (.inr (by omega))).toM) (((MW5.out.only hO (.inr (by omega))).only hO' (.inr (by omega))).toM) HNW.out
      exact ⟨_, _, rfl, K, Hfew.out, Hwf.out, Below.only HBW.out hO (Nat.le_refl _) (Nat.le_refl _)⟩
  have e2 : (x == 2) = false := by rw [beq_eq_false_iff_ne]; exact x2
  clear hx x0 x1 x2
  have ZW := Lib.hid (Z5.out)
  have CW := Lib.hid (C5.out)
  have HBW := Lib.hid (HB5.out)
  have HNW := Lib.hid (Hor.out)
  have MW1 := Lib.hid ((A1.out.wide (B2 := w.heap.size + 1) (by omega) (Nat.le_refl _)))
  have MW2 := Lib.hid ((A2.out.wide (B2 := w.heap.size + 1) (by omega) (Nat.le_refl _)))
  have MW3 := Lib.hid ((A3.out.wide (B2 := w.heap.size + 1) (by omega) (Nat.le_refl _)))
  have MW4 := Lib.hid ((A4.out.wide (B2 := w.heap.size + 1) (by omega) (Nat.le_refl _)))
  have MW5 := Lib.hid ((A5.out.wide (B2 := w.heap.size + 1) (by omega) (Nat.le_refl _)))
  have cc : ∀ j, World.cell? (w5) ⟨bx, j, none⟩ = (#[.int .i64 xk, .slice p1 m1 d1, .slice p2 m2 d2, .slice p3 m3 d3, .slice p4 m4 d4, .slice p5 m5 d5] : Array Value)[j]? := fun j => cell_of_cells CW.out j
  have dd : ∀ j, World.cell? (w5) ⟨w.heap.size, j, none⟩ = (#[.int .i64 0, .slice none 0 0, .slice none 0 0, .slice none 0 0, .slice none 0 0, .slice none 0 0] : Array Value)[j]? := fun j => cell_of_cells ZW.out j
  have fd : ∀ j, World.frozen? (w5) ⟨w.heap.size, j, none⟩ = false := fun j => free_of_cells ZW.out j
  clear A1 A2 A3 A4 A5 Z5 C5 HB5 Hor
  go_wp2_with fail
  refine bodyPost_ret (v := .agg #[.int .i64 xk, .slice p1 m1 d1, .slice p2 m2 d2, .slice p3 m3 d3, .slice p4 m4 d4, .slice p5 m5 d5]) (by simp [results, Tryz.results46, go_sem, dd]) rfl ?_
  clear cc dd fd
  have hO := only_six (w5) w.heap.size (.int .i64 xk) (.slice p1 m1 d1) (.slice p2 m2 d2) (.slice p3 m3 d3) (.slice p4 m4 d4) (.slice p5 m5 d5)
  have K := fun (lo hi : Nat) (W' : World) (hhi : hi ≤ w.heap.size) (hO' : Only lo hi _ W') => fin_claim (W := W') (kd := xk) (c := xc) (a := xa) (b := xb) (ps := xp) (R := xr) (((MW1.out.only hO (.inr (by omega))).only hO' (.inr (by omega))).toM) (((MW2.out.only hO (.inr (by omega))).only hO' (.inr (by omega))).toM) (((MW3.out.only hO (.inr (by omega))).only hO' (.inr (by omega))).toM) (((MW4.out.only hO (.inr (by omega))).only hO' (.inr (by omega))).toM) (((MW5.out.only hO (.inr (by omega))).only hO' (.inr (by omega))).toM) HNW.out
  exact ⟨_, _, rfl, K, Hfew.out, Hwf.out, Below.only HBW.out hO (Nat.le_refl _) (Nat.le_refl _)⟩
end Go.Proofs.YtkjglfafphffiaaGreatDoor
