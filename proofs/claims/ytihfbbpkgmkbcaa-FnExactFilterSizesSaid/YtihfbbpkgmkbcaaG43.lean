/- The program's summed: the walk. -/
import Derived.Test.YtihfbbpkgmkbcaaG42
import Derived.Test.YtihfbbpkgmkbcaaG22
import Derived.Deep.RegionHeld3
namespace Go.Proofs.Ytihfbbpkgmkbcaa
set_option maxRecDepth 100000
open Go.RowKit Game Stb

structure RunSt (s : List Wt) (k : Nat) (rs : List WRef) : Prop where
  cont : contW rs = (s.take k).foldl runW []
  ct : CtW (k * 1000000000000) (contW rs)
  few : ∀ r ∈ rs, r.1.2.2.length ≤ 1048576
  len : rs.length ≤ k
theorem foldl_take_succ (s : List Wt) (k : Nat) (x : Wt) (h : s[k]? = some x) : (s.take (k + 1)).foldl runW [] = runW ((s.take k).foldl runW []) x := by
  rw [List.take_add_one, h, List.foldl_append]
  rfl
theorem RunSt.same {s : List Wt} {k : Nat} {A : List WRef} {u : WRef} {x : Wt} (h : RunSt s k (A ++ [u])) (hx : s[k]? = some x) (hb : -1000000000000 ≤ x.2 ∧ x.2 ≤ 1000000000000) (e : u.1.2.2 = x.1) : RunSt s (k + 1) (A ++ [(u.1, u.2 + x.2)]) := by
  have hc : contW (A ++ [u]) = contW A ++ [(u.1.2.2, u.2)] := by simp [contW]
  have hc2 : contW (A ++ [(u.1, u.2 + x.2)]) = runW (contW (A ++ [u])) x := by rw [hc, runW_same e]; simp [contW]
  refine ⟨by rw [foldl_take_succ s k x hx, ← h.cont, hc2], ?_, fun r hr => ?_, by have := h.len; simp at this ⊢; omega⟩
  · rw [hc2]
    have := CtW.run (K := 1000000000000) (x := x) (by omega) hb h.ct
    exact this.mono (by omega)
  · rcases List.mem_append.1 hr with hr | hr
    · exact h.few r (by simp [hr])
    · simp at hr; subst hr; exact h.few u (by simp)
theorem RunSt.push {s : List Wt} {k : Nat} {rs : List WRef} {x : Wt} (g c : Nat) (h : RunSt s k rs) (hx : s[k]? = some x) (hb : -1000000000000 ≤ x.2 ∧ x.2 ≤ 1000000000000) (hl : x.1.length ≤ 1048576)
    (hne : rs = [] ∨ ∃ A u, rs = A ++ [u] ∧ u.1.2.2 ≠ x.1) : RunSt s (k + 1) (rs ++ [((g, c, x.1), x.2)]) := by
  have hc2 : contW (rs ++ [((g, c, x.1), x.2)]) = runW (contW rs) x := by
    rcases hne with rfl | ⟨A, u, rfl, e⟩
    · rfl
    · have hc : contW (A ++ [u]) = contW A ++ [(u.1.2.2, u.2)] := by simp [contW]
      rw [hc, runW_new e]; simp [contW]
  refine ⟨by rw [foldl_take_succ s k x hx, ← h.cont, hc2], ?_, fun r hr => ?_, by have := h.len; simp; omega⟩
  · rw [hc2]
    have := CtW.run (K := 1000000000000) (x := x) (by omega) hb h.ct
    exact this.mono (by omega)
  · rcases List.mem_append.1 hr with hr | hr
    · exact h.few r hr
    · simp at hr; subst hr; exact hl

/-- the world with the box of the element that the loop is at -/
structure BoxSt (w2 : World) (bb : Nat) (W : World) (gO cO : Nat) (rs : List WRef) (gx ox nx cx : Nat) (xs : List Int) (xt : Int) : Prop where
  own : OwnW W w2.heap.size gO cO rs
  bel : Below w2.heap.size w2 W
  cel : Cells W gx ox xs
  glt : gx < W.heap.size
  bl : bb < W.heap.size
  le : w2.heap.size ≤ W.heap.size
  nO : gO ≠ bb
  b1 : W.cell? ⟨bb, 0, none⟩ = some (Value.slice (some ⟨gx, ox, none⟩) nx cx)
  b2 : W.cell? ⟨bb, 1, none⟩ = some (.int .i64 xt)
theorem BoxSt.mk' {w2 wr W : World} {gO cO : Nat} {rs : List WRef} {gx ox nx cx : Nat} {xs : List Int} {xt : Int} {n : Nat} (hb : Below w2.heap.size w2 wr) (ho : OwnW wr w2.heap.size gO cO rs) (hg : gx < wr.heap.size) (hc : Cells wr gx ox xs)
    (hW : W = (wr.alloc (.cells #[(Value.slice (some ⟨gx, ox, none⟩) nx cx), .int .i64 xt] 48)).drewN n) : BoxSt w2 wr.heap.size W gO cO rs gx ox nx cx xs xt := by
  subst hW
  have hB : Below wr.heap.size wr ((wr.alloc (.cells #[(Value.slice (some ⟨gx, ox, none⟩) nx cx), .int .i64 xt] 48)).drewN n) := below_drewN ((Below.refl _ _).alloc (Nat.le_refl _) _) n
  have h1 := World.cell?_alloc_new wr
  refine ⟨ho.below hB, hb.trans (hB.mono hb.size), hc.below hB hg, Nat.lt_of_lt_of_le hg hB.size, by simp, Nat.le_trans hb.size hB.size, by have := ho.lt; omega, ?_, ?_⟩
  · show (wr.alloc _).cell? _ = _
    simp [World.cell?_alloc_new]
  · show (wr.alloc _).cell? _ = _
    simp [World.cell?_alloc_new]

set_option maxHeartbeats 1000000 in
theorem impl_summed_ok (g o N c : Nat) (l : List Wt) (w : World) (hN : l.length = N) (hf : wFew l) (hl6 : l.length ≤ 1000000) (hct : CtW 1000000000000 l) (hg : g < w.heap.size) (hl : WRows w g o l) :
    Calls Try.prog 37 #[(Value.slice (some ⟨g, o, none⟩) N c)] w (GotCan w l) := by
  subst hN
  obtain ⟨d, hd, hr⟩ := wrows_refs hl hf
  have hf1 := hf.1
  have Hcl := Lib.hid (clone_wts g o l.length c d w hf1 hg (fun k hk => (hr k hk).1) (fun k hk => (hr k hk).2))
  have Hd := Lib.hid hd; have Hct := Lib.hid hct
  clear hl hf hd hr hct hg
  go_enter Try.func37, Try.ntmps37
  go_wp2_with fail
  refine Hcl.out.mono ?_
  rintro e w1 ⟨G, cap, rfl, hG, hb1, S1⟩
  have Hso := Lib.hid (sortStable_ok w.heap.size G cap l.length d w1 hf1 S1)
  clear Hcl S1
  go_wp2_with fail
  refine Hso.out.mono ?_
  rintro e w2 ⟨rfl, d2, S2, t2, r2⟩
  have hb2 : Below w.heap.size w w2 := hb1.grown S2.grown hb1.size (by intro j hj; cases hj; exact hG)
  have hp : ((lst l.length d2).map SRef.wt).Perm l := by
    have := (r2.perm).map SRef.wt
    rw [Hd.out] at this
    exact this
  have HP := Lib.hid hp
  have HT := Lib.hid (srt_pair t2)
  have HS := Lib.hid S2.here
  have HB2 := Lib.hid hb2
  clear Hso S2 t2 r2 hp hb1 Hd hb2
  go_wp2_with fail
  go_loopw [4, 6, 7, 15] (fun ov _ _ iv wr => ∃ (k p gO cO : Nat) (rs : List WRef), k ≤ l.length ∧ iv = .int .i64 k ∧ ov = (Value.slice (some ⟨gO, 0, none⟩) p cO) ∧ Hid (rs.length = p) ∧ p ≤ k ∧ Hid (RunSt ((lst l.length d2).map SRef.wt) k rs) ∧ OwnW wr w2.heap.size gO cO rs ∧ Below w2.heap.size w2 wr) (fun _ _ _ iv _ => l.length - (intOf iv).toNat)
  case atStart => exact ⟨0, 0, w2.heap.size, 0, [], Nat.zero_le _, rfl, rfl, rfl, Nat.le_refl _, Lib.hid ⟨rfl, by intro x hx; simp [contW] at hx, by simp, by simp⟩, OwnW.empty (Nat.le_refl _), (Below.refl _ _).alloc (Nat.le_refl _) _⟩
  case round =>
    obtain ⟨k, p, gO, cO, rs, hk, rfl, rfl, hrs, hpk, hst, ho, hb⟩ := hrel
    by_cases hlt : k < l.length
    · have S := HS.out.step hb
      obtain ⟨q1, q2⟩ := S.cells hlt
      have hrd := S.rd k hlt
      have hsk : ((lst l.length d2).map SRef.wt)[k]? = some (d2 k).wt := by simp [lst, hlt]
      have hmem : (d2 k).wt ∈ l := HP.out.mem_iff.1 (List.mem_of_getElem? hsk)
      have hbx := Hct.out _ hmem
      have Hsk := Lib.hid hsk
      clear S hsk hmem
      generalize hxx : d2 k = x at *
      obtain ⟨gx, ox, nx, cx, xs, xt⟩ := x
      obtain ⟨-, hgx, hlx, hcx, hmx, hcel⟩ := hrd
      have q1' : wr.cell? ⟨G, k * 2, none⟩ = some (Value.slice (some ⟨gx, ox, none⟩) nx cx) := q1
      have q2' : wr.cell? ⟨G, k * 2 + 1, none⟩ = some (.int .i64 xt) := q2
      have hbx' : -1000000000000 ≤ xt ∧ xt ≤ 1000000000000 := hbx
      have hgx' : gx < wr.heap.size := hgx
      have hlx' : xs.length = nx := hlx
      have hmx' : nx ≤ 1048576 := hmx
      have hcel' : Cells wr gx ox xs := hcel
      clear q1 q2 hbx hgx hlx hmx hcel hxx hcx
      have Hsk' : Hid (((lst l.length d2).map SRef.wt)[k]? = some (xs, xt)) := Hsk
      clear Hsk
      have K6 : Hid (∀ W, (∃ n, W = (wr.alloc (.cells #[(Value.slice (some ⟨gx, ox, none⟩) nx cx), .int .i64 xt] 48)).drewN n) → BoxSt w2 wr.heap.size W gO cO rs gx ox nx cx xs xt) := Lib.hid (fun W ⟨n, hW⟩ => BoxSt.mk' hb ho hgx' hcel' hW)
      obtain ⟨bb, hbb⟩ : ∃ bb, wr.heap.size = bb := ⟨_, rfl⟩
      have hkk : RunSt ((lst l.length d2).map SRef.wt) k rs := hst.out
      rw [hbb] at K6
      by_cases hp0 : p = 0
      · subst hp0
        have KPush : Hid (∀ g3 c3 : Nat, Hid (RunSt ((lst l.length d2).map SRef.wt) (k + 1) (rs ++ [((g3, c3, xs), xt)]))) := fun g3 c3 => hkk.push g3 c3 Hsk'.out hbx' (by show xs.length ≤ _; omega) (.inl (List.length_eq_zero_iff.1 (by exact hrs.out)))
        clear ho hb hcel' hgx' hst hkk
        go_wp2_with fail
        go_quiet (fail)
        go_wp2_with fail
        generalize HWB : (wr.alloc (.cells #[(Value.slice (some ⟨gx, ox, none⟩) nx cx), .int .i64 xt] 48)).drewN nq = W6 at *
        have KX := Lib.hid (K6.out W6 ⟨nq, HWB.symm⟩)
        clear HWB K6
        have b1 := KX.out.b1
        have b2 := KX.out.b2
        have B0 : Below W6.heap.size W6 ((W6.alloc (.cells #[] 3)).drew) := Below.drew ((Below.refl _ _).alloc (Nat.le_refl _) _)
        have F1 := Lib.hid (fun w1 (h : ((W6.alloc (.cells #[] 3)).drew).grownBy w1 (some W6.heap.size)) => show Below W6.heap.size W6 w1 from B0.grown h B0.size (by intro j hj; cases hj; exact Nat.le_refl _))
        have hcx0 := KX.out.cel.below B0 KX.out.glt
        have hbbl := KX.out.bl
        have l0 : ([] ++ xs : List Int).length = nx := by rw [List.nil_append]; exact hlx'
        have hneO : some bb ≠ some gO := fun e => KX.out.nO (Option.some.inj e).symm
        have HPush := Lib.hid (fun (g3 : Nat) (c3 : Nat) => KPush.out g3 c3)
        clear KPush
        go_region_held3 (fun W => W.cell? ⟨bb, 0, none⟩ = some (Value.slice (some ⟨gx, ox, none⟩) nx cx) ∧ W.cell? ⟨bb, 1, none⟩ = some (.int .i64 xt))
          (first | go_keep | exact ⟨((F1.out _ hg1).cell (p := ⟨bb, 0, none⟩) hbbl).trans b1, ((F1.out _ hg1).cell (p := ⟨bb, 1, none⟩) hbbl).trans b2⟩ | exact ⟨hg3.cell (a := ⟨bb, 0, none⟩) (((F1.out _ hg1).cell (p := ⟨bb, 0, none⟩) hbbl).trans b1) hneO, hg3.cell (a := ⟨bb, 1, none⟩) (((F1.out _ hg1).cell (p := ⟨bb, 1, none⟩) hbbl).trans b2) hneO⟩)
          (first
            | (refine step_append_ints (by rfl) _ _ (by rfl) W6.heap.size W6.heap.size 0 0 gx ox nx cx [] xs rfl hlx' (by exact (Own.empty (w := W6.drew) (Nat.le_refl _))) (by exact hcx0) (by rfl) (by rfl) (by omega) ?_; intro g1 c1 w1 ho1 hg1 hor1)
            | (refine step_append_wt (w := w1) (by rfl) _ _ (by rfl) w2.heap.size gO cO 0 w1.heap.size g1 c1 nx rs ([] ++ xs) xt _ hrs.out l0 (by rfl) (by rfl) (by exact KX.out.own.below (F1.out w1 hg1)) (by exact ho1.mono KX.out.le) (by exact fun s hs e => by have h1 := (KX.out.own.ofMem hs).lt; have h2 := ho1.base; omega) (by rfl) (by rfl) (by omega) ?_; intro g3 c3 w3 ho3 hg3 hor3))
        have hB3 := (KX.out.bel.trans ((F1.out w1 hg1).mono KX.out.bel.size)).grown hg3 (KX.out.bel.trans ((F1.out w1 hg1).mono KX.out.bel.size)).size (by intro j hj; cases hj; exact KX.out.own.base)
        rw [List.nil_append] at ho3
        have HPP := HPush.out g1 c1
        clear hg1 hor1 ho1 hg3 hor3 hcx0 B0 F1 b1 b2
        go_wp2_with fail
        go_roundw
        case rel => exact ⟨k + 1, 1, g3, c3, _, by omega, by go_num, rfl, by show _ = _; rw [List.length_append, hrs.out]; rfl, by omega, HPP, ho3, hB3⟩
        case measure => simp [intOf]; omega
      · obtain ⟨A, u, rfl⟩ : ∃ A u, rs = A ++ [u] := by
          rcases List.eq_nil_or_concat rs with h | ⟨A, u, h⟩
          · have := hrs.out; rw [h] at this; exact absurd this.symm hp0
          · exact ⟨A, u, by rw [h, List.concat_eq_append]⟩
        obtain ⟨m, hm⟩ : ∃ m, p = m + 1 := ⟨p - 1, by omega⟩
        subst hm
        have hAm : A.length = m := by have := hrs.out; simp at this; exact this
        obtain ⟨⟨gu, cu, us⟩, ut⟩ := u
        have K0 := K6.out _ ⟨0, rfl⟩
        have hcu := hst.out.few _ (by simp : ((gu, cu, us), ut) ∈ A ++ [((gu, cu, us), ut)])
        have hmu := K0.own.ofMem (by simp : ((gu, cu, us), ut) ∈ A ++ [((gu, cu, us), ut)])
        obtain ⟨c1, c2⟩ := K0.own.cells (j := m) (by simp; omega)
        have eA : (A ++ [((gu, cu, us), ut)])[m]'(by simp; omega) = ((gu, cu, us), ut) := by simp [← hAm]
        rw [eA] at c1 c2
        have KU : Hid (∀ W, (∃ n, W = (wr.alloc (.cells #[(Value.slice (some ⟨gx, ox, none⟩) nx cx), .int .i64 xt] 48)).drewN n) → Calls Try.prog 54 #[(Value.slice (some ⟨gu, 0, none⟩) us.length cu), (Value.slice (some ⟨gx, ox, none⟩) nx cx)] W (Reads W (.bool (decide (us = xs))))) :=
          Lib.hid (fun W hW => slices_Equal_any gu 0 _ cu gx ox nx cx us xs W rfl hlx' (by have := hcu; show us.length ≤ _; exact Nat.le_trans this (by decide)) (by omega) (by have := hmu.cells; exact this.still (by obtain ⟨n, rfl⟩ := hW; exact ⟨n, rfl⟩)) (K6.out W hW).cel)
        have c1 : (wr.alloc (.cells #[(Value.slice (some ⟨gx, ox, none⟩) nx cx), .int .i64 xt] 48)).cell? ⟨gO, m * 2, none⟩ = some (Value.slice (some ⟨gu, 0, none⟩) us.length cu) := c1
        have c2 : (wr.alloc (.cells #[(Value.slice (some ⟨gx, ox, none⟩) nx cx), .int .i64 xt] 48)).cell? ⟨gO, m * 2 + 1, none⟩ = some (.int .i64 ut) := c2
        by_cases hE : us = xs
        · rw [decide_eq_true hE] at KU
          have KPush : Hid (RunSt ((lst l.length d2).map SRef.wt) (k + 1) (A ++ [((gu, cu, us), ut + xt)])) := hkk.same Hsk'.out hbx' hE
          have hbu := hkk.ct (us, ut) (by simp [contW])
          have HbU : Hid (-1000000000000000000 ≤ ut ∧ ut ≤ 1000000000000000000) := by
            show _ ∧ _
            have h1 : (k : Int) * 1000000000000 ≤ 1000000000000000000 := by omega
            have h2 : -((k : Int) * 1000000000000) ≤ ut ∧ ut ≤ (k : Int) * 1000000000000 := hbu
            omega
          clear ho hb hcel' hgx' hst hkk hE K0 hmu hcu eA hbu
          go_wp2_with fail
          go_quiet ((go_at_call 54; first | with_reducible exact Calls.quiet_of (KU.out _ ⟨_, rfl⟩) | with_reducible exact Reads.quiet4 (KU.out _ ⟨_, rfl⟩)))
          go_wp2_with fail
          have c2' : ((wr.alloc (.cells #[(Value.slice (some ⟨gx, ox, none⟩) nx cx), .int .i64 xt] 48)).drewN nq).cell? ⟨gO, m * 2 + 1, none⟩ = some (.int .i64 ut) := c2
          generalize HWB : (wr.alloc (.cells #[(Value.slice (some ⟨gx, ox, none⟩) nx cx), .int .i64 xt] 48)).drewN nq = W6 at *
          have KX := Lib.hid (K6.out W6 ⟨nq, HWB.symm⟩)
          clear HWB K6 KU c1 c2
          have b2 := KX.out.b2
          have fz := KX.out.own.frozen (m * 2 + 1)
          have hbu1 := HbU.out
          have ew : IntKind.i64.wrap (ut + xt) = ut + xt := IntWalk.i64_in _ ⟨by omega, by omega⟩
          go_wp2_with fail
          go_region
          have hs3 := KX.out.own.setLast hAm (ut + xt)
          have ho3 := hs3.1
          have hg3 := hs3.2
          have hB3 := KX.out.bel.grown hg3 KX.out.bel.size (by intro j hj; cases hj; exact KX.out.own.base)
          clear hs3 hg3 b2 fz c2'
          go_wp2_with fail
          go_roundw
          case rel => exact ⟨k + 1, m + 1, gO, cO, _, by omega, by go_num, rfl, by show _ = _; rw [List.length_append, hAm]; rfl, by omega, KPush, ho3, Below.drew hB3⟩
          case measure => simp [intOf]; omega
        · rw [decide_eq_false hE] at KU
          have KPush : Hid (∀ g3 c3 : Nat, Hid (RunSt ((lst l.length d2).map SRef.wt) (k + 1) (A ++ [((gu, cu, us), ut)] ++ [((g3, c3, xs), xt)]))) := fun g3 c3 => hkk.push g3 c3 Hsk'.out hbx' (by show xs.length ≤ _; omega) (.inr ⟨A, _, rfl, hE⟩)
          clear ho hb hcel' hgx' hst hkk hE K0 hmu hcu eA
          go_wp2_with fail
          go_quiet ((go_at_call 54; first | with_reducible exact Calls.quiet_of (KU.out _ ⟨_, rfl⟩) | with_reducible exact Reads.quiet4 (KU.out _ ⟨_, rfl⟩)))
          go_wp2_with fail
          generalize hrsA : A ++ [((gu, cu, us), ut)] = rs at *
          generalize HWB : (wr.alloc (.cells #[(Value.slice (some ⟨gx, ox, none⟩) nx cx), .int .i64 xt] 48)).drewN nq = W6 at *
          have KX := Lib.hid (K6.out W6 ⟨nq, HWB.symm⟩)
          clear HWB K6 KU c1 c2
          have b1 := KX.out.b1
          have b2 := KX.out.b2
          have B0 : Below W6.heap.size W6 ((W6.alloc (.cells #[] 3)).drew) := Below.drew ((Below.refl _ _).alloc (Nat.le_refl _) _)
          have F1 := Lib.hid (fun w1 (h : ((W6.alloc (.cells #[] 3)).drew).grownBy w1 (some W6.heap.size)) => show Below W6.heap.size W6 w1 from B0.grown h B0.size (by intro j hj; cases hj; exact Nat.le_refl _))
          have hcx0 := KX.out.cel.below B0 KX.out.glt
          have hbbl := KX.out.bl
          have l0 : ([] ++ xs : List Int).length = nx := by rw [List.nil_append]; exact hlx'
          have hneO : some bb ≠ some gO := fun e => KX.out.nO (Option.some.inj e).symm
          have HPush := Lib.hid (fun (g3 : Nat) (c3 : Nat) => KPush.out g3 c3)
          clear KPush
          go_region_held3 (fun W => W.cell? ⟨bb, 0, none⟩ = some (Value.slice (some ⟨gx, ox, none⟩) nx cx) ∧ W.cell? ⟨bb, 1, none⟩ = some (.int .i64 xt))
            (first | go_keep | exact ⟨((F1.out _ hg1).cell (p := ⟨bb, 0, none⟩) hbbl).trans b1, ((F1.out _ hg1).cell (p := ⟨bb, 1, none⟩) hbbl).trans b2⟩ | exact ⟨hg3.cell (a := ⟨bb, 0, none⟩) (((F1.out _ hg1).cell (p := ⟨bb, 0, none⟩) hbbl).trans b1) hneO, hg3.cell (a := ⟨bb, 1, none⟩) (((F1.out _ hg1).cell (p := ⟨bb, 1, none⟩) hbbl).trans b2) hneO⟩)
            (first
              | (refine step_append_ints (by rfl) _ _ (by rfl) W6.heap.size W6.heap.size 0 0 gx ox nx cx [] xs rfl hlx' (by exact (Own.empty (w := W6.drew) (Nat.le_refl _))) (by exact hcx0) (by rfl) (by rfl) (by omega) ?_; intro g1 c1 w1 ho1 hg1 hor1)
              | (refine step_append_wt (w := w1) (by rfl) _ _ (by rfl) w2.heap.size gO cO (m + 1) w1.heap.size g1 c1 nx rs ([] ++ xs) xt _ hrs.out l0 (by rfl) (by rfl) (by exact KX.out.own.below (F1.out w1 hg1)) (by exact ho1.mono KX.out.le) (by exact fun s hs e => by have h1 := (KX.out.own.ofMem hs).lt; have h2 := ho1.base; omega) (by rfl) (by rfl) (by omega) ?_; intro g3 c3 w3 ho3 hg3 hor3))
          have hB3 := (KX.out.bel.trans ((F1.out w1 hg1).mono KX.out.bel.size)).grown hg3 (KX.out.bel.trans ((F1.out w1 hg1).mono KX.out.bel.size)).size (by intro j hj; cases hj; exact KX.out.own.base)
          rw [List.nil_append] at ho3
          have HPP := HPush.out g1 c1
          clear hg1 hor1 ho1 hg3 hor3 hcx0 B0 F1 b1 b2
          go_wp2_with fail
          go_roundw
          case rel => exact ⟨k + 1, m + 1 + 1, g3, c3, _, by omega, by go_num, rfl, by show _ = _; rw [List.length_append, hrs.out]; rfl, by omega, HPP, ho3, hB3⟩
          case measure => simp [intOf]; omega
    · obtain rfl : k = l.length := by omega
      obtain ⟨D, hD, hD2⟩ := ho.sst hst.out.few
      rw [hrs.out] at hD hD2
      have hcan := can_runs HP.out (by have := HT.out; simpa using this)
      have hcont := hst.out.cont
      rw [List.take_of_length_le (by simp [lst])] at hcont
      rw [← hcont] at hcan
      have HCan := Lib.hid (hcan.uniq (can_canW l))
      have HDel := Lib.hid (delete_wts w2.heap.size gO cO p D wr (by omega) hD)
      have HO := Lib.hid ho
      have HD2 := Lib.hid hD2
      clear hD hD2 hcan hcont hst ho
      go_wp2_with fail
      refine HDel.out.mono ?_
      rintro e w4 ⟨M, d4, rfl, hM, hl4, S4⟩
      rw [HD2.out] at hl4
      obtain ⟨ho4, hl5⟩ := sst_back HO.out S4 hl4
      have hB4 := hb.grown S4.grown hb.size (by intro j hj; cases hj; exact HO.out.base)
      have HF := Lib.hid (HB2.out.trans (hB4.mono HB2.out.size))
      have HO4 := Lib.hid (ho4.mono HB2.out.size)
      clear HDel S4 ho4 hB4 hl4
      go_wp2_with fail
      go_ret
      exact GotCan.mk' gO cO _ hl5 (by rw [cont_filter]; exact HCan.out) HO4.out HF.out
end Go.Proofs.Ytihfbbpkgmkbcaa
