/- The reference's l17Rank: contract. -/
import Derived.Test.YtjhoimdfmcjkbaaGreatDoorG22
namespace Go.Proofs.YtjhoimdfmcjkbaaGreatDoor
set_option maxRecDepth 100000
open Go.RowKit

theorem elim_start (row : Mx → Nat → Nat → Nat → List Int) (M : Mx) (r col : Nat) : elim row M r col (r + 1) = M := by
  apply List.ext_getElem (by rw [elim_length])
  intro i h1 h2
  have e := elim_at (row := row) (M := M) (r := r) (col := col) (k := r + 1) h2
  rw [if_neg (by omega)] at e
  simpa [List.getD, h1, h2] using e
theorem elim_next {row : Mx → Nat → Nat → Nat → List Int} {M : Mx} {r col i : Nat} (hr : r < i) (_hi : i < M.length) : (elim row M r col i).set i (row M r col i) = elim row M r col (i + 1) := by
  apply List.ext_getElem (by simp [elim_length])
  intro j h1 h2
  rw [elim_length] at h2
  have e1 := elim_at (row := row) (M := M) (r := r) (col := col) (k := i) h2
  have e2 := elim_at (row := row) (M := M) (r := r) (col := col) (k := i + 1) h2
  have g1 : (elim row M r col i)[j]'(by rw [elim_length]; exact h2) = (elim row M r col i).getD j [] := by simp [List.getD, elim_length, h2]
  have g2 : (elim row M r col (i + 1))[j]'(by rw [elim_length]; exact h2) = (elim row M r col (i + 1)).getD j [] := by simp [List.getD, elim_length, h2]
  rw [List.getElem_set, g1, g2, e1, e2]
  by_cases h : i = j
  · subst h
    rw [if_pos rfl, if_pos ⟨hr, by omega⟩]
  · rw [if_neg h]
    by_cases h3 : r < j ∧ j < i
    · rw [if_pos h3, if_pos ⟨h3.1, by omega⟩]
    · rw [if_neg h3, if_neg (fun q => h3 ⟨q.1, by omega⟩)]
theorem wrap_of_nat {x : Int} {b : Nat} (h : x.natAbs ≤ b) (hb : b ≤ 9223372036854775807) : IntKind.i64.wrap x = x := IntWalk.i64_in _ (by omega)

set_option maxHeartbeats 1000000 in
theorem spec_l17Rank_any (B g cap n : Nat) (M : Mx) (rs : List RowRef) (w : World) (hn : M.length = n) (h4 : n ≤ 4) (hsq : SqM M) (hbd : BndM (bdN 0) M) (hcon : contents rs = M) (hO : OwnRows w B g cap rs) (hB : B ≤ w.heap.size) :
    Calls Tryz.prog 65 #[(Value.slice (some ⟨g, 0, none⟩) n cap)] w fun e w' => e = .returned (.int .i64 (rankS M)) ∧ Below B w w' := by
  obtain ⟨R, hR⟩ : ∃ R, rankS M = R := ⟨_, rfl⟩
  have hgo : rankGo rowS (n - 0) 0 0 M = R := by rw [← hR]; unfold rankS; rw [hn]; rfl
  rw [hR]
  have HO := Lib.hid hO; have Hn := Lib.hid hn; have Hsq := Lib.hid hsq; have Hbd := Lib.hid hbd; have Hcon := Lib.hid hcon; have Hgo := Lib.hid hgo
  clear hO hn hsq hbd hcon hgo hR
  go_enter Tryz.func65, Tryz.ntmps65
  go_wp2
  go_loopw [3, 4] (fun rv cv wr => ∃ (r col : Nat) (M' : Mx) (rs' : List RowRef), rv = .int .i64 r ∧ cv = .int .i64 col ∧ r ≤ col ∧ col ≤ n ∧ Hid (M'.length = n) ∧ Hid (SqM M') ∧ Hid (BndM (bdN r) M') ∧ Hid (contents rs' = M') ∧ Hid (rankGo rowS (n - col) col r M' = R) ∧ OwnRows wr B g cap rs' ∧ Below B w wr) (fun _ cv _ => n - (intOf cv).toNat)
  case atStart => exact ⟨0, 0, M, rs, rfl, rfl, Nat.le_refl _, Nat.zero_le _, Hn.out, Hsq.out, Hbd.out, Hcon.out, Hgo.out, HO.out, Below.refl _ _⟩
  case round =>
    clear HO Hn Hsq Hbd Hcon Hgo
    obtain ⟨r, col, M', rs', rfl, rfl, hrc, hcn, hn', hsq', hbd', hcon', hgo', hO', hb⟩ := hrel
    by_cases hlt : col < n
    · go_wp2_with fail
      go_loopw [5] (fun pv wx => ∃ p : Nat, pv = .int .i64 p ∧ r ≤ p ∧ p ≤ n ∧ Hid (∀ i, r ≤ i → i < p → enM M' i col = 0) ∧ ∃ q, wx = wr.drewN q) (fun pv _ => n - (intOf pv).toNat)
      case atStart => exact ⟨r, rfl, Nat.le_refl _, by omega, fun i h1 h2 => by omega, (by first | exact ⟨_, rfl⟩ | exact ⟨0, rfl⟩ | exact still2 _ _ _ | exact still3 _ _ _ _)⟩
      case round =>
        obtain ⟨p, rfl, hrp, hpn, hz, q, rfl⟩ := hrel
        by_cases hp : p < n
        · obtain ⟨gi, ci, hri, q1, hoi, q2⟩ := hO'.rowAt hcon'.out hsq'.out hn'.out hp
          have q3 := q2 col hlt
          have hzp : enM M' p col ≠ 0 → pivM M' r col = p := fun hne => pivM_eq (by rw [hn'.out]; omega) hrp (by rw [hn'.out]; omega) (fun _ => hne) hz.out
          have hznext : enM M' p col = 0 → ∀ i, r ≤ i → i < p + 1 → enM M' i col = 0 := fun h0 i h1 h2 => by
            by_cases e : i = p
            · subst e; exact h0
            · exact hz.out i h1 (by omega)
          generalize enM M' p col = z at *
          have hI1 : (p : Int) < (n : Int) := by omega
          have hI2 : (col : Int) < (n : Int) := by omega
          by_cases hz0 : z = 0
          · have Hzn := Lib.hid (hznext hz0)
            clear hzp hznext q2
            subst hz0
            go_wp2_with fail
            go_roundw
            case rel => exact ⟨p + 1, by go_num, by omega, by omega, Hzn.out, (by first | exact ⟨_, rfl⟩ | exact ⟨0, rfl⟩ | exact still2 _ _ _ | exact still3 _ _ _ _)⟩
            case measure => simp [intOf]; omega
          · have Hpiv := Lib.hid (hzp hz0)
            have hzf : (z == 0) = false := by simpa using hz0
            clear hzp hznext q2
            have hO2 := hO'.drewN q
            have hb2 := below_drewN hb q
            obtain ⟨gr, cr, hrr2, r1, rown, r2⟩ := hO2.rowAt hcon'.out hsq'.out hn'.out (i := r) (by omega)
            have hlr : rs'.length = n := by rw [← hn'.out, ← hcon'.out, contents_length]
            obtain ⟨hrp3, hrp4⟩ := List.getElem?_eq_some_iff.1 hri
            obtain ⟨hrr3, hrr4⟩ := List.getElem?_eq_some_iff.1 hrr2
            have hlp : (M'.getD p []).length = n := by rw [hsq'.out p (by rw [hn'.out]; exact hp), hn'.out]
            have hlr2 : (M'.getD r []).length = n := by rw [hsq'.out r (by rw [hn'.out]; omega), hn'.out]
            have vp : rowVal rs'[p] = (Value.slice (some ⟨gi, 0, none⟩) n ci) := by rw [hrp4, ← hlp]; rfl
            have vr : rowVal rs'[r] = (Value.slice (some ⟨gr, 0, none⟩) n cr) := by rw [hrr4, ← hlr2]; rfl
            have SW := hO2.swap (a := p) (b := r) hrp3 hrr3
            have hcsw := swR_contents rs' p r hrp3 hrr3
            have hatr := swR_at rs' p r hrp3 hrr3
            rw [hrp4] at hatr
            rw [vp, vr] at SW
            rw [hcon'.out] at hcsw
            generalize swR rs' p r hrp3 hrr3 = rs2 at SW hcsw hatr
            obtain ⟨M2, hM2⟩ : ∃ M2, swapM M' p r = M2 := ⟨_, rfl⟩
            rw [hM2] at hcsw
            have hl2 : M2.length = n := by rw [← hM2, swapM_length, hn'.out]
            have hsq2 : SqM M2 := by rw [← hM2]; exact hsq'.out.swap (by rw [hn'.out]; exact hp) (by rw [hn'.out]; omega)
            have hbd2 : BndM (bdN r) M2 := by rw [← hM2]; exact hbd'.out.swap (by rw [hn'.out]; exact hp) (by rw [hn'.out]; omega)
            have hat2 : M2.getD r [] = M'.getD p [] := by rw [← hM2, swapM_at (by rw [hn'.out]; exact hp) (by rw [hn'.out]; omega), if_pos rfl]
            rw [← hat2] at hatr
            have hnext : rankGo rowS (n - (col + 1)) (col + 1) (r + 1) (elim rowS M2 r col n) = R := by
              have := hgo'.out
              rw [show n - col = (n - (col + 1)) + 1 by omega, rankGo, Hpiv.out, if_neg (by rw [hn'.out]; omega), hM2, hn'.out] at this
              exact this
            have hfr : (wr.drewN q).frozen? ⟨g, p, none⟩ = false := hO2.1.frozen p
            have hfr2 : ((wr.drewN q).setCell ⟨g, p, none⟩ (Value.slice (some ⟨gr, 0, none⟩) n cr)).frozen? ⟨g, r, none⟩ = false := (hO2.1.set p _).1.frozen r
            have hcr2 : ((wr.drewN q).setCell ⟨g, p, none⟩ (Value.slice (some ⟨gr, 0, none⟩) n cr)).cell? ⟨g, r, none⟩ = some (Value.slice (some ⟨gr, 0, none⟩) n cr) := by
              rw [(hO2.1.set p _).1.cell r (by simp; omega), List.getElem_set]
              split
              · rfl
              · rw [List.getElem_map, vr]
            have hfr3 : (wr.drewN q).frozen? ⟨g, r, none⟩ = false := hO2.1.frozen r
            have hsw := Below.grown hb2 SW.2 (Nat.le_trans hB hb2.size) (by intro j hj; cases hj; exact hO'.base)
            have HSW := Lib.hid SW.1; have Hsw := Lib.hid hsw; have Hnext := Lib.hid hnext; have Hl2 := Lib.hid hl2; have Hsq2 := Lib.hid hsq2; have Hbd2 := Lib.hid hbd2; have Hatr := Lib.hid hatr; have Hcsw := Lib.hid hcsw
            clear SW hsw hnext hl2 hsq2 hbd2 hatr hcsw hat2 hM2 hlp hlr2 vp vr hri hrr2 hrp4 hrr4 rown hO2 hb2 hoi r2
            have hpn2 : ((p : Int) == (n : Int)) = false := by simp; omega
            go_wp2_with fail
            go_loopw [7] (fun iv wr => ∃ (i : Nat) (rs3 : List RowRef), iv = .int .i64 i ∧ r + 1 ≤ i ∧ i ≤ n ∧ Hid (contents rs3 = elim rowS M2 r col i) ∧ Hid (rs3[r]? = some (gi, ci, M2.getD r [])) ∧ OwnRows wr B g cap rs3 ∧ Below B w wr) (fun iv _ => n - (intOf iv).toNat)
            case atStart => exact ⟨r + 1, rs2, by go_num, Nat.le_refl _, by omega, by rw [elim_start]; exact Hcsw.out, Hatr.out, HSW.out, Hsw.out⟩
            case round =>
              clear HSW Hsw Hcsw Hatr
              obtain ⟨i, rs3, rfl, hri2, hin, hc3, hat3, hO3, hb3⟩ := hrel
              by_cases hilt : i < n
              · have hlM3 : (elim rowS M2 r col i).length = n := by rw [elim_length, Hl2.out]
                have hsq3 : SqM (elim rowS M2 r col i) := elim_sq rowS_len Hsq2.out r col i
                obtain ⟨gx, cx, hx1, x1, -, x2⟩ := hO3.rowAt hc3.out hsq3 hlM3 hilt
                obtain ⟨gy, cy, hy1, y1, -, y2⟩ := hO3.rowAt hc3.out hsq3 hlM3 (i := r) (by omega)
                rw [hat3.out] at hy1
                obtain ⟨rfl, rfl, -⟩ : gi = gy ∧ ci = cy ∧ True := by simp at hy1; exact ⟨hy1.1, hy1.2.1, trivial⟩
                have ex : ∀ j, enM (elim rowS M2 r col i) i j = enM M2 i j := fun j => by
                  have e : ∀ N a b, enM N a b = (N.getD a []).getD b 0 := fun _ _ _ => rfl
                  rw [e, e, elim_at (by rw [Hl2.out]; exact hilt), if_neg (by omega)]
                have ey : ∀ j, enM (elim rowS M2 r col i) r j = enM M2 r j := fun j => by
                  have e : ∀ N a b, enM N a b = (N.getD a []).getD b 0 := fun _ _ _ => rfl
                  rw [e, e, elim_at (by rw [Hl2.out]; omega), if_neg (by omega)]
                simp only [ex] at x2
                simp only [ey] at y2
                have hx3 := x2 col hlt
                have hy3 := y2 col hlt
                have hne : ∀ s ∈ rs3, s.1 < wr.heap.size := fun s hs => (hO3.2.1 s hs).lt
                have hsm : ∀ j, IntKind.i64.wrap (IntKind.i64.wrap (enM M2 i j * enM M2 r col) - IntKind.i64.wrap (enM M2 i col * enM M2 r j)) = enM M2 i j * enM M2 r col - enM M2 i col * enM M2 r j := fun j => by
                  obtain ⟨t1, t2, t3⟩ := two_small (Hbd2.out i j) (Hbd2.out r col) (Hbd2.out i col) (Hbd2.out r j)
                  obtain ⟨b1, b2⟩ := bdN_le r (by omega)
                  have b3 : bdN r * bdN r ≤ 228488 * 228488 := Nat.mul_le_mul b1 b1
                  rw [wrap_of_nat t1 (by omega), wrap_of_nat t2 (by omega), wrap_of_nat t3 (by omega)]
                obtain ⟨yc, hyc⟩ : ∃ yc, enM M2 i col = yc := ⟨_, rfl⟩
                obtain ⟨zc, hzc⟩ : ∃ zc, enM M2 r col = zc := ⟨_, rfl⟩
                have erow : ∀ t, t ≤ n → ∃ l, Hid (l = (List.range t).map fun j => enM M2 i j * enM M2 r col - enM M2 i col * enM M2 r j) := fun t _ => ⟨_, rfl⟩
                rw [hyc] at hx3
                rw [hzc] at hy3
                have HX2 := Lib.hid x2; have HY2 := Lib.hid y2; have Hsm := Lib.hid hsm; have Hne := Lib.hid hne; have HO3 := Lib.hid hO3; have Hb3 := Lib.hid hb3; have Hx1 := Lib.hid hx1; have Hsq3 := Lib.hid hsq3; have HlM3 := Lib.hid hlM3; have Hyc := Lib.hid hyc; have Hzc := Lib.hid hzc; have Hf3 := Lib.hid (hO3.1.frozen i)
                have hgl := hO3.lt
                have hxl : gx < wr.heap.size := (hO3.2.1 _ (List.mem_of_getElem? hx1)).lt
                have hyl : gi < wr.heap.size := (hO3.2.1 _ (List.mem_of_getElem? hat3.out)).lt
                clear x2 y2 hsm hne hO3 hb3 hx1 hy1 hsq3 hlM3 hyc hzc erow ex ey
                generalize wr = w9 at *
                go_wp2_with fail
                go_loopw [8, 9] (fun s jv wy => ∃ t g' c' : Nat, t ≤ n ∧ jv = .int .i64 t ∧ s = (Value.slice (some ⟨g', 0, none⟩) t c') ∧ Own wy w9.heap.size g' c' ((List.range t).map fun j => enM M2 i j * enM M2 r col - enM M2 i col * enM M2 r j) ∧ Below w9.heap.size w9 wy) (fun _ jv _ => n - (intOf jv).toNat)
                case atStart => exact ⟨0, _, _, Nat.zero_le _, rfl, rfl, Own.empty (Nat.le_refl _), (Below.refl _ _).alloc (Nat.le_refl _) _⟩
                case round =>
                  obtain ⟨t, g', c', ht, rfl, rfl, ho, hby⟩ := hrel
                  by_cases htn : t < n
                  · have k1 := (hby.cell (p := ⟨g, i, none⟩) hgl).trans x1
                    have k2 := (hby.cell (p := ⟨gx, t, none⟩) hxl).trans (HX2.out t htn)
                    have k3 := (hby.cell (p := ⟨gx, col, none⟩) hxl).trans hx3
                    have k4 := (hby.cell (p := ⟨gi, col, none⟩) hyl).trans hy3
                    have k5 := (hby.cell (p := ⟨gi, t, none⟩) hyl).trans (HY2.out t htn)
                    have he := Hsm.out t
                    rw [Hyc.out, Hzc.out] at he
                    have hsucc : (List.range (t + 1)).map (fun j => enM M2 i j * enM M2 r col - enM M2 i col * enM M2 r j) = (List.range t).map (fun j => enM M2 i j * enM M2 r col - enM M2 i col * enM M2 r j) ++ [enM M2 i t * zc - yc * enM M2 r t] := by
                      rw [List.range_succ, List.map_append, ← Hyc.out, ← Hzc.out]; rfl
                    rw [← he] at hsucc
                    have Hsucc := Lib.hid hsucc
                    clear hsucc he
                    generalize enM M2 i t = x at *
                    generalize enM M2 r t = u at *
                    have hBg := ho.base
                    have ne1 : some g ≠ some g' := by intro e; cases e; omega
                    have ne2 : some gx ≠ some g' := by intro e; cases e; omega
                    have ne3 : some gi ≠ some g' := by intro e; cases e; omega
                    have hl9 : ((List.range t).map (fun j => enM M2 i j * enM M2 r col - enM M2 i col * enM M2 r j)).length = t := by simp
                    generalize hys : (List.range t).map (fun j => enM M2 i j * enM M2 r col - enM M2 i col * enM M2 r j) = ys at ho hl9
                    have Hys := Lib.hid hys; clear hys
                    have hI4 : (i : Int) < (n : Int) := by omega
                    have hI5 : (t : Int) < (n : Int) := by omega
                    go_wp2_with fail
                    go_region_held3 (fun W => W.cell? ⟨g, i, none⟩ = some (Value.slice (some ⟨gx, 0, none⟩) n cx) ∧ W.cell? ⟨gx, t, none⟩ = some (.int .i64 x) ∧ W.cell? ⟨gx, col, none⟩ = some (.int .i64 yc) ∧ W.cell? ⟨gi, col, none⟩ = some (.int .i64 zc) ∧ W.cell? ⟨gi, t, none⟩ = some (.int .i64 u))
                      (first | go_keep | exact ⟨hg3.cell (a := ⟨g, i, none⟩) k1 ne1, hg3.cell (a := ⟨gx, t, none⟩) k2 ne2, hg3.cell (a := ⟨gx, col, none⟩) k3 ne2, hg3.cell (a := ⟨gi, col, none⟩) k4 ne3, hg3.cell (a := ⟨gi, t, none⟩) k5 ne3⟩)
                      ((refine step_append_int (w := wr.drew) (by rfl) _ _ (by rfl) w9.heap.size g' c' t wr.heap.size ys (IntKind.i64.wrap (IntKind.i64.wrap (x * zc) - IntKind.i64.wrap (yc * u))) _ hl9 (by rfl) (by rfl) ho.drew (by rfl) (by rfl) (by omega) ?_; intro g3 c3 w3 ho3 hg3 hor))
                    go_wp2_with fail
                    go_roundw
                    case rel =>
                      rw [← Hys.out, ← Hsucc.out] at ho3
                      exact ⟨t + 1, g3, c3, by omega, by go_num, rfl, ho3, (Below.drew hby).grown hg3 hby.size (by intro j hj; cases hj; exact ho.base)⟩
                    case measure => simp [intOf]; omega
                  · obtain rfl : t = n := by omega
                    have HB := HO3.out.below hby
                    have hl3 : rs3.length = t := by have h := congrArg List.length hc3.out; rw [contents_length, HlM3.out] at h; exact h
                    have erow : ((List.range t).map fun j => enM M2 i j * enM M2 r col - enM M2 i col * enM M2 r j) = rowS M2 r col i := by unfold rowS; rw [Hl2.out]
                    rw [erow] at ho
                    have hlr : (rowS M2 r col i).length = t := by rw [← erow]; simp
                    have hput := HB.put (i := i) (by omega) (r := (g', c', rowS M2 r col i)) (ho.mono (Nat.le_trans hB Hb3.out.size)) (fun s hs e => by have h1 := Hne.out s hs; have h2 := ho.base; have e' : s.1 = g' := e; omega)
                    have ev : rowVal (g', c', rowS M2 r col i) = (Value.slice (some ⟨g', 0, none⟩) t c') := by rw [← hlr]; rfl
                    rw [ev] at hput
                    have hc4 : contents (rs3.set i (g', c', rowS M2 r col i)) = elim rowS M2 r col (i + 1) := by
                      rw [← elim_next (by omega) (by rw [Hl2.out]; exact hilt), ← hc3.out]
                      unfold contents
                      rw [List.map_set]
                    have hat4 : (rs3.set i (g', c', rowS M2 r col i))[r]? = some (gi, ci, M2.getD r []) := by
                      rw [List.getElem?_set_ne (by omega)]; exact hat3.out
                    have hb4 := Below.grown (Hb3.out.trans (hby.mono (Nat.le_trans hB Hb3.out.size))) hput.2 (Nat.le_trans hB (Nat.le_trans Hb3.out.size hby.size)) (by intro j hj; cases hj; exact HO3.out.base)
                    have hf4 := HB.1.frozen i
                    have HO4 := Lib.hid hput.1; have Hb4 := Lib.hid hb4; have Hc4 := Lib.hid hc4; have Hat4 := Lib.hid hat4
                    have hc9 := HB.1.cell i (by simp; omega)
                    generalize (rs3.map rowVal)[i]'(by simp; omega) = v9 at hc9
                    clear hput hb4 hc4 hat4 HB ho erow ev hlr
                    go_wp2_with fail
                    go_roundw
                    case rel => exact ⟨i + 1, _, by go_num, by omega, by omega, Hc4, Hat4, HO4.out, Hb4.out⟩
                    case measure => simp [intOf]; omega
              · obtain rfl : i = n := by omega
                go_wp2_with fail
                go_roundw
                case rel => exact ⟨r + 1, col + 1, _, rs3, by go_num, by go_num, by omega, by omega, Lib.hid (by rw [elim_length, Hl2.out]), elim_sq rowS_len Hsq2.out r col i, Hbd2.out.elimS (by rw [Hl2.out]; exact h4), hc3.out, Hnext.out, hO3, hb3⟩
                case measure => simp [intOf]; omega
        · obtain rfl : p = n := by omega
          have hpiv : pivM M' r col = M'.length := by
            rw [hn'.out]
            exact pivM_eq (by rw [hn'.out]; omega) hrp (by rw [hn'.out]; exact Nat.le_refl _) (fun h => by rw [hn'.out] at h; omega) hz.out
          have hnext : rankGo rowS (p - (col + 1)) (col + 1) r M' = R := by
            have := hgo'.out
            rw [show p - col = (p - (col + 1)) + 1 by omega, rankGo, if_pos hpiv] at this
            exact this
          have Hnext := Lib.hid hnext
          have hO2 := hO'.drewN q
          have hb2 := below_drewN hb q
          clear hpiv hnext
          go_wp2_with fail
          go_roundw
          case rel => exact ⟨r, col + 1, M', rs', rfl, by go_num, by omega, by omega, hn'.out, hsq'.out, hbd'.out, hcon'.out, Hnext.out, hO2, hb2⟩
          case measure => simp [intOf]; omega
    · obtain rfl : col = n := by omega
      have hfin := hgo'.out
      rw [Nat.sub_self] at hfin
      have hfin' : r = R := hfin
      subst hfin'
      go_wp2_with fail
      go_ret
      exact ⟨rfl, hb⟩
end Go.Proofs.YtjhoimdfmcjkbaaGreatDoor
