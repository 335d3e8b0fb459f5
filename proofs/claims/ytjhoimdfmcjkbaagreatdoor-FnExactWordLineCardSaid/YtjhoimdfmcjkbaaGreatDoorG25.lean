/- The program's rankOf: contract. -/
import Derived.Test.YtjhoimdfmcjkbaaGreatDoorG23
import Derived.Test.YtjhoimdfmcjkbaaGreatDoorG24
import Derived.BigRegion
namespace Go.Proofs.YtjhoimdfmcjkbaaGreatDoor
set_option maxRecDepth 100000
open Go.RowKit

theorem OwnRows.setIn {w : World} {B g cap : Nat} {rs : List RowRef} (h : OwnRows w B g cap rs) {i gx cx : Nat} {l : List Int} (e : rs[i]? = some (gx, cx, l)) (j : Nat) (v : Int) :
    OwnRows (w.setCell ⟨gx, j, none⟩ (.int .i64 v)) B g cap (rs.set i (gx, cx, l.set j v)) ∧ w.grownBy (w.setCell ⟨gx, j, none⟩ (.int .i64 v)) (some gx) := by
  obtain ⟨hi, e⟩ := List.getElem?_eq_some_iff.1 e
  have ho := h.2.1 rs[i] (List.getElem_mem hi)
  rw [e] at ho
  have hs := ho.set j v
  have hin := h.2.setRow i hi (l.set j v) (w' := w.setCell ⟨gx, j, none⟩ (.int .i64 v)) (by rw [e]; exact hs.2) (by rw [e]; exact hs.1)
  have hv := rowVal_set i hi (l.set j v) (by rw [e]; simp)
  rw [e] at hin hv
  have hne : g ≠ gx := h.1.ne ho.toV (by decide)
  exact ⟨⟨by rw [hv]; exact h.1.grown hs.2 (by intro q; cases q; exact hne rfl), hin⟩, hs.2⟩
theorem swapM_comm {M : Mx} {a b : Nat} (ha : a < M.length) (hb : b < M.length) : swapM M a b = swapM M b a := by
  apply List.ext_getElem (by rw [swapM_length, swapM_length])
  intro i h1 h2
  have e1 := swapM_at ha hb (i := i)
  have e2 := swapM_at hb ha (i := i)
  have g1 : (swapM M a b)[i] = (swapM M a b).getD i [] := by simp [List.getD, h1]
  have g2 : (swapM M b a)[i] = (swapM M b a).getD i [] := by simp [List.getD, h2]
  rw [g1, g2, e1, e2]
  by_cases x : i = b
  · by_cases y : i = a
    · subst x; subst y; rfl
    · rw [if_pos x, if_neg y, if_pos x]
  · by_cases y : i = a
    · rw [if_neg x, if_pos y, if_pos y]
    · rw [if_neg x, if_neg y, if_neg y, if_neg x]
theorem swR_fst (rs : List RowRef) (a b : Nat) (ha : a < rs.length) (hb : b < rs.length) : (swR rs a b ha hb)[a]? = some rs[b] := by
  unfold swR
  by_cases h : a = b
  · subst h; simp [ha]
  · rw [List.getElem?_set_ne (by omega)]; simp [ha]
theorem elim_skip {M : Mx} {r col i : Nat} (hi : i < M.length) (hz : enM M i col = 0) : elim rowI M r col i = elim rowI M r col (i + 1) := by
  apply List.ext_getElem (by rw [elim_length, elim_length])
  intro j h1 h2
  rw [elim_length] at h1
  have e1 := elim_at (row := rowI) (r := r) (col := col) (k := i) h1
  have e2 := elim_at (row := rowI) (r := r) (col := col) (k := i + 1) h1
  have g1 : (elim rowI M r col i)[j]'(by rw [elim_length]; exact h1) = (elim rowI M r col i).getD j [] := by simp [List.getD, elim_length, h1]
  have g2 : (elim rowI M r col (i + 1))[j]'(by rw [elim_length]; exact h1) = (elim rowI M r col (i + 1)).getD j [] := by simp [List.getD, elim_length, h1]
  rw [g1, g2, e1, e2]
  by_cases e : j = i
  · subst e
    rw [if_neg (by omega)]
    split
    · unfold rowI; rw [if_pos hz]
    · rfl
  · by_cases c : r < j ∧ j < i
    · rw [if_pos c, if_pos ⟨c.1, by omega⟩]
    · rw [if_neg c, if_neg (fun q => c ⟨q.1, by omega⟩)]
/-- a row under way: the first t numbers new -/
def partI (M : Mx) (r col i t : Nat) : List Int := (List.range M.length).map fun j => if j < t then enM M r col * enM M i j - enM M i col * enM M r j else enM M i j
theorem partI_zero {M : Mx} {r col i : Nat} (h : (M.getD i []).length = M.length) : partI M r col i 0 = M.getD i [] := by
  apply List.ext_getElem (by rw [h]; simp [partI])
  intro j h1 h2
  simp only [partI, List.getElem_map, List.getElem_range, Nat.not_lt_zero, if_false]
  unfold enM
  generalize M.getD i [] = l at *
  simp [List.getD, h2]
theorem partI_full {M : Mx} {r col i : Nat} (hz : enM M i col ≠ 0) : partI M r col i M.length = rowI M r col i := by
  unfold rowI partI
  rw [if_neg hz]
  apply List.map_congr_left
  intro j hj
  rw [if_pos (List.mem_range.1 hj)]
theorem partI_getD {M : Mx} {r col i t : Nat} (ht : t < M.length) : (partI M r col i t).getD t 0 = enM M i t := by
  unfold partI
  rw [getD_rangeM ht, if_neg (Nat.lt_irrefl t)]
theorem partI_next {M : Mx} {r col i t : Nat} (_ht : t < M.length) : (partI M r col i t).set t (enM M r col * enM M i t - enM M i col * enM M r t) = partI M r col i (t + 1) := by
  apply List.ext_getElem (by simp [partI])
  intro j h1 h2
  simp only [partI, List.length_set, List.length_map, List.length_range] at h1
  rw [List.getElem_set]
  simp only [partI, List.getElem_map, List.getElem_range]
  by_cases e : t = j
  · subst e; rw [if_pos rfl, if_pos (Nat.lt_succ_self t)]
  · rw [if_neg e]
    by_cases c : j < t
    · rw [if_pos c, if_pos (by omega)]
    · rw [if_neg c, if_neg (by omega)]
theorem partI_length (M : Mx) (r col i t : Nat) : (partI M r col i t).length = M.length := by simp [partI]

theorem OwnRows.atR {w : World} {B g cap n : Nat} {rs : List RowRef} (h : OwnRows w B g cap rs) {i gx cx : Nat} {l : List Int} (e : rs[i]? = some (gx, cx, l)) (hl : l.length = n) : w.cell? ⟨g, i, none⟩ = some (Value.slice (some ⟨gx, 0, none⟩) n cx) ∧ Own w B gx cx l := by
  obtain ⟨hi, e⟩ := List.getElem?_eq_some_iff.1 e
  have ho := h.2.1 rs[i] (List.getElem_mem hi)
  rw [e] at ho
  refine ⟨?_, ho⟩
  rw [h.1.cell i (by simpa using hi), List.getElem_map, e]
  subst hl; rfl

set_option maxHeartbeats 1000000 in
theorem impl_rankOf_any (B g cap n : Nat) (M : Mx) (rs : List RowRef) (w : World) (hn : M.length = n) (h4 : n ≤ 4) (hsq : SqM M) (hbd : BndM (bdN 0) M) (hcon : contents rs = M) (hO : OwnRows w B g cap rs) (hB : B ≤ w.heap.size) :
    Calls Tryz.prog 77 #[(Value.slice (some ⟨g, 0, none⟩) n cap)] w fun e w' => e = .returned (.int .i64 (rankI M)) ∧ Below B w w' := by
  obtain ⟨R, hR⟩ : ∃ R, rankI M = R := ⟨_, rfl⟩
  have hgo : rankGo rowI (n - 0) 0 0 M = R := by rw [← hR]; unfold rankI; rw [hn]; rfl
  rw [hR]
  have HO := Lib.hid hO; have Hn := Lib.hid hn; have Hsq := Lib.hid hsq; have Hbd := Lib.hid hbd; have Hcon := Lib.hid hcon; have Hgo := Lib.hid hgo
  clear hO hn hsq hbd hcon hgo hR
  go_enter Tryz.func77, Tryz.ntmps77
  go_wp2
  go_loopw [3, 4] (fun rv cv wr => ∃ (r col : Nat) (M' : Mx) (rs' : List RowRef), rv = .int .i64 r ∧ cv = .int .i64 col ∧ r ≤ col ∧ col ≤ n ∧ Hid (M'.length = n) ∧ Hid (SqM M') ∧ Hid (BndM (bdN r) M') ∧ Hid (contents rs' = M') ∧ Hid (rankGo rowI (n - col) col r M' = R) ∧ OwnRows wr B g cap rs' ∧ Below B w wr) (fun _ cv _ => n - (intOf cv).toNat)
  case atStart => exact ⟨0, 0, M, rs, rfl, rfl, Nat.le_refl _, Nat.zero_le _, Hn.out, Hsq.out, Hbd.out, Hcon.out, Hgo.out, HO.out, Below.refl _ _⟩
  case round =>
    clear HO Hn Hsq Hbd Hcon Hgo
    obtain ⟨r, col, M', rs', rfl, rfl, hrc, hcn, hn', hsq', hbd', hcon', hgo', hO', hb⟩ := hrel
    by_cases hlt : col < n
    · go_wp2_with fail
      go_loopw [5] (fun pv wx => ∃ p : Nat, pv = .int .i64 p ∧ r ≤ p ∧ p ≤ n ∧ Hid (∀ i, r ≤ i → i < p → enM M' i col = 0) ∧ ∃ q, wx = wr.drewN q) (fun pv _ => n - (intOf pv).toNat)
      case atStart => exact ⟨r, rfl, Nat.le_refl _, by omega, fun i h1 h2 => by omega, (by first | exact ⟨_, rfl⟩ | exact ⟨0, rfl⟩ | exact still2 _ _ _ | exact still3 _ _ _ _)⟩
      case round =>
        obtain ⟨p, rfl, hrp, hpn, hz, q, rfl⟩ := hrel
        by_cases hp : p < n
        · obtain ⟨gi, ci, hri, q1, hoi, q2⟩ := hO'.rowAt hcon'.out hsq'.out hn'.out hp
          have q3 := q2 col hlt
          have hzp : enM M' p col ≠ 0 → pivM M' r col = p := fun hne => pivM_eq (by rw [hn'.out]; omega) hrp (by rw [hn'.out]; omega) (fun _ => hne) hz.out
          have hznext : enM M' p col = 0 → ∀ i, r ≤ i → i < p + 1 → enM M' i col = 0 := fun h0 i h1 h2 => by
            by_cases e : i = p
            · subst e; exact h0
            · exact hz.out i h1 (by omega)
          generalize enM M' p col = z at *
          have hI1 : (p : Int) < (n : Int) := by omega
          have hI2 : (col : Int) < (n : Int) := by omega
          by_cases hz0 : z = 0
          · have Hzn := Lib.hid (hznext hz0)
            clear hzp hznext q2
            subst hz0
            go_wp2_with fail
            go_roundw
            case rel => exact ⟨p + 1, by go_num, by omega, by omega, Hzn.out, (by first | exact ⟨_, rfl⟩ | exact ⟨0, rfl⟩ | exact still2 _ _ _ | exact still3 _ _ _ _)⟩
            case measure => simp [intOf]; omega
          · have Hpiv := Lib.hid (hzp hz0)
            have hzf : (z == 0) = false := by simpa using hz0
            clear hzp hznext q2
            have hO2 := hO'.drewN (q + 1)
            have hb2 := below_drewN hb (q + 1)
            obtain ⟨gr, cr, hrr2, r1, rown, r2⟩ := hO'.rowAt hcon'.out hsq'.out hn'.out (i := r) (by omega)
            have hlr : rs'.length = n := by rw [← hn'.out, ← hcon'.out, contents_length]
            obtain ⟨hrp3, hrp4⟩ := List.getElem?_eq_some_iff.1 hri
            obtain ⟨hrr3, hrr4⟩ := List.getElem?_eq_some_iff.1 hrr2
            have hlp : (M'.getD p []).length = n := by rw [hsq'.out p (by rw [hn'.out]; exact hp), hn'.out]
            have hlr2 : (M'.getD r []).length = n := by rw [hsq'.out r (by rw [hn'.out]; omega), hn'.out]
            have vp : rowVal rs'[p] = (Value.slice (some ⟨gi, 0, none⟩) n ci) := by rw [hrp4, ← hlp]; rfl
            have vr : rowVal rs'[r] = (Value.slice (some ⟨gr, 0, none⟩) n cr) := by rw [hrr4, ← hlr2]; rfl
            have SW := hO2.swap (a := r) (b := p) hrr3 hrp3
            have hcsw := swR_contents rs' r p hrr3 hrp3
            have hatr := swR_fst rs' r p hrr3 hrp3
            rw [hrp4] at hatr
            rw [vp, vr] at SW
            rw [hcon'.out, swapM_comm (by rw [hn'.out]; omega) (by rw [hn'.out]; exact hp)] at hcsw
            generalize swR rs' r p hrr3 hrp3 = rs2 at SW hcsw hatr
            obtain ⟨M2, hM2⟩ : ∃ M2, swapM M' p r = M2 := ⟨_, rfl⟩
            rw [hM2] at hcsw
            have hl2 : M2.length = n := by rw [← hM2, swapM_length, hn'.out]
            have hsq2 : SqM M2 := by rw [← hM2]; exact hsq'.out.swap (by rw [hn'.out]; exact hp) (by rw [hn'.out]; omega)
            have hbd2 : BndM (bdN r) M2 := by rw [← hM2]; exact hbd'.out.swap (by rw [hn'.out]; exact hp) (by rw [hn'.out]; omega)
            have hat2 : M2.getD r [] = M'.getD p [] := by rw [← hM2, swapM_at (by rw [hn'.out]; exact hp) (by rw [hn'.out]; omega), if_pos rfl]
            rw [← hat2] at hatr
            have hnext : rankGo rowI (n - (col + 1)) (col + 1) (r + 1) (elim rowI M2 r col n) = R := by
              have := hgo'.out
              rw [show n - col = (n - (col + 1)) + 1 by omega, rankGo, Hpiv.out, if_neg (by rw [hn'.out]; omega), hM2, hn'.out] at this
              exact this
            have hfr : wr.frozen? ⟨g, r, none⟩ = false := hO2.1.frozen r
            have hfr2 : ((wr.drewN (q + 1)).setCell ⟨g, r, none⟩ (Value.slice (some ⟨gi, 0, none⟩) n ci)).frozen? ⟨g, p, none⟩ = false := (hO2.1.set r _).1.frozen p
            have hfr3 : wr.frozen? ⟨g, p, none⟩ = false := hO2.1.frozen p
            have hcr2 : ((wr.drewN (q + 1)).setCell ⟨g, r, none⟩ (Value.slice (some ⟨gi, 0, none⟩) n ci)).cell? ⟨g, p, none⟩ = some (Value.slice (some ⟨gi, 0, none⟩) n ci) := by
              rw [(hO2.1.set r _).1.cell p (by simp; omega), List.getElem_set]
              split
              · rfl
              · rw [List.getElem_map, vp]
            have hsw := Below.grown hb2 SW.2 (Nat.le_trans hB hb2.size) (by intro j hj; cases hj; exact hO'.base)
            have HSW := Lib.hid SW.1; have Hsw := Lib.hid hsw; have Hnext := Lib.hid hnext; have Hl2 := Lib.hid hl2; have Hsq2 := Lib.hid hsq2; have Hbd2 := Lib.hid hbd2; have Hatr := Lib.hid hatr; have Hcsw := Lib.hid hcsw
            clear SW hsw hnext hl2 hsq2 hbd2 hatr hcsw hat2 hM2 hlp hlr2 vp vr hri hrr2 hrp4 hrr4 rown hO2 hb2 hoi r2
            have hpn2 : ((p : Int) == (n : Int)) = false := by simp; omega
            go_wp2_with fail
            go_region
            go_wp2_with fail
            go_loopw [6] (fun iv wr => ∃ (i : Nat) (rs3 : List RowRef), iv = .int .i64 i ∧ r + 1 ≤ i ∧ i ≤ n ∧ Hid (contents rs3 = elim rowI M2 r col i) ∧ Hid (rs3[r]? = some (gi, ci, M2.getD r [])) ∧ OwnRows wr B g cap rs3 ∧ Below B w wr) (fun iv _ => n - (intOf iv).toNat)
            case atStart => exact ⟨r + 1, rs2, by go_num, Nat.le_refl _, by omega, by rw [elim_start]; exact Hcsw.out, Hatr.out, HSW.out, Hsw.out⟩
            case round =>
              clear HSW Hsw Hcsw Hatr
              obtain ⟨i, rs3, rfl, hri2, hin, hc3, hat3, hO3, hb3⟩ := hrel
              by_cases hilt : i < n
              · have hlM3 : (elim rowI M2 r col i).length = n := by rw [elim_length, Hl2.out]
                have hsq3 : SqM (elim rowI M2 r col i) := elim_sq rowI_len Hsq2.out r col i
                obtain ⟨gx, cx, hx1, x1, -, x2⟩ := hO3.rowAt hc3.out hsq3 hlM3 hilt
                obtain ⟨gy, cy, hy1, y1, -, y2⟩ := hO3.rowAt hc3.out hsq3 hlM3 (i := r) (by omega)
                rw [hat3.out] at hy1
                obtain ⟨rfl, rfl, -⟩ : gi = gy ∧ ci = cy ∧ True := by simp at hy1; exact ⟨hy1.1, hy1.2.1, trivial⟩
                have ex : ∀ j, enM (elim rowI M2 r col i) i j = enM M2 i j := fun j => by
                  have e : ∀ N a b, enM N a b = (N.getD a []).getD b 0 := fun _ _ _ => rfl
                  rw [e, e, elim_at (by rw [Hl2.out]; exact hilt), if_neg (by omega)]
                have ey : ∀ j, enM (elim rowI M2 r col i) r j = enM M2 r j := fun j => by
                  have e : ∀ N a b, enM N a b = (N.getD a []).getD b 0 := fun _ _ _ => rfl
                  rw [e, e, elim_at (by rw [Hl2.out]; omega), if_neg (by omega)]
                simp only [ex] at x2
                simp only [ey] at y2
                have hx3 := x2 col hlt
                have hy3 := y2 col hlt
                have hsm : ∀ j, IntKind.i64.wrap (IntKind.i64.wrap (enM M2 r col * enM M2 i j) - IntKind.i64.wrap (enM M2 i col * enM M2 r j)) = enM M2 r col * enM M2 i j - enM M2 i col * enM M2 r j := fun j => by
                  obtain ⟨t1, t2, t3⟩ := two_small (Hbd2.out r col) (Hbd2.out i j) (Hbd2.out i col) (Hbd2.out r j)
                  obtain ⟨b1, b2⟩ := bdN_le r (by omega)
                  have b3 : bdN r * bdN r ≤ 228488 * 228488 := Nat.mul_le_mul b1 b1
                  rw [wrap_of_nat t1 (by omega), wrap_of_nat t2 (by omega), wrap_of_nat t3 (by omega)]
                have erow0 : (elim rowI M2 r col i).getD i [] = M2.getD i [] := by rw [elim_at (by rw [Hl2.out]; exact hilt), if_neg (by omega)]
                rw [erow0] at hx1
                obtain ⟨yc, hyc⟩ : ∃ yc, enM M2 i col = yc := ⟨_, rfl⟩
                obtain ⟨zc, hzc⟩ : ∃ zc, enM M2 r col = zc := ⟨_, rfl⟩
                rw [hyc] at hx3
                rw [hzc] at hy3
                have HX1 := Lib.hid hx1; have Hsm := Lib.hid hsm; have HO3 := Lib.hid hO3; have Hb3 := Lib.hid hb3; have Hyc := Lib.hid hyc; have Hzc := Lib.hid hzc; have HlM3 := Lib.hid hlM3
                clear x2 y2 hsm hO3 hb3 hx1 hy1 hsq3 hlM3 hyc hzc ex ey erow0
                have hI4 : (i : Int) < (n : Int) := by omega
                have hI5 : (r : Int) < (n : Int) := by omega
                go_wp2_with fail
                go_quiet (fail)
                by_cases hyz : yc = 0
                · subst hyz
                  go_wp2_with fail
                  go_roundw
                  case rel => exact ⟨i + 1, rs3, by go_num, by omega, by omega, by rw [← elim_skip (by rw [Hl2.out]; exact hilt) Hyc.out]; exact hc3, hat3, HO3.out.drewN _, below_drewN Hb3.out _⟩
                  case measure => simp [intOf]; omega
                · have hyf : (yc == 0) = false := by simpa using hyz
                  go_wp2_with fail
                  have hlr : (M2.getD r []).length = n := by rw [Hsq2.out r (by rw [Hl2.out]; omega), Hl2.out]
                  have hli : (M2.getD i []).length = M2.length := Hsq2.out i (by rw [Hl2.out]; exact hilt)
                  have hi3 : i < rs3.length := by have h := congrArg List.length hc3.out; rw [contents_length, HlM3.out] at h; omega
                  go_loopw [86, 9] (fun jv _ wr => ∃ t : Nat, t ≤ n ∧ jv = .int .i64 t ∧ OwnRows wr B g cap (rs3.set i (gx, cx, partI M2 r col i t)) ∧ Below B w wr) (fun jv _ _ => n - (intOf jv).toNat)
                  case atStart =>
                    have e : rs3.set i (gx, cx, partI M2 r col i 0) = rs3 := by
                      rw [partI_zero hli]
                      obtain ⟨q1, q2⟩ := List.getElem?_eq_some_iff.1 HX1.out
                      rw [← q2, List.set_getElem_self]
                    exact ⟨0, Nat.zero_le _, rfl, by rw [e]; exact HO3.out.drewN _, below_drewN Hb3.out _⟩
                  case round =>
                    clear HO3 Hb3
                    obtain ⟨t, ht, rfl, hO4, hb4⟩ := hrel
                    have eI : (rs3.set i (gx, cx, partI M2 r col i t))[i]? = some (gx, cx, partI M2 r col i t) := by simp [hi3]
                    have eR : (rs3.set i (gx, cx, partI M2 r col i t))[r]? = some (gi, ci, M2.getD r []) := by rw [List.getElem?_set_ne (by omega)]; exact hat3.out
                    by_cases htn : t < n
                    · obtain ⟨k1, o1⟩ := hO4.atR eI (by rw [partI_length, Hl2.out])
                      obtain ⟨k2, o2⟩ := hO4.atR eR hlr
                      have k3 := o1.cell t (by rw [partI_length, Hl2.out]; exact htn)
                      rw [partI_getD (by rw [Hl2.out]; exact htn)] at k3
                      have k4 : _ = some (Value.int IntKind.i64 (enM M2 r t)) := o2.cell t (by rw [hlr]; exact htn)
                      have k5 := o1.frozen t
                      have he := Hsm.out t
                      have hset := hO4.setIn eI t (enM M2 r col * enM M2 i t - enM M2 i col * enM M2 r t)
                      rw [partI_next (by rw [Hl2.out]; exact htn), List.set_set, ← he, Hyc.out, Hzc.out] at hset
                      have hw : ∀ z, IntKind.i64.wrap z = wrap64 z := fun z => by simp only [wrap64, IntKind.wrap_i64]
                      simp only [hw] at hset; clear hw
                      have hgx : B ≤ gx := o1.base
                      have Hset := Lib.hid hset; have Hb4 := Lib.hid hb4
                      clear he hset hb4 o1 o2 hO4
                      generalize enM M2 i t = x at *
                      generalize enM M2 r t = u at *
                      have hI6 : (t : Int) < (n : Int) := by omega
                      go_wp2_with fail
                      go_region
                      go_wp2_with fail
                      go_roundw
                      case rel => exact ⟨t + 1, by omega, by go_num, Hset.out.1.drewN 1, below_drewN (Hb4.out.grown Hset.out.2 (Nat.le_trans hB Hb4.out.size) (by intro j hj; cases hj; exact hgx)) 1⟩
                      case measure => simp [intOf]; omega
                    · obtain rfl : t = n := by omega
                      rw [← Hl2.out, partI_full (by rw [Hyc.out]; exact hyz)] at hO4
                      have hc4 : contents (rs3.set i (gx, cx, rowI M2 r col i)) = elim rowI M2 r col (i + 1) := by
                        rw [← elim_next (by omega) (by rw [Hl2.out]; exact hilt), ← hc3.out]
                        unfold contents
                        rw [List.map_set]
                      have hat4 : (rs3.set i (gx, cx, rowI M2 r col i))[r]? = some (gi, ci, M2.getD r []) := by rw [List.getElem?_set_ne (by omega)]; exact hat3.out
                      have HO4 := Lib.hid hO4; have Hc4 := Lib.hid hc4; have Hat4 := Lib.hid hat4; have Hb4 := Lib.hid hb4
                      clear hO4 hc4 hat4 hb4 eI eR
                      go_wp2_with fail
                      go_roundw
                      case rel => exact ⟨i + 1, _, by go_num, by omega, by omega, Hc4, Hat4, HO4.out, Hb4.out⟩
                      case measure => simp [intOf]; omega
              · obtain rfl : i = n := by omega
                go_wp2_with fail
                go_roundw
                case rel => exact ⟨r + 1, col + 1, _, rs3, by go_num, by go_num, by omega, by omega, Lib.hid (by rw [elim_length, Hl2.out]), elim_sq rowI_len Hsq2.out r col i, Hbd2.out.elimI (by rw [Hl2.out]; exact h4), hc3.out, Hnext.out, hO3, hb3⟩
                case measure => simp [intOf]; omega
        · obtain rfl : p = n := by omega
          have hpiv : pivM M' r col = M'.length := by
            rw [hn'.out]
            exact pivM_eq (by rw [hn'.out]; omega) hrp (by rw [hn'.out]; exact Nat.le_refl _) (fun h => by rw [hn'.out] at h; omega) hz.out
          have hnext : rankGo rowI (p - (col + 1)) (col + 1) r M' = R := by
            have := hgo'.out
            rw [show p - col = (p - (col + 1)) + 1 by omega, rankGo, if_pos hpiv] at this
            exact this
          have Hnext := Lib.hid hnext
          have hO2 := hO'.drewN q
          have hb2 := below_drewN hb q
          clear hpiv hnext
          go_wp2_with fail
          go_roundw
          case rel => exact ⟨r, col + 1, M', rs', rfl, by go_num, by omega, by omega, hn'.out, hsq'.out, hbd'.out, hcon'.out, Hnext.out, hO2, hb2⟩
          case measure => simp [intOf]; omega
    · obtain rfl : col = n := by omega
      have hfin := hgo'.out
      rw [Nat.sub_self] at hfin
      have hfin' : r = R := hfin
      subst hfin'
      go_wp2_with fail
      go_ret
      exact ⟨rfl, hb⟩
end Go.Proofs.YtjhoimdfmcjkbaaGreatDoor
