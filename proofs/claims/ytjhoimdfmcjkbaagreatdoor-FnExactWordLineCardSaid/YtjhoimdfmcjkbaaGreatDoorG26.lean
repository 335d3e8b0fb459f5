/- FixedRank and AbsoluteLength: contracts. -/
import Derived.Test.YtjhoimdfmcjkbaaGreatDoorG22
import Derived.Test.YtjhoimdfmcjkbaaGreatDoorG25
import Derived.Test.YtjhoimdfmcjkbaaGreatDoorG16
import Derived.Test.YtjhoimdfmcjkbaaGreatDoorG14
import Derived.Test.YtjhoimdfmcjkbaaGreatDoorG19
namespace Go.Proofs.YtjhoimdfmcjkbaaGreatDoor
set_option maxRecDepth 100000
open Go.RowKit

theorem fixA_word {c : List (List Int)} {v : List Int} (h : isWordB c v = false) : fixA c v = -1 := if_neg (fun q => by rw [h] at q; exact absurd q.1 (by decide))
theorem fixA_fin {c : List (List Int)} {v : List Int} (h : finB c = false) : fixA c v = -1 := if_neg (fun q => by rw [h] at q; exact absurd q.2 (by decide))
theorem fixA_yes {c : List (List Int)} {v : List Int} (h : isWordB c v = true) (h2 : finB c = true) : fixA c v = (c.length : Int) - rankS (fixM c v) := if_pos ⟨h, h2⟩
def fixTo (c : List (List Int)) (l : List Int) (i : Nat) : Mx := (List.range i).map fun i => fixRow c l i
theorem fixTo_succ (c : List (List Int)) (l : List Int) (i : Nat) : fixTo c l (i + 1) = fixTo c l i ++ [fixRow c l i] := by unfold fixTo; rw [List.range_succ, List.map_append]; rfl
def fixRowTo (c : List (List Int)) (l : List Int) (i k : Nat) : List Int := (List.range k).map fun k => (actR c l (simpL c.length i)).getD k 0 - (simpL c.length i).getD k 0
theorem fixRowTo_succ (c : List (List Int)) (l : List Int) (i k : Nat) : fixRowTo c l i (k + 1) = fixRowTo c l i k ++ [(actR c l (simpL c.length i)).getD k 0 - (simpL c.length i).getD k 0] := by unfold fixRowTo; rw [List.range_succ, List.map_append]; rfl

set_option maxHeartbeats 2000000 in
theorem spec_FixedRank_any (gc oc n cc g o m cp : Nat) (c : List (List Int)) (v : List Int) (w : World) (hn : c.length = n) (hm : v.length = m) (hx : c.length ≤ 1048576) (hrl : ∀ j, j < c.length → (c.getD j []).length ≤ 1048576) (hl : v.length ≤ 1048576)
    (hgc : gc < w.heap.size) (hg : g < w.heap.size) (hr : Rows2 w gc oc c) (hv : Cells w g o v) :
    Calls Tryz.prog 41 #[(Value.slice (some ⟨gc, oc, none⟩) n cc), (Value.slice (some ⟨g, o, none⟩) m cp)] w (Gives w (.int .i64 (fixA c v))) := by
  subst hn; subst hm
  have hIW := spec_IsWord_any gc oc _ cc g o _ cp c v w rfl rfl hx hrl hl hr hv
  cases hw : isWordB c v with
  | false =>
    rw [fixA_word hw]
    rw [hw] at hIW
    have H := Lib.hid hIW; clear hIW
    go_enter Tryz.func41, Tryz.ntmps41
    go_wp2_with fail
    refine H.out.mono ?_
    rintro e w2 ⟨rfl, m2, rfl⟩
    go_wp2_with fail
    go_ret
    exact ⟨rfl, below_drewN' w m2⟩
  | true =>
    rw [hw] at hIW
    have hfc : ∀ W, Below w.heap.size w W → Calls Tryz.prog 62 #[(Value.slice (some ⟨gc, oc, none⟩) c.length cc)] W (Gives W (.bool (finB c))) := fun W hb => spec_IsFinite_any gc oc _ cc c W rfl hx hrl (Nat.lt_of_lt_of_le hgc hb.size) (hr.below hb hgc)
    cases hf : finB c with
    | false =>
      rw [fixA_fin hf]
      rw [hf] at hfc
      have H := Lib.hid hIW; have HF := Lib.hid hfc; clear hIW hfc
      go_enter Tryz.func41, Tryz.ntmps41
      go_wp2_with fail
      refine H.out.mono ?_
      rintro e w2 ⟨rfl, m2, rfl⟩
      go_wp2_with fail
      refine (HF.out _ (below_drewN' w m2)).mono ?_
      rintro e w3 ⟨rfl, hb3⟩
      go_wp2_with fail
      go_ret
      exact ⟨rfl, (below_drewN' w m2).trans (hb3.mono (Nat.le_refl _))⟩
    | true =>
      rw [fixA_yes hw hf]
      rw [hf] at hfc
      have hW : WordOk c v := wordOk_of hw
      have hC := hW.isC
      have hC4 := hC.2.1
      have hin : ∀ x ∈ v, 0 ≤ x ∧ x < (c.length : Int) := (isWordB_of hw).2.2
      have hle := rankS_le (fixM c v)
      rw [fixM_length] at hle
      have H := Lib.hid hIW; have HF := Lib.hid hfc
      have hbnd := Lib.hid (fixM_bnd hC hf hin)
      have hterm := Lib.hid (fun i (hi : i < c.length) k => fix_terms hC hf hin hi k)
      have hS := Lib.hid (fun W i (hb : Below w.heap.size w W) (hi : i < c.length) => spec_SimpleRoot_any gc oc _ cc i c W rfl hC hi (hr.below hb hgc))
      have hA := Lib.hid (fun W i g2 c2 (hb : Below w.heap.size w W) (hi : i < c.length) (hg2 : g2 < W.heap.size) (h2 : Cells W g2 0 (simpL c.length i)) => spec_ActOnRoot_ok gc oc _ cc g o _ cp g2 0 c.length c2 c v (simpL c.length i) W rfl rfl (simpL_length _ _) hW (simpL_length _ _) (Nat.lt_of_lt_of_le hgc hb.size) (Nat.lt_of_lt_of_le hg hb.size) hg2 (hr.below hb hgc) (hv.below hb hg) h2)
      have hK := Lib.hid (fun W g2 c2 rs (hc : contents rs = fixM c v) (hO : OwnRows W w.heap.size g2 c2 rs) (hs : w.heap.size ≤ W.heap.size) => spec_l17Rank_any w.heap.size g2 c2 c.length (fixM c v) rs W (fixM_length c v) hC4 (fixM_sq c v) hbnd.out hc hO hs)
      clear hIW hfc hrl hr hv hin hC
      obtain ⟨R, hR⟩ : ∃ R, rankS (fixM c v) = R := ⟨_, rfl⟩
      rw [hR] at hK hle ⊢
      clear hR
      go_enter Tryz.func41, Tryz.ntmps41
      go_wp2_with fail
      refine H.out.mono ?_
      rintro e w2 ⟨rfl, m2, rfl⟩
      go_wp2_with fail
      refine (HF.out _ (below_drewN' w m2)).mono ?_
      rintro e w3 ⟨rfl, hb3⟩
      have hB3 : Below w.heap.size w w3 := (below_drewN' w m2).trans (hb3.mono (Nat.le_refl _))
      clear hb3
      generalize w.drewN m2 = w2 at *
      go_wp2_with fail
      go_loopw [5, 6] (fun mv iv wr => ∃ (i g1 c1 : Nat) (rs : List RowRef), i ≤ c.length ∧ iv = .int .i64 i ∧ mv = (Value.slice (some ⟨g1, 0, none⟩) i c1) ∧ Hid (rs.length = i) ∧ Hid (contents rs = fixTo c v i) ∧ OwnRows wr w.heap.size g1 c1 rs ∧ Below w.heap.size w wr) (fun _ iv _ => c.length - (intOf iv).toNat)
      case atStart => exact ⟨0, _, _, [], Nat.zero_le _, rfl, rfl, rfl, rfl, OwnRows.empty hB3.size, hB3.alloc hB3.size _⟩
      case round =>
        clear hB3
        obtain ⟨i, g1, c1, rs, hi, rfl, rfl, hrs, hct, hO, hb⟩ := hrel
        by_cases hlt : i < c.length
        · go_wp2_with fail
          refine (hS.out _ i hb hlt).mono ?_
          rintro e w4 ⟨g4, c4, rfl, ho4, hb4⟩
          have hO4 := hO.below hb4
          have hB4 := hb.trans (hb4.mono hb.size)
          rw [simpL_length]
          go_wp2_with fail
          refine (hA.out _ i g4 c4 hB4 hlt ho4.lt ho4.cells).mono ?_
          rintro e w5 ⟨g5, c5, rfl, ho5, hb5⟩
          have hO5 := hO4.below hb5
          have hB5 := hB4.trans (hb5.mono hB4.size)
          have ho45 := ho4.below hb5 ho4.lt
          have hla : (actR c v (simpL c.length i)).length = c.length := by rw [actR_length, simpL_length]
          rw [hla]
          have hE := Lib.hid (fun k (hk : k < c.length) => ho45.cell k (by rw [simpL_length]; exact hk))
          have hA5 := Lib.hid (fun k (hk : k < c.length) => ho5.cell k (by rw [hla]; exact hk))
          have hg4 := ho45.lt
          have hg5 := ho5.lt
          clear hO hb4 hb hO4 hB4 hb5 ho4 ho5 ho45 hla
          go_wp2_with fail
          generalize w5 = w9 at *
          go_loopw [9, 10] (fun s kv wr => ∃ t g' c' : Nat, t ≤ c.length ∧ kv = .int .i64 t ∧ s = (Value.slice (some ⟨g', 0, none⟩) t c') ∧ Own wr w9.heap.size g' c' (fixRowTo c v i t) ∧ Below w9.heap.size w9 wr) (fun _ kv _ => c.length - (intOf kv).toNat)
          case atStart => exact ⟨0, _, _, Nat.zero_le _, rfl, rfl, Own.empty (Nat.le_refl _), (Below.refl _ _).alloc (Nat.le_refl _) _⟩
          case round =>
            obtain ⟨t, g', c', ht, rfl, rfl, ho, hby⟩ := hrel
            by_cases htn : t < c.length
            · have k1 := (hby.cell (p := ⟨g4, t, none⟩) hg4).trans (hE.out t htn)
              have k2 := (hby.cell (p := ⟨g5, t, none⟩) hg5).trans (hA5.out t htn)
              obtain ⟨t1, t2⟩ := hterm.out i hlt t
              have Hsucc := Lib.hid (fixRowTo_succ c v i t)
              generalize (actR c v (simpL c.length i)).getD t 0 = x at *
              generalize (simpL c.length i).getD t 0 = y at *
              have hwr : IntKind.i64.wrap (x - y) = x - y := IntWalk.i64_in _ (by omega)
              have hBg := ho.base
              have ne1 : some g4 ≠ some g' := by intro e; cases e; omega
              have ne2 : some g5 ≠ some g' := by intro e; cases e; omega
              have hl9 : (fixRowTo c v i t).length = t := by simp [fixRowTo]
              generalize hys : fixRowTo c v i t = ys at ho hl9
              have Hys := Lib.hid hys; clear hys
              go_wp2_with fail
              go_region_held3 (fun W => W.cell? ⟨g4, t, none⟩ = some (.int .i64 y) ∧ W.cell? ⟨g5, t, none⟩ = some (.int .i64 x))
                (first | go_keep | exact ⟨hg3.cell (a := ⟨g4, t, none⟩) k1 ne1, hg3.cell (a := ⟨g5, t, none⟩) k2 ne2⟩)
                ((refine step_append_int (w := wr.drew) (by rfl) _ _ (by rfl) w9.heap.size g' c' t wr.heap.size ys (x - y) _ hl9 (by rfl) (by rfl) ho.drew (by rfl) (by rfl) (by omega) ?_; intro g3 c3 w3 ho3 hg3 hor))
              go_wp2_with fail
              go_roundw
              case rel =>
                rw [← Hys.out, ← Hsucc.out] at ho3
                exact ⟨t + 1, g3, c3, by omega, by go_num, rfl, ho3, (Below.drew hby).grown hg3 hby.size (by intro j hj; cases hj; exact ho.base)⟩
              case measure => simp [intOf]; omega
            · obtain rfl : t = c.length := by omega
              have hO6 := hO5.below hby
              have hB6 := hB5.trans (hby.mono hB5.size)
              have hne6 : ∀ s ∈ rs, s.1 ≠ g' := fun s hs e => by
                have h1 := (hO5.2.1 s hs).lt
                have h2 := ho.base
                omega
              have hfr : fixRowTo c v i c.length = fixRow c v i := rfl
              rw [hfr] at ho
              have ho6 : Own wr w.heap.size g' c' (fixRow c v i) := ho.mono hB5.size
              clear hO5 hB5 hby ho hE hA5 hfr
              have hlr : (fixRow c v i).length = c.length := fixRow_length c v i
              go_wp2_with (at_builtin; refine wpList_append_row rfl _ _ rfl w.heap.size g1 c1 i wr.heap.size rs (g', c', fixRow c v i) _ hrs.out (by unfold rowVal; rw [hlr]) rfl hO6 ho6 hne6 rfl rfl (by omega) ?_)
              intro g7 c7 w7 hO7 hg7 hor7
              have hB7 : Below w.heap.size w w7 := hB6.grown hg7 hB6.size (by intro j hj; cases hj; exact hO6.base)
              go_wp2_with fail
              go_roundw
              case rel =>
                refine ⟨i + 1, g7, c7, rs ++ [(g', c', fixRow c v i)], by omega, by go_num, rfl, ?_, ?_, hO7, hB7⟩
                · show _ = _
                  rw [List.length_append, hrs.out]; rfl
                · show _ = _
                  rw [contents_append, hct.out, fixTo_succ]
              case measure => simp [intOf]; omega
        · obtain rfl : i = c.length := by omega
          have hwr : IntKind.i64.wrap ((c.length : Int) - (R : Int)) = (c.length : Int) - R := IntWalk.i64_in _ (by omega)
          go_wp2_with fail
          refine (hK.out _ g1 c1 rs hct.out hO hb.size).mono ?_
          rintro e w4 ⟨rfl, hb4⟩
          go_wp2_with fail
          go_ret
          exact ⟨rfl, hb.trans hb4⟩

set_option maxHeartbeats 2000000 in
theorem impl_FixedRank_any (gc oc n cc g o m cp : Nat) (c : List (List Int)) (v : List Int) (w : World) (hn : c.length = n) (hm : v.length = m) (hx : c.length ≤ 1048576) (hrl : ∀ j, j < c.length → (c.getD j []).length ≤ 1048576) (hl : v.length ≤ 1048576)
    (hgc : gc < w.heap.size) (hg : g < w.heap.size) (hr : Rows2 w gc oc c) (hv : Cells w g o v) :
    Calls Tryz.prog 51 #[(Value.slice (some ⟨gc, oc, none⟩) n cc), (Value.slice (some ⟨g, o, none⟩) m cp)] w (Gives w (.int .i64 (fixA c v))) := by
  subst hn; subst hm
  have hIW := impl_IsWord_any gc oc _ cc g o _ cp c v w rfl rfl hx hrl hl hr hv
  cases hw : isWordB c v with
  | false =>
    rw [fixA_word hw]
    rw [hw] at hIW
    have H := Lib.hid hIW; clear hIW
    go_enter Tryz.func51, Tryz.ntmps51
    go_wp2_with fail
    refine H.out.mono ?_
    rintro e w2 ⟨rfl, m2, rfl⟩
    go_wp2_with fail
    go_ret
    exact ⟨rfl, below_drewN' w m2⟩
  | true =>
    rw [hw] at hIW
    have hfc : ∀ W, Below w.heap.size w W → Calls Tryz.prog 74 #[(Value.slice (some ⟨gc, oc, none⟩) c.length cc)] W (Gives W (.bool (finB c))) := fun W hb => impl_IsFinite_any gc oc _ cc c W rfl hx hrl (Nat.lt_of_lt_of_le hgc hb.size) (hr.below hb hgc)
    cases hf : finB c with
    | false =>
      rw [fixA_fin hf]
      rw [hf] at hfc
      have H := Lib.hid hIW; have HF := Lib.hid hfc; clear hIW hfc
      go_enter Tryz.func51, Tryz.ntmps51
      go_wp2_with fail
      refine H.out.mono ?_
      rintro e w2 ⟨rfl, m2, rfl⟩
      go_wp2_with fail
      refine (HF.out _ (below_drewN' w m2)).mono ?_
      rintro e w3 ⟨rfl, hb3⟩
      go_wp2_with fail
      go_ret
      exact ⟨rfl, (below_drewN' w m2).trans (hb3.mono (Nat.le_refl _))⟩
    | true =>
      rw [fixA_yes hw hf]
      rw [hf] at hfc
      have hW : WordOk c v := wordOk_of hw
      have hC := hW.isC
      have hC4 := hC.2.1
      have hin : ∀ x ∈ v, 0 ≤ x ∧ x < (c.length : Int) := (isWordB_of hw).2.2
      have hle := rankS_le (fixM c v)
      rw [fixM_length] at hle
      have H := Lib.hid hIW; have HF := Lib.hid hfc
      have hbnd := Lib.hid (fixM_bnd hC hf hin)
      have hterm := Lib.hid (fun i (hi : i < c.length) k => fix_terms hC hf hin hi k)
      have hS := Lib.hid (fun W i (hb : Below w.heap.size w W) (hi : i < c.length) => impl_simple_any c.length i W hx hi)
      have hA := Lib.hid (fun W i g2 c2 (hb : Below w.heap.size w W) (hi : i < c.length) (hg2 : g2 < W.heap.size) (h2 : Cells W g2 0 (simpL c.length i)) => impl_actedRoot_any gc oc _ cc g o _ cp g2 0 c.length c2 c v (simpL c.length i) W rfl rfl (simpL_length _ _) hC hl hW.inr (simpL_length _ _) (Nat.lt_of_lt_of_le hgc hb.size) (Nat.lt_of_lt_of_le hg hb.size) hg2 (hr.below hb hgc) (hv.below hb hg) h2)
      have hK := Lib.hid (fun W g2 c2 rs (hc : contents rs = fixM c v) (hO : OwnRows W w.heap.size g2 c2 rs) (hs : w.heap.size ≤ W.heap.size) => impl_rankOf_any w.heap.size g2 c2 c.length (fixM c v) rs W (fixM_length c v) hC4 (fixM_sq c v) hbnd.out hc hO hs)
      clear hIW hfc hrl hr hv hin hC
      rw [rank_eq (fixM_sq c v)] at hle ⊢
      obtain ⟨R, hR⟩ : ∃ R, rankI (fixM c v) = R := ⟨_, rfl⟩
      rw [hR] at hK hle ⊢
      clear hR
      go_enter Tryz.func51, Tryz.ntmps51
      go_wp2_with fail
      refine H.out.mono ?_
      rintro e w2 ⟨rfl, m2, rfl⟩
      go_wp2_with fail
      refine (HF.out _ (below_drewN' w m2)).mono ?_
      rintro e w3 ⟨rfl, hb3⟩
      have hB3 : Below w.heap.size w w3 := (below_drewN' w m2).trans (hb3.mono (Nat.le_refl _))
      clear hb3
      generalize w.drewN m2 = w2 at *
      go_wp2_with fail
      go_loopw [5, 20] (fun mv iv wr => ∃ (i g1 c1 : Nat) (rs : List RowRef), i ≤ c.length ∧ iv = .int .i64 i ∧ mv = (Value.slice (some ⟨g1, 0, none⟩) i c1) ∧ Hid (rs.length = i) ∧ Hid (contents rs = fixTo c v i) ∧ OwnRows wr w.heap.size g1 c1 rs ∧ Below w.heap.size w wr) (fun _ iv _ => c.length - (intOf iv).toNat)
      case atStart => exact ⟨0, _, _, [], Nat.zero_le _, rfl, rfl, rfl, rfl, OwnRows.empty hB3.size, hB3.alloc hB3.size _⟩
      case round =>
        clear hB3
        obtain ⟨i, g1, c1, rs, hi, rfl, rfl, hrs, hct, hO, hb⟩ := hrel
        by_cases hlt : i < c.length
        · go_wp2_with fail
          refine (hS.out _ i hb hlt).mono ?_
          rintro e w4 ⟨g4, c4, rfl, ho4, hb4⟩
          have hO4 := hO.below hb4
          have hB4 := hb.trans (hb4.mono hb.size)
          rw [simpL_length]
          go_wp2_with fail
          refine (hA.out _ i g4 c4 hB4 hlt ho4.lt ho4.cells).mono ?_
          rintro e w5 ⟨g5, c5, rfl, ho5, hb5⟩
          have hO5 := hO4.below hb5
          have hB5 := hB4.trans (hb5.mono hB4.size)
          have ho45 := ho4.below hb5 ho4.lt
          have hla : (actR c v (simpL c.length i)).length = c.length := by rw [actR_length, simpL_length]
          rw [hla]
          have hk1 := ho5.cell i (by rw [hla]; exact hlt)
          have hk2 := ho5.frozen i
          have hs5 := ho5.set i ((actR c v (simpL c.length i)).getD i 0 - 1)
          rw [fixRow_put hlt] at hs5
          obtain ⟨t1, -⟩ := hterm.out i hlt i
          generalize (actR c v (simpL c.length i)).getD i 0 = x at *
          have hwr : IntKind.i64.wrap (x - 1) = x - 1 := IntWalk.i64_in _ (by omega)
          have hne5 : ∀ s ∈ rs, s.1 ≠ g5 := fun s hs e => by
            have h1 := (hO4.2.1 s hs).lt
            have h2 := ho5.base
            omega
          have hgo : g1 ≠ g5 := fun e => by
            have h1 := hO4.lt
            have h2 := ho5.base
            omega
          have hO6 := hO5.grownR hs5.2 hgo hne5
          have hB6 := hB5.grown hs5.2 hB5.size (by intro j hj; cases hj; exact Nat.le_trans hB4.size ho5.base)
          have ho6 := hs5.1.mono hB4.size
          have HO6 := Lib.hid hO6; have HB6 := Lib.hid hB6; have Ho6 := Lib.hid ho6
          have hHs : (w5.setCell ⟨g5, i, none⟩ (.int .i64 (x - 1))).heap.size = w5.heap.size := by simp [World.setCell]
          clear hO hb4 hb hO4 hB4 hb5 ho4 ho5 hla hs5 hO5 hB5 hgo hO6 hB6 ho6
          have hlr : (fixRow c v i).length = c.length := fixRow_length c v i
          go_wp2_with (at_builtin; refine wpList_append_row rfl _ _ rfl w.heap.size g1 c1 i w5.heap.size rs (g5, c5, fixRow c v i) _ hrs.out (by unfold rowVal; rw [hlr]) hHs HO6.out Ho6.out hne5 rfl rfl (by omega) ?_)
          intro g7 c7 w7 hO7 hg7 hor7
          have hB7 : Below w.heap.size w w7 := HB6.out.grown hg7 HB6.out.size (by intro j hj; cases hj; exact HO6.out.base)
          go_wp2_with fail
          go_roundw
          case rel =>
            refine ⟨i + 1, g7, c7, rs ++ [(g5, c5, fixRow c v i)], by omega, by go_num, rfl, ?_, ?_, hO7, hB7⟩
            · show _ = _
              rw [List.length_append, hrs.out]; rfl
            · show _ = _
              rw [contents_append, hct.out, fixTo_succ]
          case measure => simp [intOf]; omega
        · obtain rfl : i = c.length := by omega
          have hwr : IntKind.i64.wrap ((c.length : Int) - (R : Int)) = (c.length : Int) - R := IntWalk.i64_in _ (by omega)
          go_wp2_with fail
          refine (hK.out _ g1 c1 rs hct.out hO hb.size).mono ?_
          rintro e w4 ⟨rfl, hb4⟩
          go_wp2_with fail
          go_ret
          exact ⟨rfl, hb.trans hb4⟩

theorem abs_cases (c : List (List Int)) (v : List Int) : (fixA c v = -1 ∧ absA c v = -1) ∨ ∃ N n : Nat, c.length = n ∧ n ≤ 4 ∧ N ≤ n ∧ fixA c v = (n : Int) - N ∧ absA c v = N := by
  by_cases h : isWordB c v = true ∧ finB c = true
  · exact .inr ⟨absN c v, c.length, rfl, (wordOk_of h.1).isC.2.1, absN_le c v, if_pos h, if_pos h⟩
  · exact .inl ⟨if_neg h, if_neg h⟩

set_option maxHeartbeats 1000000 in
theorem spec_AbsoluteLength_any (gc oc n cc g o m cp : Nat) (c : List (List Int)) (v : List Int) (w : World) (hn : c.length = n) (hm : v.length = m) (hx : c.length ≤ 1048576) (hrl : ∀ j, j < c.length → (c.getD j []).length ≤ 1048576) (hl : v.length ≤ 1048576)
    (hgc : gc < w.heap.size) (hg : g < w.heap.size) (hr : Rows2 w gc oc c) (hv : Cells w g o v) :
    Calls Tryz.prog 20 #[(Value.slice (some ⟨gc, oc, none⟩) n cc), (Value.slice (some ⟨g, o, none⟩) m cp)] w (Gives w (.int .i64 (absA c v))) := by
  have H := spec_FixedRank_any gc oc n cc g o m cp c v w hn hm hx hrl hl hgc hg hr hv
  clear hx hrl hl hgc hg hr hv
  rcases abs_cases c v with ⟨h1, h2⟩ | ⟨N, k, hk, h4, hN, h1, h2⟩
  · rw [h1] at H
    rw [h2]
    have H := Lib.hid H
    go_enter Tryz.func20, Tryz.ntmps20
    go_wp2_with fail
    refine H.out.mono ?_
    rintro e w2 ⟨rfl, hb2⟩
    go_wp2_with fail
    go_ret
    exact ⟨rfl, hb2⟩
  · rw [h1] at H
    rw [h2]
    have H := Lib.hid H
    rw [hn] at hk
    subst hk
    have d1 : decide ((n : Int) - (N : Int) < 0) = false := by simp; omega
    have e1 : IntKind.i64.wrap ((n : Int) - ((n : Int) - (N : Int))) = (N : Int) := by rw [show (n : Int) - ((n : Int) - (N : Int)) = (N : Int) by omega]; exact IntWalk.i64_in _ (by omega)
    go_enter Tryz.func20, Tryz.ntmps20
    go_wp2_with fail
    refine H.out.mono ?_
    rintro e w2 ⟨rfl, hb2⟩
    go_wp2_with fail
    go_ret
    exact ⟨rfl, hb2⟩

set_option maxHeartbeats 1000000 in
theorem impl_AbsoluteLength_any (gc oc n cc g o m cp : Nat) (c : List (List Int)) (v : List Int) (w : World) (hn : c.length = n) (hm : v.length = m) (hx : c.length ≤ 1048576) (hrl : ∀ j, j < c.length → (c.getD j []).length ≤ 1048576) (hl : v.length ≤ 1048576)
    (hgc : gc < w.heap.size) (hg : g < w.heap.size) (hr : Rows2 w gc oc c) (hv : Cells w g o v) :
    Calls Tryz.prog 29 #[(Value.slice (some ⟨gc, oc, none⟩) n cc), (Value.slice (some ⟨g, o, none⟩) m cp)] w (Gives w (.int .i64 (absA c v))) := by
  have H := impl_FixedRank_any gc oc n cc g o m cp c v w hn hm hx hrl hl hgc hg hr hv
  clear hx hrl hl hgc hg hr hv
  rcases abs_cases c v with ⟨h1, h2⟩ | ⟨N, k, hk, h4, hN, h1, h2⟩
  · rw [h1] at H
    rw [h2]
    have H := Lib.hid H
    go_enter Tryz.func29, Tryz.ntmps29
    go_wp2_with fail
    refine H.out.mono ?_
    rintro e w2 ⟨rfl, hb2⟩
    go_wp2_with fail
    go_ret
    exact ⟨rfl, hb2⟩
  · rw [h1] at H
    rw [h2]
    have H := Lib.hid H
    rw [hn] at hk
    subst hk
    have d1 : decide ((n : Int) - (N : Int) < 0) = false := by simp; omega
    have e1 : IntKind.i64.wrap ((n : Int) - ((n : Int) - (N : Int))) = (N : Int) := by rw [show (n : Int) - ((n : Int) - (N : Int)) = (N : Int) by omega]; exact IntWalk.i64_in _ (by omega)
    go_enter Tryz.func29, Tryz.ntmps29
    go_wp2_with fail
    refine H.out.mono ?_
    rintro e w2 ⟨rfl, hb2⟩
    go_wp2_with fail
    go_ret
    exact ⟨rfl, hb2⟩
end Go.Proofs.YtjhoimdfmcjkbaaGreatDoor
