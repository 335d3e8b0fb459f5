/- Mirrored roots, the order of roots, transposed matrices: contracts. -/
import Derived.Test.YticnocoeldfiiaaGreatDoorG11
import Derived.Test.YticnocoeldfiiaaGreatDoorG13
import Derived.Deep.RegionWith
namespace Go.Proofs.YticnocoeldfiiaaGreatDoor
open Go.RowKit Game

set_option maxHeartbeats 2000000 in
theorem impl_mirrored_any (gc oc n cc i g o m cp : Nat) (c : List (List Int)) (r : List Int) (w : World) (hn : c.length = n) (hm : r.length = m) (hi : i < c.length) (hir : i < r.length) (hl : r.length ≤ (c.getD i []).length) (hx : (c.getD i []).length ≤ 1048576) (hgc : gc < w.heap.size) (hg : g < w.heap.size) (hc : Rows2 w gc oc c) (hr : Cells w g o r) :
    Calls Tryz.prog 92 #[(Value.slice (some ⟨gc, oc, none⟩) n cc), .int .i64 i, (Value.slice (some ⟨g, o, none⟩) m cp)] w (GotInts w (mirL c i r)) := by
  subst hn; subst hm
  have hrl : r.length ≤ 1048576 := by omega
  have he : mirL c i r = r.set i (wrap64 (r.getD i 0 - pairL (c.getD i []) r)) := rfl
  obtain ⟨ga, oa, ca, q1, q2, q3, q4⟩ := hc i hi
  generalize c.getD i [] = a at *
  have He := Lib.hid he; clear he
  go_enter Tryz.func92, Tryz.ntmps92
  go_wp2_with (at_builtin; refine wpList_clone rfl _ _ rfl g o _ cp r rfl hg hr rfl rfl (by omega) ?_)
  intro g3 c3 w3 ho3 hb3
  have q1' := (hb3.cell (p := ⟨gc, oc + i, none⟩) hgc).trans q1
  have hcall := fun W (hW : ∃ q, W = w3.drewN q) => impl_pairing_any ga oa _ ca g o _ cp a r W rfl rfl hl hx ((q4.below hb3 q3).still hW) ((hr.below hb3 hg).still hW)
  have hc1 := ho3.cell i hir
  have hf1 := ho3.frozen i
  have Hcall := Lib.hid hcall
  generalize pairL a r = p at *
  generalize r.getD i 0 = x at *
  clear hcall hr hc
  have HS : Hid (∀ W, (∃ q, W = w3.drewN q) → GotInts w (mirL c i r) (.returned (Value.slice (some ⟨g3, 0, none⟩) r.length c3)) (W.setCell ⟨g3, i, none⟩ (.int .i64 (wrap64 (x - p))))) := fun W hW => by
    have ho := ho3.still hW
    have hb := below_still hb3 hW
    have hs := ho.set i (wrap64 (x - p))
    rw [← He.out] at hs
    exact GotInts.mk' g3 c3 (mirL_length _ _ _) hs.1 (hb.grown hs.2 hb.size (by intro k hk; cases hk; exact ho.base))
  go_wp2
  go_region_with (go_at_call 91; refine (Hcall.out _ ⟨_, rfl⟩).mono ?_; rintro e w4 ⟨rfl, q, rfl⟩)
  all_goals
    go_wp2
    go_ret
    rw [show IntKind.i64.wrap (x - p) = wrap64 (x - p) by simp only [wrap64, IntKind.wrap_i64]]
    refine HS.out _ ?_
    exact (by first | exact ⟨_, rfl⟩ | exact ⟨0, rfl⟩ | exact still2 _ _ _ | exact still3 _ _ _ _)

set_option maxHeartbeats 2000000 in
theorem spec_l7Reflect_any (gc oc n cc i g o m cp : Nat) (c : List (List Int)) (r : List Int) (w : World) (hn : c.length = n) (hm : r.length = m) (hi : i < c.length) (hir : i < r.length) (hl : r.length ≤ (c.getD i []).length) (hx : (c.getD i []).length ≤ 1048576) (hgc : gc < w.heap.size) (hg : g < w.heap.size) (hc : Rows2 w gc oc c) (hr : Cells w g o r) :
    Calls Tryz.prog 46 #[(Value.slice (some ⟨gc, oc, none⟩) n cc), .int .i64 i, (Value.slice (some ⟨g, o, none⟩) m cp)] w (GotInts w (mirL c i r)) := by
  subst hn; subst hm
  have hrl : r.length ≤ 1048576 := by omega
  have he : mirL c i r = r.set i (wrap64 (r.getD i 0 - dotTo (c.getD i []) r r.length)) := rfl
  obtain ⟨ga, oa, ca, q1, q2, q3, q4⟩ := hc i hi
  generalize c.getD i [] = a at *
  have He := Lib.hid he; clear he
  go_enter Tryz.func46, Tryz.ntmps46
  go_wp2_with (at_builtin; refine wpList_clone rfl _ _ rfl g o _ cp r rfl hg hr rfl rfl (by omega) ?_)
  intro g3 c3 w3 ho3 hb3
  have q1' := (hb3.cell (p := ⟨gc, oc + i, none⟩) hgc).trans q1
  have hr3 := hr.below hb3 hg
  have hq3 := q4.below hb3 q3
  go_wp2
  go_loopw [8, 9] (fun s kv wr => ∃ t q : Nat, t ≤ r.length ∧ kv = .int .i64 t ∧ s = .int .i64 (dotTo a r t) ∧ wr = w3.drewN q) (fun _ kv _ => r.length - (intOf kv).toNat)
  case atStart => exact ⟨0, 0, Nat.zero_le _, rfl, rfl, rfl⟩
  case round =>
    obtain ⟨t, q, ht, rfl, rfl, rfl⟩ := hrel
    by_cases hlt : t < r.length
    · have e1 := hq3 t (by omega)
      have e2 := hr3 t hlt
      have hta : t < a.length := by omega
      have hd : dotTo a r (t + 1) = wrap64 (dotTo a r t + wrap64 (a.getD t 0 * r.getD t 0)) := rfl
      generalize a.getD t 0 = x at *
      generalize r.getD t 0 = y at *
      have Hd := Lib.hid hd; clear hd
      generalize dotTo a r t = z at *
      go_wp2
      go_quiet (fail)
      go_wp2
      go_roundw
      case rel => exact ⟨t + 1, _, by omega, by go_num, by rw [Hd.out], rfl⟩
      case measure => simp [intOf]; omega
    · obtain rfl : t = r.length := by omega
      have e2 := hr3 i hir
      have hc1 := ho3.cell i hir
      have hf1 := ho3.frozen i
      generalize dotTo a r r.length = p at *
      generalize r.getD i 0 = x at *
      have HS : Hid (∀ W, (∃ q, W = w3.drewN q) → GotInts w (mirL c i r) (.returned (Value.slice (some ⟨g3, 0, none⟩) r.length c3)) (W.setCell ⟨g3, i, none⟩ (.int .i64 (wrap64 (x - p))))) := fun W hW => by
        have ho := ho3.still hW
        have hb := below_still hb3 hW
        have hs := ho.set i (wrap64 (x - p))
        rw [← He.out] at hs
        exact GotInts.mk' g3 c3 (mirL_length _ _ _) hs.1 (hb.grown hs.2 hb.size (by intro k hk; cases hk; exact ho.base))
      go_wp2
      go_ret
      refine HS.out _ ?_
      exact (by first | exact ⟨_, rfl⟩ | exact ⟨0, rfl⟩ | exact still2 _ _ _ | exact still3 _ _ _ _)

set_option maxHeartbeats 1000000 in
theorem impl_compareRoots_any (g1 o1 n1 c1 g2 o2 n2 c2 : Nat) (xs ys : List Int) (w : World) (hn1 : xs.length = n1) (hn2 : ys.length = n2) (hx : xs.length ≤ 1048576) (hy : ys.length ≤ 1048576)
    (hcx : Cells w g1 o1 xs) (hcy : Cells w g2 o2 ys) :
    Calls Tryz.prog 94 #[(Value.slice (some ⟨g1, o1, none⟩) n1 c1), (Value.slice (some ⟨g2, o2, none⟩) n2 c2)] w (Lays w (.int .i64 (rootCmp xs ys))) := by
  subst hn1; subst hn2
  have Ho : Hid (orL [cmpI (heightL xs) (heightL ys), sliceCmp ys xs] = rootCmp xs ys) := rfl
  go_enter Tryz.func94, Tryz.ntmps94
  go_wp2_with fail
  refine (impl_HeightOf_any g1 o1 _ c1 xs w rfl hx hcx).mono ?_
  rintro e w1 ⟨rfl, hs1⟩
  go_wp2_with fail
  refine (impl_HeightOf_any g2 o2 _ c2 ys w1 rfl hy (hcy.still hs1)).mono ?_
  rintro e w2 ⟨rfl, hs2⟩
  replace hs2 := still_trans hs1 hs2
  clear hs1
  generalize heightL xs = h1 at *
  generalize heightL ys = h2 at *
  go_wp2_with fail
  refine (cw_Compare h1 h2 w2).mono ?_
  rintro e w3 ⟨rfl, hs3⟩
  replace hs3 := still_trans hs2 hs3
  clear hs2
  go_wp2_with fail
  refine (slices_Compare_any g2 o2 ys.length c2 g1 o1 xs.length c1 ys xs w3 rfl rfl (by omega) (hcy.still hs3) (hcx.still hs3)).mono ?_
  rintro e w4 ⟨rfl, hs4⟩
  replace hs4 := still_trans hs3 hs4
  clear hs3
  generalize sliceCmp ys xs = z at *
  generalize cmpI h1 h2 = y at *
  have Hs4 := Lib.hid hs4
  clear hs4
  obtain ⟨w5, hw5⟩ : ∃ w5, w5 = w4.alloc (.cells #[.int .i64 y, .int .i64 z] 3) := ⟨_, rfl⟩
  have hc5 : Cells w5 w4.heap.size 0 [y, z] := by
    obtain ⟨q1, q2⟩ : w5.cell? ⟨w4.heap.size, 0, none⟩ = some (.int .i64 y) ∧ w5.cell? ⟨w4.heap.size, 1, none⟩ = some (.int .i64 z) := by
      have hh : w5.heap[w4.heap.size]? = some (.cells #[.int .i64 y, .int .i64 z] 3 (0, 0)) := by rw [hw5]; exact heap_alloc_new _ _
      constructor <;> simp [World.cell?, hh]
    intro j hj
    have : j = 0 ∨ j = 1 := by simp at hj; omega
    rcases this with rfl | rfl
    · exact q1
    · exact q2
  have hcall := cw_Or w4.heap.size 0 2 2 [y, z] w5 rfl (by simp) hc5
  rw [hw5, Ho.out] at hcall
  have Hcall := Lib.hid hcall
  clear hcall hc5 hw5
  go_wp2_with fail
  refine Hcall.out.mono ?_
  rintro e w6 ⟨rfl, hs6⟩
  go_wp2_with fail
  go_ret
  refine ⟨rfl, ?_⟩
  obtain ⟨m4, e4⟩ := Hs4.out
  obtain ⟨m6, e6⟩ := hs6
  refine ⟨.cells #[.int .i64 y, .int .i64 z] 3, m4 + m6, ?_⟩
  rw [e6, e4]
  show ((w.alloc _).drewN m4).drewN m6 = _
  rw [World.drewN_drewN]
theorem cmp_roots : CmpOk 94 rootCmp := fun g1 o1 c1 g2 o2 c2 xs ys w hx hy h1 h2 =>
  (impl_compareRoots_any g1 o1 _ c1 g2 o2 _ c2 xs ys w rfl rfl hx hy h1 h2).mono fun _ _ h => lays_grow h

theorem before_of {xs ys : List Int} (hl : xs.length = ys.length) : decide (rootCmp xs ys < 0) = if heightL xs = heightL ys then decide (0 < lexCmp xs ys) else decide (heightL xs < heightL ys) := by
  rw [rootCmp_def]
  by_cases h : heightL xs = heightL ys
  · rw [if_pos (by rw [h]; unfold cmpI; simp), if_pos h, sliceCmp_same hl.symm]
    have h2 := sliceCmp_anti xs ys
    rw [sliceCmp_same hl, sliceCmp_same hl.symm] at h2
    exact decide_eq_decide.2 (by omega)
  · rw [if_neg (by intro h2; exact h (cmpI_zero h2)), if_neg h]
    exact decide_eq_decide.2 cmpI_neg
set_option maxHeartbeats 2000000 in
theorem spec_l7Before_any (g1 o1 n1 c1 g2 o2 n2 c2 : Nat) (xs ys : List Int) (w : World) (hn1 : xs.length = n1) (hn2 : ys.length = n2) (hl : xs.length = ys.length) (hx : xs.length ≤ 1048576)
    (hcx : Cells w g1 o1 xs) (hcy : Cells w g2 o2 ys) :
    Calls Tryz.prog 79 #[(Value.slice (some ⟨g1, o1, none⟩) n1 c1), (Value.slice (some ⟨g2, o2, none⟩) n2 c2)] w (Reads w (.bool (decide (rootCmp xs ys < 0)))) := by
  subst hn1; subst hn2
  have hv := before_of hl
  have hl' : ys.length = xs.length := hl.symm
  have hy : ys.length ≤ 1048576 := by omega
  have Hl := Lib.hid hl'; clear hl' hl
  have Hv := Lib.hid hv; clear hv
  go_enter Tryz.func79, Tryz.ntmps79
  go_wp2_with fail
  refine (spec_HeightOf_any g1 o1 _ c1 xs w rfl hx hcx).mono ?_
  rintro e w1 ⟨rfl, m1, rfl⟩
  go_wp2_with fail
  refine (spec_HeightOf_any g2 o2 _ c2 ys (w.drewN m1) rfl hy hcy).mono ?_
  rintro e w2 ⟨rfl, m2, rfl⟩
  by_cases hh : heightL xs = heightL ys
  · have hv := Hv.out
    rw [if_pos hh] at hv
    have hb : (heightL xs != heightL ys) = false := by simp [hh]
    have Hv2 := Lib.hid hv; clear hv Hv
    generalize heightL xs = h1 at *
    generalize heightL ys = h2 at *
    clear hh
    go_wp2_with fail
    go_loopw [7] (fun i wr => ∃ k : Nat, k ≤ xs.length ∧ i = .int .i64 k ∧ Hid (lexCmp xs ys = lexCmp (xs.drop k) (ys.drop k)) ∧ ∃ n, wr = w.drewN n) (fun i _ => xs.length - (intOf i).toNat)
    case atStart => exact ⟨0, Nat.zero_le _, rfl, rfl, (by first | exact ⟨_, rfl⟩ | exact ⟨0, rfl⟩ | exact still2 _ _ _ | exact still3 _ _ _ _)⟩
    case round =>
      obtain ⟨k, hk, rfl, he, n, rfl⟩ := hrel
      by_cases hlt : k < xs.length
      · have hl2 : k < ys.length := by rw [Hl.out]; exact hlt
        have h1 := hcx k hlt
        have h2 := hcy k hl2
        have hd := lexCmp_drop hlt hl2
        have Hd := Lib.hid hd; clear hd
        go_wp2
        go_quiet (fail)
        go_wp2
        · have ht : (xs[k] != ys[k]) = true := by assumption
          go_quiet (fail)
          go_wp2
          go_ret
          refine ⟨ret_bool ?_, (by first | exact ⟨_, rfl⟩ | exact ⟨0, rfl⟩ | exact still2 _ _ _ | exact still3 _ _ _ _)⟩
          rw [Hv2.out, he.out, Hd.out]
          have hne : xs[k] ≠ ys[k] := by simpa using ht
          by_cases h : xs[k] < ys[k]
          · rw [if_pos h]; simp; omega
          · rw [if_neg h, if_pos (by omega)]; simp; omega
        · have ht : (xs[k] != ys[k]) = false := by assumption
          have hee : xs[k] = ys[k] := by simpa using ht
          go_roundw
          case rel => exact ⟨k + 1, by omega, by go_num, by show _ = _; rw [he.out, Hd.out, if_neg (by omega), if_neg (by omega)], (by first | exact ⟨_, rfl⟩ | exact ⟨0, rfl⟩ | exact still2 _ _ _ | exact still3 _ _ _ _)⟩
          case measure => simp [intOf]; omega
      · obtain rfl : k = xs.length := by omega
        go_wp2
        go_ret
        refine ⟨ret_bool ?_, (by first | exact ⟨_, rfl⟩ | exact ⟨0, rfl⟩ | exact still2 _ _ _ | exact still3 _ _ _ _)⟩
        rw [Hv2.out, he.out, List.drop_length]; rfl
  · have hv := Hv.out
    rw [if_neg hh] at hv
    have hb : (heightL xs != heightL ys) = true := by simp [hh]
    have Hv2 := Lib.hid hv; clear hv Hv
    generalize heightL xs = h1 at *
    generalize heightL ys = h2 at *
    clear hh
    go_wp2_with fail
    go_ret
    exact ⟨ret_bool (by rw [Hv2.out]), (by first | exact ⟨_, rfl⟩ | exact ⟨0, rfl⟩ | exact still2 _ _ _ | exact still3 _ _ _ _)⟩
end Go.Proofs.YticnocoeldfiiaaGreatDoor
