/- SphereSizes: contracts. -/
import Derived.Test.YtldcmhgpppeooaaGreatDoorG39
import Derived.Test.YtldcmhgpppeooaaGreatDoorG36
namespace Go.Proofs.YtldcmhgpppeooaaGreatDoor
set_option maxRecDepth 100000
open Go.RowKit Game

/-- the numbers of elements of each length -/
def sphL (c : List (List Int)) (most : Int) : List Int := if IsC c ∧ 0 ≤ most then (levsTo c (depthG c (min most.toNat 15) 0)).map (fun l => (l.length : Int)) else []
theorem depth15 (c : List (List Int)) (M : Nat) : depthG c (min M 15) 0 ≤ 15 := by have := depth_le c (min M 15) 0; omega
theorem sph_cnt {c : List (List Int)} (hC : IsC c) (M : Nat) : cntTo (levsTo c (depthG c (min M 15) 0)).flatten (levsTo c (depthG c (min M 15) 0)).flatten.length = (levsTo c (depthG c (min M 15) 0)).map (fun l => (l.length : Int)) := by
  unfold cntTo
  rw [List.take_length]
  have := depth15 c M
  exact cnt_levels hC _ (by omega) (fun k hk => depth_ne _ 0 (by simp [levS]) k (Nat.zero_le _) hk)
theorem sphL_length (c : List (List Int)) (most : Int) : (sphL c most).length ≤ 16 := by
  unfold sphL
  split
  · rw [List.length_map, levsTo_length]; have := depth15 c most.toNat; omega
  · simp

set_option maxHeartbeats 4000000 in
theorem spec_SphereSizes_any (gc oc n cc : Nat) (c : List (List Int)) (most : Int) (w : World) (hn : c.length = n) (hx : c.length ≤ 1048576) (hrl : ∀ j, j < c.length → (c.getD j []).length ≤ 1048576) (hgc : gc < w.heap.size) (hr : Rows2 w gc oc c) :
    Calls Tryz.prog 9 #[(Value.slice (some ⟨gc, oc, none⟩) n cc), .int .i64 most] w (GotInts w (sphL c most)) := by
  subst hn
  obtain ⟨w1, hw1⟩ : ∃ w1, w1 = w.alloc (.cells #[] 3) := ⟨_, rfl⟩
  have hb1 : Below w.heap.size w w1 := by rw [hw1]; exact (by repeat (first | with_reducible exact Below.refl _ _ | with_reducible assumption | with_reducible refine below_drewN ?_ _ | with_reducible refine Below.drew ?_ | (with_reducible refine Below.alloc ?_ ?_ _; rotate_left; · first | (simp; done) | (simp; omega) | exact Below.size (by assumption) | (have hsz := Below.size (by assumption : Below _ _ _); simp at hsz ⊢; omega)) | (with_reducible refine Below.setCell ?_ ?_ _; rotate_left; · first | (simp; done) | (simp; omega))))
  have ho1 : Own w1 w.heap.size w.heap.size 0 [] := by rw [hw1]; exact Own.empty (w := w) (Nat.le_refl _)
  have hcall := spec_IsCartan gc oc _ cc c w1 rfl (by omega) (fun j hj => by have := hrl j hj; omega) (hr.below hb1 hgc)
  rw [hw1] at hcall
  by_cases hC : IsC c
  · rw [decide_eq_true hC] at hcall
    have Hcall := Lib.hid hcall; have Hw1 := Lib.hid hw1
    clear hcall hw1
    by_cases hm : 0 ≤ most
    · obtain ⟨M, rfl⟩ : ∃ M : Nat, most = M := ⟨most.toNat, by omega⟩
      have hmI : ¬ (M : Int) < 0 := by omega
      have hs : sphL c (M : Int) = (levsTo c (depthG c (min M 15) 0)).map (fun l => (l.length : Int)) := by unfold sphL; rw [if_pos ⟨hC, hm⟩, Int.toNat_natCast]
      rw [hs]
      have hd15 := depth15 c M
      go_enter Tryz.func9, Tryz.ntmps9
      go_wp2_with fail
      refine Hcall.out.mono ?_
      rintro e w2 ⟨rfl, hs2⟩
      rw [← Hw1.out] at hs2
      have hb2 := below_still hb1 hs2
      have ho2 := ho1.still hs2
      clear hb1 ho1 hs2 hs
      go_wp2_with fail
      refine (spec_l31Levels_any gc oc _ cc M c w2 rfl hC (Nat.lt_of_lt_of_le hgc hb2.size) (hr.below hb2 hgc)).mono ?_
      rintro e w3 ⟨g3, c3, Ls, rfl, hL3, hO3, hb3⟩
      rw [levsTo_length]
      have hb3' := hb2.trans (hb3.mono hb2.size)
      have ho3 := ho2.below hb3 ho2.lt
      generalize hD : depthG c (min M 15) 0 = D at *
      have HD := Lib.hid hD
      clear hD hb3 hb2 ho2
      have hLl : Ls.length = D + 1 := by have := congrArg List.length hL3; rw [levsTo_length] at this; simpa [levCont] using this
      have HL3 := Lib.hid hL3; have HLl := Lib.hid hLl
      clear hL3 hLl
      have hV3 := hO3.1
      go_wp2_with fail
      go_loopw [5, 7] (fun ov kv wr => ∃ k g' c' : Nat, k ≤ D + 1 ∧ kv = .int .i64 k ∧ ov = (Value.slice (some ⟨g', 0, none⟩) k c') ∧ Own wr w.heap.size g' c' (((levsTo c D).take k).map (fun l => (l.length : Int))) ∧ OwnV wr w2.heap.size 24 g3 c3 (Ls.map levVal) ∧ Below w.heap.size w wr) (fun _ kv _ => D + 1 - (intOf kv).toNat)
      case atStart => exact ⟨0, w.heap.size, 0, Nat.zero_le _, rfl, rfl, ho3, hV3, hb3'⟩
      case round =>
        clear ho3 hV3 hb3' hO3
        obtain ⟨k, g', c', hk, rfl, rfl, ho, hV, hb⟩ := hrel
        by_cases hlt : k < D + 1
        · have hkl : k < Ls.length := by rw [HLl.out]; exact hlt
          have hq := hV.cell k (by simpa using hkl)
          have hcl : contents Ls[k].2.2 = levS c k := by
            have h1 := congrArg (fun l => l.getD k []) HL3.out
            simp only [levsTo_getD c D k (by omega)] at h1
            rw [← h1]; simp [levCont, List.getD, hkl]
          have hl2 : Ls[k].2.2.length = (levS c k).length := by rw [← hcl]; simp [contents]
          have hq2 : wr.cell? ⟨g3, k, none⟩ = some (Value.slice (some ⟨(Ls[k].1), 0, none⟩) ((levS c k).length) (Ls[k].2.1)) := by rw [hq]; simp [levVal, hl2]
          generalize Ls[k].1 = ga at *
          generalize Ls[k].2.1 = ca at *
          have htk : ((levsTo c D).take (k + 1)).map (fun l => (l.length : Int)) = ((levsTo c D).take k).map (fun l => (l.length : Int)) ++ [((levS c k).length : Int)] := by
            have h3 : k < (levsTo c D).length := by rw [levsTo_length]; exact hlt
            have h4 : (levsTo c D)[k] = levS c k := by have := levsTo_getD c D k (by omega); simpa [List.getD, h3] using this
            rw [List.take_succ_eq_append_getElem h3, List.map_append, h4]; rfl
          have hll : (((levsTo c D).take k).map (fun l => (l.length : Int))).length = k := by rw [List.length_map, List.length_take, levsTo_length]; omega
          generalize ((levsTo c D).take k).map (fun l => (l.length : Int)) = xs at *
          generalize (levS c k).length = z at *
          have Htk := Lib.hid htk; have Hll := Lib.hid hll
          clear htk hll hq hcl hl2
          go_wp2_with (at_builtin; refine wpList_append_int_n rfl _ _ rfl w.heap.size g' c' k xs (z : Int) Hll.out ho rfl rfl (by omega) ?_)
          intro g5 c5 w5 ho5 hg5 _
          go_wp2
          go_roundw
          case rel =>
            rw [← Htk.out] at ho5
            exact ⟨k + 1, g5, c5, by omega, by go_num, rfl, ho5, hV.grown hg5 (fun e => hV.ne ho.toV (by decide) (Option.some.inj e)), hb.grown hg5 hb.size (by intro j hj; cases hj; exact ho.base)⟩
          case measure => simp [intOf]; omega
        · obtain rfl : k = D + 1 := by omega
          have hll : ((levsTo c D).take (D + 1)) = levsTo c D := List.take_of_length_le (by rw [levsTo_length]; exact Nat.le_refl _)
          rw [hll] at ho
          go_wp2
          go_ret
          rw [HD.out]
          exact GotInts.mk' g' c' (by rw [List.length_map, levsTo_length]) ho hb
    · have hmI : most < 0 := by omega
      have hs : sphL c most = [] := by unfold sphL; rw [if_neg (fun h => hm h.2)]
      rw [hs]
      go_enter Tryz.func9, Tryz.ntmps9
      go_wp2_with fail
      refine Hcall.out.mono ?_
      rintro e w2 ⟨rfl, hs2⟩
      rw [← Hw1.out] at hs2
      have hb2 := below_still hb1 hs2
      have ho2 := ho1.still hs2
      go_wp2_with fail
      go_ret
      exact GotInts.mk' _ _ rfl ho2 hb2
  · rw [decide_eq_false hC] at hcall
    have Hcall := Lib.hid hcall; have Hw1 := Lib.hid hw1
    clear hcall hw1
    have hs : sphL c most = [] := by unfold sphL; rw [if_neg (fun h => hC h.1)]
    rw [hs]
    go_enter Tryz.func9, Tryz.ntmps9
    go_wp2_with fail
    refine Hcall.out.mono ?_
    rintro e w2 ⟨rfl, hs2⟩
    rw [← Hw1.out] at hs2
    have hb2 := below_still hb1 hs2
    have ho2 := ho1.still hs2
    go_wp2_with fail
    go_ret
    exact GotInts.mk' _ _ rfl ho2 hb2

set_option maxHeartbeats 4000000 in
theorem impl_SphereSizes_any (gc oc n cc : Nat) (c : List (List Int)) (most : Int) (w : World) (hn : c.length = n) (hx : c.length ≤ 1048576) (hrl : ∀ j, j < c.length → (c.getD j []).length ≤ 1048576) (hgc : gc < w.heap.size) (hr : Rows2 w gc oc c) :
    Calls Tryz.prog 7 #[(Value.slice (some ⟨gc, oc, none⟩) n cc), .int .i64 most] w (GotInts w (sphL c most)) := by
  subst hn
  obtain ⟨w1, hw1⟩ : ∃ w1, w1 = w.alloc (.cells #[] 3) := ⟨_, rfl⟩
  have hb1 : Below w.heap.size w w1 := by rw [hw1]; exact (by repeat (first | with_reducible exact Below.refl _ _ | with_reducible assumption | with_reducible refine below_drewN ?_ _ | with_reducible refine Below.drew ?_ | (with_reducible refine Below.alloc ?_ ?_ _; rotate_left; · first | (simp; done) | (simp; omega) | exact Below.size (by assumption) | (have hsz := Below.size (by assumption : Below _ _ _); simp at hsz ⊢; omega)) | (with_reducible refine Below.setCell ?_ ?_ _; rotate_left; · first | (simp; done) | (simp; omega))))
  have ho1 : Own w1 w.heap.size w.heap.size 0 [] := by rw [hw1]; exact Own.empty (w := w) (Nat.le_refl _)
  have hcall := impl_IsCartan gc oc _ cc c w1 rfl (by omega) (fun j hj => by have := hrl j hj; omega) (hr.below hb1 hgc)
  rw [hw1] at hcall
  by_cases hC : IsC c
  · rw [decide_eq_true hC] at hcall
    have Hcall := Lib.hid hcall; have Hw1 := Lib.hid hw1
    clear hcall hw1
    by_cases hm : 0 ≤ most
    · obtain ⟨M, rfl⟩ : ∃ M : Nat, most = M := ⟨most.toNat, by omega⟩
      have hmI : ¬ (M : Int) < 0 := by omega
      have hs : sphL c (M : Int) = cntTo (levsTo c (depthG c (min M 15) 0)).flatten (levsTo c (depthG c (min M 15) 0)).flatten.length := by rw [sph_cnt hC]; unfold sphL; rw [if_pos ⟨hC, hm⟩, Int.toNat_natCast]
      rw [hs]
      have hd15 := depth15 c M
      have hmin : min (M : Int) 15 = ((min M 15 : Nat) : Int) := by omega
      have Hmin := Lib.hid hmin
      clear hmin
      go_enter Tryz.func7, Tryz.ntmps7
      go_wp2_with fail
      refine Hcall.out.mono ?_
      rintro e w2 ⟨rfl, hs2⟩
      rw [← Hw1.out] at hs2
      have hb2 := below_still hb1 hs2
      have ho2 := ho1.still hs2
      clear hb1 ho1 hs2 hs
      go_wp2_with fail
      rw [Hmin.out]
      refine (impl_ball_any gc oc _ cc (min M 15) c w2 rfl hC (fun t ht _ => by omega) (Nat.lt_of_lt_of_le hgc hb2.size) (hr.below hb2 hgc)).mono ?_
      rintro e w3 ⟨g3, c3, rs, rfl, hcr, hO3, hb3⟩
      rw [← Hmin.out]
      have hb3' := hb2.trans (hb3.mono hb2.size)
      have ho3 := ho2.below hb3 ho2.lt
      have hV3 := hO3.1
      have hflat : (levsTo c (depthG c (min M 15) 0)).flatten.length ≤ 200 := by rw [tot_flat]; exact depth_tot _ 0 (by simp [tot])
      have hwl : ∀ x ∈ (levsTo c (depthG c (min M 15) 0)).flatten, x.length ≤ 15 := by
        intro x hx
        obtain ⟨l, hl, hxl⟩ := List.mem_flatten.1 hx
        obtain ⟨k, hk, rfl⟩ := List.mem_map.1 hl
        have hk2 := List.mem_range.1 hk
        rw [lev_len hC (by omega) x hxl]
        omega
      generalize hD : (levsTo c (depthG c (min M 15) 0)).flatten = L at *
      have HD := Lib.hid hD; have Hcr := Lib.hid hcr; have Hwl := Lib.hid hwl
      clear hD hb3 hb2 ho2 hcr hO3 hwl
      obtain ⟨N, hN⟩ : ∃ N, L.length = N := ⟨_, rfl⟩
      rw [hN]
      rw [hN] at hflat
      have HN := Lib.hid hN; clear hN
      go_wp2_with fail
      go_loopw [5, 28] (fun ov jv wr => ∃ j nO g' c' : Nat, j ≤ N ∧ jv = .int .i64 j ∧ ov = (Value.slice (some ⟨g', 0, none⟩) nO c') ∧ Hid ((cntTo L j).length = nO) ∧ Own wr w.heap.size g' c' (cntTo L j) ∧ OwnV wr w2.heap.size 27 g3 c3 (rs.map rowVal) ∧ Below w.heap.size w wr) (fun _ jv _ => N - (intOf jv).toNat)
      case atStart => exact ⟨0, 0, w.heap.size, 0, Nat.zero_le _, rfl, rfl, rfl, ho3, hV3, hb3'⟩
      case round =>
        clear ho3 hV3 hb3'
        obtain ⟨j, nO, g', c', hj, rfl, rfl, hnO, ho, hV, hb⟩ := hrel
        by_cases hlt : j < N
        · have hjr : j < rs.length := by rw [← contents_length, Hcr.out, HN.out]; exact hlt
          have hjL : j < L.length := by rw [HN.out]; exact hlt
          have hq := hV.cell j (by simpa using hjr)
          have hcl : rs[j].2.2 = L.getD j [] := by rw [← Hcr.out]; simp [contents, List.getD, hjr]
          have hl15 := Hwl.out (L.getD j []) (by simp [List.getD, hjL])
          have hq2 : wr.cell? ⟨g3, j, none⟩ = some (Value.slice (some ⟨(rs[j].1), 0, none⟩) ((L.getD j []).length) (rs[j].2.1)) := by rw [hq]; simp [rowVal, hcl]
          have hsucc := cntTo_succ hjL
          have hbd := cntTo_bound L j (by omega)
          have hnO16 : nO ≤ 16 := by rw [← hnO.out]; exact cntTo_len L 15 Hwl.out j (by omega)
          generalize rs[j].1 = ga at *
          generalize rs[j].2.1 = ca at *
          generalize (L.getD j []).length = k at *
          generalize cntTo L j = xs at *
          have Hsucc := Lib.hid hsucc; have Hbd := Lib.hid hbd
          clear hsucc hbd hq hcl
          go_wp2
          go_loopw [5] (fun ov wi => ∃ r g' c' : Nat, r ≤ k + 1 - nO ∧ ov = (Value.slice (some ⟨g', 0, none⟩) (nO + r) c') ∧ Own wi w.heap.size g' c' (xs ++ List.replicate r 0) ∧ OwnV wi w2.heap.size 27 g3 c3 (rs.map rowVal) ∧ Below w.heap.size w wi) (fun ov _ => 64 - lenOfV ov)
          case atStart => exact ⟨0, g', c', Nat.zero_le _, rfl, by simpa using ho, hV, hb⟩
          case round =>
            clear ho hV hb hq2
            obtain ⟨r, g', c', hr, rfl, ho, hV, hb⟩ := hrel
            by_cases hpad : nO + r ≤ k
            · have hlr : (xs ++ List.replicate r (0 : Int)).length = nO + r := by rw [List.length_append, hnO.out, List.length_replicate]
              have Hlr := Lib.hid hlr; clear hlr
              have hpI : (nO : Int) + (r : Int) ≤ (k : Int) := by omega
              go_wp2_with (at_builtin; refine wpList_append_int_n rfl _ _ rfl w.heap.size g' c' (nO + r) (xs ++ List.replicate r 0) 0 Hlr.out ho rfl rfl (by omega) ?_)
              intro g5 c5 w5 ho5 hg5 _
              go_wp2
              go_roundw
              case rel =>
                refine ⟨r + 1, g5, c5, by omega, by rw [Nat.add_assoc], ?_, hV.grown hg5 (fun e => hV.ne ho.toV (by decide) (Option.some.inj e)), hb.grown hg5 hb.size (by intro j hj; cases hj; exact ho.base)⟩
                rw [List.replicate_succ']; first | exact ho5 | (rw [← List.append_assoc]; exact ho5)
              case measure => simp [lenOfV]; omega
            · have hr2 : r = k + 1 - nO := by omega
              have hpt : xs ++ List.replicate r 0 = padTo xs k := by unfold padTo; rw [hnO.out, hr2]
              have hpl : (padTo xs k).length = nO + r := by rw [← hpt, List.length_append, hnO.out, List.length_replicate]
              rw [hpt] at ho
              have hkl : k < (padTo xs k).length := padTo_length xs k
              have q := ho.cell k hkl
              have f := ho.frozen k
              have hset := ho.set k ((padTo xs k).getD k 0 + 1)
              have hp : 0 ≤ (padTo xs k).getD k 0 ∧ (padTo xs k).getD k 0 ≤ j := by
                rw [← hpt]
                by_cases e : k < xs.length
                · have := Hbd.out k e
                  simp only [List.getD, List.getElem?_append_left e]
                  exact this
                · simp only [List.getD, List.getElem?_append_right (show xs.length ≤ k by omega)]
                  simp [List.getElem?_replicate]
                  split <;> simp
              have hbm : (padTo xs k).set k ((padTo xs k).getD k 0 + 1) = bump xs k := rfl
              rw [hbm] at hset
              have hbl : (bump xs k).length = nO + r := by unfold bump; rw [List.length_set]; exact hpl
              have Hset := Lib.hid hset; have Hbl := Lib.hid hbl; have Hr2 := Lib.hid hr2
              have hpI : ¬ (nO : Int) + (r : Int) ≤ (k : Int) := by omega
              have hkI : (k : Int) < (nO : Int) + (r : Int) := by omega
              clear hset hbl hpt hpl hkl hbm hr2
              generalize (padTo xs k).getD k 0 = z at *
              obtain ⟨hp1, hp2⟩ := hp
              go_wp2
              go_roundw
              case rel =>
                exact ⟨j + 1, nO + r, g', c', by omega, by go_num, rfl, by show _ = _; rw [Hsucc.out]; exact Hbl.out, by rw [Hsucc.out]; exact Hset.out.1, hV.grown Hset.out.2 (fun e => hV.ne ho.toV (by decide) (Option.some.inj e)), hb.grown Hset.out.2 hb.size (by intro j hj; cases hj; exact ho.base)⟩
              case measure => simp [intOf]; omega
        · obtain rfl : j = N := by omega
          go_wp2
          go_ret
          rw [HN.out]
          exact GotInts.mk' g' c' hnO.out ho hb
    · have hmI : most < 0 := by omega
      have hs : sphL c most = [] := by unfold sphL; rw [if_neg (fun h => hm h.2)]
      rw [hs]
      go_enter Tryz.func7, Tryz.ntmps7
      go_wp2_with fail
      refine Hcall.out.mono ?_
      rintro e w2 ⟨rfl, hs2⟩
      rw [← Hw1.out] at hs2
      have hb2 := below_still hb1 hs2
      have ho2 := ho1.still hs2
      go_wp2_with fail
      go_ret
      exact GotInts.mk' _ _ rfl ho2 hb2
  · rw [decide_eq_false hC] at hcall
    have Hcall := Lib.hid hcall; have Hw1 := Lib.hid hw1
    clear hcall hw1
    have hs : sphL c most = [] := by unfold sphL; rw [if_neg (fun h => hC h.1)]
    rw [hs]
    go_enter Tryz.func7, Tryz.ntmps7
    go_wp2_with fail
    refine Hcall.out.mono ?_
    rintro e w2 ⟨rfl, hs2⟩
    rw [← Hw1.out] at hs2
    have hb2 := below_still hb1 hs2
    have ho2 := ho1.still hs2
    go_wp2_with fail
    go_ret
    exact GotInts.mk' _ _ rfl ho2 hb2
end Go.Proofs.YtldcmhgpppeooaaGreatDoor
