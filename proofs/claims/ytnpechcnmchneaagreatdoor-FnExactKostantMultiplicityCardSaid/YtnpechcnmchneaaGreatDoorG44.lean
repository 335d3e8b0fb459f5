/- The program's RootsUpTo and PositiveRoots; PositiveRoots of both at any matrix: contracts. The reference's count of partitions: contracts. -/
import Derived.Test.YtnpechcnmchneaaGreatDoorG41
import Derived.Test.YtnpechcnmchneaaGreatDoorG42
import Derived.Test.YtnpechcnmchneaaGreatDoorG43
import Derived.Test.YtnpechcnmchneaaGreatDoorG32
import Derived.Test.YtnpechcnmchneaaGreatDoorG02
import Derived.Deep.RegionHeld3
import Derived.Deep.LoopGhost
namespace Go.Proofs.YtnpechcnmchneaaGreatDoor
set_option maxRecDepth 100000
open Go.RowKit Game

def posA (c : List (List Int)) : List (List Int) := if finB c = true then posL c else []
theorem posA_fin {c : List (List Int)} (h : finB c = true) : posA c = posL c := if_pos h
theorem posA_inf {c : List (List Int)} (h : finB c = false) : posA c = [] := if_neg (by rw [h]; decide)
theorem finB_isC {c : List (List Int)} (h : finB c = true) : IsC c := by
  unfold finB at h
  rw [Bool.and_eq_true] at h
  simpa using h.1
theorem posOk_fin {c : List (List Int)} (h : finB c = true) : PosOk c := posOk_of (pos_fin (finB_isC h) h)

set_option maxHeartbeats 1000000 in
theorem impl_RootsUpTo_ok (gc oc n cc : Nat) (c : List (List Int)) (w : World) (hn : c.length = n) (hC : IsC c) (hP : PosOk c) (hgc : gc < w.heap.size) (hr : Rows2 w gc oc c) :
    Calls Tryz.prog 146 #[(Value.slice (some ⟨gc, oc, none⟩) n cc), .int .i64 12] w (GotRows w (posL c)) := by
  subst hn
  have hn4 := hC.2.1
  have hcl := hC.2.2.1
  have hcall := impl_IsCartan gc oc _ cc c w rfl (by omega) (fun j hj => by have := hcl j hj; omega) hr
  rw [decide_eq_true hC] at hcall
  have Hcall := Lib.hid hcall; have Hr := Lib.hid hr; have HP := Lib.hid hP; have HC := Lib.hid hC
  clear hcall hr hP hcl hC
  go_enter Tryz.func146, Tryz.ntmps146
  go_wp2_with fail
  refine Hcall.out.mono ?_
  rintro e w1 ⟨rfl, hs1⟩
  have hb1 := below_still (Below.refl w.heap.size w) hs1
  have hc2 := impl_pairedRoots_ok (fun _ _ => True) gc oc _ cc c w1 rfl HC.out HP.out (CoRel.any c) (Nat.lt_of_lt_of_le hgc hb1.size) (Hr.out.still hs1)
  have Hc2 := Lib.hid hc2
  clear hc2 Hcall hs1
  go_wp2_with fail
  refine Hc2.out.mono ?_
  rintro e w2 ⟨g, cap, rs, g2, cap2, rs2, rfl, hcon, -, -, hO, -, hb2⟩
  have hb := hb1.trans (hb2.mono hb1.size)
  have hO2 := hO.mono hb1.size
  clear Hc2 hO hb2
  go_wp2_with fail
  go_ret
  exact ⟨g, cap, rs, rfl, hcon, hO2, hb⟩

set_option maxHeartbeats 1000000 in
theorem impl_PositiveRoots_any (gc oc n cc : Nat) (c : List (List Int)) (w : World) (hn : c.length = n) (hl : c.length ≤ 1048576) (hrl : ∀ j, j < c.length → (c.getD j []).length ≤ 1048576) (hgc : gc < w.heap.size) (hr : Rows2 w gc oc c) :
    Calls Tryz.prog 98 #[(Value.slice (some ⟨gc, oc, none⟩) n cc)] w (GotRowsB w (posA c) (finB c)) := by
  have hcall := impl_IsFinite_any gc oc n cc c w hn hl hrl hgc hr
  cases hf : finB c with
  | false =>
    rw [hf] at hcall
    rw [posA_inf hf]
    have Hcall := Lib.hid hcall
    clear hcall
    go_enter Tryz.func98, Tryz.ntmps98
    go_wp2_with fail
    refine Hcall.out.mono ?_
    rintro e w1 ⟨rfl, hb1⟩
    go_wp2_with fail
    go_ret2
    exact ⟨_, 0, [], rfl, rfl, OwnRows.empty hb1.size, hb1.alloc hb1.size _⟩
  | true =>
    rw [hf] at hcall
    rw [posA_fin hf]
    have Hcall := Lib.hid hcall; have Hr := Lib.hid (fun W (hW : Below w.heap.size w W) => impl_RootsUpTo_ok gc oc n cc c W hn (finB_isC hf) (posOk_fin hf) (Nat.lt_of_lt_of_le hgc hW.size) (hr.below hW hgc))
    clear hcall hr hf hrl hl hn
    go_enter Tryz.func98, Tryz.ntmps98
    go_wp2_with fail
    refine Hcall.out.mono ?_
    rintro e w1 ⟨rfl, hb1⟩
    go_wp2_with fail
    refine (Hr.out w1 hb1).mono ?_
    rintro e w2 ⟨g, cp, rs, rfl, hcr, ho, hb2⟩
    go_wp2_with fail
    go_ret2
    exact ⟨g, cp, rs, rfl, hcr, ho.mono hb1.size, hb1.trans (hb2.mono hb1.size)⟩

theorem spec_PositiveRoots_any (gc oc n cc : Nat) (c : List (List Int)) (w : World) (hn : c.length = n) (hl : c.length ≤ 1048576) (hrl : ∀ j, j < c.length → (c.getD j []).length ≤ 1048576) (hgc : gc < w.heap.size) (hr : Rows2 w gc oc c) :
    Calls Tryz.prog 40 #[(Value.slice (some ⟨gc, oc, none⟩) n cc)] w (GotRowsB w (posA c) (finB c)) := by
  have hcall := fun W (hW : Below w.heap.size w W) => spec_IsFinite_any gc oc n cc c W hn hl hrl (Nat.lt_of_lt_of_le hgc hW.size) (hr.below hW hgc)
  cases hf : finB c with
  | false =>
    rw [hf] at hcall
    rw [posA_inf hf]
    exact spec_PositiveRoots_inf gc oc n cc w (hcall w (Below.refl _ _))
  | true =>
    rw [hf] at hcall
    rw [posA_fin hf]
    exact spec_PositiveRoots_fin gc oc n cc c w hn (finB_isC hf) (posOk_fin hf) hgc hr hcall
theorem posA_rl (c : List (List Int)) : Rl c.length (posA c) := by
  unfold posA
  split
  · exact posL_rl c
  · intro x hx; cases hx
theorem posA_few (c : List (List Int)) : (posA c).length ≤ 24 ∧ ∀ x ∈ posA c, x.length ≤ 4 := by
  unfold posA
  split
  · rename_i h
    exact ⟨(posOk_fin h).few, fun x hx => by rw [posL_rl c x hx]; exact (finB_isC h).2.1⟩
  · exact ⟨by simp, by simp⟩
end Go.Proofs.YtnpechcnmchneaaGreatDoor
namespace Go.Proofs.YtnpechcnmchneaaGreatDoor
set_option maxRecDepth 100000
open Go.RowKit Game

set_option maxHeartbeats 1000000 in
theorem spec_l28Negative_any (g o n cp : Nat) (r : List Int) (w : World) (hn : r.length = n) (hx : r.length ≤ 1048576) (hr : Cells w g o r) :
    Calls Tryz.prog 95 #[(Value.slice (some ⟨g, o, none⟩) n cp)] w (Reads w (.bool (negB r))) := by
  subst hn
  have hneg := fun j (hj : j < r.length) h => negB_true (r := r) (j := j) hj h
  have hpos : (∀ j, j < r.length → 0 ≤ r.getD j 0) → negB r = false := fun h => by
    unfold negB
    rw [List.any_eq_false]
    intro x hx
    obtain ⟨j, hj, rfl⟩ := List.mem_iff_getElem.1 hx
    have := h j hj
    simp [List.getD, hj] at this ⊢
    omega
  have Hneg := Lib.hid hneg; have Hpos := Lib.hid hpos
  clear hneg hpos
  go_enter Tryz.func95, Tryz.ntmps95
  go_wp2
  go_loopw [3] (fun kv wr => ∃ t q : Nat, t ≤ r.length ∧ kv = .int .i64 t ∧ Hid (∀ j, j < t → 0 ≤ r.getD j 0) ∧ wr = w.drewN q) (fun kv _ => r.length - (intOf kv).toNat)
  case atStart => exact ⟨0, 0, Nat.zero_le _, rfl, fun j hj => absurd hj (by omega), rfl⟩
  case round =>
    obtain ⟨t, q, ht, rfl, hall, rfl⟩ := hrel
    by_cases hlt : t < r.length
    · have q2 := hr t hlt
      by_cases h0 : r.getD t 0 < 0
      · have Hz := Lib.hid (Hneg.out t hlt h0)
        generalize r.getD t 0 = y at *
        go_wp2
        go_ret
        exact ⟨ret_bool Hz.out.symm, (by first | exact ⟨_, rfl⟩ | exact ⟨0, rfl⟩ | exact still2 _ _ _ | exact still3 _ _ _ _)⟩
      · have Hz : Hid (∀ j, j < t + 1 → 0 ≤ r.getD j 0) := Lib.hid (fun j hj => by
          by_cases e : j = t
          · subst e; omega
          · exact hall.out j (by omega))
        generalize r.getD t 0 = y at *
        go_wp2
        go_roundw
        case rel => exact ⟨t + 1, _, by omega, by go_num, Hz.out, rfl⟩
        case measure => simp [intOf]; omega
    · obtain rfl : t = r.length := by omega
      have Hz := Lib.hid (Hpos.out hall.out)
      go_wp2
      go_ret
      exact ⟨ret_bool Hz.out.symm, (by first | exact ⟨_, rfl⟩ | exact ⟨0, rfl⟩ | exact still2 _ _ _ | exact still3 _ _ _ _)⟩

theorem subV_succ (x p : List Int) (k : Nat) : ((List.range (k + 1)).map fun j => x.getD j 0 - p.getD j 0) = ((List.range k).map fun j => x.getD j 0 - p.getD j 0) ++ [x.getD k 0 - p.getD k 0] := by rw [List.range_succ, List.map_append]; rfl
set_option maxHeartbeats 1000000 in
theorem spec_l27Add_sub (g1 o1 n c1 g2 o2 c2 : Nat) (x p : List Int) (w : World) (hn1 : x.length = n) (hn2 : p.length = n) (hx : n ≤ 1048576) (hbx : ∀ j, j < n → 0 ≤ x.getD j 0 ∧ x.getD j 0 ≤ 12) (hbp : ∀ j, j < n → 0 ≤ p.getD j 0 ∧ p.getD j 0 ≤ 12) (hg1 : g1 < w.heap.size) (hg2 : g2 < w.heap.size) (ha : Cells w g1 o1 x) (hr : Cells w g2 o2 p) :
    Calls Tryz.prog 93 #[(Value.slice (some ⟨g1, o1, none⟩) n c1), (Value.slice (some ⟨g2, o2, none⟩) n c2), .int .i64 (-1)] w (GotInts w (subV x p)) := by
  have hsl : subV x p = (List.range n).map fun j => x.getD j 0 - p.getD j 0 := by unfold subV; rw [hn1]
  rw [hsl]
  have Hn1 := Lib.hid hn1; have Hn2 := Lib.hid hn2
  have hstep := subV_succ x p
  have hlen : ∀ k, ((List.range k).map fun j => x.getD j 0 - p.getD j 0).length = k := fun k => by simp
  have H1 : Hid (∀ t, t < n → ∀ W, Below w.heap.size w W → W.cell? ⟨g1, o1 + t, none⟩ = some (.int .i64 (x.getD t 0)) ∧ W.cell? ⟨g2, o2 + t, none⟩ = some (.int .i64 (p.getD t 0))) := Lib.hid (fun t ht W hW => ⟨(hW.cell (p := ⟨g1, o1 + t, none⟩) hg1).trans (ha t (by omega)), (hW.cell (p := ⟨g2, o2 + t, none⟩) hg2).trans (hr t (by omega))⟩)
  have Hstep := Lib.hid hstep; have Hlen := Lib.hid hlen
  clear hsl hstep hlen ha hr hn1 hn2
  generalize hF : (fun k => (List.range k).map fun j => x.getD j 0 - p.getD j 0) = F
  have e : ∀ k, ((List.range k).map fun j => x.getD j 0 - p.getD j 0) = F k := fun k => by rw [← hF]
  simp only [e] at Hstep Hlen ⊢
  have HF0 : Hid (F 0 = []) := Lib.hid (by rw [← hF]; rfl)
  clear e hF
  go_enter Tryz.func93, Tryz.ntmps93
  go_wp2
  go_loopw [7, 8] (fun s kv wr => ∃ t g' c' : Nat, t ≤ n ∧ kv = .int .i64 t ∧ s = (Value.slice (some ⟨g', 0, none⟩) t c') ∧ Own wr w.heap.size g' c' (F t) ∧ Below w.heap.size w wr) (fun _ kv _ => n - (intOf kv).toNat)
  case atStart => exact ⟨0, w.heap.size, 0, Nat.zero_le _, rfl, rfl, by rw [HF0.out]; exact Own.empty (Nat.le_refl _), (Below.refl _ _).alloc (Nat.le_refl _) _⟩
  case round =>
    obtain ⟨t, g', c', ht, rfl, rfl, ho, hb⟩ := hrel
    by_cases hlt : t < n
    · obtain ⟨k1, k2⟩ := H1.out t hlt wr hb
      have hsucc := Hstep.out t
      have hl := Hlen.out t
      have hBg := ho.base
      have ne1 : some g1 ≠ some g' := by intro e; cases e; omega
      have ne2 : some g2 ≠ some g' := by intro e; cases e; omega
      have b1 := hbx t hlt
      have b2 := hbp t hlt
      generalize x.getD t 0 = xx at *
      generalize p.getD t 0 = y at *
      have hw1 : IntKind.i64.wrap (-1 * y) = -1 * y := IntWalk.i64_in _ ⟨by omega, by omega⟩
      have hw1' : IntKind.i64.wrap (-y) = -y := IntWalk.i64_in _ ⟨by omega, by omega⟩
      have hw2 : IntKind.i64.wrap (xx + -1 * y) = xx - y := by rw [show xx + -1 * y = xx - y by omega]; exact IntWalk.i64_in _ ⟨by omega, by omega⟩
      have hw2' : IntKind.i64.wrap (xx + -y) = xx - y := by rw [show xx + -y = xx - y by omega]; exact IntWalk.i64_in _ ⟨by omega, by omega⟩
      generalize F t = ys at *
      have Hs := Lib.hid hsucc; clear hsucc
      go_wp2_with fail
      go_region_held3 (fun W => W.cell? ⟨g1, o1 + t, none⟩ = some (.int .i64 xx) ∧ W.cell? ⟨g2, o2 + t, none⟩ = some (.int .i64 y))
        (first | go_keep | exact ⟨hg3.cell (a := ⟨g1, o1 + t, none⟩) k1 ne1, hg3.cell (a := ⟨g2, o2 + t, none⟩) k2 ne2⟩)
        ((refine step_append_int (w := wr.drew) (by rfl) _ _ (by rfl) w.heap.size g' c' t wr.heap.size ys _ _ hl (by rfl) (by rfl) ho.drew (by rfl) (by rfl) (by omega) ?_; intro g3 c3 w3 ho3 hg3 hor))
      go_wp2_with fail
      go_roundw
      case rel =>
        rw [← Hs.out] at ho3
        exact ⟨t + 1, g3, c3, by omega, by go_num, rfl, ho3, (Below.drew hb).grown hg3 hb.size (by intro j hj; cases hj; exact ho.base)⟩
      case measure => simp [intOf]; omega
    · obtain rfl : t = n := by omega
      go_wp2_with fail
      go_ret
      exact GotInts.mk' g' c' (Hlen.out _) ho hb

/-- a list of roots as the search has them -/
structure RtsOk (n : Nat) (L : List (List Int)) : Prop where
  n4 : n ≤ 4
  few : L.length ≤ 9
  rt : ∀ p ∈ L, Rt12 n p
theorem RtsOk.at {n : Nat} {L : List (List Int)} (h : RtsOk n L) {k : Nat} (hk : k < L.length) : Rt12 n (L.getD k []) := h.rt _ (by simp [List.getD, hk])
theorem RtsOk.drop {n : Nat} {L : List (List Int)} (h : RtsOk n L) (k : Nat) : ∀ p ∈ L.drop k, Rt12 n p := fun p hp => h.rt p (List.mem_of_mem_drop hp)

set_option maxHeartbeats 1000000 in
theorem spec_l28Ways_ok (gL oL cL n : Nat) (L : List (List Int)) (hL : RtsOk n L) : ∀ (m k g o cp : Nat) (r : List Int) (w : World), k + m = L.length → Sm12 n r → gL < w.heap.size → g < w.heap.size → Rows2 w gL oL L → Cells w g o r →
    Calls Tryz.prog 96 #[(Value.slice (some ⟨gL, oL, none⟩) L.length cL), (Value.slice (some ⟨g, o, none⟩) n cp), .int .i64 k] w (Gives w (.int .i64 (ways (L.drop k) r))) := by
  intro m
  have hn4 := hL.n4
  have hfew := hL.few
  induction m with
  | zero =>
    intro k g o cp r w hkm hr hgL hg hrL hc
    obtain rfl : k = L.length := by omega
    have hh := spec_HeightOf_any g o n cp r w hr.1 (by rw [hr.1]; omega) hc
    have Hh := Lib.hid hh
    have hz := ways_end (L := L) r
    clear hh hrL hc
    by_cases h0 : heightL r = 0
    · have h0' : (heightL r == 0) = true := by simp [h0]
      rw [if_pos h0] at hz
      have Hz := Lib.hid hz; clear hz
      generalize heightL r = h at *
      go_enter Tryz.func96, Tryz.ntmps96
      go_wp2_with fail
      refine Hh.out.mono ?_
      rintro e w1 ⟨rfl, hs1⟩
      go_wp2_with fail
      go_ret
      exact ⟨congrArg (fun t => Ending.returned (.int .i64 t)) Hz.out.symm, below_still (Below.refl _ _) hs1⟩
    · have h0' : (heightL r == 0) = false := by simp [h0]
      rw [if_neg h0] at hz
      have Hz := Lib.hid hz; clear hz
      generalize heightL r = h at *
      go_enter Tryz.func96, Tryz.ntmps96
      go_wp2_with fail
      refine Hh.out.mono ?_
      rintro e w1 ⟨rfl, hs1⟩
      go_wp2_with fail
      go_ret
      exact ⟨congrArg (fun t => Ending.returned (.int .i64 t)) Hz.out.symm, below_still (Below.refl _ _) hs1⟩
  | succ m ih =>
    intro k g o cp r w hkm hr hgL hg hrL hc
    have hk : k < L.length := by omega
    have hh := spec_HeightOf_any g o n cp r w hr.1 (by rw [hr.1]; omega) hc
    have Hh := Lib.hid hh
    clear hh
    by_cases h0 : heightL r = 0
    · have h0' : (heightL r == 0) = true := by simp [h0]
      have Hz := Lib.hid (ways_zero hn4 hr (hL.drop k) h0)
      clear hrL hc ih
      generalize heightL r = h at *
      go_enter Tryz.func96, Tryz.ntmps96
      go_wp2_with fail
      refine Hh.out.mono ?_
      rintro e w1 ⟨rfl, hs1⟩
      go_wp2_with fail
      go_ret
      exact ⟨congrArg (fun t => Ending.returned (.int .i64 t)) Hz.out.symm, below_still (Below.refl _ _) hs1⟩
    · have h0' : (heightL r == 0) = false := by simp [h0]
      have hw := ways_drop hk r
      have hp := hL.at hk
      have ih' := fun g o cp x W => ih (k + 1) g o cp x W (by omega)
      obtain ⟨ga, oa, ca, q1, q2, q3, q4⟩ := hrL k hk
      have HF := Lib.hid ih'
      have HrL := Lib.hid hrL
      have e1 : ((k : Int) + 1) = ((k + 1 : Nat) : Int) := by omega
      rw [hp.1.1] at q1 q2
      generalize L.getD k [] = p at *
      generalize hFe : ways (L.drop (k + 1)) = F at *
      generalize hWe : ways (L.drop k) r = R at *
      have Hw := Lib.hid hw; have Hp := Lib.hid hp; have Hr := Lib.hid hr; have He1 := Lib.hid e1
      clear hw ih ih' hrL hFe hWe hp hr e1
      generalize heightL r = h at *
      go_enter Tryz.func96, Tryz.ntmps96
      go_wp2_with fail
      refine Hh.out.mono ?_
      rintro e w1 ⟨rfl, hs1⟩
      have hb1 := below_still (Below.refl w.heap.size w) hs1
      have hc1 := hc.still hs1
      clear Hh hs1
      have hb1s := hb1.size
      go_wp2_with (at_builtin; refine wpList_clone (w := w1) rfl _ _ rfl g o n cp r Hr.out.1 (Nat.lt_of_lt_of_le hg hb1s) hc1 rfl rfl (by rw [Hr.out.1]; omega) ?_)
      intro g2 c2 w2 ho2 hb2'
      have hb2 := hb1.trans (hb2'.mono hb1.size)
      have ho2' := ho2.mono hb1.size
      clear hb1 hc1 hb2' ho2 hb1s
      go_wp2_with fail
      go_loopg [7, 8] 14 (fun gk nv xv wr => ∃ (t gx cx : Nat) (x : List Int) (acc : Int), gk + t = 14 ∧ nv = .int .i64 acc ∧ xv = (Value.slice (some ⟨gx, 0, none⟩) n cx) ∧ Hid (WSt n p r x t) ∧ Hid (wLoop F p (14 - t) x acc = R) ∧ Own wr w.heap.size gx cx x ∧ Below w.heap.size w wr)
      case atStart => exact ⟨0, g2, c2, r, 0, rfl, rfl, rfl, WSt.start Hr.out.1, Hw.out.symm, ho2', hb2⟩
      case round =>
        clear ho2' hb2
        obtain ⟨t, gx, cx, x, acc, hgk, rfl, rfl, hst, hwl, ho, hb⟩ := hrel
        have hxl := hst.out.len
        have Hsg := Lib.hid (spec_RootSign_any gx 0 n cx x wr hxl (by rw [hxl]; omega) ho.cells)
        have Hng := Lib.hid (fun W (h : Cells W gx 0 x) => spec_l28Negative_any gx 0 n cx x W hxl (by rw [hxl]; omega) h)
        cases hneg : negB x with
        | true =>
          have hR := hwl.out
          rw [wLoop_end hneg] at hR
          have HR := Lib.hid hR
          rw [hneg] at Hng
          clear hR hneg hwl
          by_cases hsz : 0 ≤ signL x
          · have d1 : decide (0 ≤ signL x) = true := decide_eq_true hsz
            generalize signL x = sg at *
            have Hxl := Lib.hid hxl; clear hxl
            go_wp2_with fail
            refine Hsg.out.mono ?_
            rintro e w4 ⟨rfl, hs4⟩
            have ho4 := ho.still hs4
            have hb4 := below_still hb hs4
            have Hn4 := Lib.hid (Hng.out w4 ho4.cells)
            clear Hsg hs4 ho hb
            go_wp2_with fail
            refine Hn4.out.mono ?_
            rintro e w5 ⟨rfl, hs5⟩
            have hb5 := below_still hb4 hs5
            go_wp2_with fail
            go_ret
            exact ⟨congrArg (fun t => Ending.returned (.int .i64 t)) HR.out, hb5⟩
          · have d1 : decide (0 ≤ signL x) = false := decide_eq_false hsz
            generalize signL x = sg at *
            have Hxl := Lib.hid hxl; clear hxl
            go_wp2_with fail
            refine Hsg.out.mono ?_
            rintro e w4 ⟨rfl, hs4⟩
            have hb4 := below_still hb hs4
            go_wp2_with fail
            go_ret
            exact ⟨congrArg (fun t => Ending.returned (.int .i64 t)) HR.out, hb4⟩
        | false =>
          have ht := hst.out.lt Hr.out Hp.out hneg
          have hsm := hst.out.sm Hr.out Hp.out hneg
          have hsz := sign_nonneg hneg
          have d1 : decide (0 ≤ signL x) = true := decide_eq_true hsz
          have hR := hwl.out
          rw [show 14 - t = 13 - t + 1 by omega, wLoop_go hneg] at hR
          have Hst := Lib.hid (hst.out.next)
          have HR := Lib.hid hR
          rw [hneg] at Hng
          have Hsub := Lib.hid (fun W (hW : Below w.heap.size w W) (hgx : gx < W.heap.size) (h : Cells W gx 0 x) => spec_l27Add_sub gx 0 n cx ga oa ca x p W hxl Hp.out.1.1 (by omega) hsm.2 Hp.out.1.2 hgx (Nat.lt_of_lt_of_le q3 hW.size) h (q4.below hW q3))
          have Hrec : Hid (∀ W, Below w.heap.size w W → gx < W.heap.size → Cells W gx 0 x → Calls Tryz.prog 96 #[(Value.slice (some ⟨gL, oL, none⟩) L.length cL), (Value.slice (some ⟨gx, 0, none⟩) n cx), .int .i64 ((k : Int) + 1)] W (Gives W (.int .i64 (F x)))) := Lib.hid (fun W hW hgx h => by
            rw [He1.out]
            exact HF.out gx 0 cx x W hsm (Nat.lt_of_lt_of_le hgL hW.size) hgx (HrL.out.below hW hgL) h)
          have Hsl := Lib.hid (show (subV x p).length = n by rw [subV_length]; exact hxl)
          generalize subV x p = y at *
          generalize F x = fx at *
          generalize signL x = sg at *
          have Hxl := Lib.hid hxl
          have q1' := Lib.hid (fun W (hW : Below w.heap.size w W) => (hW.cell (p := ⟨gL, oL + k, none⟩) hgL).trans q1)
          clear hR hneg hwl hst hsm hsz hxl q1
          go_wp2_with fail
          refine Hsg.out.mono ?_
          rintro e w4 ⟨rfl, hs4⟩
          have ho4 := ho.still hs4
          have hb4 := below_still hb hs4
          have Hn4 := Lib.hid (Hng.out w4 ho4.cells)
          clear Hsg hs4 ho hb
          go_wp2_with fail
          refine Hn4.out.mono ?_
          rintro e w5 ⟨rfl, hs5⟩
          have ho5 := ho4.still hs5
          have hb5 := below_still hb4 hs5
          have Hr5 := Lib.hid (Hrec.out w5 hb5 ho5.lt ho5.cells)
          clear Hn4 hs5 ho4 hb4 Hng Hrec
          go_wp2_with fail
          refine Hr5.out.mono ?_
          rintro e w6 ⟨rfl, hb6'⟩
          have ho6 := ho5.below hb6' ho5.lt
          have hb6 := hb5.trans (hb6'.mono hb5.size)
          have Hs6 := Lib.hid (Hsub.out w6 hb6 ho6.lt ho6.cells)
          have k6 := q1'.out w6 hb6
          clear Hr5 hb6' ho5 hb5 Hsub q1'
          go_wp2_with fail
          refine Hs6.out.mono ?_
          rintro e w7 ⟨g7, c7, rfl, ho7, hb7'⟩
          rw [Hsl.out]
          have hb7 := hb6.trans (hb7'.mono hb6.size)
          have ho7' := ho7.mono hb6.size
          clear Hs6 hb7' ho7 ho6 hb6 k6
          go_wp2_with fail
          go_roundg (13 - t)
          case measure => omega
          case rel => exact ⟨t + 1, g7, c7, y, _, by omega, rfl, rfl, Hst.out, by rw [show 14 - (t + 1) = 13 - t by omega]; exact HR.out, ho7', hb7⟩
end Go.Proofs.YtnpechcnmchneaaGreatDoor
