/- Elements of any group, their numbers by length: contracts of both. -/
import Derived.Test.YtldcmhgpppeooaaGreatDoorG36
import Derived.Test.YtldcmhgpppeooaaGreatDoorG47
namespace Go.Proofs.YtldcmhgpppeooaaGreatDoor
set_option maxRecDepth 100000
open Go.RowKit Game

set_option maxHeartbeats 1000000 in
theorem spec_ElementsOf_any (gc oc n cc : Nat) (c : List (List Int)) (w : World) (hn : c.length = n) (hx : c.length ≤ 1048576) (hrl : ∀ j, j < c.length → (c.getD j []).length ≤ 1048576) (hgc : gc < w.heap.size) (hr : Rows2 w gc oc c) :
    Calls Tryz.prog 33 #[(Value.slice (some ⟨gc, oc, none⟩) n cc)] w (GotRowsB w (elA c) (grpB c)) := by
  have hcall := spec_SizeOf_any gc oc n cc c w hn hx hrl hgc hr
  have hiff := grp_iff c
  have hbd := szO_bound c
  by_cases hf : grpB c = true
  · have hG := grp_B hf
    have hL : elA c = elemL c := if_pos hf
    obtain ⟨h1, h2⟩ := hiff.1 hf
    rw [hL, hf]
    have HA := Lib.hid (fun W (hW : Below w.heap.size w W) => spec_l13All_ok gc oc n cc c W hn hG (Nat.lt_of_lt_of_le hgc hW.size) (hr.below hW hgc))
    have Hcall := Lib.hid hcall
    clear hcall hiff hf hG hL hrl hr hx hn
    generalize szO c = z at *
    generalize elemL c = L at *
    go_enter Tryz.func33, Tryz.ntmps33
    go_wp2_with fail
    refine Hcall.out.mono ?_
    rintro e w1 ⟨rfl, hb1⟩
    go_wp2_with fail
    refine (HA.out w1 hb1).mono ?_
    rintro e w2 ⟨g2, c2, rs2, rfl, hc2, ho2, hb2⟩
    go_wp2_with fail
    go_ret2
    exact ⟨g2, c2, rs2, rfl, hc2, ho2.mono hb1.size, hb1.trans (hb2.mono hb1.size)⟩
  · have hf' : grpB c = false := by simpa using hf
    have hL : elA c = [] := if_neg hf
    have hno : szO c < 1 ∨ 200 < szO c := by
      rcases Int.lt_or_le (szO c) 1 with h | h
      · exact .inl h
      · rcases Int.lt_or_le 200 (szO c) with h2 | h2
        · exact .inr h2
        · exact absurd (hiff.2 ⟨h, h2⟩) hf
    rw [hL, hf']
    have Hcall := Lib.hid hcall
    clear hcall hiff hf hf' hL hrl hr hx hn
    generalize szO c = z at *
    rcases hno with hz | hz
    · go_enter Tryz.func33, Tryz.ntmps33
      go_wp2_with fail
      refine Hcall.out.mono ?_
      rintro e w1 ⟨rfl, hb1⟩
      go_wp2_with fail
      go_ret2
      exact ⟨w1.heap.size, 0, [], rfl, rfl, (OwnRows.empty (w := w1) (Nat.le_refl _)).mono hb1.size, hb1.alloc hb1.size _⟩
    · go_enter Tryz.func33, Tryz.ntmps33
      go_wp2_with fail
      refine Hcall.out.mono ?_
      rintro e w1 ⟨rfl, hb1⟩
      go_wp2_with fail
      go_ret2
      exact ⟨w1.heap.size, 0, [], rfl, rfl, (OwnRows.empty (w := w1) (Nat.le_refl _)).mono hb1.size, hb1.alloc hb1.size _⟩
set_option maxHeartbeats 1000000 in
theorem impl_elements_no (gc oc n cc : Nat) (c : List (List Int)) (w : World) (hn : c.length = n) (hx : c.length ≤ 1048576) (hrl : ∀ j, j < c.length → (c.getD j []).length ≤ 1048576) (hf : grpB c = false) (hgc : gc < w.heap.size) (hr : Rows2 w gc oc c) (hm : MaxL w) :
    Calls Tryz.prog 76 #[(Value.slice (some ⟨gc, oc, none⟩) n cc)] w (Gives w (.slice none 0 0)) := by
  have hF := impl_IsFinite_any gc oc n cc c w hn hx hrl hgc hr
  have hZ := fun W (hW : Below w.heap.size w W) => impl_SizeOf_any gc oc n cc c W hn hx hrl (Nat.lt_of_lt_of_le hgc hW.size) (hr.below hW hgc) (hm.below hW)
  by_cases hfin : finB c = true
  · have hs : 200 < szO c := by
      rcases Int.lt_or_le 200 (szO c) with h | h
      · exact h
      · have : grpB c = true := by unfold grpB; rw [hfin, decide_eq_true h]; rfl
        rw [hf] at this; exact absurd this (by decide)
    have hs0 := (szO_bound c).2
    rw [hfin] at hF
    have HF := Lib.hid hF; have HZ := Lib.hid hZ
    clear hF hZ hrl hx hn hr hm hf hfin
    generalize szO c = z at *
    go_enter Tryz.func76, Tryz.ntmps76
    go_wp2_with fail
    refine HF.out.mono ?_
    rintro e w1 ⟨rfl, hb1⟩
    go_wp2_with fail
    refine (HZ.out w1 hb1).mono ?_
    rintro e w2 ⟨rfl, hb2⟩
    go_wp2_with fail
    go_ret
    exact ⟨rfl, hb1.trans (hb2.mono hb1.size)⟩
  · have hfin' : finB c = false := by simpa using hfin
    rw [hfin'] at hF
    have HF := Lib.hid hF
    clear hF hZ hrl hx hn hr hm hf hfin hfin'
    go_enter Tryz.func76, Tryz.ntmps76
    go_wp2_with fail
    refine HF.out.mono ?_
    rintro e w1 ⟨rfl, hb1⟩
    go_wp2_with fail
    go_ret
    exact ⟨rfl, hb1⟩

def lenOfL : Value → Nat | .slice _ n _ => n | _ => 0
set_option maxHeartbeats 4000000 in
theorem impl_LengthCounts_yes (gc oc n cc : Nat) (c : List (List Int)) (w : World) (hn : c.length = n) (hg : grpB c = true) (hgc : gc < w.heap.size) (hr : Rows2 w gc oc c) (hm : MaxL w) :
    Calls Tryz.prog 21 #[(Value.slice (some ⟨gc, oc, none⟩) n cc)] w (GotInts w (lenC c)) := by
  subst hn
  have hG := grp_B hg
  rw [show lenC c = cntTo (elemL c) (elemL c).length from if_pos hg]
  obtain ⟨w2, hw2⟩ : ∃ w2, w2 = w.alloc (.cells #[] 3) := ⟨_, rfl⟩
  have hb2 : Below w.heap.size w w2 := by rw [hw2]; exact (by repeat (first | with_reducible exact Below.refl _ _ | with_reducible assumption | with_reducible refine below_drewN ?_ _ | with_reducible refine Below.drew ?_ | (with_reducible refine Below.alloc ?_ ?_ _; rotate_left; · first | (simp; done) | (simp; omega) | exact Below.size (by assumption) | (have hsz := Below.size (by assumption : Below _ _ _); simp at hsz ⊢; omega)) | (with_reducible refine Below.setCell ?_ ?_ _; rotate_left; · first | (simp; done) | (simp; omega))))
  have ho2 : Own w2 w.heap.size w.heap.size 0 [] := by rw [hw2]; exact Own.empty (w := w) (Nat.le_refl _)
  have hcall := impl_elements_ok gc oc c.length cc c w2 rfl hG (Nat.lt_of_lt_of_le hgc hb2.size) (hr.below hb2 hgc) (hm.below hb2)
  rw [hw2] at hcall
  have Hcall := Lib.hid hcall; have Hw2 := Lib.hid hw2
  have hflat := hG.few
  have hwl := elem_len hG
  clear hcall hw2 hG hg hm
  generalize elemL c = L at *
  obtain ⟨N, hN⟩ : ∃ N, L.length = N := ⟨_, rfl⟩
  rw [hN] at hflat ⊢
  have HN := Lib.hid hN; have Hwl := Lib.hid hwl
  clear hN hwl
  go_enter Tryz.func21, Tryz.ntmps21
  go_wp2_with fail
  refine Hcall.out.mono ?_
  rintro e w3 ⟨g3, c3, rs, rfl, hcr, hO3, hb3⟩
  rw [← Hw2.out] at hb3 hO3
  have hb3' := hb2.trans (hb3.mono hb2.size)
  have ho3 := ho2.below hb3 ho2.lt
  have hV3 := hO3.1
  rw [HN.out]
  have Hcr := Lib.hid hcr
  clear hb3 hb2 ho2 hcr hO3 Hcall Hw2
  go_wp2_with fail
  go_loopw [3, 10] (fun ov jv wr => ∃ j nO g' c' : Nat, j ≤ N ∧ jv = .int .i64 j ∧ ov = (Value.slice (some ⟨g', 0, none⟩) nO c') ∧ Hid ((cntTo L j).length = nO) ∧ Own wr w.heap.size g' c' (cntTo L j) ∧ OwnV wr w2.heap.size 27 g3 c3 (rs.map rowVal) ∧ Below w.heap.size w wr) (fun _ jv _ => N - (intOf jv).toNat)
  case atStart => exact ⟨0, 0, w.heap.size, 0, Nat.zero_le _, rfl, rfl, rfl, ho3, hV3, hb3'⟩
  case round =>
    clear ho3 hV3 hb3'
    obtain ⟨j, nO, g', c', hj, rfl, rfl, hnO, ho, hV, hb⟩ := hrel
    by_cases hlt : j < N
    · have hjr : j < rs.length := by rw [← contents_length, Hcr.out, HN.out]; exact hlt
      have hjL : j < L.length := by rw [HN.out]; exact hlt
      have hq := hV.cell j (by simpa using hjr)
      have hcl : rs[j].2.2 = L.getD j [] := by rw [← Hcr.out]; simp [contents, List.getD, hjr]
      have hl15 := Hwl.out (L.getD j []) (by simp [List.getD, hjL])
      have hq2 : wr.cell? ⟨g3, j, none⟩ = some (Value.slice (some ⟨(rs[j].1), 0, none⟩) ((L.getD j []).length) (rs[j].2.1)) := by rw [hq]; simp [rowVal, hcl]
      have hsucc := cntTo_succ hjL
      have hbd := cntTo_bound L j (by omega)
      have hnO16 : nO ≤ 25 := by rw [← hnO.out]; exact cntTo_len L 24 Hwl.out j (by omega)
      generalize rs[j].1 = ga at *
      generalize rs[j].2.1 = ca at *
      generalize (L.getD j []).length = k at *
      generalize cntTo L j = xs at *
      have Hsucc := Lib.hid hsucc; have Hbd := Lib.hid hbd
      clear hsucc hbd hq hcl
      go_wp2
      go_loopw [3] (fun ov wi => ∃ r g' c' : Nat, r ≤ k + 1 - nO ∧ ov = (Value.slice (some ⟨g', 0, none⟩) (nO + r) c') ∧ Own wi w.heap.size g' c' (xs ++ List.replicate r 0) ∧ OwnV wi w2.heap.size 27 g3 c3 (rs.map rowVal) ∧ Below w.heap.size w wi) (fun ov _ => 64 - lenOfL ov)
      case atStart => exact ⟨0, g', c', Nat.zero_le _, rfl, by simpa using ho, hV, hb⟩
      case round =>
        clear ho hV hb hq2
        obtain ⟨r, g', c', hr, rfl, ho, hV, hb⟩ := hrel
        by_cases hpad : nO + r ≤ k
        · have hlr : (xs ++ List.replicate r (0 : Int)).length = nO + r := by rw [List.length_append, hnO.out, List.length_replicate]
          have Hlr := Lib.hid hlr; clear hlr
          have hpI : (nO : Int) + (r : Int) ≤ (k : Int) := by omega
          go_wp2_with (at_builtin; refine wpList_append_int_n rfl _ _ rfl w.heap.size g' c' (nO + r) (xs ++ List.replicate r 0) 0 Hlr.out ho rfl rfl (by omega) ?_)
          intro g5 c5 w5 ho5 hg5 _
          go_wp2
          go_roundw
          case rel =>
            refine ⟨r + 1, g5, c5, by omega, by rw [Nat.add_assoc], ?_, hV.grown hg5 (fun e => hV.ne ho.toV (by decide) (Option.some.inj e)), hb.grown hg5 hb.size (by intro j hj; cases hj; exact ho.base)⟩
            rw [List.replicate_succ']; first | exact ho5 | (rw [← List.append_assoc]; exact ho5)
          case measure => simp [lenOfL]; omega
        · have hr2 : r = k + 1 - nO := by omega
          have hpt : xs ++ List.replicate r 0 = padTo xs k := by unfold padTo; rw [hnO.out, hr2]
          have hpl : (padTo xs k).length = nO + r := by rw [← hpt, List.length_append, hnO.out, List.length_replicate]
          rw [hpt] at ho
          have hkl : k < (padTo xs k).length := padTo_length xs k
          have q := ho.cell k hkl
          have f := ho.frozen k
          have hset := ho.set k ((padTo xs k).getD k 0 + 1)
          have hp : 0 ≤ (padTo xs k).getD k 0 ∧ (padTo xs k).getD k 0 ≤ j := by
            rw [← hpt]
            by_cases e : k < xs.length
            · have := Hbd.out k e
              simp only [List.getD, List.getElem?_append_left e]
              exact this
            · simp only [List.getD, List.getElem?_append_right (show xs.length ≤ k by omega)]
              simp [List.getElem?_replicate]
              split <;> simp
          have hbm : (padTo xs k).set k ((padTo xs k).getD k 0 + 1) = bump xs k := rfl
          rw [hbm] at hset
          have hbl : (bump xs k).length = nO + r := by unfold bump; rw [List.length_set]; exact hpl
          have Hset := Lib.hid hset; have Hbl := Lib.hid hbl; have Hr2 := Lib.hid hr2
          have hpI : ¬ (nO : Int) + (r : Int) ≤ (k : Int) := by omega
          have hkI : (k : Int) < (nO : Int) + (r : Int) := by omega
          clear hset hbl hpt hpl hkl hbm hr2
          generalize (padTo xs k).getD k 0 = z at *
          obtain ⟨hp1, hp2⟩ := hp
          go_wp2
          go_roundw
          case rel =>
            exact ⟨j + 1, nO + r, g', c', by omega, by go_num, rfl, by show _ = _; rw [Hsucc.out]; exact Hbl.out, by rw [Hsucc.out]; exact Hset.out.1, hV.grown Hset.out.2 (fun e => hV.ne ho.toV (by decide) (Option.some.inj e)), hb.grown Hset.out.2 hb.size (by intro j hj; cases hj; exact ho.base)⟩
          case measure => simp [intOf]; omega
    · obtain rfl : j = N := by omega
      go_wp2
      go_ret
      rw [← HN.out]
      exact GotInts.mk' g' c' (by rw [HN.out]; exact hnO.out) (by rw [HN.out]; exact ho) hb
set_option maxHeartbeats 1000000 in
theorem impl_LengthCounts_any (gc oc n cc : Nat) (c : List (List Int)) (w : World) (hn : c.length = n) (hx : c.length ≤ 1048576) (hrl : ∀ j, j < c.length → (c.getD j []).length ≤ 1048576) (hgc : gc < w.heap.size) (hr : Rows2 w gc oc c) (hm : MaxL w) :
    Calls Tryz.prog 21 #[(Value.slice (some ⟨gc, oc, none⟩) n cc)] w (GotInts w (lenC c)) := by
  by_cases hg : grpB c = true
  · exact impl_LengthCounts_yes gc oc n cc c w hn hg hgc hr hm
  · have hg' : grpB c = false := by simpa using hg
    rw [show lenC c = [] from if_neg hg]
    obtain ⟨w2, hw2⟩ : ∃ w2, w2 = w.alloc (.cells #[] 3) := ⟨_, rfl⟩
    have hb2 : Below w.heap.size w w2 := by rw [hw2]; exact (by repeat (first | with_reducible exact Below.refl _ _ | with_reducible assumption | with_reducible refine below_drewN ?_ _ | with_reducible refine Below.drew ?_ | (with_reducible refine Below.alloc ?_ ?_ _; rotate_left; · first | (simp; done) | (simp; omega) | exact Below.size (by assumption) | (have hsz := Below.size (by assumption : Below _ _ _); simp at hsz ⊢; omega)) | (with_reducible refine Below.setCell ?_ ?_ _; rotate_left; · first | (simp; done) | (simp; omega))))
    have ho2 : Own w2 w.heap.size w.heap.size 0 [] := by rw [hw2]; exact Own.empty (w := w) (Nat.le_refl _)
    have hcall := impl_elements_no gc oc n cc c w2 hn hx hrl hg' (Nat.lt_of_lt_of_le hgc hb2.size) (hr.below hb2 hgc) (hm.below hb2)
    rw [hw2] at hcall
    have Hcall := Lib.hid hcall; have Hw2 := Lib.hid hw2
    clear hcall hw2 hg hg' hm hr hrl hn
    go_enter Tryz.func21, Tryz.ntmps21
    go_wp2_with fail
    refine Hcall.out.mono ?_
    rintro e w3 ⟨rfl, hb3⟩
    rw [← Hw2.out] at hb3
    have hb3' := hb2.trans (hb3.mono hb2.size)
    have ho3 := ho2.below hb3 ho2.lt
    clear hb3 hb2 ho2 Hcall Hw2
    go_wp2_with fail
    go_loopw [3, 10] (fun ov jv wr => jv = .int .i64 0 ∧ ov = (Value.slice (some ⟨w.heap.size, 0, none⟩) 0 0) ∧ wr = w3) (fun _ _ _ => 0)
    case atStart => exact ⟨rfl, rfl, rfl⟩
    case round =>
      obtain ⟨rfl, rfl, rfl⟩ := hrel
      go_wp2
      go_ret
      exact GotInts.mk' w.heap.size 0 rfl ho3 hb3'

def cntS (L : List (List Int)) (D j : Nat) : List Int := padR (cntTo L j) (D + 1)
set_option maxHeartbeats 4000000 in
theorem spec_LengthCounts_any (gc oc n cc : Nat) (c : List (List Int)) (w : World) (hn : c.length = n) (hx : c.length ≤ 1048576) (hrl : ∀ j, j < c.length → (c.getD j []).length ≤ 1048576) (hgc : gc < w.heap.size) (hr : Rows2 w gc oc c) :
    Calls Tryz.prog 23 #[(Value.slice (some ⟨gc, oc, none⟩) n cc)] w (GotInts w (lenC c)) := by
  have hcall := spec_ElementsOf_any gc oc n cc c w hn hx hrl hgc hr
  by_cases hg : grpB c = true
  · have hG := grp_B hg
    rw [show lenC c = cntTo (elemL c) (elemL c).length from if_pos hg]
    rw [hg, show elA c = elemL c from if_pos hg] at hcall
    obtain ⟨hpos, hmax⟩ := elem_last hG
    have hflat := hG.few
    have hwl := elem_len hG
    have hlast := hwl ((elemL c).getD ((elemL c).length - 1) []) (by simp [List.getD, show (elemL c).length - 1 < (elemL c).length by omega])
    have hful := cnt_full hpos rfl hmax
    have Hcall := Lib.hid hcall
    clear hcall hG hg hr hrl hn
    generalize elemL c = L at *
    obtain ⟨D, hD⟩ : ∃ D, (L.getD (L.length - 1) []).length = D := ⟨_, rfl⟩
    rw [hD] at hmax hlast hful
    have HD := Lib.hid hD; have Hmax := Lib.hid hmax
    have HE : Hid (cntS L D L.length = cntTo L L.length) := Lib.hid (by unfold cntS; rw [← hful]; exact padR_self _)
    have H0 : Hid (cntS L D 0 = List.replicate (D + 1) 0) := Lib.hid (by simp [cntS, padR, cntTo])
    have HL : Hid (∀ j, j ≤ L.length → (cntS L D j).length = D + 1) := Lib.hid (fun j hj => padR_length (cntTo_len L D hmax j hj))
    have HG : Hid (∀ j k, (cntS L D j).getD k 0 = (cntTo L j).getD k 0) := Lib.hid (fun j k => padR_getD _ _ _)
    have HS : Hid (∀ j, j < L.length → (cntS L D j).set (L.getD j []).length ((cntTo L j).getD (L.getD j []).length 0 + 1) = cntS L D (j + 1)) := Lib.hid (fun j hj => by
      unfold cntS
      rw [cntTo_succ hj]
      exact padR_bump (by have := hmax (L.getD j []) (by simp [List.getD, hj]); omega) (cntTo_len L D hmax j (by omega)))
    have HB : Hid (∀ j k, j ≤ L.length → 0 ≤ (cntTo L j).getD k 0 ∧ (cntTo L j).getD k 0 ≤ j) := Lib.hid (fun j k hj => by
      by_cases h : k < (cntTo L j).length
      · exact cntTo_bound L j hj k h
      · simp [List.getD, Nat.not_lt.1 h])
    rw [← HE.out]
    clear hmax hful hD hwl HE
    obtain ⟨N, hN⟩ : ∃ N, L.length = N := ⟨_, rfl⟩
    rw [hN] at HD HL HS HB hpos hflat ⊢
    have HN := Lib.hid hN; clear hN
    go_enter Tryz.func23, Tryz.ntmps23
    go_wp2_with fail
    refine Hcall.out.mono ?_
    rintro e w1 ⟨g3, c3, rs, rfl, hcr, hO, hb1⟩
    rw [HN.out]
    have Hcr := Lib.hid hcr; clear hcr
    have hlen : rs.length = N := by rw [← HN.out, ← Hcr.out, contents_length]
    have hrow : ∀ j (hj : j < N), ∃ ga ca, w1.cell? ⟨g3, j, none⟩ = some (Value.slice (some ⟨ga, 0, none⟩) ((L.getD j []).length) ca) := fun j hj => by
      have hjr : j < rs.length := by omega
      have hq := hO.1.cell j (by simpa using hjr)
      have hcl : rs[j].2.2 = L.getD j [] := by rw [← Hcr.out]; simp [contents, List.getD, hjr]
      exact ⟨rs[j].1, rs[j].2.1, by rw [hq]; simp [rowVal, hcl]⟩
    obtain ⟨gl, cl, hql⟩ := hrow (N - 1) (by omega)
    rw [HD.out] at hql
    have hgl := hO.lt
    have e1 : IntKind.i64.wrap ((N : Int) - 1) = (N : Int) - 1 := IntWalk.i64_in _ (by omega)
    have e2 : ((N : Int) - 1).toNat = N - 1 := by omega
    have e3 : (0 : Int) ≤ (N : Int) - 1 := by omega
    have e4 : (N : Int) - 1 < (N : Int) := by omega
    have e5 : IntKind.i64.wrap ((D : Int) + 1) = ((D + 1 : Nat) : Int) := by rw [IntWalk.i64_in _ (by omega)]; omega
    go_wp2_with (at_make; refine wpList_make_ints rfl _ _ rfl w.heap.size (D + 1) _ rfl (by first | rfl | exact e5) (by first | rfl | exact e5) (by omega) hb1.size ?_)
    intro w2 ho2 hg2
    have hb12 : Below w1.heap.size w1 w2 := below_of_grown hg2
    have hs1 := hb1.size
    have hrow' : ∀ wr, Below w1.heap.size w1 wr → ∀ j (hj : j < N), ∃ ga ca, wr.cell? ⟨g3, j, none⟩ = some (Value.slice (some ⟨ga, 0, none⟩) ((L.getD j []).length) ca) := fun wr hW j hj => by
      obtain ⟨ga, ca, h⟩ := hrow j hj
      exact ⟨ga, ca, (hW.cell (p := ⟨g3, j, none⟩) hgl).trans h⟩
    have Hrow := Lib.hid hrow'
    have hkD : ∀ j, j < N → (L.getD j []).length ≤ D := fun j hj => Hmax.out _ (by simp [List.getD, show j < L.length by rw [HN.out]; exact hj])
    have HkD := Lib.hid hkD
    rw [← H0.out] at ho2
    generalize w1.heap.size = gO at *
    clear hrow hrow' hkD hg2 hO hql H0 HD
    go_wp2_with fail
    go_loopw [6] (fun iv wr => ∃ j, j ≤ N ∧ iv = .int .i64 j ∧ Own wr w.heap.size gO (D + 1) (cntS L D j) ∧ Below gO w1 wr) (fun iv _ => N - (intOf iv).toNat)
    case atStart => exact ⟨0, Nat.zero_le _, rfl, ho2, hb12⟩
    case round =>
      obtain ⟨j, hj, rfl, ho, hbw⟩ := hrel
      by_cases hlt : j < N
      · obtain ⟨ga, ca, hq⟩ := Hrow.out wr hbw j hlt
        have hk := HkD.out j hlt
        have hst := HS.out j hlt
        have hzb := HB.out j (L.getD j []).length hj
        have hzg := HG.out j (L.getD j []).length
        generalize (L.getD j []).length = k at *
        have x0 := ho.cell k (by rw [HL.out j hj]; omega)
        have y0 := ho.frozen k
        rw [hzg] at x0
        have s1 := ho.set k ((cntTo L j).getD k 0 + 1)
        rw [hst] at s1
        generalize (cntTo L j).getD k 0 = z at *
        have hw : IntKind.i64.wrap (z + 1) = z + 1 := IntWalk.i64_in _ (by omega)
        have hB2 : Below gO w1 (wr.setCell ⟨gO, k, none⟩ (.int .i64 (z + 1))) := hbw.grown s1.2 (Nat.le_of_lt ho.lt) (by intro t ht; cases ht; exact Nat.le_refl _)
        have hI : (k : Int) < (D : Int) + 1 := by omega
        obtain ⟨s1, -⟩ := s1
        clear hst hzg ho
        go_wp2_with fail
        go_region
        go_wp2_with fail
        go_roundw
        case rel => exact ⟨j + 1, by omega, by go_num, s1.drewN 1, below_drewN hB2 1⟩
        case measure => simp [intOf]; omega
      · obtain rfl : j = N := by omega
        go_wp2_with fail
        go_ret
        exact GotInts.mk' gO (D + 1) (HL.out _ (Nat.le_refl _)) ho (hb1.trans (hbw.mono hs1))
  · have hg' : grpB c = false := by simpa using hg
    rw [show lenC c = [] from if_neg hg]
    rw [hg', show elA c = [] from if_neg hg] at hcall
    have Hcall := Lib.hid hcall
    clear hcall hg hg' hr hrl hn
    go_enter Tryz.func23, Tryz.ntmps23
    go_wp2_with fail
    refine Hcall.out.mono ?_
    rintro e w1 ⟨g3, c3, rs, rfl, -, -, hb1⟩
    go_wp2_with fail
    go_ret
    exact GotInts.mk' w1.heap.size 0 rfl ((Own.empty (w := w1) (Nat.le_refl _)).mono hb1.size) (hb1.alloc hb1.size _)
end Go.Proofs.YtldcmhgpppeooaaGreatDoor
