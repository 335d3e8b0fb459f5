/- The program's elements of a finite group of at most 200 elements; groups of at most 48: contracts. Elements of any group, their numbers by length: contracts of both. The laws' draws of groups, letters, elements: contracts. -/
import Derived.Test.YtldcmhgpppeooaaGreatDoorG45
import Derived.Test.YtldcmhgpppeooaaGreatDoorG33
import Derived.Test.YtldcmhgpppeooaaGreatDoorG46
import Derived.Test.YtldcmhgpppeooaaGreatDoorG37
import Derived.Test.YtldcmhgpppeooaaGreatDoorG43
import Derived.Deep.RegionHeld3
namespace Go.Proofs.YtldcmhgpppeooaaGreatDoor
set_option maxRecDepth 100000
open Go.RowKit Game

set_option maxHeartbeats 1000000 in
theorem impl_elements_ok (gc oc n cc : Nat) (c : List (List Int)) (w : World) (hn : c.length = n) (hG : Grp c) (hgc : gc < w.heap.size) (hr : Rows2 w gc oc c) (hm : MaxL w) :
    Calls Tryz.prog 76 #[(Value.slice (some ⟨gc, oc, none⟩) n cc)] w (GotRows w (elemL c)) := by
  have hC := hG.hC
  have hx : c.length ≤ 1048576 := by have := hC.2.1; omega
  have hrl : ∀ j, j < c.length → (c.getD j []).length ≤ 1048576 := fun j hj => by rw [hC.2.2.1 j hj]; exact hx
  have hF := impl_IsFinite_any gc oc n cc c w hn hx hrl hgc hr
  rw [hG.fin] at hF
  have hZ := fun W (hW : Below w.heap.size w W) => impl_SizeOf_any gc oc n cc c W hn hx hrl (Nat.lt_of_lt_of_le hgc hW.size) (hr.below hW hgc) (hm.below hW)
  have hB := fun W (hW : Below w.heap.size w W) => impl_ball_any gc oc n cc 60 c W hn hC (fun t _ ht => by
    rcases Nat.lt_or_ge t 29 with h | h
    · omega
    · have h29 : levS c 29 = [] := by
        by_cases e : levS c 29 = []
        · exact e
        · obtain ⟨W, hW⟩ := (lev_ne hC (by omega)).1 e
          have := elt24 hC hG.fin hW
          omega
      have := lev_stop h29 (t - 29)
      rw [show 29 + (t - 29) = t by omega] at this
      exact absurd this ht) (Nat.lt_of_lt_of_le hgc hW.size) (hr.below hW hgc)
  have hs : szO c ≤ 200 := by have := hG.len; have := hG.few; omega
  have hs0 := (szO_bound c).1
  have HF := Lib.hid hF; have HZ := Lib.hid hZ
  have HB : Hid (∀ W, Below w.heap.size w W → Calls Tryz.prog 58 #[(Value.slice (some ⟨gc, oc, none⟩) n cc), .int .i64 60, .int .i64 200] W (GotRowsB W (elemL c) (ballOk c 60))) := Lib.hid hB
  clear hF hZ hB hrl hx hG hn hr hm
  generalize szO c = z at *
  generalize elemL c = L at *
  generalize ballOk c 60 = b at *
  go_enter Tryz.func76, Tryz.ntmps76
  go_wp2_with fail
  refine HF.out.mono ?_
  rintro e w1 ⟨rfl, hb1⟩
  go_wp2_with fail
  refine (HZ.out w1 hb1).mono ?_
  rintro e w2 ⟨rfl, hb2⟩
  have hB2 := hb1.trans (hb2.mono hb1.size)
  go_wp2_with fail
  refine (HB.out w2 hB2).mono ?_
  rintro e w3 ⟨g3, c3, rs3, rfl, hc3, ho3, hb3⟩
  go_wp2_with fail
  go_ret
  exact ⟨g3, c3, rs3, rfl, hc3, ho3.mono hB2.size, hB2.trans (hb3.mono hB2.size)⟩

set_option maxHeartbeats 1000000 in
theorem impl_ElementsOf_ok (gc oc n cc : Nat) (c : List (List Int)) (w : World) (hn : c.length = n) (hG : Grp c) (hgc : gc < w.heap.size) (hr : Rows2 w gc oc c) (hm : MaxL w) :
    Calls Tryz.prog 32 #[(Value.slice (some ⟨gc, oc, none⟩) n cc)] w (GotRowsB w (elemL c) true) := by
  have HA := Lib.hid (impl_elements_ok gc oc n cc c w hn hG hgc hr hm)
  clear hG hn hr hm
  generalize elemL c = L at *
  have hnil : ∀ (W : World) (g3 n c3 : Nat), (binOp .eql 24 (Value.slice (some ⟨g3, 0, none⟩) n c3) (.slice none 0 0)).run Tryz.prog W = .ok (.bool false) W := fun W g3 n c3 => Lib.run_eql_slice_nil W 24 27 _ _ _ _ _ Tryz.underlying24
  go_enter Tryz.func32, Tryz.ntmps32
  go_wp2_with fail
  refine HA.out.mono ?_
  rintro e w1 ⟨g3, c3, rs3, rfl, hc3, ho3, hb3⟩
  go_wp2_with fail
  go_ret2
  exact ⟨g3, c3, rs3, rfl, hc3, ho3, hb3⟩

end Go.Proofs.YtldcmhgpppeooaaGreatDoor
namespace Go.Proofs.YtldcmhgpppeooaaGreatDoor
set_option maxRecDepth 100000
open Go.RowKit Game

set_option maxHeartbeats 1000000 in
theorem spec_ElementsOf_any (gc oc n cc : Nat) (c : List (List Int)) (w : World) (hn : c.length = n) (hx : c.length ≤ 1048576) (hrl : ∀ j, j < c.length → (c.getD j []).length ≤ 1048576) (hgc : gc < w.heap.size) (hr : Rows2 w gc oc c) :
    Calls Tryz.prog 33 #[(Value.slice (some ⟨gc, oc, none⟩) n cc)] w (GotRowsB w (elA c) (grpB c)) := by
  have hcall := spec_SizeOf_any gc oc n cc c w hn hx hrl hgc hr
  have hiff := grp_iff c
  have hbd := szO_bound c
  by_cases hf : grpB c = true
  · have hG := grp_B hf
    have hL : elA c = elemL c := if_pos hf
    obtain ⟨h1, h2⟩ := hiff.1 hf
    rw [hL, hf]
    have HA := Lib.hid (fun W (hW : Below w.heap.size w W) => spec_l13All_ok gc oc n cc c W hn hG (Nat.lt_of_lt_of_le hgc hW.size) (hr.below hW hgc))
    have Hcall := Lib.hid hcall
    clear hcall hiff hf hG hL hrl hr hx hn
    generalize szO c = z at *
    generalize elemL c = L at *
    go_enter Tryz.func33, Tryz.ntmps33
    go_wp2_with fail
    refine Hcall.out.mono ?_
    rintro e w1 ⟨rfl, hb1⟩
    go_wp2_with fail
    refine (HA.out w1 hb1).mono ?_
    rintro e w2 ⟨g2, c2, rs2, rfl, hc2, ho2, hb2⟩
    go_wp2_with fail
    go_ret2
    exact ⟨g2, c2, rs2, rfl, hc2, ho2.mono hb1.size, hb1.trans (hb2.mono hb1.size)⟩
  · have hf' : grpB c = false := by simpa using hf
    have hL : elA c = [] := if_neg hf
    have hno : szO c < 1 ∨ 200 < szO c := by
      rcases Int.lt_or_le (szO c) 1 with h | h
      · exact .inl h
      · rcases Int.lt_or_le 200 (szO c) with h2 | h2
        · exact .inr h2
        · exact absurd (hiff.2 ⟨h, h2⟩) hf
    rw [hL, hf']
    have Hcall := Lib.hid hcall
    clear hcall hiff hf hf' hL hrl hr hx hn
    generalize szO c = z at *
    rcases hno with hz | hz
    · go_enter Tryz.func33, Tryz.ntmps33
      go_wp2_with fail
      refine Hcall.out.mono ?_
      rintro e w1 ⟨rfl, hb1⟩
      go_wp2_with fail
      go_ret2
      exact ⟨w1.heap.size, 0, [], rfl, rfl, (OwnRows.empty (w := w1) (Nat.le_refl _)).mono hb1.size, hb1.alloc hb1.size _⟩
    · go_enter Tryz.func33, Tryz.ntmps33
      go_wp2_with fail
      refine Hcall.out.mono ?_
      rintro e w1 ⟨rfl, hb1⟩
      go_wp2_with fail
      go_ret2
      exact ⟨w1.heap.size, 0, [], rfl, rfl, (OwnRows.empty (w := w1) (Nat.le_refl _)).mono hb1.size, hb1.alloc hb1.size _⟩
set_option maxHeartbeats 1000000 in
theorem impl_elements_no (gc oc n cc : Nat) (c : List (List Int)) (w : World) (hn : c.length = n) (hx : c.length ≤ 1048576) (hrl : ∀ j, j < c.length → (c.getD j []).length ≤ 1048576) (hf : grpB c = false) (hgc : gc < w.heap.size) (hr : Rows2 w gc oc c) (hm : MaxL w) :
    Calls Tryz.prog 76 #[(Value.slice (some ⟨gc, oc, none⟩) n cc)] w (Gives w (.slice none 0 0)) := by
  have hF := impl_IsFinite_any gc oc n cc c w hn hx hrl hgc hr
  have hZ := fun W (hW : Below w.heap.size w W) => impl_SizeOf_any gc oc n cc c W hn hx hrl (Nat.lt_of_lt_of_le hgc hW.size) (hr.below hW hgc) (hm.below hW)
  by_cases hfin : finB c = true
  · have hs : 200 < szO c := by
      rcases Int.lt_or_le 200 (szO c) with h | h
      · exact h
      · have : grpB c = true := by unfold grpB; rw [hfin, decide_eq_true h]; rfl
        rw [hf] at this; exact absurd this (by decide)
    have hs0 := (szO_bound c).2
    rw [hfin] at hF
    have HF := Lib.hid hF; have HZ := Lib.hid hZ
    clear hF hZ hrl hx hn hr hm hf hfin
    generalize szO c = z at *
    go_enter Tryz.func76, Tryz.ntmps76
    go_wp2_with fail
    refine HF.out.mono ?_
    rintro e w1 ⟨rfl, hb1⟩
    go_wp2_with fail
    refine (HZ.out w1 hb1).mono ?_
    rintro e w2 ⟨rfl, hb2⟩
    go_wp2_with fail
    go_ret
    exact ⟨rfl, hb1.trans (hb2.mono hb1.size)⟩
  · have hfin' : finB c = false := by simpa using hfin
    rw [hfin'] at hF
    have HF := Lib.hid hF
    clear hF hZ hrl hx hn hr hm hf hfin hfin'
    go_enter Tryz.func76, Tryz.ntmps76
    go_wp2_with fail
    refine HF.out.mono ?_
    rintro e w1 ⟨rfl, hb1⟩
    go_wp2_with fail
    go_ret
    exact ⟨rfl, hb1⟩

def lenOfL : Value → Nat | .slice _ n _ => n | _ => 0
set_option maxHeartbeats 4000000 in
theorem impl_LengthCounts_yes (gc oc n cc : Nat) (c : List (List Int)) (w : World) (hn : c.length = n) (hg : grpB c = true) (hgc : gc < w.heap.size) (hr : Rows2 w gc oc c) (hm : MaxL w) :
    Calls Tryz.prog 21 #[(Value.slice (some ⟨gc, oc, none⟩) n cc)] w (GotInts w (lenC c)) := by
  subst hn
  have hG := grp_B hg
  rw [show lenC c = cntTo (elemL c) (elemL c).length from if_pos hg]
  obtain ⟨w2, hw2⟩ : ∃ w2, w2 = w.alloc (.cells #[] 3) := ⟨_, rfl⟩
  have hb2 : Below w.heap.size w w2 := by rw [hw2]; exact (by repeat (first | with_reducible exact Below.refl _ _ | with_reducible assumption | with_reducible refine below_drewN ?_ _ | with_reducible refine Below.drew ?_ | (with_reducible refine Below.alloc ?_ ?_ _; rotate_left; · first | (simp; done) | (simp; omega) | exact Below.size (by assumption) | (have hsz := Below.size (by assumption : Below _ _ _); simp at hsz ⊢; omega)) | (with_reducible refine Below.setCell ?_ ?_ _; rotate_left; · first | (simp; done) | (simp; omega))))
  have ho2 : Own w2 w.heap.size w.heap.size 0 [] := by rw [hw2]; exact Own.empty (w := w) (Nat.le_refl _)
  have hcall := impl_elements_ok gc oc c.length cc c w2 rfl hG (Nat.lt_of_lt_of_le hgc hb2.size) (hr.below hb2 hgc) (hm.below hb2)
  rw [hw2] at hcall
  have Hcall := Lib.hid hcall; have Hw2 := Lib.hid hw2
  have hflat := hG.few
  have hwl := elem_len hG
  clear hcall hw2 hG hg hm
  generalize elemL c = L at *
  obtain ⟨N, hN⟩ : ∃ N, L.length = N := ⟨_, rfl⟩
  rw [hN] at hflat ⊢
  have HN := Lib.hid hN; have Hwl := Lib.hid hwl
  clear hN hwl
  go_enter Tryz.func21, Tryz.ntmps21
  go_wp2_with fail
  refine Hcall.out.mono ?_
  rintro e w3 ⟨g3, c3, rs, rfl, hcr, hO3, hb3⟩
  rw [← Hw2.out] at hb3 hO3
  have hb3' := hb2.trans (hb3.mono hb2.size)
  have ho3 := ho2.below hb3 ho2.lt
  have hV3 := hO3.1
  rw [HN.out]
  have Hcr := Lib.hid hcr
  clear hb3 hb2 ho2 hcr hO3 Hcall Hw2
  go_wp2_with fail
  go_loopw [3, 10] (fun ov jv wr => ∃ j nO g' c' : Nat, j ≤ N ∧ jv = .int .i64 j ∧ ov = (Value.slice (some ⟨g', 0, none⟩) nO c') ∧ Hid ((cntTo L j).length = nO) ∧ Own wr w.heap.size g' c' (cntTo L j) ∧ OwnV wr w2.heap.size 27 g3 c3 (rs.map rowVal) ∧ Below w.heap.size w wr) (fun _ jv _ => N - (intOf jv).toNat)
  case atStart => exact ⟨0, 0, w.heap.size, 0, Nat.zero_le _, rfl, rfl, rfl, ho3, hV3, hb3'⟩
  case round =>
    clear ho3 hV3 hb3'
    obtain ⟨j, nO, g', c', hj, rfl, rfl, hnO, ho, hV, hb⟩ := hrel
    by_cases hlt : j < N
    · have hjr : j < rs.length := by rw [← contents_length, Hcr.out, HN.out]; exact hlt
      have hjL : j < L.length := by rw [HN.out]; exact hlt
      have hq := hV.cell j (by simpa using hjr)
      have hcl : rs[j].2.2 = L.getD j [] := by rw [← Hcr.out]; simp [contents, List.getD, hjr]
      have hl15 := Hwl.out (L.getD j []) (by simp [List.getD, hjL])
      have hq2 : wr.cell? ⟨g3, j, none⟩ = some (Value.slice (some ⟨(rs[j].1), 0, none⟩) ((L.getD j []).length) (rs[j].2.1)) := by rw [hq]; simp [rowVal, hcl]
      have hsucc := cntTo_succ hjL
      have hbd := cntTo_bound L j (by omega)
      have hnO16 : nO ≤ 25 := by rw [← hnO.out]; exact cntTo_len L 24 Hwl.out j (by omega)
      generalize rs[j].1 = ga at *
      generalize rs[j].2.1 = ca at *
      generalize (L.getD j []).length = k at *
      generalize cntTo L j = xs at *
      have Hsucc := Lib.hid hsucc; have Hbd := Lib.hid hbd
      clear hsucc hbd hq hcl
      go_wp2
      go_loopw [3] (fun ov wi => ∃ r g' c' : Nat, r ≤ k + 1 - nO ∧ ov = (Value.slice (some ⟨g', 0, none⟩) (nO + r) c') ∧ Own wi w.heap.size g' c' (xs ++ List.replicate r 0) ∧ OwnV wi w2.heap.size 27 g3 c3 (rs.map rowVal) ∧ Below w.heap.size w wi) (fun ov _ => 64 - lenOfL ov)
      case atStart => exact ⟨0, g', c', Nat.zero_le _, rfl, by simpa using ho, hV, hb⟩
      case round =>
        clear ho hV hb hq2
        obtain ⟨r, g', c', hr, rfl, ho, hV, hb⟩ := hrel
        by_cases hpad : nO + r ≤ k
        · have hlr : (xs ++ List.replicate r (0 : Int)).length = nO + r := by rw [List.length_append, hnO.out, List.length_replicate]
          have Hlr := Lib.hid hlr; clear hlr
          have hpI : (nO : Int) + (r : Int) ≤ (k : Int) := by omega
          go_wp2_with (at_builtin; refine wpList_append_int_n rfl _ _ rfl w.heap.size g' c' (nO + r) (xs ++ List.replicate r 0) 0 Hlr.out ho rfl rfl (by omega) ?_)
          intro g5 c5 w5 ho5 hg5 _
          go_wp2
          go_roundw
          case rel =>
            refine ⟨r + 1, g5, c5, by omega, by rw [Nat.add_assoc], ?_, hV.grown hg5 (fun e => hV.ne ho.toV (by decide) (Option.some.inj e)), hb.grown hg5 hb.size (by intro j hj; cases hj; exact ho.base)⟩
            rw [List.replicate_succ']; first | exact ho5 | (rw [← List.append_assoc]; exact ho5)
          case measure => simp [lenOfL]; omega
        · have hr2 : r = k + 1 - nO := by omega
          have hpt : xs ++ List.replicate r 0 = padTo xs k := by unfold padTo; rw [hnO.out, hr2]
          have hpl : (padTo xs k).length = nO + r := by rw [← hpt, List.length_append, hnO.out, List.length_replicate]
          rw [hpt] at ho
          have hkl : k < (padTo xs k).length := padTo_length xs k
          have q := ho.cell k hkl
          have f := ho.frozen k
          have hset := ho.set k ((padTo xs k).getD k 0 + 1)
          have hp : 0 ≤ (padTo xs k).getD k 0 ∧ (padTo xs k).getD k 0 ≤ j := by
            rw [← hpt]
            by_cases e : k < xs.length
            · have := Hbd.out k e
              simp only [List.getD, List.getElem?_append_left e]
              exact this
            · simp only [List.getD, List.getElem?_append_right (show xs.length ≤ k by omega)]
              simp [List.getElem?_replicate]
              split <;> simp
          have hbm : (padTo xs k).set k ((padTo xs k).getD k 0 + 1) = bump xs k := rfl
          rw [hbm] at hset
          have hbl : (bump xs k).length = nO + r := by unfold bump; rw [List.length_set]; exact hpl
          have Hset := Lib.hid hset; have Hbl := Lib.hid hbl; have Hr2 := Lib.hid hr2
          have hpI : ¬ (nO : Int) + (r : Int) ≤ (k : Int) := by omega
          have hkI : (k : Int) < (nO : Int) + (r : Int) := by omega
          clear hset hbl hpt hpl hkl hbm hr2
          generalize (padTo xs k).getD k 0 = z at *
          obtain ⟨hp1, hp2⟩ := hp
          go_wp2
          go_roundw
          case rel =>
            exact ⟨j + 1, nO + r, g', c', by omega, by go_num, rfl, by show _ = _; rw [Hsucc.out]; exact Hbl.out, by rw [Hsucc.out]; exact Hset.out.1, hV.grown Hset.out.2 (fun e => hV.ne ho.toV (by decide) (Option.some.inj e)), hb.grown Hset.out.2 hb.size (by intro j hj; cases hj; exact ho.base)⟩
          case measure => simp [intOf]; omega
    · obtain rfl : j = N := by omega
      go_wp2
      go_ret
      rw [← HN.out]
      exact GotInts.mk' g' c' (by rw [HN.out]; exact hnO.out) (by rw [HN.out]; exact ho) hb
set_option maxHeartbeats 1000000 in
theorem impl_LengthCounts_any (gc oc n cc : Nat) (c : List (List Int)) (w : World) (hn : c.length = n) (hx : c.length ≤ 1048576) (hrl : ∀ j, j < c.length → (c.getD j []).length ≤ 1048576) (hgc : gc < w.heap.size) (hr : Rows2 w gc oc c) (hm : MaxL w) :
    Calls Tryz.prog 21 #[(Value.slice (some ⟨gc, oc, none⟩) n cc)] w (GotInts w (lenC c)) := by
  by_cases hg : grpB c = true
  · exact impl_LengthCounts_yes gc oc n cc c w hn hg hgc hr hm
  · have hg' : grpB c = false := by simpa using hg
    rw [show lenC c = [] from if_neg hg]
    obtain ⟨w2, hw2⟩ : ∃ w2, w2 = w.alloc (.cells #[] 3) := ⟨_, rfl⟩
    have hb2 : Below w.heap.size w w2 := by rw [hw2]; exact (by repeat (first | with_reducible exact Below.refl _ _ | with_reducible assumption | with_reducible refine below_drewN ?_ _ | with_reducible refine Below.drew ?_ | (with_reducible refine Below.alloc ?_ ?_ _; rotate_left; · first | (simp; done) | (simp; omega) | exact Below.size (by assumption) | (have hsz := Below.size (by assumption : Below _ _ _); simp at hsz ⊢; omega)) | (with_reducible refine Below.setCell ?_ ?_ _; rotate_left; · first | (simp; done) | (simp; omega))))
    have ho2 : Own w2 w.heap.size w.heap.size 0 [] := by rw [hw2]; exact Own.empty (w := w) (Nat.le_refl _)
    have hcall := impl_elements_no gc oc n cc c w2 hn hx hrl hg' (Nat.lt_of_lt_of_le hgc hb2.size) (hr.below hb2 hgc) (hm.below hb2)
    rw [hw2] at hcall
    have Hcall := Lib.hid hcall; have Hw2 := Lib.hid hw2
    clear hcall hw2 hg hg' hm hr hrl hn
    go_enter Tryz.func21, Tryz.ntmps21
    go_wp2_with fail
    refine Hcall.out.mono ?_
    rintro e w3 ⟨rfl, hb3⟩
    rw [← Hw2.out] at hb3
    have hb3' := hb2.trans (hb3.mono hb2.size)
    have ho3 := ho2.below hb3 ho2.lt
    clear hb3 hb2 ho2 Hcall Hw2
    go_wp2_with fail
    go_loopw [3, 10] (fun ov jv wr => jv = .int .i64 0 ∧ ov = (Value.slice (some ⟨w.heap.size, 0, none⟩) 0 0) ∧ wr = w3) (fun _ _ _ => 0)
    case atStart => exact ⟨rfl, rfl, rfl⟩
    case round =>
      obtain ⟨rfl, rfl, rfl⟩ := hrel
      go_wp2
      go_ret
      exact GotInts.mk' w.heap.size 0 rfl ho3 hb3'

def cntS (L : List (List Int)) (D j : Nat) : List Int := padR (cntTo L j) (D + 1)
set_option maxHeartbeats 4000000 in
theorem spec_LengthCounts_any (gc oc n cc : Nat) (c : List (List Int)) (w : World) (hn : c.length = n) (hx : c.length ≤ 1048576) (hrl : ∀ j, j < c.length → (c.getD j []).length ≤ 1048576) (hgc : gc < w.heap.size) (hr : Rows2 w gc oc c) :
    Calls Tryz.prog 23 #[(Value.slice (some ⟨gc, oc, none⟩) n cc)] w (GotInts w (lenC c)) := by
  have hcall := spec_ElementsOf_any gc oc n cc c w hn hx hrl hgc hr
  by_cases hg : grpB c = true
  · have hG := grp_B hg
    rw [show lenC c = cntTo (elemL c) (elemL c).length from if_pos hg]
    rw [hg, show elA c = elemL c from if_pos hg] at hcall
    obtain ⟨hpos, hmax⟩ := elem_last hG
    have hflat := hG.few
    have hwl := elem_len hG
    have hlast := hwl ((elemL c).getD ((elemL c).length - 1) []) (by simp [List.getD, show (elemL c).length - 1 < (elemL c).length by omega])
    have hful := cnt_full hpos rfl hmax
    have Hcall := Lib.hid hcall
    clear hcall hG hg hr hrl hn
    generalize elemL c = L at *
    obtain ⟨D, hD⟩ : ∃ D, (L.getD (L.length - 1) []).length = D := ⟨_, rfl⟩
    rw [hD] at hmax hlast hful
    have HD := Lib.hid hD; have Hmax := Lib.hid hmax
    have HE : Hid (cntS L D L.length = cntTo L L.length) := Lib.hid (by unfold cntS; rw [← hful]; exact padR_self _)
    have H0 : Hid (cntS L D 0 = List.replicate (D + 1) 0) := Lib.hid (by simp [cntS, padR, cntTo])
    have HL : Hid (∀ j, j ≤ L.length → (cntS L D j).length = D + 1) := Lib.hid (fun j hj => padR_length (cntTo_len L D hmax j hj))
    have HG : Hid (∀ j k, (cntS L D j).getD k 0 = (cntTo L j).getD k 0) := Lib.hid (fun j k => padR_getD _ _ _)
    have HS : Hid (∀ j, j < L.length → (cntS L D j).set (L.getD j []).length ((cntTo L j).getD (L.getD j []).length 0 + 1) = cntS L D (j + 1)) := Lib.hid (fun j hj => by
      unfold cntS
      rw [cntTo_succ hj]
      exact padR_bump (by have := hmax (L.getD j []) (by simp [List.getD, hj]); omega) (cntTo_len L D hmax j (by omega)))
    have HB : Hid (∀ j k, j ≤ L.length → 0 ≤ (cntTo L j).getD k 0 ∧ (cntTo L j).getD k 0 ≤ j) := Lib.hid (fun j k hj => by
      by_cases h : k < (cntTo L j).length
      · exact cntTo_bound L j hj k h
      · simp [List.getD, Nat.not_lt.1 h])
    rw [← HE.out]
    clear hmax hful hD hwl HE
    obtain ⟨N, hN⟩ : ∃ N, L.length = N := ⟨_, rfl⟩
    rw [hN] at HD HL HS HB hpos hflat ⊢
    have HN := Lib.hid hN; clear hN
    go_enter Tryz.func23, Tryz.ntmps23
    go_wp2_with fail
    refine Hcall.out.mono ?_
    rintro e w1 ⟨g3, c3, rs, rfl, hcr, hO, hb1⟩
    rw [HN.out]
    have Hcr := Lib.hid hcr; clear hcr
    have hlen : rs.length = N := by rw [← HN.out, ← Hcr.out, contents_length]
    have hrow : ∀ j (hj : j < N), ∃ ga ca, w1.cell? ⟨g3, j, none⟩ = some (Value.slice (some ⟨ga, 0, none⟩) ((L.getD j []).length) ca) := fun j hj => by
      have hjr : j < rs.length := by omega
      have hq := hO.1.cell j (by simpa using hjr)
      have hcl : rs[j].2.2 = L.getD j [] := by rw [← Hcr.out]; simp [contents, List.getD, hjr]
      exact ⟨rs[j].1, rs[j].2.1, by rw [hq]; simp [rowVal, hcl]⟩
    obtain ⟨gl, cl, hql⟩ := hrow (N - 1) (by omega)
    rw [HD.out] at hql
    have hgl := hO.lt
    have e1 : IntKind.i64.wrap ((N : Int) - 1) = (N : Int) - 1 := IntWalk.i64_in _ (by omega)
    have e2 : ((N : Int) - 1).toNat = N - 1 := by omega
    have e3 : (0 : Int) ≤ (N : Int) - 1 := by omega
    have e4 : (N : Int) - 1 < (N : Int) := by omega
    have e5 : IntKind.i64.wrap ((D : Int) + 1) = ((D + 1 : Nat) : Int) := by rw [IntWalk.i64_in _ (by omega)]; omega
    go_wp2_with (at_make; refine wpList_make_ints rfl _ _ rfl w.heap.size (D + 1) _ rfl (by first | rfl | exact e5) (by first | rfl | exact e5) (by omega) hb1.size ?_)
    intro w2 ho2 hg2
    have hb12 : Below w1.heap.size w1 w2 := below_of_grown hg2
    have hs1 := hb1.size
    have hrow' : ∀ wr, Below w1.heap.size w1 wr → ∀ j (hj : j < N), ∃ ga ca, wr.cell? ⟨g3, j, none⟩ = some (Value.slice (some ⟨ga, 0, none⟩) ((L.getD j []).length) ca) := fun wr hW j hj => by
      obtain ⟨ga, ca, h⟩ := hrow j hj
      exact ⟨ga, ca, (hW.cell (p := ⟨g3, j, none⟩) hgl).trans h⟩
    have Hrow := Lib.hid hrow'
    have hkD : ∀ j, j < N → (L.getD j []).length ≤ D := fun j hj => Hmax.out _ (by simp [List.getD, show j < L.length by rw [HN.out]; exact hj])
    have HkD := Lib.hid hkD
    rw [← H0.out] at ho2
    generalize w1.heap.size = gO at *
    clear hrow hrow' hkD hg2 hO hql H0 HD
    go_wp2_with fail
    go_loopw [6] (fun iv wr => ∃ j, j ≤ N ∧ iv = .int .i64 j ∧ Own wr w.heap.size gO (D + 1) (cntS L D j) ∧ Below gO w1 wr) (fun iv _ => N - (intOf iv).toNat)
    case atStart => exact ⟨0, Nat.zero_le _, rfl, ho2, hb12⟩
    case round =>
      obtain ⟨j, hj, rfl, ho, hbw⟩ := hrel
      by_cases hlt : j < N
      · obtain ⟨ga, ca, hq⟩ := Hrow.out wr hbw j hlt
        have hk := HkD.out j hlt
        have hst := HS.out j hlt
        have hzb := HB.out j (L.getD j []).length hj
        have hzg := HG.out j (L.getD j []).length
        generalize (L.getD j []).length = k at *
        have x0 := ho.cell k (by rw [HL.out j hj]; omega)
        have y0 := ho.frozen k
        rw [hzg] at x0
        have s1 := ho.set k ((cntTo L j).getD k 0 + 1)
        rw [hst] at s1
        generalize (cntTo L j).getD k 0 = z at *
        have hw : IntKind.i64.wrap (z + 1) = z + 1 := IntWalk.i64_in _ (by omega)
        have hB2 : Below gO w1 (wr.setCell ⟨gO, k, none⟩ (.int .i64 (z + 1))) := hbw.grown s1.2 (Nat.le_of_lt ho.lt) (by intro t ht; cases ht; exact Nat.le_refl _)
        have hI : (k : Int) < (D : Int) + 1 := by omega
        obtain ⟨s1, -⟩ := s1
        clear hst hzg ho
        go_wp2_with fail
        go_region
        go_wp2_with fail
        go_roundw
        case rel => exact ⟨j + 1, by omega, by go_num, s1.drewN 1, below_drewN hB2 1⟩
        case measure => simp [intOf]; omega
      · obtain rfl : j = N := by omega
        go_wp2_with fail
        go_ret
        exact GotInts.mk' gO (D + 1) (HL.out _ (Nat.le_refl _)) ho (hb1.trans (hbw.mono hs1))
  · have hg' : grpB c = false := by simpa using hg
    rw [show lenC c = [] from if_neg hg]
    rw [hg', show elA c = [] from if_neg hg] at hcall
    have Hcall := Lib.hid hcall
    clear hcall hg hg' hr hrl hn
    go_enter Tryz.func23, Tryz.ntmps23
    go_wp2_with fail
    refine Hcall.out.mono ?_
    rintro e w1 ⟨g3, c3, rs, rfl, -, -, hb1⟩
    go_wp2_with fail
    go_ret
    exact GotInts.mk' w1.heap.size 0 rfl ((Own.empty (w := w1) (Nat.le_refl _)).mono hb1.size) (hb1.alloc hb1.size _)
end Go.Proofs.YtldcmhgpppeooaaGreatDoor
namespace Go.Proofs.YtldcmhgpppeooaaGreatDoor
set_option maxRecDepth 100000
open Go.RowKit

set_option maxHeartbeats 1000000 in
theorem spec_l5Word_any (B p : Nat) (a : Option Addr) (n c : Nat) (gx ox nx cx most : Nat) (w : World) (hN : 1 ≤ nx ∧ nx ≤ 5) (hmost : most ≤ 12) (hn : n ≤ 1048576) (hc : CodeV w B a n) (hp : B ≤ p) (hcur : Cur w p a n c) :
    Calls Tryz.prog 105 #[.pointer (some ⟨p, 0, none⟩), (Value.slice (some ⟨gx, ox, none⟩) nx cx), .int .i64 (most : Int)] w (DrewL w B p a n c most nx) := by
  have hps := hcur.lt
  obtain ⟨M, hM⟩ : ∃ M : Int, (nx : Int) = M := ⟨_, rfl⟩
  have hM1 : 1 ≤ M ∧ M ≤ 5 := by omega
  rw [hM]
  have eW : IntKind.i64.wrap ((most : Int) + 1) = (most : Int) + 1 := IntWalk.i64_in _ (by omega)
  have K := Lib.hid (fun (W : World) (hc : CodeV W B a n) (hcur : Cur W p a n c) => spec_l1Below_any B p a n c ((most : Int) + 1) W (by omega) hn hc hp hcur)
  have K2 := Lib.hid (fun (W : World) (hc : CodeV W B a n) (hcur : Cur W p a n c) => spec_l1Below_any B p a n c M W (by omega) hn hc hp hcur)
  have O0 : Only p (p + 1) w (w.alloc (.cells #[] 3)) := Only.of_below _ _ ((Below.refl w.heap.size w).alloc (Nat.le_refl _) _)
  have C0 := hc.only O0 hp
  have U0 : Cur (w.alloc (.cells #[] 3)) p a n c := by obtain ⟨i, x, hi, hb⟩ := hcur; exact ⟨i, x, hi, (((Below.refl w.heap.size w).alloc (Nat.le_refl _) _).block p hps).trans hb⟩
  have hE : Own (w.alloc (.cells #[] 3)) w.heap.size w.heap.size 0 [] := Own.empty (Nat.le_refl _)
  clear hc hcur
  go_enter Tryz.func105, Tryz.ntmps105
  go_wp2_with fail
  refine (K.out _ C0 U0).mono ?_
  rintro e w1 ⟨x, hx, rfl, hcur1, hc1, hO1⟩
  have hE1 := hE.only hO1 (.inr (by omega))
  have hO := O0.trans hO1
  clear C0 U0 hE O0 hO1
  go_wp2_with fail
  go_loopw [7, 8] (fun lv kv wr => ∃ (k m g2 c2 : Nat) (xs : List Int), k + m ≤ most ∧ kv = .int .i64 k ∧ lv = (Value.slice (some ⟨g2, 0, none⟩) m c2) ∧ Hid (xs.length = m) ∧ Hid (∀ y ∈ xs, 0 ≤ y ∧ y < M) ∧ p < g2 ∧ Own wr w.heap.size g2 c2 xs ∧ Cur wr p a n c ∧ CodeV wr B a n ∧ Only p (p + 1) w wr) (fun _ kv _ => (intOf kv).toNat)
  case atStart => exact ⟨x.toNat, 0, w.heap.size, 0, [], by omega, by congr 1; omega, rfl, rfl, by simp [Hid], hps, hE1, hcur1, hc1, hO⟩
  case round =>
    clear hE1 hcur1 hc1 hO
    obtain ⟨k, m, g2, c2, xs, hkm, rfl, rfl, hml, hall, hpg, hown, hcur, hc, hO⟩ := hrel
    by_cases hlt : 0 < k
    · have hltI : (0 : Int) < (k : Int) := by omega
      have hcall := Lib.hid (K2.out wr hc hcur)
      clear hc hcur
      go_wp2_with fail
      rw [show max (1 : Int) M = M by omega]
      with_reducible refine hcall.out.mono ?_
      all_goals
        rintro e w2 ⟨y, hy, rfl, hcur2, hc2, hO2⟩
        have hown2 := hown.only hO2 (.inr (by omega))
        have hO' := hO.trans hO2
        clear hown hO hO2 hcall
        go_wp2_with (at_builtin; refine wpList_append_int_n (w := w2) rfl _ _ rfl w.heap.size g2 c2 m xs y hml.out hown2 rfl rfl (by omega) ?_)
        intro g3 c3 w3 ho3 hg3 hor3
        have hgs := hown2.base
        have hO3 : Only p (p + 1) w w3 := ⟨hg3.os.trans hO'.os, hg3.tape.trans hO'.tape, hg3.output.trans hO'.output, Nat.le_trans hO'.size hg3.size, fun j hj hd => (hg3.block j (Nat.lt_of_lt_of_le hj hO'.size) (by intro e; cases e; omega)).trans (hO'.block j hj hd)⟩
        have hcur3 : Cur w3 p a n c := by obtain ⟨i, z, hi, hb⟩ := hcur2; exact ⟨i, z, hi, (hg3.block p (lt_of_block hb) (by intro e; cases e; omega)).trans hb⟩
        have hc3 : CodeV w3 B a n := hc2.only (p := p + 1) (E := g2 + 1) ⟨hg3.os, hg3.tape, hg3.output, hg3.size, fun j hj hd => hg3.block j hj (by intro e; cases e; omega)⟩ (by omega)
        have hps2 := hcur2.lt
        have hl3 : Hid ((xs ++ [y]).length = m + 1) := Lib.hid (by rw [List.length_append, hml.out]; rfl)
        have ha3 := Lib.hid (all_snoc hall.out hy)
        have hpg3 : p < g3 := by rcases hor3 with rfl | q <;> omega
        clear hown2 hO' hcur2 hc2 hg3 hor3
        go_wp2_with fail
        go_roundw
        case rel => exact ⟨k - 1, m + 1, g3, c3, _, by omega, by go_num, rfl, hl3.out, ha3.out, hpg3, ho3, hcur3, hc3, hO3⟩
        case measure => simp [intOf]; omega
    · obtain rfl : k = 0 := by omega
      have Hml := Lib.hid hml.out
      go_wp2_with fail
      go_ret
      exact ⟨xs, g2, c2, ⟨by have := hml.out; omega, hall.out⟩, congrArg (fun z => Ending.returned (Value.slice (some ⟨g2, 0, none⟩) z c2)) Hml.out.symm, hown, hcur, hc, hO⟩

set_option maxHeartbeats 1000000 in
theorem spec_l13Finite_any (B p : Nat) (a : Option Addr) (n c : Nat) (w : World) (hn : n ≤ 1048576) (hc : CodeV w B a n) (hp : B ≤ p) (hcur : Cur w p a n c) :
    Calls Tryz.prog 86 #[.pointer (some ⟨p, 0, none⟩)] w (DrewA w B p a n c) := by
  have k1 := Lib.hid (spec_l1Once_any B p a n c 6 w (by omega) hn hc hp hcur)
  have kA := Lib.hid (fun (W : World) (hc : CodeV W B a n) (hcur : Cur W p a n c) => spec_l2Any_any B p a n c W hn hc hp hcur)
  have kF := Lib.hid (fun (W : World) (hc : CodeV W B a n) (hcur : Cur W p a n c) => spec_l2Finite_any B p a n c W hn hc hp hcur)
  clear hc hcur
  go_enter Tryz.func86, Tryz.ntmps86
  go_wp2_with fail
  refine k1.out.mono ?_
  rintro e w1 ⟨b, rfl, hcur1, hc1, hO1⟩
  have hz := hO1.size
  cases b with
  | true =>
    have K := Lib.hid (kA.out w1 hc1 hcur1)
    clear hcur1 hc1
    go_wp2_with fail
    refine K.out.mono ?_
    rintro e w2 ⟨g, cap, rows, rfl, hM, hcur2, hc2, hO2⟩
    have HM := Lib.hid hM
    clear hM
    go_wp2_with fail
    go_ret
    exact ⟨g, cap, rows, rfl, HM.out.mono hz, hcur2, hc2, hO1.trans hO2⟩
  | false =>
    have K := Lib.hid (kF.out w1 hc1 hcur1)
    clear hcur1 hc1
    go_wp2_with fail
    refine K.out.mono ?_
    rintro e w2 ⟨g, cap, rs, rfl, hO, hF, hcur2, hc2, hO2⟩
    have hsq := isC_sqr (finM_isC _ hF)
    have hl : (contents rs).length = rs.length := contents_length _
    have HM := Lib.hid (MatR.of_own hO (by rw [← hl]; have := hsq.1.2; omega) (sqr_five hsq))
    have Hl := Lib.hid hl
    clear hO hF hsq hl
    go_wp2_with fail
    go_ret
    exact ⟨g, cap, contents rs, by rw [Hl.out]; rfl, HM.out.mono hz, hcur2, hc2, hO1.trans hO2⟩

theorem finM_grp : ∀ x ∈ finM, grpB x = true ∧ x.length ≤ 5 := by decide +kernel
section
variable (a : Option Addr) (n c : Nat) (w : World) (hn : n ≤ 1048576) (hc : CodeV w w.heap.size a n)
include hn hc
def DrewMx (w : World) (e : Ending) (w' : World) : Prop :=
  ∃ (g cap : Nat) (rows : List (List Int)), e = .returned (Value.slice (some ⟨g, 0, none⟩) rows.length cap) ∧ MatR w' w.heap.size g cap rows ∧ Below w.heap.size w w'
set_option maxHeartbeats 1000000 in
theorem spec_DrawElementsOf_any : Calls Tryz.prog 31 #[.slice a n c] w (DrewMx w) := by
  have h1 := Lib.hid (spec_l1New_any a n c w hn hc)
  have Hc := Lib.hid hc
  clear hc
  go_enter Tryz.func31, Tryz.ntmps31
  go_wp2_with fail
  refine h1.out.mono ?_
  rintro e w1 ⟨p, hp, rfl, hcur, hb1⟩
  have hc1 := Hc.out.below hb1
  have k1 := Lib.hid (spec_l13Finite_any w.heap.size p a n c w1 hn hc1 hp hcur)
  clear hcur hc1
  go_wp2_with fail
  refine k1.out.mono ?_
  rintro e w2 ⟨g, cap, rows, rfl, hM, hcur2, hc2, hO2⟩
  have HM := Lib.hid hM
  have hb2 := Below.only hb1 hO2 hp (Nat.le_refl _)
  clear hM hcur2 hc2
  go_wp2_with fail
  go_ret
  exact ⟨g, cap, rows, rfl, HM.out.mono hb1.size, hb2⟩
set_option maxHeartbeats 1000000 in
theorem spec_DrawLongestElement_any : Calls Tryz.prog 38 #[.slice a n c] w (DrewMx w) := by
  have h1 := Lib.hid (spec_l1New_any a n c w hn hc)
  have Hc := Lib.hid hc
  clear hc
  go_enter Tryz.func38, Tryz.ntmps38
  go_wp2_with fail
  refine h1.out.mono ?_
  rintro e w1 ⟨p, hp, rfl, hcur, hb1⟩
  have hc1 := Hc.out.below hb1
  have k1 := Lib.hid (spec_l2Any_any w.heap.size p a n c w1 hn hc1 hp hcur)
  clear hcur hc1
  go_wp2_with fail
  refine k1.out.mono ?_
  rintro e w2 ⟨g, cap, rows, rfl, hM, hcur2, hc2, hO2⟩
  have HM := Lib.hid hM
  have hb2 := Below.only hb1 hO2 hp (Nat.le_refl _)
  clear hM hcur2 hc2
  go_wp2_with fail
  go_ret
  exact ⟨g, cap, rows, rfl, HM.out.mono hb1.size, hb2⟩
set_option maxHeartbeats 1000000 in
theorem spec_DrawOppositeLetter_any : Calls Tryz.prog 49 #[.slice a n c] w fun e w' => ∃ (g cap : Nat) (rows : List (List Int)) (i : Int), e = .returned (.tuple #[(Value.slice (some ⟨g, 0, none⟩) rows.length cap), .int .i64 i]) ∧ (-1 ≤ i ∧ i ≤ 4) ∧ MatR w' w.heap.size g cap rows ∧ Below w.heap.size w w' := by
  have h1 := Lib.hid (spec_l1New_any a n c w hn hc)
  have Hc := Lib.hid hc
  clear hc
  go_enter Tryz.func49, Tryz.ntmps49
  go_wp2_with fail
  refine h1.out.mono ?_
  rintro e w1 ⟨p, hp, rfl, hcur, hb1⟩
  have hc1 := Hc.out.below hb1
  have hps := hcur.lt
  have k1 := Lib.hid (spec_l2Any_any w.heap.size p a n c w1 hn hc1 hp hcur)
  clear hcur hc1
  go_wp2_with fail
  refine k1.out.mono ?_
  rintro e w2 ⟨g, cap, rows, rfl, hM, hcur2, hc2, hO2⟩
  have HM := Lib.hid hM
  have hb2 := Below.only hb1 hO2 hp (Nat.le_refl _)
  have k2 := Lib.hid (spec_l1Below_any w.heap.size p a n c 5 w2 (by omega) hn hc2 hp hcur2)
  clear hM hcur2 hc2
  go_wp2_with fail
  refine k2.out.mono ?_
  rintro e w3 ⟨x, hx, rfl, hcur3, hc3, hO3⟩
  have hb3 := Below.only hb2 hO3 hp (Nat.le_refl _)
  have k3 := Lib.hid (spec_l1Below_any w.heap.size p a n c 2 w3 (by omega) hn hc3 hp hcur3)
  have hM3 := Lib.hid (HM.out.only hO3 hps)
  clear HM hcur3 hc3
  go_wp2_with fail
  refine k3.out.mono ?_
  rintro e w4 ⟨y, hy, rfl, hcur4, hc4, hO4⟩
  have hb4 := Below.only hb3 hO4 hp (Nat.le_refl _)
  have hM4 := Lib.hid ((hM3.out.only hO4 hps).mono hb1.size)
  have e1 : IntKind.i64.wrap (x - y) = x - y := IntWalk.i64_in _ (by omega)
  clear hM3
  go_wp2_with fail
  go_ret2
  exact ⟨g, cap, rows, x - y, rfl, by omega, hM4.out, hb4⟩

set_option maxRecDepth 100000 in
set_option maxHeartbeats 2000000 in
theorem spec_DrawIndexOfElement_any : Calls Tryz.prog 50 #[.slice a n c] w fun e w' => ∃ (L : List (List Int)) (u : List Int) (g cap gu cu : Nat), L.length ≤ 200 ∧ (∀ j, j < L.length → (L.getD j []).length ≤ 24) ∧ u.length ≤ 24 ∧ e = .returned (.tuple #[(Value.slice (some ⟨g, 0, none⟩) L.length cap), (Value.slice (some ⟨gu, 0, none⟩) u.length cu)]) ∧ g < w'.heap.size ∧ gu < w'.heap.size ∧ Rows2 w' g 0 L ∧ Cells w' gu 0 u ∧ Below w.heap.size w w' := by
  have h1 := Lib.hid (spec_l1New_any a n c w hn hc)
  have Hc := Lib.hid hc
  clear hc
  go_enter Tryz.func50, Tryz.ntmps50
  go_wp2_with fail
  refine h1.out.mono ?_
  rintro e w1 ⟨p, hp, rfl, hcur, hb1⟩
  have hc1 := Hc.out.below hb1
  have hps := hcur.lt
  have k1 := Lib.hid (spec_l2Finite_any w.heap.size p a n c w1 hn hc1 hp hcur)
  clear hcur hc1
  go_wp2_with fail
  refine k1.out.mono ?_
  rintro e w2 ⟨g2, c2, rs2, rfl, hR2, hF2, hcur2, hc2, hO2⟩
  have hb2 := Below.only hb1 hO2 hp (Nat.le_refl _)
  have hps2 := hcur2.lt
  obtain ⟨hg, hl5⟩ := finM_grp _ hF2
  have hG := grp_B hg
  have hl : (contents rs2).length = rs2.length := contents_length _
  have h1l : 1 ≤ rs2.length := by rw [← hl]; exact hG.hC.1
  rw [hl] at hl5
  have hE := spec_ElementsOf_any g2 0 rs2.length c2 (contents rs2) w2 hl (by rw [hl]; omega) (fun j hj => by rw [hG.hC.2.2.1 j hj]; have := hG.hC.2.1; omega) hR2.lt hR2.rows2
  rw [hg, show elA (contents rs2) = elemL (contents rs2) from if_pos hg] at hE
  have hfew := hG.few
  have hlen := elem_len hG
  have hpos := (elem_last hG).1
  have HE := Lib.hid hE
  have hcL : Hid (CodeV w2 w.heap.size a n) := Lib.hid hc2
  have hcuL : Hid (Cur w2 p a n c) := Lib.hid hcur2
  clear hg hG hE hF2 hc2 hcur2
  generalize elemL (contents rs2) = L at *
  go_wp2_with fail
  refine HE.out.mono ?_
  rintro e w3 ⟨g3, c3, rs3, rfl, hcr3, hO3, hb3⟩
  have hb23 := hb2.trans (hb3.mono hb2.size)
  have hc3 := hcL.out.below' hb3 (by omega)
  have hcur3 := hcuL.out.below' hb3 hps2
  have k3 := Lib.hid (spec_l1Once_any w.heap.size p a n c 2 w3 (by omega) hn hc3 hp hcur3)
  clear hc3 hcur3
  have HN := Lib.hid (show ∀ x ∈ L, x.length ≤ 24 from hlen)
  have hlj : ∀ j, j < L.length → (L.getD j []).length ≤ 24 := fun j hj => hlen _ (by simp [List.getD, hj])
  have Hlj := Lib.hid hlj
  clear hlj hlen
  go_wp2_with fail
  refine k3.out.mono ?_
  rintro e w4 ⟨b, rfl, hcur4, hc4, hO4⟩
  have hb4 := Below.only hb23 hO4 hp (Nat.le_refl _)
  have hR4 := hO3.only' hO4 hps2
  clear hO3 hO4 k3 hb3 hb23
  cases b with
  | true =>
    obtain ⟨N, hN⟩ : ∃ N, L.length = N := ⟨_, rfl⟩
    have HNL := Lib.hid hN
    have kL := Lib.hid (spec_l1Below_any w.heap.size p a n c (L.length : Int) w4.drew ⟨by omega, by omega⟩ hn (show CodeV w4.drew _ _ _ from hc4) hp (show Cur w4.drew _ _ _ _ from hcur4))
    have hbD : Below w.heap.size w w4.drew := Below.drew hb4
    have hRD : Hid (OwnRows w4.drew w2.heap.size g3 c3 rs3) := Lib.hid hR4
    have Hcr3 := Lib.hid hcr3
    clear hR4 hc4 hcur4 hb4 hcr3
    have hAt := Lib.hid (fun (w5 : World) (j : Nat) (hj : j < N) (hO5 : Only p (p + 1) w4.drew w5) => show ∃ gj cj, w5.cell? ⟨g3, j, none⟩ = some (Value.slice (some ⟨gj, 0, none⟩) ((L.getD j []).length) cj) ∧ gj < w5.heap.size ∧ Cells w5 gj 0 (L.getD j []) from by
      have hR5 := hRD.out.only' hO5 hps2
      have hj' : j < rs3.length := by rw [← contents_length, Hcr3.out, HNL.out]; exact hj
      have hcl : L.getD j [] = rs3[j].2.2 := by rw [← Hcr3.out]; simp [contents, List.getD, hj']
      have ho := hR5.2.1 rs3[j] (List.getElem_mem _)
      rw [hcl]
      refine ⟨rs3[j].1, rs3[j].2.1, ?_, ho.lt, ho.cells⟩
      rw [hR5.1.cell j (by simpa using hj')]
      simp [rowVal])
    rw [hN] at kL hpos hfew ⊢
    have Hpos := Lib.hid hpos
    clear HN k1 h1 HE hR2 hO2 hb1 hb2 hl hl5
    go_upto_region 5 with fail
    go_region_with (go_at_call 56; refine kL.out.mono ?_; rintro e w5 ⟨x, hx, rfl, hcur5, hc5, hO5⟩; obtain ⟨j, rfl⟩ : ∃ j : Nat, x = j := ⟨x.toNat, by omega⟩; have hj : j < N := (by omega); obtain ⟨gj, cj, q1, q2, q3⟩ := hAt.out w5 j hj hO5; have hy := Hlj.out j (by rw [HNL.out]; exact hj); generalize L.getD j [] = y at q1 q3 hy)
    have hR5 : Rows2 w5 g3 0 L := by rw [← Hcr3.out]; exact (hRD.out.only' hO5 hps2).rows2
    have hg5 := (hRD.out.only' hO5 hps2).lt
    have hb5 := Below.only hbD hO5 hp (Nat.le_refl _)
    have HR5 := Lib.hid hR5; have Hq3 := Lib.hid q3; have Hy := Lib.hid hy
    clear hR5 q3 hAt kL hRD hO5 hcur5 hc5 q1 hy
    go_wp2_with fail
    go_ret2
    exact ⟨L, y, g3, c3, gj, cj, by rw [hN]; exact hfew, Hlj.out, Hy.out, by rw [hN]; rfl, hg5, q2, HR5.out, Hq3.out, hb5⟩
  | false =>
    have kW := Lib.hid (spec_l5Word_any w.heap.size p a n c g2 0 rs2.length c2 4 w4 ⟨h1l, hl5⟩ (by omega) hn hc4 hp hcur4)
    have HR := Lib.hid hR4
    clear hR4 hc4 hcur4 hR2 HE k1 h1 hl
    go_wp2_with fail
    refine kW.out.mono ?_
    rintro e w5 ⟨xs, g6, c6, ⟨hxl, hxs⟩, rfl, ho6, hcur6, hc6, hO6⟩
    have hb6 := Below.only hb4 hO6 hp (Nat.le_refl _)
    have hR6 := HR.out.only' hO6 hps2
    have hrr : Rows2 w5 g3 0 L := by rw [← hcr3]; exact hR6.rows2
    have Hrr := Lib.hid hrr; have Ho6 := Lib.hid ho6
    have hg6 := hR6.lt
    clear hrr ho6 hR6 HR hcur6 hc6 kW
    go_wp2_with fail
    go_ret2
    exact ⟨L, xs, g3, c3, g6, c6, hfew, Hlj.out, by omega, rfl, hg6, Ho6.out.lt, Hrr.out, Ho6.out.cells, hb6⟩
end
end Go.Proofs.YtldcmhgpppeooaaGreatDoor
