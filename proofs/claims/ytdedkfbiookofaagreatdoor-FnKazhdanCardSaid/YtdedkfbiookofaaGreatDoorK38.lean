/- The program's elements of a finite group of at most 200 elements; groups of at most 48: contracts. Elements of any group, their numbers by length: contracts of both. IndexOfElement of the reference: contract. LeftTable of the reference: contract. All rows of polynomials by the reference: contract. Groups of at most 24 elements: the lists of elements of both. Contracts. -/
import Derived.Test.YtdedkfbiookofaaGreatDoorK35
import Derived.Test.YtdedkfbiookofaaGreatDoorK19
import Derived.Test.YtdedkfbiookofaaGreatDoorK37
import Derived.Test.YtdedkfbiookofaaGreatDoorK20
import Derived.Test.YtdedkfbiookofaaGreatDoorK01
import Derived.Test.YtdedkfbiookofaaGreatDoorK00
import Derived.BigQuiet
import Derived.Test.YtdedkfbiookofaaGreatDoorK08
namespace Go.Proofs.YtdedkfbiookofaaGreatDoor
set_option maxRecDepth 100000
open Go.RowKit Game
set_option maxHeartbeats 1000000 in
theorem impl_elements_ok (gc oc n cc : Nat) (c : List (List Int)) (w : World) (hn : c.length = n) (hG : Grp c) (hgc : gc < w.heap.size) (hr : Rows2 w gc oc c) (hm : MaxL w) :
    Calls Tryz.prog 105 #[(Value.slice (some ⟨gc, oc, none⟩) n cc)] w (GotRows w (elemL c)) := by
  have hC := hG.hC
  have hx : c.length ≤ 1048576 := by have := hC.2.1; omega
  have hrl : ∀ j, j < c.length → (c.getD j []).length ≤ 1048576 := fun j hj => by rw [hC.2.2.1 j hj]; exact hx
  have hF := impl_IsFinite_any gc oc n cc c w hn hx hrl hgc hr
  rw [hG.fin] at hF
  have hZ := fun W (hW : Below w.heap.size w W) => impl_SizeOf_any gc oc n cc c W hn hx hrl (Nat.lt_of_lt_of_le hgc hW.size) (hr.below hW hgc) (hm.below hW)
  have hB := fun W (hW : Below w.heap.size w W) => impl_ball_any gc oc n cc 60 c W hn hC (fun t _ ht => by
    rcases Nat.lt_or_ge t 29 with h | h
    · omega
    · have h29 : levS c 29 = [] := by
        by_cases e : levS c 29 = []
        · exact e
        · obtain ⟨W, hW⟩ := (lev_ne hC (by omega)).1 e
          have := elt24 hC hG.fin hW
          omega
      have := lev_stop h29 (t - 29)
      rw [show 29 + (t - 29) = t by omega] at this
      exact absurd this ht) (Nat.lt_of_lt_of_le hgc hW.size) (hr.below hW hgc)
  have hs : szO c ≤ 200 := by have := hG.len; have := hG.few; omega
  have hs0 := (szO_bound c).1
  have HF := Lib.hid hF; have HZ := Lib.hid hZ
  have HB : Hid (∀ W, Below w.heap.size w W → Calls Tryz.prog 139 #[(Value.slice (some ⟨gc, oc, none⟩) n cc), .int .i64 60, .int .i64 200] W (GotRowsB W (elemL c) (ballOk c 60))) := Lib.hid hB
  clear hF hZ hB hrl hx hG hn hr hm
  generalize szO c = z at *
  generalize elemL c = L at *
  generalize ballOk c 60 = b at *
  go_enter Tryz.func105, Tryz.ntmps105
  go_wp2_with fail
  refine HF.out.mono ?_
  rintro e w1 ⟨rfl, hb1⟩
  go_wp2_with fail
  refine (HZ.out w1 hb1).mono ?_
  rintro e w2 ⟨rfl, hb2⟩
  have hB2 := hb1.trans (hb2.mono hb1.size)
  go_wp2_with fail
  refine (HB.out w2 hB2).mono ?_
  rintro e w3 ⟨g3, c3, rs3, rfl, hc3, ho3, hb3⟩
  go_wp2_with fail
  go_ret
  exact ⟨g3, c3, rs3, rfl, hc3, ho3.mono hB2.size, hB2.trans (hb3.mono hB2.size)⟩
set_option maxHeartbeats 1000000 in
theorem impl_ElementsOf_ok (gc oc n cc : Nat) (c : List (List Int)) (w : World) (hn : c.length = n) (hG : Grp c) (hgc : gc < w.heap.size) (hr : Rows2 w gc oc c) (hm : MaxL w) :
    Calls Tryz.prog 61 #[(Value.slice (some ⟨gc, oc, none⟩) n cc)] w (GotRowsB w (elemL c) true) := by
  have HA := Lib.hid (impl_elements_ok gc oc n cc c w hn hG hgc hr hm)
  clear hG hn hr hm
  generalize elemL c = L at *
  have hnil : ∀ (W : World) (g3 n c3 : Nat), (binOp .eql 24 (Value.slice (some ⟨g3, 0, none⟩) n c3) (.slice none 0 0)).run Tryz.prog W = .ok (.bool false) W := fun W g3 n c3 => Lib.run_eql_slice_nil W 24 25 _ _ _ _ _ Tryz.underlying24
  go_enter Tryz.func61, Tryz.ntmps61
  go_wp2_with fail
  refine HA.out.mono ?_
  rintro e w1 ⟨g3, c3, rs3, rfl, hc3, ho3, hb3⟩
  go_wp2_with fail
  go_ret2
  exact ⟨g3, c3, rs3, rfl, hc3, ho3, hb3⟩
end Go.Proofs.YtdedkfbiookofaaGreatDoor
namespace Go.Proofs.YtdedkfbiookofaaGreatDoor
set_option maxRecDepth 100000
open Go.RowKit Game
set_option maxHeartbeats 1000000 in
theorem spec_ElementsOf_any (gc oc n cc : Nat) (c : List (List Int)) (w : World) (hn : c.length = n) (hx : c.length ≤ 1048576) (hrl : ∀ j, j < c.length → (c.getD j []).length ≤ 1048576) (hgc : gc < w.heap.size) (hr : Rows2 w gc oc c) :
    Calls Tryz.prog 13 #[(Value.slice (some ⟨gc, oc, none⟩) n cc)] w (GotRowsB w (elA c) (grpB c)) := by
  have hcall := spec_SizeOf_any gc oc n cc c w hn hx hrl hgc hr
  have hiff := grp_iff c
  have hbd := szO_bound c
  by_cases hf : grpB c = true
  · have hG := grp_B hf
    have hL : elA c = elemL c := if_pos hf
    obtain ⟨h1, h2⟩ := hiff.1 hf
    rw [hL, hf]
    have HA := Lib.hid (fun W (hW : Below w.heap.size w W) => spec_l13All_ok gc oc n cc c W hn hG (Nat.lt_of_lt_of_le hgc hW.size) (hr.below hW hgc))
    have Hcall := Lib.hid hcall
    clear hcall hiff hf hG hL hrl hr hx hn
    generalize szO c = z at *
    generalize elemL c = L at *
    go_enter Tryz.func13, Tryz.ntmps13
    go_wp2_with fail
    refine Hcall.out.mono ?_
    rintro e w1 ⟨rfl, hb1⟩
    go_wp2_with fail
    refine (HA.out w1 hb1).mono ?_
    rintro e w2 ⟨g2, c2, rs2, rfl, hc2, ho2, hb2⟩
    go_wp2_with fail
    go_ret2
    exact ⟨g2, c2, rs2, rfl, hc2, ho2.mono hb1.size, hb1.trans (hb2.mono hb1.size)⟩
  · have hf' : grpB c = false := by simpa using hf
    have hL : elA c = [] := if_neg hf
    have hno : szO c < 1 ∨ 200 < szO c := by
      rcases Int.lt_or_le (szO c) 1 with h | h
      · exact .inl h
      · rcases Int.lt_or_le 200 (szO c) with h2 | h2
        · exact .inr h2
        · exact absurd (hiff.2 ⟨h, h2⟩) hf
    rw [hL, hf']
    have Hcall := Lib.hid hcall
    clear hcall hiff hf hf' hL hrl hr hx hn
    generalize szO c = z at *
    rcases hno with hz | hz
    · go_enter Tryz.func13, Tryz.ntmps13
      go_wp2_with fail
      refine Hcall.out.mono ?_
      rintro e w1 ⟨rfl, hb1⟩
      go_wp2_with fail
      go_ret2
      exact ⟨w1.heap.size, 0, [], rfl, rfl, (OwnRows.empty (w := w1) (Nat.le_refl _)).mono hb1.size, hb1.alloc hb1.size _⟩
    · go_enter Tryz.func13, Tryz.ntmps13
      go_wp2_with fail
      refine Hcall.out.mono ?_
      rintro e w1 ⟨rfl, hb1⟩
      go_wp2_with fail
      go_ret2
      exact ⟨w1.heap.size, 0, [], rfl, rfl, (OwnRows.empty (w := w1) (Nat.le_refl _)).mono hb1.size, hb1.alloc hb1.size _⟩
set_option maxHeartbeats 1000000 in
theorem impl_elements_no (gc oc n cc : Nat) (c : List (List Int)) (w : World) (hn : c.length = n) (hx : c.length ≤ 1048576) (hrl : ∀ j, j < c.length → (c.getD j []).length ≤ 1048576) (hf : grpB c = false) (hgc : gc < w.heap.size) (hr : Rows2 w gc oc c) (hm : MaxL w) :
    Calls Tryz.prog 105 #[(Value.slice (some ⟨gc, oc, none⟩) n cc)] w (Gives w (.slice none 0 0)) := by
  have hF := impl_IsFinite_any gc oc n cc c w hn hx hrl hgc hr
  have hZ := fun W (hW : Below w.heap.size w W) => impl_SizeOf_any gc oc n cc c W hn hx hrl (Nat.lt_of_lt_of_le hgc hW.size) (hr.below hW hgc) (hm.below hW)
  by_cases hfin : finB c = true
  · have hs : 200 < szO c := by
      rcases Int.lt_or_le 200 (szO c) with h | h
      · exact h
      · have : grpB c = true := by unfold grpB; rw [hfin, decide_eq_true h]; rfl
        rw [hf] at this; exact absurd this (by decide)
    have hs0 := (szO_bound c).2
    rw [hfin] at hF
    have HF := Lib.hid hF; have HZ := Lib.hid hZ
    clear hF hZ hrl hx hn hr hm hf hfin
    generalize szO c = z at *
    go_enter Tryz.func105, Tryz.ntmps105
    go_wp2_with fail
    refine HF.out.mono ?_
    rintro e w1 ⟨rfl, hb1⟩
    go_wp2_with fail
    refine (HZ.out w1 hb1).mono ?_
    rintro e w2 ⟨rfl, hb2⟩
    go_wp2_with fail
    go_ret
    exact ⟨rfl, hb1.trans (hb2.mono hb1.size)⟩
  · have hfin' : finB c = false := by simpa using hfin
    rw [hfin'] at hF
    have HF := Lib.hid hF
    clear hF hZ hrl hx hn hr hm hf hfin hfin'
    go_enter Tryz.func105, Tryz.ntmps105
    go_wp2_with fail
    refine HF.out.mono ?_
    rintro e w1 ⟨rfl, hb1⟩
    go_wp2_with fail
    go_ret
    exact ⟨rfl, hb1⟩
end Go.Proofs.YtdedkfbiookofaaGreatDoor
namespace Go.Proofs.YtdedkfbiookofaaGreatDoor
set_option maxRecDepth 100000
open Go.RowKit
set_option maxHeartbeats 2000000 in
theorem spec_IndexOf_any (g o n cp g1 o1 n1 c1 : Nat) (l : List (List Int)) (r : List Int) (w : World) (hn : l.length = n) (hn1 : r.length = n1) (hl : l.length ≤ 1048576) (hrl : ∀ j, j < l.length → (l.getD j []).length ≤ 1048576)
    (hr : Rows2 w g o l) (hc1 : Cells w g1 o1 r) :
    Calls Tryz.prog 49 #[(Value.slice (some ⟨g, o, none⟩) n cp), (Value.slice (some ⟨g1, o1, none⟩) n1 c1)] w (Reads w (.int .i64 (idxL l r))) := by
  subst hn; subst hn1
  go_enter Tryz.func49, Tryz.ntmps49
  go_wp2
  go_loopw [5] (fun i wr => ∃ k : Nat, k ≤ l.length ∧ i = .int .i64 k ∧ Hid (inTo l r k) ∧ ∃ m, wr = w.drewN m) (fun i _ => l.length - (intOf i).toNat)
  case atStart => exact ⟨0, Nat.zero_le _, rfl, fun j hj => absurd hj (by omega), (by first | exact ⟨_, rfl⟩ | exact ⟨0, rfl⟩ | exact still2 _ _ _ | exact still3 _ _ _ _)⟩
  case round =>
    obtain ⟨k, hk, rfl, hin, m, rfl⟩ := hrel
    by_cases hlt : k < l.length
    · obtain ⟨gj, oj, cj, q1, q2, q3, q4⟩ := hr k hlt
      have hlk := hrl k hlt
      have HY : Hid (l.getD k [] ≠ r → inTo l r (k + 1)) := fun h j hj => by
        by_cases e : j = k
        · subst e; exact h
        · exact hin.out j (by omega)
      have HX : Hid (l.getD k [] = r → (k : Int) = idxL l r) := fun h => (idx_found hlt hin.out h).symm
      generalize l.getD k [] = x at *
      have hcall := spec_EqualWords_any gj oj x.length cj g1 o1 r.length c1 x r (w.drewN m) rfl rfl (by omega) q4 hc1
      by_cases e : x = r
      · have hd := HX.out e
        rw [decide_eq_true e] at hcall
        have Hd := Lib.hid hd; have He := Lib.hid e; have Hcall := Lib.hid hcall
        clear hd hcall e
        go_wp2_with fail
        refine Hcall.out.mono ?_
        rintro e w2 ⟨rfl, m2, rfl⟩
        go_wp2_with fail
        go_ret
        exact ⟨ret_int Hd.out, (by first | exact ⟨_, rfl⟩ | exact ⟨0, rfl⟩ | exact still2 _ _ _ | exact still3 _ _ _ _)⟩
      · have hd := HY.out e
        rw [decide_eq_false e] at hcall
        have Hd := Lib.hid hd; have He := Lib.hid e; have Hcall := Lib.hid hcall
        clear hd hcall e
        go_wp2_with fail
        refine Hcall.out.mono ?_
        rintro e w2 ⟨rfl, m2, rfl⟩
        go_wp2_with fail
        go_roundw
        case rel => exact ⟨k + 1, by omega, by go_num, Hd.out, (by first | exact ⟨_, rfl⟩ | exact ⟨0, rfl⟩ | exact still2 _ _ _ | exact still3 _ _ _ _)⟩
        case measure => simp [intOf]; omega
    · obtain rfl : k = l.length := by omega
      have hf := idx_none hin.out
      have Hf := Lib.hid hf; clear hf
      go_wp2
      go_ret
      exact ⟨ret_int Hf.out.symm, (by first | exact ⟨_, rfl⟩ | exact ⟨0, rfl⟩ | exact still2 _ _ _ | exact still3 _ _ _ _)⟩
end Go.Proofs.YtdedkfbiookofaaGreatDoor
namespace Go.Proofs.YtdedkfbiookofaaGreatDoor
set_option maxRecDepth 100000
open Go.RowKit Game
set_option maxRecDepth 100000 in
set_option maxHeartbeats 4000000 in
theorem spec_LeftTable_any (gc oc n cc : Nat) (c : List (List Int)) (w : World) (hn : c.length = n) (hx : c.length ≤ 1048576) (hrl : ∀ j, j < c.length → (c.getD j []).length ≤ 1048576) (hgc : gc < w.heap.size) (hr : Rows2 w gc oc c) :
    Calls Tryz.prog 102 #[(Value.slice (some ⟨gc, oc, none⟩) n cc)] w (GotRows w (leftT c)) := by
  subst hn
  obtain ⟨w2, hw2⟩ : ∃ w2, w2 = w.alloc (.cells #[] 25) := ⟨_, rfl⟩
  have hb2 : Below w.heap.size w w2 := by rw [hw2]; exact (by repeat (first | with_reducible exact Below.refl _ _ | with_reducible assumption | with_reducible refine below_drewN ?_ _ | with_reducible refine Below.drew ?_ | (with_reducible refine Below.alloc ?_ ?_ _; rotate_left; · first | (simp; done) | (simp; omega) | exact Below.size (by assumption) | (have hsz := Below.size (by assumption : Below _ _ _); simp at hsz ⊢; omega)) | (with_reducible refine Below.setCell ?_ ?_ _; rotate_left; · first | (simp; done) | (simp; omega))))
  have ho2 : OwnRows w2 w.heap.size w.heap.size 0 [] := by rw [hw2]; exact OwnRows.empty (w := w) (Nat.le_refl _)
  have hcall := spec_ElementsOf_any gc oc c.length cc c w2 rfl hx hrl (Nat.lt_of_lt_of_le hgc hb2.size) (hr.below hb2 hgc)
  rw [hw2] at hcall
  have Hcall := Lib.hid hcall; have Hw2 := Lib.hid hw2
  have hL0 : elA c = [] ∨ (Grp c ∧ elA c = elemL c) := by
    by_cases hg : grpB c = true
    · exact .inr ⟨grp_B hg, if_pos hg⟩
    · exact .inl (if_neg hg)
  have hfew : (elA c).length ≤ 200 := by
    rcases hL0 with h | ⟨hG, h⟩
    · rw [h]; simp
    · rw [h]; exact hG.few
  have hlen : ∀ j, j < (elA c).length → ((elA c).getD j []).length ≤ 1048576 := by
    intro j hj
    rcases hL0 with h | ⟨hG, h⟩
    · rw [h] at hj; simp at hj
    · rw [h] at hj ⊢
      have := elem_len hG ((elemL c).getD j []) (by simp [List.getD, hj])
      omega
  have hN : ∀ j i, j < (elA c).length → i < c.length → IsC c ∧ Lets c 30 ([(i : Int)] ++ (elA c).getD j []) := by
    intro j i hj hi
    rcases hL0 with h | ⟨hG, h⟩
    · rw [h] at hj; simp at hj
    · rw [h] at hj ⊢
      exact ⟨hG.hC, left_lets hG (by simp [List.getD, hj]) hi⟩
  unfold leftT
  clear hcall hw2 hL0
  generalize elA c = L at *
  obtain ⟨N, hNL⟩ : ∃ N, L.length = N := ⟨_, rfl⟩
  have HNL := Lib.hid hNL
  rw [hNL] at hfew hlen hN ⊢
  have HN := Lib.hid hN; have Hlen := Lib.hid hlen; have Hr := Lib.hid hr
  clear hNL hN hlen hr hrl
  go_enter Tryz.func102, Tryz.ntmps102
  go_wp2_with fail
  refine Hcall.out.mono ?_
  rintro e w3 ⟨g3, c3, rs, rfl, hcr, hO3, hb3⟩
  rw [← Hw2.out] at hb3 hO3
  have hb3' := hb2.trans (hb3.mono hb2.size)
  have ho3 := ho2.below hb3
  have hE : w2.heap.size ≤ w3.heap.size := hb3.size
  have hH3 : HeldR w3 w2.heap.size w3.heap.size g3 c3 L := ⟨rs, hcr, hO3, hO3.lt, fun r hr => (hO3.2.1 r hr).lt⟩
  have hw2s : w.heap.size < w2.heap.size := ho2.lt
  rw [HNL.out]
  clear hb3 hb2 ho2 hcr hO3 Hcall Hw2
  go_wp2_with fail
  go_loopw [3, 6, 7, 8] (fun ov kv _ _ wr => ∃ (k gO cO : Nat) (rs : List RowRef), k ≤ N ∧ kv = .int .i64 k ∧ ov = (Value.slice (some ⟨gO, 0, none⟩) k cO) ∧ Hid (rs.length = k) ∧ Hid (contents rs = ltab c L k) ∧ OwnRows wr w.heap.size gO cO rs ∧ HeldR wr w2.heap.size w3.heap.size g3 c3 L ∧ w3.heap.size ≤ wr.heap.size ∧ (gO < w2.heap.size ∨ w3.heap.size ≤ gO) ∧ Below w.heap.size w wr) (fun _ kv _ _ _ => N - (intOf kv).toNat)
  case atStart => exact ⟨0, _, 0, [], Nat.zero_le _, rfl, rfl, rfl, rfl, ho3, hH3, Nat.le_refl _, .inl hw2s, hb3'⟩
  case round =>
    clear ho3 hH3 hb3'
    obtain ⟨k, gO, cO, rs, hk, rfl, rfl, hrs, hcont, hO, hH, hEs, hdj, hb⟩ := hrel
    by_cases hlt : k < N
    · have hkL : k < L.length := by rw [HNL.out]; exact hlt
      have Hsucc := Lib.hid (ltab_succ (c := c) hkL)
      have hR := hH.rows2
      have hg := hH.lt
      obtain ⟨gj, oj, cj, q1, q2, q3, q4⟩ := hR k hkL
      have hlk := Hlen.out k hlt
      have hNk := fun i hi => HN.out k i hlt hi
      generalize L.getD k [] = x at *
      have HNk := Lib.hid hNk
      obtain ⟨nx, hnx⟩ : ∃ nx, x.length = nx := ⟨_, rfl⟩
      rw [hnx] at hlk q1
      have Hnx := Lib.hid hnx
      obtain ⟨wr1, hwr1⟩ : ∃ wr1, wr1 = wr.alloc (.cells #[] 3) := ⟨_, rfl⟩
      have hbr : Below wr.heap.size wr wr1 := by rw [hwr1]; exact (Below.refl _ _).alloc (Nat.le_refl _) _
      have hor : Own wr1 wr.heap.size wr.heap.size 0 [] := by rw [hwr1]; exact Own.empty (w := wr) (Nat.le_refl _)
      clear hNk hnx
      go_wp2_with fail
      rw [← hwr1]
      generalize wr = wo at *
      go_loopw [7, 8] (fun rv iv wj => ∃ i gR cR : Nat, i ≤ c.length ∧ iv = .int .i64 i ∧ rv = (Value.slice (some ⟨gR, 0, none⟩) i cR) ∧ Own wj wo.heap.size gR cR (lrow c L x i) ∧ Below wo.heap.size wo wj) (fun _ iv _ => c.length - (intOf iv).toNat)
      case atStart => exact ⟨0, wo.heap.size, 0, Nat.zero_le _, rfl, rfl, hor, hbr⟩
      case round =>
        clear hor hbr hwr1
        obtain ⟨i, gR, cR, hi, rfl, rfl, hoR, hbj⟩ := hrel
        by_cases hil : i < c.length
        · obtain ⟨hC, hLt⟩ := HNk.out i hil
          have hnorm := (nfI_ok hLt).norm
          have hin := hLt.inr
          have hl30 := hLt.few
          have hsr := lrow_succ c L x i
          have hll := lrow_length c L x i
          have hR1 := hR.below hbj hg
          have qj : wr.cell? ⟨g3, k, none⟩ = some (Value.slice (some ⟨gj, oj, none⟩) nx cj) := by
            rw [Nat.zero_add] at q1
            exact (hbj.cell (p := ⟨g3, k, none⟩) hg).trans q1
          have hgw : g3 < wr.heap.size := Nat.lt_of_lt_of_le hg hbj.size
          have hB0 := hb.trans (hbj.mono hb.size)
          have q5 := q4.below hbj q3
          have hgj := Nat.lt_of_lt_of_le q3 hbj.size
          obtain ⟨wk, hwk⟩ : ∃ wk, wk = wr.alloc (.cells #[.int .i64 (i : Int)] 3) := ⟨_, rfl⟩
          have hbk : Below wr.heap.size wr wk := by rw [hwk]; exact (Below.refl _ _).alloc (Nat.le_refl _) _
          have hok : Own wk wr.heap.size wr.heap.size 1 [(i : Int)] := by rw [hwk]; exact Own.new _ (Nat.le_refl _)
          have hcall := spec_ConcatWords_any wr.heap.size 0 1 1 gj oj nx cj [(i : Int)] x wk rfl Hnx.out (by simp) (by rw [Hnx.out]; omega) hok.lt (Nat.lt_of_lt_of_le hgj hbk.size) hok.cells (q5.below hbk hgj)
          rw [hwk] at hcall
          have hl2 : ([(i : Int)] ++ x).length = nx + 1 := by simp [Hnx.out]
          have Hl2 := Lib.hid hl2
          have Hcall := Lib.hid hcall
          have Hin := Lib.hid hin; have Hnorm := Lib.hid hnorm; have Hsr := Lib.hid hsr
          generalize nfI c ([(i : Int)] ++ x) = X at *
          obtain ⟨nX, hnX⟩ : ∃ nX, X.length = nX := ⟨_, rfl⟩
          have HnX := Lib.hid hnX
          have hidx := idx_i64 (L := L) (by rw [HNL.out]; omega) X
          have hIdx := fun (W : World) (g4 c4 : Nat) (hR : Rows2 W g3 0 L) (h4 : Cells W g4 0 X) => spec_IndexOf_any g3 0 N c3 g4 0 nX c4 L X W HNL.out hnX (by rw [HNL.out]; omega) (by rw [HNL.out]; exact Hlen.out) hR h4
          generalize idxL L X = z at *
          have HIdx := Lib.hid hIdx
          have Hll := Lib.hid hll
          clear hcall hin hnorm hsr hnX hIdx hLt hll q5 hR1
          go_wp2_with fail
          refine Hcall.out.mono ?_
          rintro e v2 ⟨g4, c4, rfl, ho4, hb4⟩
          rw [Hl2.out]
          rw [← hwk] at hb4 ho4
          have hb4' : Below wr.heap.size wr v2 := hbk.trans (hb4.mono hbk.size)
          have hB4 : Below w.heap.size w v2 := hB0.trans (hb4'.mono hB0.size)
          clear hwk hbk hok hb4 Hcall
          go_wp2_with fail
          refine (spec_l8Normal_any gc oc _ cc g4 0 (nx + 1) c4 c ([(i : Int)] ++ x) X v2 rfl Hl2.out hC (by rw [Hl2.out]; omega) Hin.out Hnorm.out (Nat.lt_of_lt_of_le hgc hB4.size) ho4.lt (Hr.out.below hB4 hgc) ho4.cells).mono ?_
          rintro e v3 ⟨g5, c5, rfl, ho5, hb5⟩
          rw [HnX.out]
          have hb5' : Below wr.heap.size wr v3 := hb4'.trans (hb5.mono hb4'.size)
          have hb6 := hbj.trans (hb5'.mono hbj.size)
          have hoR5 := hoR.below hb5' hoR.lt
          have hR5 := hR.below hb6 hg
          clear hb5 hb4' hB4 ho4 hb5' hbj hoR
          go_wp2_with fail
          refine (HIdx.out v3 g5 c5 hR5 ho5.cells).mono ?_
          rintro e v4 ⟨rfl, hs4⟩
          have hb7 := below_still hb6 hs4
          have hoR7 := hoR5.still hs4
          clear hs4 hb6 hoR5 hR5 ho5
          go_wp2_with (at_builtin; refine wpList_append_int_n (w := v4) rfl _ _ rfl wo.heap.size gR cR i (lrow c L x i) z Hll.out hoR7 rfl rfl (by omega) ?_)
          intro g6 c6 v5 ho6 hg6 _
          have hb8 := hb7.grown hg6 hb7.size (by intro t ht; cases ht; exact hoR7.base)
          rw [← Hsr.out] at ho6
          clear hb7 hoR7 hg6
          go_wp2_with fail
          go_roundw
          case rel => exact ⟨i + 1, g6, c6, by omega, by go_num, rfl, ho6, hb8⟩
          case measure => simp [intOf]; omega
        · obtain rfl : i = c.length := by omega
          have hO1 := hO.below hbj
          have hH1 := hH.below hbj hEs
          have hE1 := Nat.le_trans hEs hbj.size
          have hB1 := hb.trans (hbj.mono hb.size)
          have hne : ∀ s ∈ rs, s.1 ≠ gR := fun s hs e => by have := (hO.2.1 s hs).lt; have := hoR.base; omega
          have Hll := Lib.hid (lrow_length c L x c.length)
          have hoR1 := hoR.mono hb.size
          clear hO hR hH hb hbj hg hoR q1 q4 hEs
          go_wp2_with (at_builtin; refine wpList_append_row (w := wr) rfl _ _ rfl w.heap.size gO cO k wr.heap.size rs (gR, cR, lrow c L x c.length) _ hrs.out (by unfold rowVal; rw [Hll.out]) rfl hO1 hoR1 hne rfl rfl (by omega) ?_)
          intro g6 c6 v5 ho6 hg6 hor6
          have hB2 := hB1.grown hg6 hB1.size (by intro t ht; cases ht; exact hO1.base)
          have hH2 := hH1.only (Only.of_grown (B := gO) (E := gO + 1) hg6 (Nat.le_refl _) (Nat.lt_succ_self _)) (by omega)
          have hE2 := Nat.le_trans hE1 hg6.size
          have hd2 : g6 < w2.heap.size ∨ w3.heap.size ≤ g6 := by omega
          have hl4 : Hid ((rs ++ [(gR, cR, lrow c L x c.length)]).length = k + 1) := Lib.hid (by rw [List.length_append, hrs.out]; rfl)
          have hc4 : Hid (contents (rs ++ [(gR, cR, lrow c L x c.length)]) = ltab c L (k + 1)) := Lib.hid (by rw [Hsucc.out, ← hcont.out]; simp [contents])
          clear hO1 hoR1 hB1 hg6 hne hH1 hE1 hdj hor6
          go_wp2_with fail
          go_roundw
          case rel => exact ⟨k + 1, g6, c6, _, by omega, by go_num, rfl, hl4.out, hc4.out, ho6, hH2, hE2, hd2, hB2⟩
          case measure => simp [intOf]; omega
    · obtain rfl : k = N := by omega
      go_wp2_with fail
      go_ret
      exact ⟨gO, cO, rs, by rw [ltab_length (by rw [HNL.out]; exact Nat.le_refl _)]; rfl, hcont.out, hO, hb⟩
end Go.Proofs.YtdedkfbiookofaaGreatDoor
namespace Go.Proofs.YtdedkfbiookofaaGreatDoor
set_option maxRecDepth 100000
open Go.RowKit Game
def Got3 (w : World) (R : List (List (List Int))) (e : Ending) (w' : World) : Prop :=
  ∃ g cap rr, e = .returned (Value.slice (some ⟨g, 0, none⟩) R.length cap) ∧ cont3 rr = R ∧ Own3 w' w.heap.size g cap rr ∧ Below w.heap.size w w'
theorem Got3.mk' {w w' : World} {R : List (List (List Int))} {n : Nat} (g cap : Nat) (rr : List TabRef) (hn : R.length = n) (hc : cont3 rr = R) (ho : Own3 w' w.heap.size g cap rr) (hb : Below w.heap.size w w') : Got3 w R (.returned (Value.slice (some ⟨g, 0, none⟩) n cap)) w' := by
  subst hn; exact ⟨g, cap, rr, rfl, hc, ho, hb⟩
theorem Own3.one {w : World} {B : Nat} {r : TabRef} (h : OwnRows w B r.1 r.2.1 r.2.2) (hB : B ≤ w.heap.size) : Own3 (w.alloc (.cells #[tabVal r] 24)) B w.heap.size 1 [r] := by
  refine ⟨World.ownsRow_lit w #[tabVal r] 1 hB (by decide) rfl, fun s hs => ?_⟩
  rw [List.mem_singleton] at hs
  subst hs
  exact h.below ((Below.refl w.heap.size w).alloc (Nat.le_refl _) _)
theorem rowsTo_row {L T : List (List Int)} : ∀ t i, i ≤ t → ((rowsTo L T t).getD i []).length = L.length
  | 0, i, h => by
    obtain rfl : i = 0 := by omega
    show (firstTo L.length).length = _
    simp [firstTo]
  | t + 1, i, h => by
    rw [rowsTo_succ]
    have hl := rowsTo_length L T t
    by_cases e : i = t + 1
    · subst e
      rw [← hl]
      simp [List.getD, nextTo']
    · rw [List.getD, List.getElem?_append_left (by omega)]
      exact rowsTo_row t i (by omega)
theorem RowAt.of3 {w : World} {B g cap N i : Nat} {rr : List TabRef} {R : List (List (List Int))} (h : Own3 w B g cap rr) (hc : cont3 rr = R) (hi : i < R.length) (hn : (R.getD i []).length = N) : RowAt w g N i (R.getD i []) := by
  subst hc
  obtain ⟨gi, ci, h1, h2, -, h4⟩ := h.at (i := i) (by rw [cont3_length] at hi; exact hi)
  rw [hn] at h1
  exact ⟨gi, ci, h1, h2, h4⟩
set_option maxRecDepth 100000 in
set_option maxHeartbeats 2000000 in
theorem spec_l23Rows_ok (gc oc n cc gl cl N t : Nat) (c L : List (List Int)) (w : World) (hn : c.length = n) (hC : IsC c) (H : KlOk c.length N L (leftT c)) (ht : t < N) (hgc : gc < w.heap.size) (hr : Rows2 w gc oc c) (hgl : gl < w.heap.size) (hL : Rows2 w gl 0 L) :
    Calls Tryz.prog 55 #[(Value.slice (some ⟨gc, oc, none⟩) n cc), (Value.slice (some ⟨gl, 0, none⟩) N cl), .int .i64 (t : Int)] w (Got3 w (rowsTo L (leftT c) t)) := by
  have hT0 := Lib.hid (spec_LeftTable_any gc oc n cc c w hn (by have := hC.2.1; omega) (fun j hj => by have := hC.2.1; rw [hC.2.2.1 j hj]; omega) hgc hr)
  have hTl := H.tlen
  have HH := Lib.hid H
  have hN24 := H.few
  clear hr hC
  generalize leftT c = T at *
  have HL := Lib.hid hL
  clear hL H
  go_enter Tryz.func55, Tryz.ntmps55
  go_wp2_with fail
  refine hT0.out.mono ?_
  rintro e w1 ⟨gT, cT, rsT, rfl, hcT, hoT, hb1⟩
  rw [hTl]
  have hT1 : HeldR w1 w.heap.size w1.heap.size gT cT T := ⟨rsT, hcT, hoT, hoT.lt, fun r hr => (hoT.2.1 r hr).lt⟩
  obtain ⟨w2, hw2⟩ : ∃ w2, w2 = w1.alloc (.cells #[] 25) := ⟨_, rfl⟩
  have hoF : OwnRows w2 w1.heap.size w1.heap.size 0 [] := by rw [hw2]; exact OwnRows.empty (Nat.le_refl _)
  have hb12 : Below w1.heap.size w1 w2 := by rw [hw2]; exact (Below.refl _ _).alloc (Nat.le_refl _) _
  have hT2 := hT1.below hb12 (Nat.le_refl _)
  have hb2 := hb1.trans (hb12.mono hb1.size)
  have hE0 := hb1.size
  have hE2 := hb12.size
  clear hcT hoT hT0 hb12 hb1 hTl hT1
  go_wp2_with fail
  rw [← hw2]
  clear hw2
  generalize w1.heap.size = E at *
  go_loopw [8, 9, 10] (fun fv uv _ wr => ∃ (u g c : Nat) (rs : List RowRef), u ≤ N ∧ uv = .int .i64 (u : Nat) ∧ fv = (Value.slice (some ⟨g, 0, none⟩) u c) ∧ Hid (rs.length = u) ∧ Hid (contents rs = firstTo u) ∧ OwnRows wr E g c rs ∧ HeldR wr w.heap.size E gT cT T ∧ E ≤ wr.heap.size ∧ Below w.heap.size w wr) (fun _ uv _ _ => N - (intOf uv).toNat)
  case atStart => exact ⟨0, E, 0, [], Nat.zero_le _, rfl, rfl, rfl, rfl, hoF, hT2, hE2, hb2⟩
  case round =>
    clear hoF hT2 hb2 hE2
    obtain ⟨u, g, cg, rs, hu, rfl, rfl, hrl, hrc, ho, hT, hE, hb⟩ := hrel
    by_cases hlt : u < N
    · have hsucc := firstTo_succ u
      by_cases h0 : u = 0
      · rw [if_pos h0] at hsucc
        have e0 : ((u : Int) == 0) = true := by rw [beq_iff_eq]; omega
        have hbx : Below wr.heap.size wr ((wr.alloc (.cells #[] 3)).alloc (.cells #[.int .i64 1] 3)) := (by repeat (first | with_reducible exact Below.refl _ _ | with_reducible assumption | with_reducible refine below_drewN ?_ _ | with_reducible refine Below.drew ?_ | (with_reducible refine Below.alloc ?_ ?_ _; rotate_left; · first | (simp; done) | (simp; omega) | exact Below.size (by assumption) | (have hsz := Below.size (by assumption : Below _ _ _); simp at hsz ⊢; omega)) | (with_reducible refine Below.setCell ?_ ?_ _; rotate_left; · first | (simp; done) | (simp; omega))))
        have hop : Own ((wr.alloc (.cells #[] 3)).alloc (.cells #[.int .i64 1] 3)) E (wr.heap.size + 1) 1 [1] := by
          have := Own.new (w := wr.alloc (.cells #[] 3)) (B := E) 1 (by simp; omega)
          simpa using this
        have hox := ho.below hbx
        have hTx := hT.below hbx hE
        have hBx := hb.trans (hbx.mono hb.size)
        have hne : ∀ s ∈ rs, s.1 ≠ wr.heap.size + 1 := fun s hs e => by have := (ho.2.1 s hs).lt; omega
        have hEx := Nat.le_trans hE hbx.size
        have hl4 : Hid ((rs ++ [(wr.heap.size + 1, 1, [(1 : Int)])]).length = u + 1) := Lib.hid (by rw [List.length_append, hrl.out]; rfl)
        have hcn4 : Hid (contents (rs ++ [(wr.heap.size + 1, 1, [(1 : Int)])]) = firstTo (u + 1)) := Lib.hid (by rw [contents_append, hrc.out, hsucc])
        clear hsucc h0 ho hT hb hbx
        go_wp2_with (at_builtin; refine wpList_append_row (w := (wr.alloc (.cells #[] 3)).alloc (.cells #[.int .i64 1] 3)) rfl _ _ rfl E g cg u (wr.heap.size + 1 + 1) rs (wr.heap.size + 1, 1, [1]) _ hrl.out rfl (by simp) hox hop hne rfl rfl (by omega) ?_)
        intro g6 c6 w6 ho6 hg6 hor6
        have hOn := Only.of_grown (B := g) (E := g + 1) hg6 (Nat.le_refl _) (Nat.lt_succ_self _)
        have hB6 := hBx.grown hg6 hBx.size (by intro t ht; cases ht; have := hox.base; omega)
        have hT6 := hTx.only hOn (.inl hox.base)
        have hE6 := Nat.le_trans hEx hg6.size
        clear hox hop hTx hBx hEx hg6 hOn hor6 hne
        go_wp2_with fail
        go_roundw
        case rel => exact ⟨u + 1, g6, c6, _, by omega, by go_num, rfl, hl4.out, hcn4.out, ho6, hT6, hE6, hB6⟩
        case measure => simp [intOf]; omega
      · rw [if_neg h0] at hsucc
        have e0 : ((u : Int) == 0) = false := by rw [beq_eq_false_iff_ne]; omega
        have hbx : Below wr.heap.size wr (wr.alloc (.cells #[] 3)) := (by repeat (first | with_reducible exact Below.refl _ _ | with_reducible assumption | with_reducible refine below_drewN ?_ _ | with_reducible refine Below.drew ?_ | (with_reducible refine Below.alloc ?_ ?_ _; rotate_left; · first | (simp; done) | (simp; omega) | exact Below.size (by assumption) | (have hsz := Below.size (by assumption : Below _ _ _); simp at hsz ⊢; omega)) | (with_reducible refine Below.setCell ?_ ?_ _; rotate_left; · first | (simp; done) | (simp; omega))))
        have hop : Own (wr.alloc (.cells #[] 3)) E wr.heap.size 0 [] := Own.empty hE
        have hox := ho.below hbx
        have hTx := hT.below hbx hE
        have hBx := hb.trans (hbx.mono hb.size)
        have hne : ∀ s ∈ rs, s.1 ≠ wr.heap.size := fun s hs e => by have := (ho.2.1 s hs).lt; omega
        have hEx := Nat.le_trans hE hbx.size
        have hl4 : Hid ((rs ++ [(wr.heap.size, 0, ([] : List Int))]).length = u + 1) := Lib.hid (by rw [List.length_append, hrl.out]; rfl)
        have hcn4 : Hid (contents (rs ++ [(wr.heap.size, 0, ([] : List Int))]) = firstTo (u + 1)) := Lib.hid (by rw [contents_append, hrc.out, hsucc])
        clear hsucc h0 ho hT hb hbx
        go_wp2_with (at_builtin; refine wpList_append_row (w := wr.alloc (.cells #[] 3)) rfl _ _ rfl E g cg u (wr.heap.size + 1) rs (wr.heap.size, 0, []) _ hrl.out rfl (by simp) hox hop hne rfl rfl (by omega) ?_)
        intro g6 c6 w6 ho6 hg6 hor6
        have hOn := Only.of_grown (B := g) (E := g + 1) hg6 (Nat.le_refl _) (Nat.lt_succ_self _)
        have hB6 := hBx.grown hg6 hBx.size (by intro t ht; cases ht; have := hox.base; omega)
        have hT6 := hTx.only hOn (.inl hox.base)
        have hE6 := Nat.le_trans hEx hg6.size
        clear hox hop hTx hBx hEx hg6 hOn hor6 hne
        go_wp2_with fail
        go_roundw
        case rel => exact ⟨u + 1, g6, c6, _, by omega, by go_num, rfl, hl4.out, hcn4.out, ho6, hT6, hE6, hB6⟩
        case measure => simp [intOf]; omega
    · obtain rfl : u = N := by omega
      obtain ⟨w3, hw3⟩ : ∃ w3, w3 = wr.alloc (.cells #[tabVal (g, cg, rs)] 24) := ⟨_, rfl⟩
      have hb3 : Below wr.heap.size wr w3 := by rw [hw3]; exact (Below.refl _ _).alloc (Nat.le_refl _) _
      have hO3 : Own3 w3 E wr.heap.size 1 [(g, cg, rs)] := by rw [hw3]; exact Own3.one ho hE
      have hT3 := hT.below hb3 hE
      have hB3 := hb.trans (hb3.mono hb.size)
      have hE3 := Nat.le_trans hE hb3.size
      have hR3 : Hid (cont3 [(g, cg, rs)] = rowsTo L T 0) := Lib.hid (by
        show [contents rs] = [firstTo L.length]
        rw [hrc.out, HH.out.len])
      rw [show tabVal (g, cg, rs) = (Value.slice (some ⟨g, 0, none⟩) u cg) by unfold tabVal; rw [hrl.out]] at hw3
      clear ho hT hb hE hb3
      go_wp2_with fail
      rw [← hw3]
      generalize wr.heap.size = H3 at *
      clear hw3
      go_loopw [11, 12, 13] (fun rv kv _ wr => ∃ (k g c : Nat) (rr : List TabRef), k ≤ t ∧ kv = .int .i64 ((k + 1 : Nat) : Int) ∧ rv = (Value.slice (some ⟨g, 0, none⟩) (k + 1) c) ∧ Hid (rr.length = k + 1) ∧ Hid (cont3 rr = rowsTo L T k) ∧ Own3 wr E g c rr ∧ HeldR wr w.heap.size E gT cT T ∧ E ≤ wr.heap.size ∧ Below w.heap.size w wr) (fun _ kv _ _ => t + 1 - (intOf kv).toNat)
      case atStart => exact ⟨0, H3, 1, [(g, cg, rs)], Nat.zero_le _, rfl, rfl, rfl, hR3.out, hO3, hT3, hE3, hB3⟩
      case round =>
        clear hO3 hT3 hE3 hB3
        obtain ⟨k, g3, c3, rr, hk, rfl, rfl, hrl3, hR, hO, hT, hE, hb⟩ := hrel
        by_cases hkt : k < t
        · have hkI : ((k + 1 : Nat) : Int) ≤ (t : Int) := by omega
          have hRl := rowsTo_length L T k
          have hnx := spec_l23Next_ok gl cl gT cT g3 c3 c.length u (k + 1) L T (rowsTo L T k) wr HH.out (by omega) (by omega) (Nat.lt_of_lt_of_le hgl hb.size) hT.lt hO.lt (HL.out.below hb hgl) hT.rows2 (fun i x _ => klRows_len HH.out k (by omega) i x)
            (fun i hi => by rw [rowsTo_row k i (by omega), HH.out.len]) (fun i hi => RowAt.of3 hO hR.out (by omega) (by rw [rowsTo_row k i (by omega), HH.out.len]))
          have hsu := rowsTo_succ L T k
          rw [HH.out.len] at hsu
          have hnl : (nextTo' L T (rowsTo L T k) (k + 1) u).length = u := by simp [nextTo']
          generalize nextTo' L T (rowsTo L T k) (k + 1) u = X at *
          have Hnx := Lib.hid hnx; have Hsu := Lib.hid hsu; have Hnl := Lib.hid hnl
          have ek : ((k + 1 : Nat) : Int) = (k : Int) + 1 := by omega
          rw [ek] at Hnx
          clear hnx hsu hnl hRl ek
          go_wp2_with fail
          refine Hnx.out.mono ?_
          rintro e w4 ⟨g4, c4, rs4, rfl, hc4, ho4, hb4⟩
          rw [Hnl.out]
          have hO4 := hO.below hb4
          have hT4 := hT.below hb4 hE
          have hB4 := hb.trans (hb4.mono hb.size)
          have hE4 := Nat.le_trans hE hb4.size
          have ho4' := ho4.mono hE
          have hl4 : rs4.length = u := by rw [← contents_length, hc4]; exact Hnl.out
          have htv : tabVal (g4, c4, rs4) = (Value.slice (some ⟨g4, 0, none⟩) u c4) := by unfold tabVal; rw [hl4]
          have hl5 : Hid ((rr ++ [(g4, c4, rs4)]).length = k + 1 + 1) := Lib.hid (by rw [List.length_append, hrl3.out]; rfl)
          have hR5 : Hid (cont3 (rr ++ [(g4, c4, rs4)]) = rowsTo L T (k + 1)) := Lib.hid (by rw [cont3_append, hR.out, Hsu.out, ← hc4]; rfl)
          have HTv := Lib.hid htv
          clear hO hT hb hE ho4 hb4 Hnx hc4 hl4 htv
          go_wp2_with (at_builtin; refine wpList_append_tab (w := w4) rfl _ _ rfl E g3 c3 (k + 1) w4.heap.size rr (g4, c4, rs4) _ hrl3.out (by rw [HTv.out]) rfl hO4 ho4' rfl rfl (by omega) ?_)
          intro g6 c6 w6 hO6 hg6 hor6
          have hOn := Only.of_grown (B := g3) (E := g3 + 1) hg6 (Nat.le_refl _) (Nat.lt_succ_self _)
          have hB6 := hB4.grown hg6 hB4.size (by intro t ht; cases ht; have := hO4.base; omega)
          have hT6 := hT4.only hOn (.inl hO4.base)
          have hE6 := Nat.le_trans hE4 hg6.size
          clear hO4 hT4 hB4 hE4 ho4' hg6 hOn hor6
          go_wp2_with fail
          go_roundw
          case rel => exact ⟨k + 1, g6, c6, _, by omega, by go_num, rfl, hl5.out, hR5.out, hO6, hT6, hE6, hB6⟩
          case measure => simp [intOf]; omega
        · obtain rfl : k = t := by omega
          have hkI : ¬ ((k + 1 : Nat) : Int) ≤ (k : Int) := by omega
          go_wp2_with fail
          go_ret
          exact Got3.mk' g3 c3 rr (rowsTo_length _ _ _) hR.out (hO.mono hE0) hb
end Go.Proofs.YtdedkfbiookofaaGreatDoor
namespace Go.Proofs.YtdedkfbiookofaaGreatDoor
set_option maxRecDepth 100000
open Go.RowKit Game
/-- a finite group of at most 24 elements -/
def klB (c : List (List Int)) : Bool := finB c && decide (szO c ≤ 24)
def klL (c : List (List Int)) : List (List Int) := if klB c = true then elemL c else []
theorem klB_fin {c : List (List Int)} (h : klB c = true) : finB c = true := (Bool.and_eq_true_iff.1 h).1
theorem klB_24 {c : List (List Int)} (h : klB c = true) : szO c ≤ 24 := of_decide_eq_true (Bool.and_eq_true_iff.1 h).2
theorem klB_few {c : List (List Int)} (h : klB c = true) : fewB c = true := by
  unfold fewB; rw [klB_fin h, decide_eq_true (by have := klB_24 h; omega)]; rfl
theorem klB_iff (c : List (List Int)) : klB c = true ↔ 1 ≤ szO c ∧ szO c ≤ 24 := by
  constructor
  · intro h; exact ⟨size_pos (klB_fin h), klB_24 h⟩
  · intro ⟨h1, h2⟩
    have hf : finB c = true := by
      by_cases hf : finB c = true
      · exact hf
      · have : szO c = 0 := if_neg hf
        omega
    unfold klB
    rw [hf, decide_eq_true h2]; rfl
theorem klB_len {c : List (List Int)} (h : klB c = true) : (elemL c).length ≤ 24 ∧ ((elemL c).length : Int) = szO c := by
  have hG := grp_few (klB_few h)
  have h1 := hG.len
  have h2 := klB_24 h
  omega
set_option maxHeartbeats 1000000 in
theorem impl_few24_yes (gc oc n cc : Nat) (c : List (List Int)) (w : World) (hn : c.length = n) (hf : klB c = true) (hgc : gc < w.heap.size) (hr : Rows2 w gc oc c) (hm : MaxL w) :
    Calls Tryz.prog 85 #[(Value.slice (some ⟨gc, oc, none⟩) n cc), .int .i64 24] w (GotRowsB w (elemL c) true) := by
  have hG := grp_few (klB_few hf)
  have hC := hG.hC
  have hx : c.length ≤ 1048576 := by have := hC.2.1; omega
  have hrl : ∀ j, j < c.length → (c.getD j []).length ≤ 1048576 := fun j hj => by rw [hC.2.2.1 j hj]; exact hx
  have hF := impl_IsFinite_any gc oc n cc c w hn hx hrl hgc hr
  rw [hG.fin] at hF
  have hZ := fun W (hW : Below w.heap.size w W) => impl_SizeOf_any gc oc n cc c W hn hx hrl (Nat.lt_of_lt_of_le hgc hW.size) (hr.below hW hgc) (hm.below hW)
  have hB := fun W (hW : Below w.heap.size w W) => impl_ElementsOf_ok gc oc n cc c W hn hG (Nat.lt_of_lt_of_le hgc hW.size) (hr.below hW hgc) (hm.below hW)
  have hs := klB_24 hf
  have hs0 := (szO_bound c).1
  have HF := Lib.hid hF; have HZ := Lib.hid hZ; have HB := Lib.hid hB
  clear hF hZ hB hrl hx hG hn hr hm hf
  generalize szO c = z at *
  generalize elemL c = L at *
  go_enter Tryz.func85, Tryz.ntmps85
  go_wp2_with fail
  refine HF.out.mono ?_
  rintro e w1 ⟨rfl, hb1⟩
  go_wp2_with fail
  refine (HZ.out w1 hb1).mono ?_
  rintro e w2 ⟨rfl, hb2⟩
  have hB2 := hb1.trans (hb2.mono hb1.size)
  go_wp2_with fail
  refine (HB.out w2 hB2).mono ?_
  rintro e w3 ⟨g3, c3, rs3, rfl, hc3, ho3, hb3⟩
  go_wp2_with fail
  go_ret2
  exact ⟨g3, c3, rs3, rfl, hc3, ho3.mono hB2.size, hB2.trans (hb3.mono hB2.size)⟩
set_option maxHeartbeats 1000000 in
theorem impl_few24_no (gc oc n cc : Nat) (c : List (List Int)) (w : World) (hn : c.length = n) (hx : c.length ≤ 1048576) (hrl : ∀ j, j < c.length → (c.getD j []).length ≤ 1048576) (hf : klB c = false) (hgc : gc < w.heap.size) (hr : Rows2 w gc oc c) (hm : MaxL w) :
    Calls Tryz.prog 85 #[(Value.slice (some ⟨gc, oc, none⟩) n cc), .int .i64 24] w (Gives w (.tuple #[.slice none 0 0, .bool false])) := by
  have hF := impl_IsFinite_any gc oc n cc c w hn hx hrl hgc hr
  have hZ := fun W (hW : Below w.heap.size w W) => impl_SizeOf_any gc oc n cc c W hn hx hrl (Nat.lt_of_lt_of_le hgc hW.size) (hr.below hW hgc) (hm.below hW)
  by_cases hfin : finB c = true
  · have hs : 24 < szO c := by
      rcases Int.lt_or_le 24 (szO c) with h | h
      · exact h
      · have : klB c = true := by unfold klB; rw [hfin, decide_eq_true h]; rfl
        rw [hf] at this; exact absurd this (by decide)
    have hs0 := (szO_bound c).2
    rw [hfin] at hF
    have HF := Lib.hid hF; have HZ := Lib.hid hZ
    clear hF hZ hrl hx hn hr hm hf hfin
    generalize szO c = z at *
    go_enter Tryz.func85, Tryz.ntmps85
    go_wp2_with fail
    refine HF.out.mono ?_
    rintro e w1 ⟨rfl, hb1⟩
    go_wp2_with fail
    refine (HZ.out w1 hb1).mono ?_
    rintro e w2 ⟨rfl, hb2⟩
    go_wp2_with fail
    go_ret2
    exact ⟨rfl, hb1.trans (hb2.mono hb1.size)⟩
  · have hfin' : finB c = false := by simpa using hfin
    rw [hfin'] at hF
    have HF := Lib.hid hF
    clear hF hZ hrl hx hn hr hm hf hfin hfin'
    go_enter Tryz.func85, Tryz.ntmps85
    go_wp2_with fail
    refine HF.out.mono ?_
    rintro e w1 ⟨rfl, hb1⟩
    go_wp2_with fail
    go_ret2
    exact ⟨rfl, hb1⟩
set_option maxHeartbeats 1000000 in
theorem spec_l23Ready_any (gc oc n cc : Nat) (c : List (List Int)) (w : World) (hn : c.length = n) (hx : c.length ≤ 1048576) (hrl : ∀ j, j < c.length → (c.getD j []).length ≤ 1048576) (hgc : gc < w.heap.size) (hr : Rows2 w gc oc c) :
    Calls Tryz.prog 48 #[(Value.slice (some ⟨gc, oc, none⟩) n cc)] w (GotRowsB w (klL c) (klB c)) := by
  have hcall := spec_SizeOf_any gc oc n cc c w hn hx hrl hgc hr
  have hiff := klB_iff c
  have hbd := szO_bound c
  by_cases hf : klB c = true
  · have hG := grp_few (klB_few hf)
    have hL : klL c = elemL c := if_pos hf
    obtain ⟨h1, h2⟩ := hiff.1 hf
    rw [hL, hf]
    have HA := Lib.hid (fun W (hW : Below w.heap.size w W) => spec_l13All_ok gc oc n cc c W hn hG (Nat.lt_of_lt_of_le hgc hW.size) (hr.below hW hgc))
    have Hcall := Lib.hid hcall
    clear hcall hiff hf hG hL hrl hr hx hn
    generalize szO c = z at *
    generalize elemL c = L at *
    go_enter Tryz.func48, Tryz.ntmps48
    go_wp2_with fail
    refine Hcall.out.mono ?_
    rintro e w1 ⟨rfl, hb1⟩
    go_wp2_with fail
    refine (HA.out w1 hb1).mono ?_
    rintro e w2 ⟨g2, c2, rs2, rfl, hc2, ho2, hb2⟩
    go_wp2_with fail
    go_ret2
    exact ⟨g2, c2, rs2, rfl, hc2, ho2.mono hb1.size, hb1.trans (hb2.mono hb1.size)⟩
  · have hf' : klB c = false := by simpa using hf
    have hL : klL c = [] := if_neg hf
    have hno : szO c < 1 ∨ 24 < szO c := by
      rcases Int.lt_or_le (szO c) 1 with h | h
      · exact .inl h
      · rcases Int.lt_or_le 24 (szO c) with h2 | h2
        · exact .inr h2
        · exact absurd (hiff.2 ⟨h, h2⟩) hf
    rw [hL, hf']
    have Hcall := Lib.hid hcall
    clear hcall hiff hf hf' hL hrl hr hx hn
    generalize szO c = z at *
    rcases hno with hz | hz
    · go_enter Tryz.func48, Tryz.ntmps48
      go_wp2_with fail
      refine Hcall.out.mono ?_
      rintro e w1 ⟨rfl, hb1⟩
      go_wp2_with fail
      go_ret2
      exact ⟨w1.heap.size, 0, [], rfl, rfl, (OwnRows.empty (w := w1) (Nat.le_refl _)).mono hb1.size, hb1.alloc hb1.size _⟩
    · go_enter Tryz.func48, Tryz.ntmps48
      go_wp2_with fail
      refine Hcall.out.mono ?_
      rintro e w1 ⟨rfl, hb1⟩
      go_wp2_with fail
      go_ret2
      exact ⟨w1.heap.size, 0, [], rfl, rfl, (OwnRows.empty (w := w1) (Nat.le_refl _)).mono hb1.size, hb1.alloc hb1.size _⟩
end Go.Proofs.YtdedkfbiookofaaGreatDoor
