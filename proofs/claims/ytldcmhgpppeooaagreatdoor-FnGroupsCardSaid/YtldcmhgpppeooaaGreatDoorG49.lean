/- LeftTable of the program: contract. IndexOfElement of the program, with its closure: contract. slices.Reverse, ReverseWord: contracts. slices.Equal, slices.Reverse, ReverseWord, IsPalindrome: contracts. -/
import Derived.Test.YtldcmhgpppeooaaGreatDoorG37
import Derived.Test.YtldcmhgpppeooaaGreatDoorG47
import Derived.Test.YtldcmhgpppeooaaGreatDoorG48
import Derived.Test.YtldcmhgpppeooaaGreatDoorG06
import Derived.Test.YtldcmhgpppeooaaGreatDoorG19
import Derived.Test.YtldcmhgpppeooaaGreatDoorG03
import Derived.Test.YtldcmhgpppeooaaGreatDoorG18
import Derived.BigQuiet
import Derived.Test.YtldcmhgpppeooaaGreatDoorG02
import Derived.Test.YtldcmhgpppeooaaGreatDoorG01
import Derived.Test.YtldcmhgpppeooaaGreatDoorG04
import Derived.Deep.RegionHeld3
import Derived.Test.YtldcmhgpppeooaaGreatDoorBase
namespace Go.Proofs.YtldcmhgpppeooaaGreatDoor
set_option maxRecDepth 100000
open Go.RowKit Game

theorem AtW.only {w w' : World} {b n B E : Nat} {L : List (List Int)} (h : AtW w b n L) (hb : Only B E w w') (hd : b < B ∨ E ≤ b) : AtW w' b n L := h.same (hb.block b h.lt hd)
theorem elem_let {c : List (List Int)} (hG : Grp c) {x : List Int} (hx : x ∈ elemL c) : LetW x := by
  have h := elem_lets hG hx
  refine ⟨fun i hi => ?_, by have := h.few; omega⟩
  have h1 := h.mem i hi
  have := hG.hC.2.1
  omega

set_option maxHeartbeats 2000000 in
theorem impl_places_ok (g cp N : Nat) (L : List (List Int)) (w : World) (hn : L.length = N) (hN : N ≤ 200) (hd : L.Nodup) (hW : ∀ j, j < N → LetW (L.getD j [])) (hg : g < w.heap.size) (hr : Rows2 w g 0 L) :
    Calls Tryz.prog 92 #[(Value.slice (some ⟨g, 0, none⟩) N cp)] w (fun e w' => ∃ b, e = .returned (.map (some b)) ∧ w.heap.size ≤ b ∧ AtW w' b N L ∧ Below w.heap.size w w') := by
  have Hn := Lib.hid hn; have Hd := Lib.hid hd; have HW := Lib.hid hW
  clear hn hd hW
  have hmm := @run_makeMap Tryz.prog
  go_enter Tryz.func92, Tryz.ntmps92
  go_wp2_with fail
  have hA : AtW (w.alloc (.map #[] 0)) w.heap.size 0 (L.take 0) := AtW.start w
  have hb0 : Below w.heap.size w (w.alloc (.map #[] 0)) := (Below.refl _ _).alloc (Nat.le_refl _) _
  go_loopw [9] (fun iv wr => ∃ k : Nat, k ≤ N ∧ iv = .int .i64 k ∧ AtW wr w.heap.size k (L.take k) ∧ Below w.heap.size w wr) (fun iv _ => N - (intOf iv).toNat)
  case atStart => exact ⟨0, Nat.zero_le _, rfl, hA, hb0⟩
  case round =>
    clear hA hb0
    obtain ⟨k, hk, rfl, hA, hb⟩ := hrel
    by_cases hlt : k < N
    · have hkL : k < L.length := by rw [Hn.out]; exact hlt
      obtain ⟨gj, oj, cj, q1, q2, q3, q4⟩ := (hr.below hb hg) k hkL
      have hlw := HW.out k hlt
      have hnot : L.getD k [] ∉ L.take k := by
        intro hm
        obtain ⟨j, hj, he⟩ := List.mem_iff_getElem.1 hm
        have hjk : j < k := by rw [List.length_take] at hj; omega
        have e1 : L[j]'(by omega) = L[k] := by
          rw [List.getElem_take] at he
          rw [he]; simp [List.getD, hkL]
        have := (List.getElem_inj Hd.out).1 e1
        omega
      have hsucc : L.take (k + 1) = L.take k ++ [L.getD k []] := by rw [List.take_succ_eq_append_getElem hkL]; simp [List.getD, hkL]
      have htl : (L.take k).length = k := by rw [List.length_take]; omega
      generalize L.getD k [] = x at *
      obtain ⟨nx, hnx⟩ : ∃ nx, x.length = nx := ⟨_, rfl⟩
      rw [hnx] at q1
      rw [Nat.zero_add] at q1
      have hF := impl_FormatWord_any gj oj nx cj x wr hnx (by have := hlw.few; omega) q3 q4
      have HF := Lib.hid hF; have Hlw := Lib.hid hlw; have Hnot := Lib.hid hnot; have Hsucc := Lib.hid hsucc; have Htl := Lib.hid htl
      have hgw := Nat.lt_of_lt_of_le hg hb.size
      clear hF hlw hnot hsucc htl hnx q4 q2
      go_wp2_with fail
      refine HF.out.mono ?_
      rintro e v2 ⟨rfl, hb2⟩
      have hB2 := hb.trans (hb2.mono hb.size)
      have hA2 := hA.below hb2 hA.lt
      clear hb hb2 hA HF
      go_wp2_with (at_mapUpdate; refine wpList_atw_put rfl _ _ _ rfl w.heap.size k (L.take k) x Hlw.out Hnot.out Htl.out hA2 (by omega) rfl rfl rfl ?_)
      intro v3 hA3 hg3
      have hB3 := hB2.grown hg3 hB2.size (by intro t ht; cases ht; exact Nat.le_refl _)
      rw [← Hsucc.out] at hA3
      clear hB2 hA2 hg3
      go_wp2_with fail
      go_roundw
      case rel => exact ⟨k + 1, by omega, by go_num, hA3, hB3⟩
      case measure => simp [intOf]; omega
    · obtain rfl : k = N := by omega
      go_wp2
      go_ret
      refine ⟨w.heap.size, rfl, Nat.le_refl _, ?_, hb⟩
      rw [← Hn.out, List.take_length] at hA
      rw [← Hn.out]; exact hA

set_option maxRecDepth 100000 in
set_option maxHeartbeats 4000000 in
theorem impl_LeftTable_yes (gc oc n cc : Nat) (c : List (List Int)) (w : World) (hn : c.length = n) (hgr : grpB c = true) (hgc : gc < w.heap.size) (hr : Rows2 w gc oc c) (hm : MaxL w) :
    Calls Tryz.prog 36 #[(Value.slice (some ⟨gc, oc, none⟩) n cc)] w (GotRows w (leftT c)) := by
  subst hn
  have hG := grp_B hgr
  obtain ⟨w2, hw2⟩ : ∃ w2, w2 = w.alloc (.cells #[] 27) := ⟨_, rfl⟩
  have hb2 : Below w.heap.size w w2 := by rw [hw2]; exact (by repeat (first | with_reducible exact Below.refl _ _ | with_reducible assumption | with_reducible refine below_drewN ?_ _ | with_reducible refine Below.drew ?_ | (with_reducible refine Below.alloc ?_ ?_ _; rotate_left; · first | (simp; done) | (simp; omega) | exact Below.size (by assumption) | (have hsz := Below.size (by assumption : Below _ _ _); simp at hsz ⊢; omega)) | (with_reducible refine Below.setCell ?_ ?_ _; rotate_left; · first | (simp; done) | (simp; omega))))
  have ho2 : OwnRows w2 w.heap.size w.heap.size 0 [] := by rw [hw2]; exact OwnRows.empty (w := w) (Nat.le_refl _)
  have hcall := impl_elements_ok gc oc c.length cc c w2 rfl hG (Nat.lt_of_lt_of_le hgc hb2.size) (hr.below hb2 hgc) (hm.below hb2)
  rw [hw2] at hcall
  have Hcall := Lib.hid hcall; have Hw2 := Lib.hid hw2
  unfold leftT
  rw [show elA c = elemL c from if_pos hgr]
  have hfew := hG.few
  have hc4 : c.length ≤ 4 := hG.hC.2.1
  have hN : ∀ j i, j < (elemL c).length → i < c.length → Lets c 30 ([(i : Int)] ++ (elemL c).getD j []) ∧ nfI c ([(i : Int)] ++ (elemL c).getD j []) ∈ elemL c ∧ LetW (nfI c ([(i : Int)] ++ (elemL c).getD j [])) ∧ ((elemL c).getD j []).length ≤ 24 := by
    intro j i hj hi
    have hx : (elemL c).getD j [] ∈ elemL c := by simp [List.getD, hj]
    have hm := left_mem hG hx hi
    exact ⟨left_lets hG hx hi, hm, elem_let hG hm, (elem_lets hG hx).few⟩
  have hlw : ∀ j, j < (elemL c).length → LetW ((elemL c).getD j []) := fun j hj => elem_let hG (by simp [List.getD, hj])
  have hnd := hG.asc.nodup
  clear hcall hw2 hG hm hgr
  generalize elemL c = L at *
  obtain ⟨N, hNL⟩ : ∃ N, L.length = N := ⟨_, rfl⟩
  have HNL := Lib.hid hNL
  rw [hNL] at hfew hN hlw ⊢
  have HN := Lib.hid hN; have Hr := Lib.hid hr; have Hlw := Lib.hid hlw; have Hnd := Lib.hid hnd
  clear hNL hN hr hlw hnd
  go_enter Tryz.func36, Tryz.ntmps36
  go_wp2_with fail
  refine Hcall.out.mono ?_
  rintro e w3 ⟨g3, c3, rs, rfl, hcr, hO3, hb3⟩
  rw [← Hw2.out] at hb3 hO3
  have hb3' := hb2.trans (hb3.mono hb2.size)
  have ho3 := ho2.below hb3
  have hH3 : HeldR w3 w2.heap.size w3.heap.size g3 c3 L := ⟨rs, hcr, hO3, hO3.lt, fun r hr => (hO3.2.1 r hr).lt⟩
  have hw2s : w.heap.size < w2.heap.size := ho2.lt
  have hPl := impl_places_ok g3 c3 N L w3 HNL.out hfew Hnd.out Hlw.out hH3.lt hH3.rows2
  have HPl := Lib.hid hPl
  rw [HNL.out]
  clear hb3 hb2 ho2 hcr hO3 Hcall Hw2 hPl
  go_wp2_with fail
  refine HPl.out.mono ?_
  rintro e w4 ⟨bM, rfl, hbM, hA4, hb4⟩
  have hE : w3.heap.size ≤ w4.heap.size := hb4.size
  have hB4 := hb3'.trans (hb4.mono hb3'.size)
  have ho4 := ho3.below hb4
  have hH4 := hH3.below hb4 (Nat.le_refl _)
  clear hb4 hb3' ho3 hH3 HPl
  go_wp2_with fail
  go_loopw [3, 8, 17] (fun ov _ kv wr => ∃ (k gO cO : Nat) (rs : List RowRef), k ≤ N ∧ kv = .int .i64 k ∧ ov = (Value.slice (some ⟨gO, 0, none⟩) k cO) ∧ Hid (rs.length = k) ∧ Hid (contents rs = ltab c L k) ∧ OwnRows wr w.heap.size gO cO rs ∧ HeldR wr w2.heap.size w3.heap.size g3 c3 L ∧ w3.heap.size ≤ wr.heap.size ∧ (gO < w2.heap.size ∨ w3.heap.size ≤ gO) ∧ AtW wr bM N L ∧ Below w.heap.size w wr) (fun _ _ kv _ => N - (intOf kv).toNat)
  case atStart => exact ⟨0, _, 0, [], Nat.zero_le _, rfl, rfl, rfl, rfl, ho4, hH4, hE, .inl hw2s, hA4, hB4⟩
  case round =>
    clear ho4 hH4 hB4 hA4
    obtain ⟨k, gO, cO, rs, hk, rfl, rfl, hrs, hcont, hO, hH, hEs, hdj, hA, hb⟩ := hrel
    by_cases hlt : k < N
    · have hkL : k < L.length := by rw [HNL.out]; exact hlt
      have Hsucc := Lib.hid (ltab_succ (c := c) hkL)
      have hR := hH.rows2
      have hg := hH.lt
      obtain ⟨gj, oj, cj, q1, q2, q3, q4⟩ := hR k hkL
      have hNk := fun i hi => HN.out k i hlt hi
      generalize L.getD k [] = x at *
      have HNk := Lib.hid hNk
      obtain ⟨nx, hnx⟩ : ∃ nx, x.length = nx := ⟨_, rfl⟩
      rw [hnx] at q1
      have Hnx := Lib.hid hnx
      obtain ⟨wr1, hwr1⟩ : ∃ wr1, wr1 = wr.alloc (.cells #[] 3) := ⟨_, rfl⟩
      have hbr : Below wr.heap.size wr wr1 := by rw [hwr1]; exact (Below.refl _ _).alloc (Nat.le_refl _) _
      have hor : Own wr1 wr.heap.size wr.heap.size 0 [] := by rw [hwr1]; exact Own.empty (w := wr) (Nat.le_refl _)
      clear hNk hnx
      rw [Nat.zero_add] at q1
      go_wp2_with fail
      rw [← hwr1]
      generalize wr = wo at *
      go_loopw [8, 24] (fun rv iv wj => ∃ i gR cR : Nat, i ≤ c.length ∧ iv = .int .i64 i ∧ rv = (Value.slice (some ⟨gR, 0, none⟩) i cR) ∧ Own wj wo.heap.size gR cR (lrow c L x i) ∧ Below wo.heap.size wo wj) (fun _ iv _ => c.length - (intOf iv).toNat)
      case atStart => exact ⟨0, wo.heap.size, 0, Nat.zero_le _, rfl, rfl, hor, hbr⟩
      case round =>
        clear hor hbr hwr1
        obtain ⟨i, gR, cR, hi, rfl, rfl, hoR, hbj⟩ := hrel
        by_cases hil : i < c.length
        · obtain ⟨hLt, hmem, hlet, h24⟩ := HNk.out i hil
          rw [Hnx.out] at h24
          have hsr := lrow_succ c L x i
          have hll := lrow_length c L x i
          have hB0 := hb.trans (hbj.mono hb.size)
          have q5 := q4.below hbj q3
          have hgj := Nat.lt_of_lt_of_le q3 hbj.size
          obtain ⟨wk, hwk⟩ : ∃ wk, wk = wr.alloc (.cells #[.int .i64 (i : Int)] 3) := ⟨_, rfl⟩
          have hbk : Below wr.heap.size wr wk := by rw [hwk]; exact (Below.refl _ _).alloc (Nat.le_refl _) _
          have hok : Own wk wr.heap.size wr.heap.size 1 [(i : Int)] := by rw [hwk]; exact Own.new _ (Nat.le_refl _)
          have hxk := q5.below hbk hgj
          have hl2 : ([(i : Int)] ++ x).length = 1 + nx := by rw [List.length_append, Hnx.out]; rfl
          have Hl2 := Lib.hid hl2
          have hRd := fun (W : World) (g4 c4 : Nat) (hb : Below w.heap.size w W) (h4 : g4 < W.heap.size) (hc : Cells W g4 0 ([(i : Int)] ++ x)) => impl_reduced_any gc oc _ cc g4 0 (1 + nx) c4 c ([(i : Int)] ++ x) W rfl Hl2.out hLt (Nat.lt_of_lt_of_le hgc hb.size) h4 (Hr.out.below hb hgc) hc
          generalize nfI c ([(i : Int)] ++ x) = X at *
          obtain ⟨nX, hnX⟩ : ∃ nX, X.length = nX := ⟨_, rfl⟩
          have HnX := Lib.hid hnX
          have HRd := Lib.hid hRd
          have HFm := Lib.hid (fun (W : World) (g5 c5 : Nat) (h5 : g5 < W.heap.size) (hc : Cells W g5 0 X) => impl_FormatWord_any g5 0 nX c5 X W HnX.out (by have := hlet.few; omega) h5 hc)
          have Hlet := Lib.hid hlet; have Hmem := Lib.hid hmem; have Hsr := Lib.hid hsr; have Hll := Lib.hid hll
          have hgw : g3 < wr.heap.size := Nat.lt_of_lt_of_le hg hbj.size
          subst hwk
          clear hRd hnX hlet hmem hsr hll hLt hl2 q5
          go_wp2_with (at_builtin; refine wpList_append_ints_n rfl _ _ rfl wr.heap.size wr.heap.size 1 1 [(i : Int)] rfl hok gj oj nx cj x Hnx.out hxk rfl rfl (by omega) ?_)
          intro g4 c4 v2 ho4 hg4 _
          have hb4' := hbk.grown hg4 hbk.size (by intro t ht; cases ht; exact Nat.le_refl _)
          have hB4 := hB0.trans (hb4'.mono hB0.size)
          have ho4 := ho4.mono hB0.size
          clear hbk hok hxk hg4
          go_wp2_with fail
          refine (HRd.out v2 g4 c4 hB4 ho4.lt ho4.cells).mono ?_
          rintro e v3 ⟨g5, c5, rfl, ho5, hb5⟩
          rw [HnX.out]
          have hb5' := hb4'.trans (hb5.mono hb4'.size)
          clear hb5 hb4' hB4 ho4 HRd
          go_wp2_with fail
          refine (HFm.out v3 g5 c5 ho5.lt ho5.cells).mono ?_
          rintro e v4 ⟨rfl, hb6⟩
          have hb6' := hb5'.trans (hb6.mono hb5'.size)
          have hb7 := hbj.trans (hb6'.mono hbj.size)
          have hoR7 := hoR.below hb6' hoR.lt
          have hA7 := hA.below hb7 hA.lt
          clear hb6 hb5' hb6' hbj hoR ho5 HFm
          go_wp2_with (first | (at_lookup; refine wpList_atw_get rfl _ _ rfl bM N L X Hlet.out Hmem.out hA7 rfl rfl ?_) | (at_builtin; refine wpList_append_int_n (w := v4) rfl _ _ rfl wo.heap.size gR cR i (lrow c L x i) (idxL L X) Hll.out hoR7 rfl rfl (by omega) ?_))
          intro g6 c6 v5 ho6 hg6 _
          have hb8 := hb7.grown hg6 hb7.size (by intro t ht; cases ht; exact hoR7.base)
          rw [← Hsr.out] at ho6
          clear hb7 hoR7 hg6 hA7
          go_wp2_with fail
          go_roundw
          case rel => exact ⟨i + 1, g6, c6, by omega, by go_num, rfl, ho6, hb8⟩
          case measure => simp [intOf]; omega
        · obtain rfl : i = c.length := by omega
          have hO1 := hO.below hbj
          have hH1 := hH.below hbj hEs
          have hE1 := Nat.le_trans hEs hbj.size
          have hB1 := hb.trans (hbj.mono hb.size)
          have hA1 := hA.below hbj hA.lt
          have hne : ∀ s ∈ rs, s.1 ≠ gR := fun s hs e => by have := (hO.2.1 s hs).lt; have := hoR.base; omega
          have hneM : bM ≠ gO := hA.neRows hO
          have Hll := Lib.hid (lrow_length c L x c.length)
          have hoR1 := hoR.mono hb.size
          clear hO hR hH hA hb hbj hg hoR q1 q4 hEs
          go_wp2_with (at_builtin; refine wpList_append_row (w := wr) rfl _ _ rfl w.heap.size gO cO k wr.heap.size rs (gR, cR, lrow c L x c.length) _ hrs.out (by unfold rowVal; rw [Hll.out]) rfl hO1 hoR1 hne rfl rfl (by omega) ?_)
          intro g6 c6 v5 ho6 hg6 hor6
          have hB2 := hB1.grown hg6 hB1.size (by intro t ht; cases ht; exact hO1.base)
          have hl4 : Hid ((rs ++ [(gR, cR, lrow c L x c.length)]).length = k + 1) := Lib.hid (by rw [List.length_append, hrs.out]; rfl)
          have hcn4 : Hid (contents (rs ++ [(gR, cR, lrow c L x c.length)]) = ltab c L (k + 1)) := Lib.hid (by rw [Hsucc.out, ← hcont.out]; simp [contents])
          have hOn := Only.of_grown (B := gO) (E := gO + 1) hg6 (Nat.le_refl _) (Nat.lt_succ_self _)
          have hH2 := hH1.only hOn (by omega)
          have hA2 := hA1.only hOn (by omega)
          have hE2 := Nat.le_trans hE1 hg6.size
          have hd2 : g6 < w2.heap.size ∨ w3.heap.size ≤ g6 := by omega
          clear hO1 hoR1 hB1 hg6 hne hH1 hE1 hdj hor6 hA1 hOn
          go_wp2_with fail
          go_roundw
          case rel => exact ⟨k + 1, g6, c6, _, by omega, by go_num, rfl, hl4.out, hcn4.out, ho6, hH2, hE2, hd2, hA2, hB2⟩
          case measure => simp [intOf]; omega
    · obtain rfl : k = N := by omega
      go_wp2_with fail
      go_ret
      exact ⟨gO, cO, rs, by rw [ltab_length (by rw [HNL.out]; exact Nat.le_refl _)]; rfl, hcont.out, hO, hb⟩

theorem impl_places_nil (w : World) : Calls Tryz.prog 92 #[.slice none 0 0] w (fun e w' => ∃ b, e = .returned (.map (some b)) ∧ Below w.heap.size w w') := by
  have hmm := @run_makeMap Tryz.prog
  go_enter Tryz.func92, Tryz.ntmps92
  go_wp2_with fail
  have hb0 : Below w.heap.size w (w.alloc (.map #[] 0)) := (Below.refl _ _).alloc (Nat.le_refl _) _
  go_loopw [9] (fun iv wr => iv = .int .i64 0 ∧ Below w.heap.size w wr) (fun _ _ => 0)
  case atStart => exact ⟨rfl, hb0⟩
  case round =>
    obtain ⟨rfl, hb⟩ := hrel
    go_wp2
    go_ret
    exact ⟨_, rfl, hb⟩
set_option maxHeartbeats 1000000 in
theorem impl_LeftTable_any (gc oc n cc : Nat) (c : List (List Int)) (w : World) (hn : c.length = n) (hx : c.length ≤ 1048576) (hrl : ∀ j, j < c.length → (c.getD j []).length ≤ 1048576) (hgc : gc < w.heap.size) (hr : Rows2 w gc oc c) (hm : MaxL w) :
    Calls Tryz.prog 36 #[(Value.slice (some ⟨gc, oc, none⟩) n cc)] w (GotRows w (leftT c)) := by
  by_cases hg : grpB c = true
  · exact impl_LeftTable_yes gc oc n cc c w hn hg hgc hr hm
  · have hg' : grpB c = false := by simpa using hg
    have hL : leftT c = [] := by unfold leftT; rw [show elA c = [] from if_neg hg]; rfl
    rw [hL]
    obtain ⟨w2, hw2⟩ : ∃ w2, w2 = w.alloc (.cells #[] 27) := ⟨_, rfl⟩
    have hb2 : Below w.heap.size w w2 := by rw [hw2]; exact (by repeat (first | with_reducible exact Below.refl _ _ | with_reducible assumption | with_reducible refine below_drewN ?_ _ | with_reducible refine Below.drew ?_ | (with_reducible refine Below.alloc ?_ ?_ _; rotate_left; · first | (simp; done) | (simp; omega) | exact Below.size (by assumption) | (have hsz := Below.size (by assumption : Below _ _ _); simp at hsz ⊢; omega)) | (with_reducible refine Below.setCell ?_ ?_ _; rotate_left; · first | (simp; done) | (simp; omega))))
    have ho2 : OwnRows w2 w.heap.size w.heap.size 0 [] := by rw [hw2]; exact OwnRows.empty (w := w) (Nat.le_refl _)
    have hcall := impl_elements_no gc oc n cc c w2 hn hx hrl hg' (Nat.lt_of_lt_of_le hgc hb2.size) (hr.below hb2 hgc) (hm.below hb2)
    rw [hw2] at hcall
    have Hcall := Lib.hid hcall; have Hw2 := Lib.hid hw2
    clear hcall hw2 hg hg' hm hr hrl hn hL
    go_enter Tryz.func36, Tryz.ntmps36
    go_wp2_with fail
    refine Hcall.out.mono ?_
    rintro e w3 ⟨rfl, hb3⟩
    rw [← Hw2.out] at hb3
    have hb3' := hb2.trans (hb3.mono hb2.size)
    have ho3 := ho2.below hb3
    clear hb3 hb2 ho2 Hcall Hw2
    go_wp2_with fail
    refine (impl_places_nil w3).mono ?_
    rintro e w4 ⟨bM, rfl, hb4⟩
    have hB4 := hb3'.trans (hb4.mono hb3'.size)
    have ho4 := ho3.below hb4
    clear hb4 hb3' ho3
    go_wp2_with fail
    go_loopw [3, 17] (fun ov jv wr => jv = .int .i64 0 ∧ ov = (Value.slice (some ⟨w.heap.size, 0, none⟩) 0 0) ∧ wr = w4) (fun _ _ _ => 0)
    case atStart => exact ⟨rfl, rfl, rfl⟩
    case round =>
      obtain ⟨rfl, rfl, rfl⟩ := hrel
      go_wp2
      go_ret
      exact ⟨w.heap.size, 0, [], rfl, rfl, ho4, hB4⟩
set_option maxHeartbeats 1000000 in
theorem impl_ElementsOf_any (gc oc n cc : Nat) (c : List (List Int)) (w : World) (hn : c.length = n) (hx : c.length ≤ 1048576) (hrl : ∀ j, j < c.length → (c.getD j []).length ≤ 1048576) (hgc : gc < w.heap.size) (hr : Rows2 w gc oc c) (hm : MaxL w) :
    Calls Tryz.prog 32 #[(Value.slice (some ⟨gc, oc, none⟩) n cc)] w (GotRowsB w (elA c) (grpB c)) := by
  by_cases hg : grpB c = true
  · rw [hg, show elA c = elemL c from if_pos hg]
    exact impl_ElementsOf_ok gc oc n cc c w hn (grp_B hg) hgc hr hm
  · have hg' : grpB c = false := by simpa using hg
    rw [hg', show elA c = [] from if_neg hg]
    have Hcall := Lib.hid (impl_elements_no gc oc n cc c w hn hx hrl hg' hgc hr hm)
    clear hg hg' hm hr hrl hn
    have hnil : ∀ (W : World), (binOp .eql 24 (.slice none 0 0) (.slice none 0 0)).run Tryz.prog W = .ok (.bool true) W := fun W => by first | exact Lib.run_eql_slice_nil W 24 27 _ _ _ _ _ Tryz.underlying24 | kernel_rfl
    go_enter Tryz.func32, Tryz.ntmps32
    go_wp2_with fail
    refine Hcall.out.mono ?_
    rintro e w3 ⟨rfl, hb3⟩
    have ho := (OwnRows.empty (w := w3) (Nat.le_refl _)).mono hb3.size
    have hbx := hb3.alloc hb3.size (.cells #[] 27)
    go_wp2_with fail
    go_ret2
    exact ⟨w3.heap.size, 0, [], rfl, rfl, ho, hbx⟩
end Go.Proofs.YtldcmhgpppeooaaGreatDoor
namespace Go.Proofs.YtldcmhgpppeooaaGreatDoor
set_option maxRecDepth 100000
open Go.RowKit

theorem boxI_cell {w : World} {b : Nat} {v : Value} {t : TypeId} (h : w.heap[b]? = some (.cells #[v] t (0, 0))) : w.cell? ⟨b, 0, none⟩ = some v ∧ w.frozen? ⟨b, 0, none⟩ = false := by
  constructor <;> simp [World.cell?, World.frozen?, h]
theorem run_makeFuncI (fn : Fn) (first cap : Array Value) (w : World) : (Instr.makeFunc fn first cap).run Tryz.prog w = .ok (.func fn first cap) w := rfl
set_option maxHeartbeats 1000000 in
theorem impl_IdxClosure_any (g1 o1 n1 c1 g2 o2 n2 c2 b : Nat) (xs ys : List Int) (w : World) (hn1 : xs.length = n1) (hn2 : ys.length = n2) (hx : xs.length ≤ 1048576) (hy : ys.length ≤ 1048576)
    (hcx : Cells w g1 o1 xs) (hcy : Cells w g2 o2 ys) (hb : w.cell? ⟨b, 0, none⟩ = some (Value.slice (some ⟨g2, o2, none⟩) n2 c2)) :
    Calls Tryz.prog 109 #[(Value.slice (some ⟨g1, o1, none⟩) n1 c1), .pointer (some ⟨b, 0, none⟩)] w (Reads w (.bool (decide (xs = ys)))) := by
  have hcall := slices_Equal_any g1 o1 n1 c1 g2 o2 n2 c2 xs ys w hn1 hn2 (by omega) (by omega) hcx hcy
  have Hcall := Lib.hid hcall
  generalize decide (xs = ys) = r at *
  clear hcall
  go_enter Tryz.func109, Tryz.ntmps109
  go_wp2_with fail
  refine Hcall.out.mono ?_
  rintro e w1 ⟨rfl, hs1⟩
  go_wp2_with fail
  go_ret
  exact ⟨rfl, hs1⟩
set_option maxHeartbeats 2000000 in
theorem slices_IndexFunc_any (g o n cp g1 o1 n1 c1 b : Nat) (l : List (List Int)) (r : List Int) (w : World) (hn : l.length = n) (hn1 : r.length = n1) (hr1 : r.length ≤ 1048576) (hl : l.length ≤ 1048576) (hrl : ∀ j, j < l.length → (l.getD j []).length ≤ 1048576)
    (hr : Rows2 w g o l) (hc1 : Cells w g1 o1 r) (hb : w.cell? ⟨b, 0, none⟩ = some (Value.slice (some ⟨g1, o1, none⟩) n1 c1)) :
    Calls Tryz.prog 108 #[(Value.slice (some ⟨g, o, none⟩) n cp), .func (.func 109) #[] #[.pointer (some ⟨b, 0, none⟩)]] w (Reads w (.int .i64 (idxL l r))) := by
  subst hn; subst hn1
  go_enter Tryz.func108, Tryz.ntmps108
  go_wp2
  go_loopw [8] (fun i wr => ∃ k : Nat, k ≤ l.length ∧ i = .int .i64 k ∧ Hid (inTo l r k) ∧ ∃ m, wr = w.drewN m) (fun i _ => l.length - (intOf i).toNat)
  case atStart => exact ⟨0, Nat.zero_le _, rfl, fun j hj => absurd hj (by omega), (by first | exact ⟨_, rfl⟩ | exact ⟨0, rfl⟩ | exact still2 _ _ _ | exact still3 _ _ _ _)⟩
  case round =>
    obtain ⟨k, hk, rfl, hin, m, rfl⟩ := hrel
    by_cases hlt : k < l.length
    · obtain ⟨gj, oj, cj, q1, q2, q3, q4⟩ := hr k hlt
      have hlk := hrl k hlt
      have HY : Hid (l.getD k [] ≠ r → inTo l r (k + 1)) := fun h j hj => by
        by_cases e : j = k
        · subst e; exact h
        · exact hin.out j (by omega)
      have HX : Hid (l.getD k [] = r → (k : Int) = idxL l r) := fun h => (idx_found hlt hin.out h).symm
      generalize l.getD k [] = x at *
      have hcall := impl_IdxClosure_any gj oj x.length cj g1 o1 r.length c1 b x r (w.drewN m) rfl rfl (by omega) hr1 q4 hc1 hb
      by_cases e : x = r
      · have hd := HX.out e
        rw [decide_eq_true e] at hcall
        have Hd := Lib.hid hd; have He := Lib.hid e; have Hcall := Lib.hid hcall
        clear hd hcall e
        go_wp2_with fail
        refine Hcall.out.mono ?_
        rintro e w2 ⟨rfl, m2, rfl⟩
        go_wp2_with fail
        go_ret
        exact ⟨ret_int Hd.out, (by first | exact ⟨_, rfl⟩ | exact ⟨0, rfl⟩ | exact still2 _ _ _ | exact still3 _ _ _ _)⟩
      · have hd := HY.out e
        rw [decide_eq_false e] at hcall
        have Hd := Lib.hid hd; have He := Lib.hid e; have Hcall := Lib.hid hcall
        clear hd hcall e
        go_wp2_with fail
        refine Hcall.out.mono ?_
        rintro e w2 ⟨rfl, m2, rfl⟩
        go_wp2_with fail
        go_roundw
        case rel => exact ⟨k + 1, by omega, by go_num, Hd.out, (by first | exact ⟨_, rfl⟩ | exact ⟨0, rfl⟩ | exact still2 _ _ _ | exact still3 _ _ _ _)⟩
        case measure => simp [intOf]; omega
    · obtain rfl : k = l.length := by omega
      have hf := idx_none hin.out
      have Hf := Lib.hid hf; clear hf
      go_wp2
      go_ret
      exact ⟨ret_int Hf.out.symm, (by first | exact ⟨_, rfl⟩ | exact ⟨0, rfl⟩ | exact still2 _ _ _ | exact still3 _ _ _ _)⟩
set_option maxHeartbeats 1000000 in
theorem impl_IndexOf_any (g o n cp g1 o1 n1 c1 : Nat) (l : List (List Int)) (r : List Int) (w : World) (hn : l.length = n) (hn1 : r.length = n1) (hr1 : r.length ≤ 1048576) (hl : l.length ≤ 1048576) (hrl : ∀ j, j < l.length → (l.getD j []).length ≤ 1048576)
    (hg : g < w.heap.size) (hg1 : g1 < w.heap.size) (hr : Rows2 w g o l) (hc1 : Cells w g1 o1 r) :
    Calls Tryz.prog 52 #[(Value.slice (some ⟨g, o, none⟩) n cp), (Value.slice (some ⟨g1, o1, none⟩) n1 c1)] w (Gives w (.int .i64 (idxL l r))) := by
  obtain ⟨w1, hw1⟩ : ∃ w1, w1 = w.alloc (.cells #[(Value.slice (some ⟨g1, o1, none⟩) n1 c1)] 27) := ⟨_, rfl⟩
  have hb1 : Below w.heap.size w w1 := by rw [hw1]; exact (Below.refl _ _).alloc (Nat.le_refl _) _
  have hcl : w1.cell? ⟨w.heap.size, 0, none⟩ = some (Value.slice (some ⟨g1, o1, none⟩) n1 c1) := by rw [hw1]; exact (boxI_cell (heap_alloc_new _ _)).1
  have hcall := slices_IndexFunc_any g o n cp g1 o1 n1 c1 w.heap.size l r w1 hn hn1 hr1 hl hrl (hr.below hb1 hg) (hc1.below hb1 hg1) hcl
  rw [hw1] at hcall
  have Hcall := Lib.hid hcall
  have hb2 : Below w.heap.size w (w.alloc (.cells #[(Value.slice (some ⟨g1, o1, none⟩) n1 c1)] 27)) := (Below.refl _ _).alloc (Nat.le_refl _) _
  have Hb2 := Lib.hid hb2
  have hmf := run_makeFuncI
  generalize idxL l r = z at *
  clear hcall hb2 hcl hb1 hw1 hr hc1 hrl hn hn1
  go_enter Tryz.func52, Tryz.ntmps52
  go_wp2_with fail
  refine Hcall.out.mono ?_
  rintro e w2 ⟨rfl, hs2⟩
  have hb := below_still Hb2.out hs2
  go_wp2_with fail
  go_ret
  exact ⟨rfl, hb⟩

end Go.Proofs.YtldcmhgpppeooaaGreatDoor
namespace Go.Proofs.YtldcmhgpppeooaaGreatDoor
set_option maxRecDepth 100000
open Go.RowKit

/-- the first k and the last k exchanged -/
def revAt (xs : List Int) (k : Nat) : List Int := (List.range xs.length).map fun t => if t < k ∨ xs.length - k ≤ t then xs.getD (xs.length - 1 - t) 0 else xs.getD t 0
theorem revAt_length (xs : List Int) (k : Nat) : (revAt xs k).length = xs.length := by simp [revAt]
theorem revAt_getD (xs : List Int) (k t : Nat) (ht : t < xs.length) : (revAt xs k).getD t 0 = if t < k ∨ xs.length - k ≤ t then xs.getD (xs.length - 1 - t) 0 else xs.getD t 0 := by
  simp [revAt, List.getD, ht]
theorem revAt_zero (xs : List Int) : revAt xs 0 = xs := by
  apply List.ext_getElem (revAt_length _ _)
  intro t h1 h2
  have := revAt_getD xs 0 t h2
  rw [if_neg (by omega)] at this
  simpa [List.getD, h1, h2] using this
theorem revAt_done (xs : List Int) (k : Nat) (h : xs.length ≤ 2 * k + 1) : revAt xs k = xs.reverse := by
  apply List.ext_getElem (by simp [revAt_length])
  intro t h1 h2
  have ht : t < xs.length := by rw [revAt_length] at h1; exact h1
  have e := revAt_getD xs k t ht
  have h3 : (revAt xs k)[t] = (revAt xs k).getD t 0 := by simp [List.getD, h1]
  rw [h3, e, List.getElem_reverse]
  split
  · simp [List.getD, show xs.length - 1 - t < xs.length by omega]
  · have : xs.length - 1 - t = t := by omega
    simp [List.getD, ht, this]
theorem revAt_succ (xs : List Int) (k : Nat) (h : 2 * k + 1 < xs.length) :
    ((revAt xs k).set k ((revAt xs k).getD (xs.length - 1 - k) 0)).set (xs.length - 1 - k) ((revAt xs k).getD k 0) = revAt xs (k + 1) := by
  rw [revAt_getD _ _ _ (by omega), revAt_getD _ _ _ (by omega)]
  apply List.ext_getElem (by simp [revAt_length])
  intro t h1 h2
  have ht : t < xs.length := by rw [revAt_length] at h2; exact h2
  have h3 : (revAt xs (k + 1))[t] = (revAt xs (k + 1)).getD t 0 := by simp [List.getD, h2]
  rw [h3, revAt_getD _ _ _ ht, List.getElem_set, List.getElem_set]
  have h4 : t < (revAt xs k).length := by rw [revAt_length]; exact ht
  have h5 : (revAt xs k)[t] = (revAt xs k).getD t 0 := by simp [List.getD, h4]
  rw [h5, revAt_getD _ _ _ ht]
  by_cases a : xs.length - 1 - k = t
  · rw [if_pos a, if_neg (by omega), if_pos (by omega), show xs.length - 1 - t = k by omega]
  · rw [if_neg a]
    by_cases b : k = t
    · subst b
      rw [if_pos rfl, if_neg (by omega), if_pos (by omega)]
    · rw [if_neg b]
      by_cases c : t < k ∨ xs.length - k ≤ t
      · rw [if_pos c, if_pos (by omega)]
      · rw [if_neg c, if_neg (by omega)]

theorem rev_set {xs : List Int} {k : Nat} (h : 2 * k + 1 < xs.length) :
    ((revAt xs k).set k ((revAt xs k)[xs.length - 1 - k]'(by rw [revAt_length]; omega))).set (xs.length - 1 - k) ((revAt xs k)[k]'(by rw [revAt_length]; omega)) = revAt xs (k + 1) := by
  rw [← revAt_succ xs k h]
  have l1 : k < (revAt xs k).length := by rw [revAt_length]; omega
  have l2 : xs.length - 1 - k < (revAt xs k).length := by rw [revAt_length]; omega
  have e1 : (revAt xs k).getD k 0 = (revAt xs k)[k] := by simp [List.getD, l1]
  have e2 : (revAt xs k).getD (xs.length - 1 - k) 0 = (revAt xs k)[xs.length - 1 - k] := by simp [List.getD, l2]
  rw [e1, e2]

set_option maxHeartbeats 400000 in
theorem slices_Reverse_any (B g n c : Nat) (xs : List Int) (w : World) (hn : xs.length = n) (hx : xs.length ≤ 1099511627776) (hown : Own w B g c xs) :
    Calls Tryz.prog 135 #[(Value.slice (some ⟨g, 0, none⟩) n c)] w fun e w' => e = .returned (.tuple #[]) ∧ Own w' B g c xs.reverse ∧ w.grownBy w' (some g) := by
  subst hn
  have e0 : IntKind.i64.wrap ((xs.length : Int) - 1) = (xs.length : Int) - 1 := IntWalk.i64_in _ (by omega)
  go_enter Tryz.func135, Tryz.ntmps135
  go_wp2
  go_loopw [2, 3] (fun i j wr => ∃ k : Nat, 2 * k ≤ xs.length ∧ i = .int .i64 k ∧ j = .int .i64 ((xs.length : Int) - 1 - k) ∧ Own wr B g c (revAt xs k) ∧ w.grownBy wr (some g)) (fun i _ _ => xs.length - (intOf i).toNat)
  case atStart => exact ⟨0, Nat.zero_le _, rfl, by simp, by rw [revAt_zero]; exact hown, World.grownBy.refl _ _⟩
  case round =>
    obtain ⟨k, hk, rfl, rfl, ho, hg⟩ := hrel
    by_cases hlt : 2 * k + 1 < xs.length
    · have l1 : k < (revAt xs k).length := by rw [revAt_length]; omega
      have l2 : xs.length - 1 - k < (revAt xs k).length := by rw [revAt_length]; omega
      have h1 := ho.cell k l1
      have h2 := ho.cell (xs.length - 1 - k) l2
      have f1 := ho.frozen k
      have f2 := ho.frozen (xs.length - 1 - k)
      have i1 : ((xs.length : Int) - 1 - k).toNat = xs.length - 1 - k := by omega
      have i2 : (0 : Int) ≤ (xs.length : Int) - 1 - k := by omega
      have hne : k ≠ xs.length - 1 - k := by omega
      go_wp2
      go_region
      all_goals go_wp2
      all_goals
        go_roundw
        case rel =>
          have hs := ho.set2 k (xs.length - 1 - k) ((revAt xs k)[xs.length - 1 - k]) ((revAt xs k)[k])
          rw [rev_set hlt] at hs
          exact ⟨k + 1, by omega, by go_num, by go_num, hs.1.drew, grown_drew (World.grownBy.trans' hg hs.2)⟩
        case measure => simp [intOf]; omega
    · go_wp2
      go_end0
      rw [revAt_done xs k (by omega)] at ho
      exact ⟨rfl, ho, hg⟩

set_option maxHeartbeats 400000 in
theorem impl_ReverseWord_any (g o n c : Nat) (xs : List Int) (w : World) (hn : xs.length = n) (hx : xs.length ≤ 1099511627776) (hg : g < w.heap.size) (hc : Cells w g o xs) :
    Calls Tryz.prog 85 #[(Value.slice (some ⟨g, o, none⟩) n c)] w (GotInts w xs.reverse) := by
  subst hn
  go_enter Tryz.func85, Tryz.ntmps85
  go_wp2_with (at_builtin; refine wpList_clone rfl _ _ rfl g o _ c xs rfl hg hc rfl rfl hx ?_)
  intro g1 c1 w1 ho hb
  go_wp2_with fail
  refine (slices_Reverse_any _ g1 _ c1 xs _ rfl hx ho).mono ?_
  rintro e w2 ⟨rfl, ho2, hg2⟩
  go_wp2
  go_ret
  exact GotInts.mk' g1 c1 (by simp) ho2 (hb.grown hg2 hb.size (by intro k hk; cases hk; exact ho.base))
end Go.Proofs.YtldcmhgpppeooaaGreatDoor
namespace Go.Proofs.YtldcmhgpppeooaaGreatDoor
set_option maxRecDepth 100000
open Go.RowKit

set_option maxHeartbeats 400000 in
theorem impl_IsPalindrome_any (g o n c : Nat) (xs : List Int) (w : World) (hn : xs.length = n) (hx : xs.length ≤ 1099511627776) (hg : g < w.heap.size) (hc : Cells w g o xs) :
    Calls Tryz.prog 29 #[(Value.slice (some ⟨g, o, none⟩) n c)] w fun e w' => e = .returned (.bool (decide (xs = xs.reverse))) ∧ Below w.heap.size w w' := by
  subst hn
  go_enter Tryz.func29, Tryz.ntmps29
  go_wp2_with fail
  refine (impl_ReverseWord_any g o _ c xs _ rfl hx hg hc).mono ?_
  rintro e w1 ⟨g1, c1, rfl, ho, hb⟩
  go_wp2_with fail
  refine (slices_Equal_any g o _ c g1 0 _ c1 xs xs.reverse _ rfl (by simp) hx (by simpa using hx) (hc.below hb hg) ho.cells).mono ?_
  rintro e w2 ⟨rfl, m, rfl⟩
  go_wp2_with fail
  go_ret
  exact ⟨rfl, below_drewN hb m⟩

theorem pal_no {xs : List Int} {k : Nat} (hk : k < xs.length) (h : xs[k] ≠ xs[xs.length - 1 - k]) : xs ≠ xs.reverse := by
  intro e
  apply h
  have h1 : xs.reverse[k]'(by simpa using hk) = xs[xs.length - 1 - k] := List.getElem_reverse _
  rw [← h1]
  congr 1
theorem pal_yes {xs : List Int} (h : ∀ k (hk : k < xs.length), xs[k] = xs[xs.length - 1 - k]) : xs = xs.reverse := by
  apply List.ext_getElem (by simp)
  intro t h1 h2
  rw [List.getElem_reverse]
  exact h t h1

set_option maxHeartbeats 400000 in
theorem spec_IsPalindrome_any (g o n c : Nat) (xs : List Int) (w : World) (hn : xs.length = n) (hx : xs.length ≤ 1099511627776) (hc : Cells w g o xs) :
    Calls Tryz.prog 30 #[(Value.slice (some ⟨g, o, none⟩) n c)] w fun e w' => e = .returned (.bool (decide (xs = xs.reverse))) ∧ Below w.heap.size w w' := by
  subst hn
  go_enter Tryz.func30, Tryz.ntmps30
  go_wp2
  go_loopw [3] (fun i wr => ∃ k : Nat, k ≤ xs.length ∧ i = .int .i64 k ∧ Hid (∀ j (hj : j < xs.length), j < k → xs[j] = xs[xs.length - 1 - j]) ∧ ∃ m, wr = w.drewN m) (fun i _ => xs.length - (intOf i).toNat)
  case atStart => exact ⟨0, Nat.zero_le _, rfl, fun j _ h => absurd h (by omega), 0, rfl⟩
  case round =>
    obtain ⟨k, hk, rfl, hp, m, rfl⟩ := hrel
    by_cases hlt : k < xs.length
    · have l2 : xs.length - 1 - k < xs.length := by omega
      have h1 := hc k hlt
      have h2 := hc (xs.length - 1 - k) l2
      have e0 : IntKind.i64.wrap ((xs.length : Int) - 1) = (xs.length : Int) - 1 := IntWalk.i64_in _ (by omega)
      have e1 : IntKind.i64.wrap ((xs.length : Int) - 1 - k) = (xs.length : Int) - 1 - k := IntWalk.i64_in _ (by omega)
      have i1 : ((xs.length : Int) - 1 - k).toNat = xs.length - 1 - k := by omega
      have i2 : (0 : Int) ≤ (xs.length : Int) - 1 - k := by omega
      go_wp2
      go_quiet (fail)
      go_wp2
      · have ht : (xs[k] != xs[xs.length - 1 - k]) = true := by assumption
        go_ret
        exact ⟨ret_bool (by simp; exact pal_no hlt (by simpa using ht)), below_drewN (below_drewN (Below.refl _ _) _) _⟩
      · have ht : (xs[k] != xs[xs.length - 1 - k]) = false := by assumption
        go_roundw
        case rel => exact ⟨k + 1, by omega, by go_num, fun j hj hjk => if e : j = k then by subst e; simpa using ht else hp.out j hj (by omega), (by first | exact ⟨_, rfl⟩ | exact ⟨0, rfl⟩ | exact still2 _ _ _ | exact still3 _ _ _ _)⟩
        case measure => simp [intOf]; omega
    · obtain rfl : k = xs.length := by omega
      go_wp2
      go_ret
      exact ⟨ret_bool (by simp; exact pal_yes fun j hj => hp.out j hj hj), below_drewN (Below.refl _ _) _⟩
end Go.Proofs.YtldcmhgpppeooaaGreatDoor
