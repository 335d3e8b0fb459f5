/- IsReduced of both, the places of braid moves of both, copies of matrices: contracts. -/
import Derived.Test.YtkjglfafphffiaaGreatT19
import Derived.Test.YtkjglfafphffiaaGreatT26
namespace Go.Proofs.YtkjglfafphffiaaGreat
set_option maxRecDepth 100000
open Go.RowKit Game
/-- whether a list is a reduced word -/
def redW (c : List (List Int)) (v : List Int) : Bool := isWordB c v && decide ((nfI c v).length = v.length)
theorem redW_not {c : List (List Int)} {v : List Int} (h : isWordB c v = false) : redW c v = false := by unfold redW; rw [h]; rfl
theorem redW_word {c : List (List Int)} {v : List Int} (h : isWordB c v = true) : redW c v = decide ((nfI c v).length = v.length) := by unfold redW; rw [h]; rfl
set_option maxHeartbeats 1000000 in
theorem impl_IsReduced_any (gc oc n cc g o m cp : Nat) (c : List (List Int)) (v : List Int) (w : World) (hn : c.length = n) (hm : v.length = m) (hx : c.length ≤ 1048576) (hrl : ∀ j, j < c.length → (c.getD j []).length ≤ 1048576) (hl : v.length ≤ 1048576)
    (hgc : gc < w.heap.size) (hg : g < w.heap.size) (hr : Rows2 w gc oc c) (hv : Cells w g o v) :
    Calls Tryz.prog 14 #[(Value.slice (some ⟨gc, oc, none⟩) n cc), (Value.slice (some ⟨g, o, none⟩) m cp)] w (Gives w (.bool (redW c v))) := by
  have hIW := impl_IsWord_any gc oc n cc g o m cp c v w hn hm hx hrl hl hr hv
  cases hw : isWordB c v with
  | false =>
    rw [hw] at hIW
    rw [redW_not hw]
    have Hi := Lib.hid hIW
    clear hIW hw hr hv
    go_enter Tryz.func14, Tryz.ntmps14
    go_wp2_with fail
    refine Hi.out.mono ?_
    rintro e w1 ⟨rfl, hs1⟩
    have hb1 := below_still (Below.refl w.heap.size w) hs1
    go_wp2_with fail
    go_ret
    exact ⟨rfl, hb1⟩
  | true =>
    rw [hw] at hIW
    have hW := wordOk_of hw
    have hL := hW.lets.mono (show 15 ≤ 30 by omega)
    rw [redW_word hw]
    have Hi := Lib.hid hIW
    have hlen : ∀ W (hs : ∃ q, W = w.drewN q), Calls Tryz.prog 38 #[(Value.slice (some ⟨gc, oc, none⟩) n cc), (Value.slice (some ⟨g, o, none⟩) m cp)] W (Gives W (.int .i64 ((nfI c v).length : Int))) := by
      intro W hs
      have k1 := Lib.hid (impl_reduced_any gc oc n cc g o m cp c v W hn hm hL (Nat.lt_of_lt_of_le hgc (below_still (Below.refl w.heap.size w) hs).size) (Nat.lt_of_lt_of_le hg (below_still (Below.refl w.heap.size w) hs).size) (hr.still hs) (hv.still hs))
      clear hr hv hIW Hi
      generalize nfI c v = y at *
      go_enter Tryz.func38, Tryz.ntmps38
      go_wp2_with fail
      refine k1.out.mono ?_
      rintro e w1 ⟨g1, c1, rfl, ho1, hb1⟩
      go_wp2_with fail
      go_ret
      exact ⟨rfl, hb1⟩
    have Hlen := Lib.hid hlen
    have hd : (((nfI c v).length : Int) == (m : Int)) = decide ((nfI c v).length = v.length) := by
      rw [Bool.eq_iff_iff, beq_iff_eq, decide_eq_true_eq]; omega
    clear hIW hw hr hv hW hL hlen
    generalize decide ((nfI c v).length = v.length) = r at *
    generalize (nfI c v).length = k at *
    go_enter Tryz.func14, Tryz.ntmps14
    go_wp2_with fail
    refine Hi.out.mono ?_
    rintro e w1 ⟨rfl, hs1⟩
    have hb1 := below_still (Below.refl w.heap.size w) hs1
    go_wp2_with fail
    refine (Hlen.out w1 hs1).mono ?_
    rintro e w2 ⟨rfl, hb2⟩
    go_wp2_with fail
    go_ret
    exact ⟨by first | rfl | exact ret_bool hd, hb1.trans (hb2.mono hb1.size)⟩
set_option maxHeartbeats 1000000 in
theorem spec_IsReduced_any (gc oc n cc g o m cp : Nat) (c : List (List Int)) (v : List Int) (w : World) (hn : c.length = n) (hm : v.length = m) (hx : c.length ≤ 1048576) (hrl : ∀ j, j < c.length → (c.getD j []).length ≤ 1048576) (hl : v.length ≤ 1048576)
    (hgc : gc < w.heap.size) (hg : g < w.heap.size) (hr : Rows2 w gc oc c) (hv : Cells w g o v) :
    Calls Tryz.prog 23 #[(Value.slice (some ⟨gc, oc, none⟩) n cc), (Value.slice (some ⟨g, o, none⟩) m cp)] w (Gives w (.bool (redW c v))) := by
  have hNF := spec_NormalForm_any gc oc n cc g o m cp c v w hn hm hx hrl hl hgc hg hr hv
  have hlen : ∃ z : Int, (Calls Tryz.prog 19 #[(Value.slice (some ⟨gc, oc, none⟩) n cc), (Value.slice (some ⟨g, o, none⟩) m cp)] w (Gives w (.int .i64 z))) ∧ (z == (m : Int)) = redW c v := by
    cases hw : isWordB c v with
    | false =>
      rw [hw] at hNF
      refine ⟨-1, ?_, by rw [redW_not hw, beq_eq_false_iff_ne]; omega⟩
      have Hn := Lib.hid hNF
      clear hNF hw hr hv
      generalize nfA c v = y at *
      go_enter Tryz.func19, Tryz.ntmps19
      go_wp2_with fail
      refine Hn.out.mono ?_
      rintro e w1 ⟨g1, c1, rfl, ho1, hb1⟩
      go_wp2_with fail
      go_ret
      exact ⟨rfl, hb1⟩
    | true =>
      rw [hw] at hNF
      refine ⟨(nfI c v).length, ?_, by rw [redW_word hw, Bool.eq_iff_iff, beq_iff_eq, decide_eq_true_eq]; omega⟩
      rw [show nfA c v = nfI c v from if_pos hw] at hNF
      have Hn := Lib.hid hNF
      clear hNF hw hr hv
      generalize nfI c v = y at *
      go_enter Tryz.func19, Tryz.ntmps19
      go_wp2_with fail
      refine Hn.out.mono ?_
      rintro e w1 ⟨g1, c1, rfl, ho1, hb1⟩
      go_wp2_with fail
      go_ret
      exact ⟨rfl, hb1⟩
  obtain ⟨z, h1, h2⟩ := hlen
  have H1 := Lib.hid h1
  generalize redW c v = r at *
  clear h1 hNF hr hv
  go_enter Tryz.func23, Tryz.ntmps23
  go_wp2_with fail
  refine H1.out.mono ?_
  rintro e w1 ⟨rfl, hb1⟩
  go_wp2_with fail
  go_ret
  exact ⟨by first | rfl | exact ret_bool h2, hb1⟩
set_option maxHeartbeats 2000000 in
theorem impl_BraidPlaces_any (gc oc n cc g o m cp : Nat) (c : List (List Int)) (v : List Int) (w : World) (hn : c.length = n) (hm : v.length = m) (hx : c.length ≤ 1048576) (hrl : ∀ j, j < c.length → (c.getD j []).length ≤ 1048576) (hl : v.length ≤ 1048576) (hcap : v.length ≤ cp)
    (hgc : gc < w.heap.size) (hg : g < w.heap.size) (hr : Rows2 w gc oc c) (hv : Cells w g o v) :
    Calls Tryz.prog 36 #[(Value.slice (some ⟨gc, oc, none⟩) n cc), (Value.slice (some ⟨g, o, none⟩) m cp)] w (GotInts w (placesL c v)) := by
  subst hm
  have HB := Lib.hid (fun (k : Nat) (hk : k < v.length) (W : World) (hb : Below w.heap.size w W) => impl_BraidAt_any gc oc n cc g o v.length cp (k : Int) c v W hn rfl hx hrl hl hcap ⟨by omega, by omega⟩ (Nat.lt_of_lt_of_le hgc hb.size) (Nat.lt_of_lt_of_le hg hb.size) (hr.below hb hgc) (hv.below hb hg))
  clear hr hv hrl
  unfold placesL
  go_enter Tryz.func36, Tryz.ntmps36
  go_wp2
  go_loopw [5, 12] (fun ov kv wr => ∃ (k m g2 c2 : Nat), k ≤ v.length ∧ kv = .int .i64 k ∧ ov = (Value.slice (some ⟨g2, 0, none⟩) m c2) ∧ m ≤ k ∧ Hid ((placesTo c v k).length = m) ∧ Own wr w.heap.size g2 c2 (placesTo c v k) ∧ Below w.heap.size w wr) (fun _ kv _ => v.length - (intOf kv).toNat)
  case atStart => exact ⟨0, 0, w.heap.size, 0, Nat.zero_le _, rfl, rfl, Nat.le_refl _, rfl, Own.empty (Nat.le_refl _), (Below.refl _ _).alloc (Nat.le_refl _) _⟩
  case round =>
    obtain ⟨k, m, g2, c2, hk, rfl, rfl, hmk, hml, ho, hb⟩ := hrel
    by_cases hlt : k < v.length
    · have hcall := HB.out k hlt wr hb
      have hyes := fun h => placesTo_yes (c := c) (v := v) (k := k) h
      have hno := fun h => placesTo_no (c := c) (v := v) (k := k) h
      generalize braidA c v (k : Int) = r at *
      have Hcall := Lib.hid hcall
      cases r with
      | none =>
        have hp := hno rfl
        have Hp := Lib.hid hp
        clear hcall hyes hno hp
        go_wp2_with fail
        refine Hcall.out.mono ?_
        rintro e w5 ⟨g5, c5, rfl, ho5, hb5⟩
        have hB := hb.trans (hb5.mono hb.size)
        have hO := ho.below hb5 ho.lt
        clear ho hb ho5 hb5 Hcall
        go_wp2_with fail
        go_roundw
        case rel => exact ⟨k + 1, m, g2, c2, by omega, by go_num, rfl, by omega, by rw [Hp.out]; exact hml.out, by rw [Hp.out]; exact hO, hB⟩
        case measure => simp [intOf]; omega
      | some y =>
        have hp := hyes rfl
        have Hp := Lib.hid hp
        clear hcall hyes hno hp
        go_wp2_with fail
        refine Hcall.out.mono ?_
        rintro e w5 ⟨g5, c5, rfl, ho5, hb5⟩
        have hB := hb.trans (hb5.mono hb.size)
        have hO := ho.below hb5 ho.lt
        clear ho hb ho5 hb5 Hcall
        go_wp2_with (at_builtin; refine wpList_append_int_n (w := w5) rfl _ _ rfl w.heap.size g2 c2 m (placesTo c v k) (k : Int) hml.out hO rfl rfl (by omega) ?_)
        intro g6 c6 w6 ho6 hg6 hor6
        have hb6 : Below w.heap.size w w6 := hB.grown hg6 hB.size (by intro t ht; cases ht; exact hO.base)
        rw [← Hp.out] at ho6
        have hl6 : Hid ((placesTo c v (k + 1)).length = m + 1) := Lib.hid (by rw [Hp.out, List.length_append, hml.out]; rfl)
        clear hO hB hg6 hor6 hml
        go_wp2_with fail
        go_roundw
        case rel => exact ⟨k + 1, m + 1, g6, c6, by omega, by go_num, rfl, by omega, hl6.out, ho6, hb6⟩
        case measure => simp [intOf]; omega
    · obtain rfl : k = v.length := by omega
      go_wp2_with fail
      go_ret
      exact GotInts.mk' g2 c2 hml.out ho hb
set_option maxHeartbeats 2000000 in
theorem spec_BraidPlaces_any (gc oc n cc g o m cp : Nat) (c : List (List Int)) (v : List Int) (w : World) (hn : c.length = n) (hm : v.length = m) (hx : c.length ≤ 1048576) (hrl : ∀ j, j < c.length → (c.getD j []).length ≤ 1048576) (hl : v.length ≤ 1048576) (hcap : v.length ≤ cp)
    (hgc : gc < w.heap.size) (hg : g < w.heap.size) (hr : Rows2 w gc oc c) (hv : Cells w g o v) :
    Calls Tryz.prog 40 #[(Value.slice (some ⟨gc, oc, none⟩) n cc), (Value.slice (some ⟨g, o, none⟩) m cp)] w (GotInts w (placesL c v)) := by
  subst hm
  have HB := Lib.hid (fun (k : Nat) (hk : k < v.length) (W : World) (hb : Below w.heap.size w W) => spec_BraidAt_any gc oc n cc g o v.length cp (k : Int) c v W hn rfl hx hrl hl hcap ⟨by omega, by omega⟩ (Nat.lt_of_lt_of_le hgc hb.size) (Nat.lt_of_lt_of_le hg hb.size) (hr.below hb hgc) (hv.below hb hg))
  clear hr hv hrl
  unfold placesL
  go_enter Tryz.func40, Tryz.ntmps40
  go_wp2
  go_loopw [5, 6] (fun ov kv wr => ∃ (k m g2 c2 : Nat), k ≤ v.length ∧ kv = .int .i64 k ∧ ov = (Value.slice (some ⟨g2, 0, none⟩) m c2) ∧ m ≤ k ∧ Hid ((placesTo c v k).length = m) ∧ Own wr w.heap.size g2 c2 (placesTo c v k) ∧ Below w.heap.size w wr) (fun _ kv _ => v.length - (intOf kv).toNat)
  case atStart => exact ⟨0, 0, w.heap.size, 0, Nat.zero_le _, rfl, rfl, Nat.le_refl _, rfl, Own.empty (Nat.le_refl _), (Below.refl _ _).alloc (Nat.le_refl _) _⟩
  case round =>
    obtain ⟨k, m, g2, c2, hk, rfl, rfl, hmk, hml, ho, hb⟩ := hrel
    by_cases hlt : k < v.length
    · have hcall := HB.out k hlt wr hb
      have hyes := fun h => placesTo_yes (c := c) (v := v) (k := k) h
      have hno := fun h => placesTo_no (c := c) (v := v) (k := k) h
      generalize braidA c v (k : Int) = r at *
      have Hcall := Lib.hid hcall
      cases r with
      | none =>
        have hp := hno rfl
        have Hp := Lib.hid hp
        clear hcall hyes hno hp
        go_wp2_with fail
        refine Hcall.out.mono ?_
        rintro e w5 ⟨g5, c5, rfl, ho5, hb5⟩
        have hB := hb.trans (hb5.mono hb.size)
        have hO := ho.below hb5 ho.lt
        clear ho hb ho5 hb5 Hcall
        go_wp2_with fail
        go_roundw
        case rel => exact ⟨k + 1, m, g2, c2, by omega, by go_num, rfl, by omega, by rw [Hp.out]; exact hml.out, by rw [Hp.out]; exact hO, hB⟩
        case measure => simp [intOf]; omega
      | some y =>
        have hp := hyes rfl
        have Hp := Lib.hid hp
        clear hcall hyes hno hp
        go_wp2_with fail
        refine Hcall.out.mono ?_
        rintro e w5 ⟨g5, c5, rfl, ho5, hb5⟩
        have hB := hb.trans (hb5.mono hb.size)
        have hO := ho.below hb5 ho.lt
        clear ho hb ho5 hb5 Hcall
        go_wp2_with (at_builtin; refine wpList_append_int_n (w := w5) rfl _ _ rfl w.heap.size g2 c2 m (placesTo c v k) (k : Int) hml.out hO rfl rfl (by omega) ?_)
        intro g6 c6 w6 ho6 hg6 hor6
        have hb6 : Below w.heap.size w w6 := hB.grown hg6 hB.size (by intro t ht; cases ht; exact hO.base)
        rw [← Hp.out] at ho6
        have hl6 : Hid ((placesTo c v (k + 1)).length = m + 1) := Lib.hid (by rw [Hp.out, List.length_append, hml.out]; rfl)
        clear hO hB hg6 hor6 hml
        go_wp2_with fail
        go_roundw
        case rel => exact ⟨k + 1, m + 1, g6, c6, by omega, by go_num, rfl, by omega, hl6.out, ho6, hb6⟩
        case measure => simp [intOf]; omega
    · obtain rfl : k = v.length := by omega
      go_wp2_with fail
      go_ret
      exact GotInts.mk' g2 c2 hml.out ho hb
set_option maxHeartbeats 2000000 in
theorem impl_copied_any (g o n cp : Nat) (rows : List (List Int)) (w : World) (hn : rows.length = n) (hx : rows.length ≤ 1048576) (hrl : ∀ j, j < rows.length → (rows.getD j []).length ≤ 1048576) (hg : g < w.heap.size) (hr : Rows2 w g o rows) :
    Calls Tryz.prog 48 #[(Value.slice (some ⟨g, o, none⟩) n cp)] w (GotRows w rows) := by
  subst hn
  go_enter Tryz.func48, Tryz.ntmps48
  go_wp2
  go_loopw [3, 9] (fun ov kv wr => ∃ (k g2 c2 : Nat) (rs : List RowRef), k ≤ rows.length ∧ kv = .int .i64 k ∧ ov = (Value.slice (some ⟨g2, 0, none⟩) k c2) ∧ Hid (rs.length = k) ∧ Hid (contents rs = rows.take k) ∧ OwnRows wr w.heap.size g2 c2 rs ∧ Below w.heap.size w wr) (fun _ kv _ => rows.length - (intOf kv).toNat)
  case atStart => exact ⟨0, w.heap.size, 0, [], Nat.zero_le _, rfl, rfl, rfl, rfl, OwnRows.empty (Nat.le_refl _), (Below.refl _ _).alloc (Nat.le_refl _) _⟩
  case round =>
    obtain ⟨k, g2, c2, rs, hk, rfl, rfl, hrk, hcon, hO, hb⟩ := hrel
    by_cases hlt : k < rows.length
    · obtain ⟨gj, oj, cj, q1, q2, q3, q4⟩ := (hr.below hb hg) k hlt
      have hlk := hrl k hlt
      have ht : rows.take (k + 1) = rows.take k ++ [rows.getD k []] := by
        rw [List.take_succ_eq_append_getElem hlt]; simp [List.getD, hlt]
      generalize rows.getD k [] = x at *
      obtain ⟨lx, hlx⟩ : ∃ lx, x.length = lx := ⟨_, rfl⟩
      rw [hlx] at q1 q2 hlk
      have Ht := Lib.hid ht; have Hlx := Lib.hid hlx; have Q4 := Lib.hid q4
      have hB0 := Lib.hid (hb.alloc hb.size (.cells #[] 3))
      clear ht hlx q4
      go_wp2_with (at_builtin; refine wpList_clone rfl _ _ rfl gj oj lx cj x Hlx.out q3 Q4.out rfl rfl (by rw [Hlx.out]; omega) ?_)
      intro g3 c3 w3 ho3 hb3
      have hO3 := hO.below hb3
      have hB3 := hb.trans (hb3.mono hb.size)
      have hne : ∀ s ∈ rs, s.1 ≠ g3 := fun s hs e => by have h1 := (hO.2.1 s hs).lt; have h2 := ho3.base; omega
      have Hne := Lib.hid hne
      clear hO hne q1 q3 hb3 hB0
      go_wp2_with (at_builtin; refine wpList_append_row (w := w3) rfl _ _ rfl w.heap.size g2 c2 k w3.heap.size rs (g3, c3, x) _ hrk.out (by unfold rowVal; rw [Hlx.out]) rfl hO3 (ho3.mono hb.size) Hne.out rfl rfl (by omega) ?_)
      intro g4 c4 w4 hO4 hg4 hor4
      have hB4 : Below w.heap.size w w4 := hB3.grown hg4 hB3.size (by intro t ht; cases ht; exact hO3.base)
      have hl4 : Hid ((rs ++ [(g3, c3, x)]).length = k + 1) := Lib.hid (by rw [List.length_append, hrk.out]; rfl)
      have hc4 : Hid (contents (rs ++ [(g3, c3, x)]) = rows.take (k + 1)) := Lib.hid (by rw [Ht.out, ← hcon.out]; simp [contents])
      clear hO3 hB3 hg4 hor4 hb
      go_wp2_with fail
      go_roundw
      case rel => exact ⟨k + 1, g4, c4, _, by omega, by go_num, rfl, hl4.out, hc4.out, hO4, hB4⟩
      case measure => simp [intOf]; omega
    · obtain rfl : k = rows.length := by omega
      have hc := hcon.out
      rw [List.take_length] at hc
      have Hc := Lib.hid hc
      clear hc
      go_wp2_with fail
      go_ret
      exact ⟨g2, c2, rs, rfl, Hc.out, hO, hb⟩
end Go.Proofs.YtkjglfafphffiaaGreat
