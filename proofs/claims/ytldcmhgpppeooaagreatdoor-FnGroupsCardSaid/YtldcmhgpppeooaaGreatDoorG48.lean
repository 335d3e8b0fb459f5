/- IndexOfElement of the reference: contract. LeftTable of the reference: contract. A map from written words to bool: the words that a search has met. A map from written words to their places: words and laws. -/
import Derived.Test.YtldcmhgpppeooaaGreatDoorG37
import Derived.Test.YtldcmhgpppeooaaGreatDoorG02
import Derived.Test.YtldcmhgpppeooaaGreatDoorG01
import Derived.BigQuiet
import Derived.Test.YtldcmhgpppeooaaGreatDoorG47
import Derived.Test.YtldcmhgpppeooaaGreatDoorG19
import Derived.Test.YtldcmhgpppeooaaGreatDoorG03
import Derived.Test.YtldcmhgpppeooaaGreatDoorG04
import Derived.Test.YtldcmhgpppeooaaGreatDoorG22
import Derived.Maps.OwnSet
namespace Go.Proofs.YtldcmhgpppeooaaGreatDoor
set_option maxRecDepth 100000
open Go.RowKit

set_option maxHeartbeats 2000000 in
theorem spec_IndexOf_any (g o n cp g1 o1 n1 c1 : Nat) (l : List (List Int)) (r : List Int) (w : World) (hn : l.length = n) (hn1 : r.length = n1) (hl : l.length ≤ 1048576) (hrl : ∀ j, j < l.length → (l.getD j []).length ≤ 1048576)
    (hr : Rows2 w g o l) (hc1 : Cells w g1 o1 r) :
    Calls Tryz.prog 53 #[(Value.slice (some ⟨g, o, none⟩) n cp), (Value.slice (some ⟨g1, o1, none⟩) n1 c1)] w (Reads w (.int .i64 (idxL l r))) := by
  subst hn; subst hn1
  go_enter Tryz.func53, Tryz.ntmps53
  go_wp2
  go_loopw [5] (fun i wr => ∃ k : Nat, k ≤ l.length ∧ i = .int .i64 k ∧ Hid (inTo l r k) ∧ ∃ m, wr = w.drewN m) (fun i _ => l.length - (intOf i).toNat)
  case atStart => exact ⟨0, Nat.zero_le _, rfl, fun j hj => absurd hj (by omega), (by first | exact ⟨_, rfl⟩ | exact ⟨0, rfl⟩ | exact still2 _ _ _ | exact still3 _ _ _ _)⟩
  case round =>
    obtain ⟨k, hk, rfl, hin, m, rfl⟩ := hrel
    by_cases hlt : k < l.length
    · obtain ⟨gj, oj, cj, q1, q2, q3, q4⟩ := hr k hlt
      have hlk := hrl k hlt
      have HY : Hid (l.getD k [] ≠ r → inTo l r (k + 1)) := fun h j hj => by
        by_cases e : j = k
        · subst e; exact h
        · exact hin.out j (by omega)
      have HX : Hid (l.getD k [] = r → (k : Int) = idxL l r) := fun h => (idx_found hlt hin.out h).symm
      generalize l.getD k [] = x at *
      have hcall := spec_EqualWords_any gj oj x.length cj g1 o1 r.length c1 x r (w.drewN m) rfl rfl (by omega) q4 hc1
      by_cases e : x = r
      · have hd := HX.out e
        rw [decide_eq_true e] at hcall
        have Hd := Lib.hid hd; have He := Lib.hid e; have Hcall := Lib.hid hcall
        clear hd hcall e
        go_wp2_with fail
        refine Hcall.out.mono ?_
        rintro e w2 ⟨rfl, m2, rfl⟩
        go_wp2_with fail
        go_ret
        exact ⟨ret_int Hd.out, (by first | exact ⟨_, rfl⟩ | exact ⟨0, rfl⟩ | exact still2 _ _ _ | exact still3 _ _ _ _)⟩
      · have hd := HY.out e
        rw [decide_eq_false e] at hcall
        have Hd := Lib.hid hd; have He := Lib.hid e; have Hcall := Lib.hid hcall
        clear hd hcall e
        go_wp2_with fail
        refine Hcall.out.mono ?_
        rintro e w2 ⟨rfl, m2, rfl⟩
        go_wp2_with fail
        go_roundw
        case rel => exact ⟨k + 1, by omega, by go_num, Hd.out, (by first | exact ⟨_, rfl⟩ | exact ⟨0, rfl⟩ | exact still2 _ _ _ | exact still3 _ _ _ _)⟩
        case measure => simp [intOf]; omega
    · obtain rfl : k = l.length := by omega
      have hf := idx_none hin.out
      have Hf := Lib.hid hf; clear hf
      go_wp2
      go_ret
      exact ⟨ret_int Hf.out.symm, (by first | exact ⟨_, rfl⟩ | exact ⟨0, rfl⟩ | exact still2 _ _ _ | exact still3 _ _ _ _)⟩

end Go.Proofs.YtldcmhgpppeooaaGreatDoor
namespace Go.Proofs.YtldcmhgpppeooaaGreatDoor
set_option maxRecDepth 100000
open Go.RowKit Game

set_option maxRecDepth 100000 in
set_option maxHeartbeats 4000000 in
theorem spec_LeftTable_any (gc oc n cc : Nat) (c : List (List Int)) (w : World) (hn : c.length = n) (hx : c.length ≤ 1048576) (hrl : ∀ j, j < c.length → (c.getD j []).length ≤ 1048576) (hgc : gc < w.heap.size) (hr : Rows2 w gc oc c) :
    Calls Tryz.prog 37 #[(Value.slice (some ⟨gc, oc, none⟩) n cc)] w (GotRows w (leftT c)) := by
  subst hn
  obtain ⟨w2, hw2⟩ : ∃ w2, w2 = w.alloc (.cells #[] 27) := ⟨_, rfl⟩
  have hb2 : Below w.heap.size w w2 := by rw [hw2]; exact (by repeat (first | with_reducible exact Below.refl _ _ | with_reducible assumption | with_reducible refine below_drewN ?_ _ | with_reducible refine Below.drew ?_ | (with_reducible refine Below.alloc ?_ ?_ _; rotate_left; · first | (simp; done) | (simp; omega) | exact Below.size (by assumption) | (have hsz := Below.size (by assumption : Below _ _ _); simp at hsz ⊢; omega)) | (with_reducible refine Below.setCell ?_ ?_ _; rotate_left; · first | (simp; done) | (simp; omega))))
  have ho2 : OwnRows w2 w.heap.size w.heap.size 0 [] := by rw [hw2]; exact OwnRows.empty (w := w) (Nat.le_refl _)
  have hcall := spec_ElementsOf_any gc oc c.length cc c w2 rfl hx hrl (Nat.lt_of_lt_of_le hgc hb2.size) (hr.below hb2 hgc)
  rw [hw2] at hcall
  have Hcall := Lib.hid hcall; have Hw2 := Lib.hid hw2
  have hL0 : elA c = [] ∨ (Grp c ∧ elA c = elemL c) := by
    by_cases hg : grpB c = true
    · exact .inr ⟨grp_B hg, if_pos hg⟩
    · exact .inl (if_neg hg)
  have hfew : (elA c).length ≤ 200 := by
    rcases hL0 with h | ⟨hG, h⟩
    · rw [h]; simp
    · rw [h]; exact hG.few
  have hlen : ∀ j, j < (elA c).length → ((elA c).getD j []).length ≤ 1048576 := by
    intro j hj
    rcases hL0 with h | ⟨hG, h⟩
    · rw [h] at hj; simp at hj
    · rw [h] at hj ⊢
      have := elem_len hG ((elemL c).getD j []) (by simp [List.getD, hj])
      omega
  have hN : ∀ j i, j < (elA c).length → i < c.length → IsC c ∧ Lets c 30 ([(i : Int)] ++ (elA c).getD j []) := by
    intro j i hj hi
    rcases hL0 with h | ⟨hG, h⟩
    · rw [h] at hj; simp at hj
    · rw [h] at hj ⊢
      exact ⟨hG.hC, left_lets hG (by simp [List.getD, hj]) hi⟩
  unfold leftT
  clear hcall hw2 hL0
  generalize elA c = L at *
  obtain ⟨N, hNL⟩ : ∃ N, L.length = N := ⟨_, rfl⟩
  have HNL := Lib.hid hNL
  rw [hNL] at hfew hlen hN ⊢
  have HN := Lib.hid hN; have Hlen := Lib.hid hlen; have Hr := Lib.hid hr
  clear hNL hN hlen hr hrl
  go_enter Tryz.func37, Tryz.ntmps37
  go_wp2_with fail
  refine Hcall.out.mono ?_
  rintro e w3 ⟨g3, c3, rs, rfl, hcr, hO3, hb3⟩
  rw [← Hw2.out] at hb3 hO3
  have hb3' := hb2.trans (hb3.mono hb2.size)
  have ho3 := ho2.below hb3
  have hE : w2.heap.size ≤ w3.heap.size := hb3.size
  have hH3 : HeldR w3 w2.heap.size w3.heap.size g3 c3 L := ⟨rs, hcr, hO3, hO3.lt, fun r hr => (hO3.2.1 r hr).lt⟩
  have hw2s : w.heap.size < w2.heap.size := ho2.lt
  rw [HNL.out]
  clear hb3 hb2 ho2 hcr hO3 Hcall Hw2
  go_wp2_with fail
  go_loopw [3, 6, 7, 8] (fun ov kv _ _ wr => ∃ (k gO cO : Nat) (rs : List RowRef), k ≤ N ∧ kv = .int .i64 k ∧ ov = (Value.slice (some ⟨gO, 0, none⟩) k cO) ∧ Hid (rs.length = k) ∧ Hid (contents rs = ltab c L k) ∧ OwnRows wr w.heap.size gO cO rs ∧ HeldR wr w2.heap.size w3.heap.size g3 c3 L ∧ w3.heap.size ≤ wr.heap.size ∧ (gO < w2.heap.size ∨ w3.heap.size ≤ gO) ∧ Below w.heap.size w wr) (fun _ kv _ _ _ => N - (intOf kv).toNat)
  case atStart => exact ⟨0, _, 0, [], Nat.zero_le _, rfl, rfl, rfl, rfl, ho3, hH3, Nat.le_refl _, .inl hw2s, hb3'⟩
  case round =>
    clear ho3 hH3 hb3'
    obtain ⟨k, gO, cO, rs, hk, rfl, rfl, hrs, hcont, hO, hH, hEs, hdj, hb⟩ := hrel
    by_cases hlt : k < N
    · have hkL : k < L.length := by rw [HNL.out]; exact hlt
      have Hsucc := Lib.hid (ltab_succ (c := c) hkL)
      have hR := hH.rows2
      have hg := hH.lt
      obtain ⟨gj, oj, cj, q1, q2, q3, q4⟩ := hR k hkL
      have hlk := Hlen.out k hlt
      have hNk := fun i hi => HN.out k i hlt hi
      generalize L.getD k [] = x at *
      have HNk := Lib.hid hNk
      obtain ⟨nx, hnx⟩ : ∃ nx, x.length = nx := ⟨_, rfl⟩
      rw [hnx] at hlk q1
      have Hnx := Lib.hid hnx
      obtain ⟨wr1, hwr1⟩ : ∃ wr1, wr1 = wr.alloc (.cells #[] 3) := ⟨_, rfl⟩
      have hbr : Below wr.heap.size wr wr1 := by rw [hwr1]; exact (Below.refl _ _).alloc (Nat.le_refl _) _
      have hor : Own wr1 wr.heap.size wr.heap.size 0 [] := by rw [hwr1]; exact Own.empty (w := wr) (Nat.le_refl _)
      clear hNk hnx
      go_wp2_with fail
      rw [← hwr1]
      generalize wr = wo at *
      go_loopw [7, 8] (fun rv iv wj => ∃ i gR cR : Nat, i ≤ c.length ∧ iv = .int .i64 i ∧ rv = (Value.slice (some ⟨gR, 0, none⟩) i cR) ∧ Own wj wo.heap.size gR cR (lrow c L x i) ∧ Below wo.heap.size wo wj) (fun _ iv _ => c.length - (intOf iv).toNat)
      case atStart => exact ⟨0, wo.heap.size, 0, Nat.zero_le _, rfl, rfl, hor, hbr⟩
      case round =>
        clear hor hbr hwr1
        obtain ⟨i, gR, cR, hi, rfl, rfl, hoR, hbj⟩ := hrel
        by_cases hil : i < c.length
        · obtain ⟨hC, hLt⟩ := HNk.out i hil
          have hnorm := (nfI_ok hLt).norm
          have hin := hLt.inr
          have hl30 := hLt.few
          have hsr := lrow_succ c L x i
          have hll := lrow_length c L x i
          have hR1 := hR.below hbj hg
          have qj : wr.cell? ⟨g3, k, none⟩ = some (Value.slice (some ⟨gj, oj, none⟩) nx cj) := by
            rw [Nat.zero_add] at q1
            exact (hbj.cell (p := ⟨g3, k, none⟩) hg).trans q1
          have hgw : g3 < wr.heap.size := Nat.lt_of_lt_of_le hg hbj.size
          have hB0 := hb.trans (hbj.mono hb.size)
          have q5 := q4.below hbj q3
          have hgj := Nat.lt_of_lt_of_le q3 hbj.size
          obtain ⟨wk, hwk⟩ : ∃ wk, wk = wr.alloc (.cells #[.int .i64 (i : Int)] 3) := ⟨_, rfl⟩
          have hbk : Below wr.heap.size wr wk := by rw [hwk]; exact (Below.refl _ _).alloc (Nat.le_refl _) _
          have hok : Own wk wr.heap.size wr.heap.size 1 [(i : Int)] := by rw [hwk]; exact Own.new _ (Nat.le_refl _)
          have hcall := spec_ConcatWords_any wr.heap.size 0 1 1 gj oj nx cj [(i : Int)] x wk rfl Hnx.out (by simp) (by rw [Hnx.out]; omega) hok.lt (Nat.lt_of_lt_of_le hgj hbk.size) hok.cells (q5.below hbk hgj)
          rw [hwk] at hcall
          have hl2 : ([(i : Int)] ++ x).length = nx + 1 := by simp [Hnx.out]
          have Hl2 := Lib.hid hl2
          have Hcall := Lib.hid hcall
          have Hin := Lib.hid hin; have Hnorm := Lib.hid hnorm; have Hsr := Lib.hid hsr
          generalize nfI c ([(i : Int)] ++ x) = X at *
          obtain ⟨nX, hnX⟩ : ∃ nX, X.length = nX := ⟨_, rfl⟩
          have HnX := Lib.hid hnX
          have hidx := idx_i64 (L := L) (by rw [HNL.out]; omega) X
          have hIdx := fun (W : World) (g4 c4 : Nat) (hR : Rows2 W g3 0 L) (h4 : Cells W g4 0 X) => spec_IndexOf_any g3 0 N c3 g4 0 nX c4 L X W HNL.out hnX (by rw [HNL.out]; omega) (by rw [HNL.out]; exact Hlen.out) hR h4
          generalize idxL L X = z at *
          have HIdx := Lib.hid hIdx
          have Hll := Lib.hid hll
          clear hcall hin hnorm hsr hnX hIdx hLt hll q5 hR1
          go_wp2_with fail
          refine Hcall.out.mono ?_
          rintro e v2 ⟨g4, c4, rfl, ho4, hb4⟩
          rw [Hl2.out]
          rw [← hwk] at hb4 ho4
          have hb4' : Below wr.heap.size wr v2 := hbk.trans (hb4.mono hbk.size)
          have hB4 : Below w.heap.size w v2 := hB0.trans (hb4'.mono hB0.size)
          clear hwk hbk hok hb4 Hcall
          go_wp2_with fail
          refine (spec_l8Normal_any gc oc _ cc g4 0 (nx + 1) c4 c ([(i : Int)] ++ x) X v2 rfl Hl2.out hC (by rw [Hl2.out]; omega) Hin.out Hnorm.out (Nat.lt_of_lt_of_le hgc hB4.size) ho4.lt (Hr.out.below hB4 hgc) ho4.cells).mono ?_
          rintro e v3 ⟨g5, c5, rfl, ho5, hb5⟩
          rw [HnX.out]
          have hb5' : Below wr.heap.size wr v3 := hb4'.trans (hb5.mono hb4'.size)
          have hb6 := hbj.trans (hb5'.mono hbj.size)
          have hoR5 := hoR.below hb5' hoR.lt
          have hR5 := hR.below hb6 hg
          clear hb5 hb4' hB4 ho4 hb5' hbj hoR
          go_wp2_with fail
          refine (HIdx.out v3 g5 c5 hR5 ho5.cells).mono ?_
          rintro e v4 ⟨rfl, hs4⟩
          have hb7 := below_still hb6 hs4
          have hoR7 := hoR5.still hs4
          clear hs4 hb6 hoR5 hR5 ho5
          go_wp2_with (at_builtin; refine wpList_append_int_n (w := v4) rfl _ _ rfl wo.heap.size gR cR i (lrow c L x i) z Hll.out hoR7 rfl rfl (by omega) ?_)
          intro g6 c6 v5 ho6 hg6 _
          have hb8 := hb7.grown hg6 hb7.size (by intro t ht; cases ht; exact hoR7.base)
          rw [← Hsr.out] at ho6
          clear hb7 hoR7 hg6
          go_wp2_with fail
          go_roundw
          case rel => exact ⟨i + 1, g6, c6, by omega, by go_num, rfl, ho6, hb8⟩
          case measure => simp [intOf]; omega
        · obtain rfl : i = c.length := by omega
          have hO1 := hO.below hbj
          have hH1 := hH.below hbj hEs
          have hE1 := Nat.le_trans hEs hbj.size
          have hB1 := hb.trans (hbj.mono hb.size)
          have hne : ∀ s ∈ rs, s.1 ≠ gR := fun s hs e => by have := (hO.2.1 s hs).lt; have := hoR.base; omega
          have Hll := Lib.hid (lrow_length c L x c.length)
          have hoR1 := hoR.mono hb.size
          clear hO hR hH hb hbj hg hoR q1 q4 hEs
          go_wp2_with (at_builtin; refine wpList_append_row (w := wr) rfl _ _ rfl w.heap.size gO cO k wr.heap.size rs (gR, cR, lrow c L x c.length) _ hrs.out (by unfold rowVal; rw [Hll.out]) rfl hO1 hoR1 hne rfl rfl (by omega) ?_)
          intro g6 c6 v5 ho6 hg6 hor6
          have hB2 := hB1.grown hg6 hB1.size (by intro t ht; cases ht; exact hO1.base)
          have hH2 := hH1.only (Only.of_grown (B := gO) (E := gO + 1) hg6 (Nat.le_refl _) (Nat.lt_succ_self _)) (by omega)
          have hE2 := Nat.le_trans hE1 hg6.size
          have hd2 : g6 < w2.heap.size ∨ w3.heap.size ≤ g6 := by omega
          have hl4 : Hid ((rs ++ [(gR, cR, lrow c L x c.length)]).length = k + 1) := Lib.hid (by rw [List.length_append, hrs.out]; rfl)
          have hc4 : Hid (contents (rs ++ [(gR, cR, lrow c L x c.length)]) = ltab c L (k + 1)) := Lib.hid (by rw [Hsucc.out, ← hcont.out]; simp [contents])
          clear hO1 hoR1 hB1 hg6 hne hH1 hE1 hdj hor6
          go_wp2_with fail
          go_roundw
          case rel => exact ⟨k + 1, g6, c6, _, by omega, by go_num, rfl, hl4.out, hc4.out, ho6, hH2, hE2, hd2, hB2⟩
          case measure => simp [intOf]; omega
    · obtain rfl : k = N := by omega
      go_wp2_with fail
      go_ret
      exact ⟨gO, cO, rs, by rw [ltab_length (by rw [HNL.out]; exact Nat.le_refl _)]; rfl, hcont.out, hO, hb⟩
end Go.Proofs.YtldcmhgpppeooaaGreatDoor
namespace Go.Proofs.YtldcmhgpppeooaaGreatDoor
set_option maxRecDepth 100000
open Go.RowKit
open Go.Maps (Keyed IsMap has)

structure FewW (v : List Int) : Prop where
  inw : InW v
  few : v.length ≤ 15
theorem wordL_len {v : List Int} (h : FewW v) : (wordL v).length ≤ 15 := by
  have := h.few
  unfold wordL
  split
  · simp
  · split
    · unfold digs; simp; omega
    · simp
theorem digs_inj : ∀ {a b : List Int}, InW a → InW b → digs a = digs b → a = b
  | [], [], _, _, _ => rfl
  | [], _ :: _, _, _, h => by simp [digs] at h
  | _ :: _, [], _, _, h => by simp [digs] at h
  | x :: a, y :: b, ha, hb, h => by
    have hx := ha x (by simp)
    have hy := hb y (by simp)
    simp only [digs, List.map_cons, List.cons.injEq] at h
    obtain ⟨h1, h2⟩ := h
    have e1 := u8_int (49 + (x.toNat : Int)) (by omega) (by omega)
    have e2 := u8_int (49 + (y.toNat : Int)) (by omega) (by omega)
    rw [show (49 + (x.toNat : Int)).toNat = 49 + x.toNat by omega] at e1
    rw [show (49 + (y.toNat : Int)).toNat = 49 + y.toNat by omega] at e2
    rw [h1] at e1
    have e3 : x = y := by omega
    subst e3
    rw [digs_inj (fun z hz => ha z (by simp [hz])) (fun z hz => hb z (by simp [hz])) h2]
theorem wordL_inj {a b : List Int} (ha : InW a) (hb : InW b) (h : wordL a = wordL b) : a = b := by
  have key : ∀ {x : List Int}, InW x → x ≠ [] → wordL x ≠ [101] := by
    intro x hx hne e
    unfold wordL at e
    rw [if_neg (by cases x with | nil => exact absurd rfl hne | cons _ _ => simp), if_pos hx] at e
    cases x with
    | nil => exact hne rfl
    | cons y x =>
      have hy := hx y (by simp)
      simp only [digs, List.map_cons, List.cons.injEq] at e
      have e1 := u8_int (49 + (y.toNat : Int)) (by omega) (by omega)
      rw [show (49 + (y.toNat : Int)).toNat = 49 + y.toNat by omega, e.1] at e1
      have : ((101 : UInt8).toNat : Int) = 101 := rfl
      omega
  cases a with
  | nil =>
    cases b with
    | nil => rfl
    | cons y b => exact absurd h.symm (key hb (by simp))
  | cons x a =>
    cases b with
    | nil => exact absurd h (key ha (by simp))
    | cons y b =>
      have e1 : wordL (x :: a) = digs (x :: a) := by unfold wordL; rw [if_neg (by rw [List.length_cons]; omega), if_pos ha]
      have e2 : wordL (y :: b) = digs (y :: b) := by unfold wordL; rw [if_neg (by rw [List.length_cons]; omega), if_pos hb]
      rw [e1, e2] at h
      exact digs_inj ha hb h

theorem strLawW : WideMaps.KeyLaw Tryz.prog 9 := WideMaps.string_law Tryz.underlying9
theorem strKeyedW : Keyed Tryz.prog 9 := Keyed.of_law strLawW
theorem keyOf_word {v : List Int} (h : FewW v) : keyOf Tryz.prog 9 (.string ⟨(wordL v).toArray⟩) = some (.string (wordL v)) := by
  have := WideMaps.keyOf_string_mk (P := Tryz.prog) (s := ⟨(wordL v).toArray⟩) Tryz.underlying9 (by have := wordL_len h; simp [ByteArray.size]; unfold maxLen; omega)
  simpa using this
def SeenW (w : World) (b n : Nat) (L : List (List Int)) : Prop :=
  ∃ D : DataW Unit, w.ownsMap Tryz.prog 9 (plainElem Tryz.prog 4) b n D ∧ IsMap D ∧ ∀ v : List Int, FewW v → D.atKey (.string (wordL v)) (.lit (.bool false)) = .lit (.bool (decide (v ∈ L)))
section
variable {w w' : World} {b n : Nat} {L : List (List Int)}
theorem SeenW.start (w : World) : SeenW (w.alloc (.map #[] 0)) w.heap.size 0 [] :=
  ⟨.map [], World.ownsMap_made _ _ _ _, ⟨[], rfl⟩, fun v _ => by simp [DataW.atKey]⟩
theorem SeenW.lt (h : SeenW w b n L) : b < w.heap.size := by obtain ⟨D, h, -⟩ := h; exact h.lt
theorem SeenW.same (h : SeenW w b n L) (hs : w'.heap[b]? = w.heap[b]?) : SeenW w' b n L := by
  obtain ⟨D, ⟨es, clock, hh, r⟩, h2⟩ := h
  exact ⟨D, ⟨es, clock, hs.trans hh, r⟩, h2⟩
theorem SeenW.below {B : Nat} (h : SeenW w b n L) (hb : Below B w w') (hB : b < B) : SeenW w' b n L := h.same (hb.block b hB)
theorem SeenW.still (h : SeenW w b n L) (hs : ∃ k, w' = w.drewN k) : SeenW w' b n L := by obtain ⟨k, rfl⟩ := hs; exact h
theorem SeenW.block (h : SeenW w b n L) : ∃ es clock, w.heap[b]? = some (.map es clock) := by
  obtain ⟨D, ⟨es, clock, hh, r⟩, h2⟩ := h
  exact ⟨es, clock, hh⟩
theorem SeenW.neCells {g : Nat} {cur : Array Value} {E : TypeId} {q : Nat × Nat} (h : SeenW w b n L) (ho : w.heap[g]? = some (.cells cur E q)) : b ≠ g := by
  rintro rfl
  obtain ⟨es, clock, hh⟩ := h.block
  rw [hh] at ho
  simp at ho
theorem seenW_put {D : DataW Unit} {v : List Int} (hv : FewW v) (hmap : IsMap D) (hat : ∀ v : List Int, FewW v → D.atKey (.string (wordL v)) (.lit (.bool false)) = .lit (.bool (decide (v ∈ L)))) :
    ∀ u : List Int, FewW u → (D.put (.string (wordL v)) (.lit (.bool true))).atKey (.string (wordL u)) (.lit (.bool false)) = .lit (.bool (decide (u ∈ L ++ [v]))) := by
  intro u hu
  by_cases e : u = v
  · subst e
    rw [Maps.atKey_put_same hmap (strKeyedW.key (keyOf_word hv))]
    simp
  · have hne : Lit.string (wordL u) ≠ .string (wordL v) := fun h => e (wordL_inj hu.inw hv.inw (by injection h))
    rw [Maps.atKey_put_other hne, hat u hu]
    simp [e]
end
end Go.Proofs.YtldcmhgpppeooaaGreatDoor
namespace Go.Proofs.YtldcmhgpppeooaaGreatDoor
set_option maxRecDepth 100000
open Go.RowKit
open Go.Maps (Keyed IsMap has)

theorem idxFrom_in_w {v r : List Int} : ∀ {L : List (List Int)} {k : Nat}, v ∈ L → idxFrom (L ++ [r]) v k = idxFrom L v k
  | [], k, h => by simp at h
  | x :: L, k, h => by
    simp only [List.cons_append, idxFrom]
    by_cases e : x = v
    · rw [if_pos e, if_pos e]
    · rw [if_neg e, if_neg e]
      exact idxFrom_in_w ((List.mem_cons.1 h).resolve_left (fun g => e g.symm))
theorem idxFrom_out_w {r : List Int} : ∀ {L : List (List Int)} {k : Nat}, r ∉ L → idxFrom (L ++ [r]) r k = ((k + L.length : Nat) : Int)
  | [], k, _ => by simp [idxFrom]
  | x :: L, k, h => by
    simp only [List.cons_append, idxFrom]
    rw [if_neg (fun e => h (by rw [e]; simp)), idxFrom_out_w (fun g => h (List.mem_cons_of_mem _ g))]
    congr 1
    simp; omega
theorem intZeroW (w : World) : (zeroValue 3).run Tryz.prog w = .ok (.int .i64 0) w := by kernel_rfl
theorem natWfW {n : Nat} (hn : n < 1048576) : (Lit.int .i64 (n : Int)).wf = true := by
  simp [Lit.wf, IntKind.min, IntKind.max, IntKind.signed, IntKind.bits]; omega
structure LetW (v : List Int) : Prop where
  inw : InW v
  few : v.length ≤ 30
theorem wordL_len30 {v : List Int} (h : LetW v) : (wordL v).length ≤ 30 := by
  have := h.few
  unfold wordL
  split
  · simp
  · split
    · unfold digs; simp; omega
    · simp
theorem keyOf_let {v : List Int} (h : LetW v) : keyOf Tryz.prog 9 (.string ⟨(wordL v).toArray⟩) = some (.string (wordL v)) := by
  have := WideMaps.keyOf_string_mk (P := Tryz.prog) (s := ⟨(wordL v).toArray⟩) Tryz.underlying9 (by have := wordL_len30 h; simp [ByteArray.size]; unfold maxLen; omega)
  simpa using this

/-- block b is a map that takes just these written words to their places -/
def AtW (w : World) (b n : Nat) (L : List (List Int)) : Prop :=
  ∃ D : DataW Unit, w.ownsMap Tryz.prog 9 (plainElem Tryz.prog 3) b n D ∧ IsMap D ∧ ∀ v : List Int, LetW v → v ∈ L → D.atKey (.string (wordL v)) (.lit (.int .i64 0)) = .lit (.int .i64 (idxL L v))
section
variable {w w' : World} {b n : Nat} {L : List (List Int)}
theorem AtW.start (w : World) : AtW (w.alloc (.map #[] 0)) w.heap.size 0 [] :=
  ⟨.map [], World.ownsMap_made _ _ _ _, ⟨[], rfl⟩, fun v _ h => by simp at h⟩
theorem AtW.lt (h : AtW w b n L) : b < w.heap.size := by obtain ⟨D, h, -⟩ := h; exact h.lt
theorem AtW.same (h : AtW w b n L) (hs : w'.heap[b]? = w.heap[b]?) : AtW w' b n L := by
  obtain ⟨D, ⟨es, clock, hh, r⟩, h2⟩ := h
  exact ⟨D, ⟨es, clock, hs.trans hh, r⟩, h2⟩
theorem AtW.below {B : Nat} (h : AtW w b n L) (hb : Below B w w') (hB : b < B) : AtW w' b n L := h.same (hb.block b hB)
theorem AtW.still (h : AtW w b n L) (hs : ∃ k, w' = w.drewN k) : AtW w' b n L := by obtain ⟨k, rfl⟩ := hs; exact h
theorem AtW.block (h : AtW w b n L) : ∃ es clock, w.heap[b]? = some (.map es clock) := by
  obtain ⟨D, ⟨es, clock, hh, r⟩, h2⟩ := h
  exact ⟨es, clock, hh⟩
theorem AtW.neOwn {g cap B : Nat} {xs : List Int} (h : AtW w b n L) (ho : Own w B g cap xs) : b ≠ g := by
  rintro rfl
  obtain ⟨es, clock, hh⟩ := h.block
  obtain ⟨cur, h2, -⟩ := ho.toV.row
  rw [hh] at h2
  simp at h2
theorem AtW.neRows {g cap B : Nat} {rs : List RowRef} (h : AtW w b n L) (ho : OwnRows w B g cap rs) : b ≠ g := by
  rintro rfl
  obtain ⟨es, clock, hh⟩ := h.block
  obtain ⟨cur, h2, -⟩ := ho.1.row
  rw [hh] at h2
  simp at h2
theorem AtW.rows {g cap B : Nat} {rs : List RowRef} (h : AtW w b n L) (ho : OwnRows w B g cap rs) (hg : w.grownBy w' (some b)) : OwnRows w' B g cap rs :=
  ⟨ho.1.grown hg (fun e => h.neRows ho (Option.some.inj e).symm), fun r hr => (ho.2.1 r hr).grown hg (fun e => h.neOwn (ho.2.1 r hr) (Option.some.inj e).symm), ho.2.2⟩
/-- 'at[key] = k' -/
theorem wpList_atw_put {ops : Array Oper} {rest : List Oper} {o : Oper} {a : Act} {Q : Exit → Act → World → Prop}
    (hg : o.guard = none) (x y z : Operand) (hop : o.op = Op.mapUpdate 77 x y z) (b n : Nat) (L : List (List Int)) (v : List Int) (hv : LetW v) (hL : v ∉ L) (hLn : L.length = n)
    (hown : AtW w b n L) (hn : n < 1048576) (hx : a.eval x = .map (some b)) (hy : a.eval y = .string ⟨(wordL v).toArray⟩) (hz : a.eval z = .int .i64 (n : Int))
    (hK : ∀ w', AtW w' b (n + 1) (L ++ [v]) → w.grownBy w' (some b) → wpList Tryz.prog ops Q rest (a.put o.dst undef) w') :
    wpList Tryz.prog ops Q (o :: rest) a w := by
  obtain ⟨D, hD, hmap, hat⟩ := hown
  have hk := keyOf_let hv
  refine wpList_mapUpdate_own w hg x y z _ hop _ _ strKeyedW Tryz.underlying77 _ b n D hx hD (by unfold maxLen; omega) _ _ (.string (wordL v)) hy hz hk _ [] (plainElem_int (H := Unit) Tryz.underlying3 (natWfW hn)) ?_
  intro w' hown' hgr
  refine hK w' ⟨_, hown', ?_, fun u hu hm => ?_⟩ hgr
  · obtain ⟨es, rfl⟩ := hmap
    exact ⟨_, rfl⟩
  · by_cases e : u = v
    · subst e
      rw [Maps.atKey_put_same hmap (strKeyedW.key hk)]
      unfold idxL
      rw [idxFrom_out_w hL, hLn, Nat.zero_add]
    · have hne : Lit.string (wordL u) ≠ .string (wordL v) := fun h => e (wordL_inj hu.inw hv.inw (by injection h))
      have h' : u ∈ L := by
        rcases List.mem_append.1 hm with g | g
        · exact g
        · rw [List.mem_singleton] at g; exact absurd g e
      rw [Maps.atKey_put_other hne, hat u hu h']
      unfold idxL
      rw [idxFrom_in_w h']
/-- 'at[key]' -/
theorem wpList_atw_get {ops : Array Oper} {rest : List Oper} {o : Oper} {a : Act} {Q : Exit → Act → World → Prop}
    (hg : o.guard = none) (x y : Operand) (hop : o.op = Op.lookup 77 x y false) (b n : Nat) (L : List (List Int)) (v : List Int) (hv : LetW v) (hL : v ∈ L)
    (hown : AtW w b n L) (hx : a.eval x = .map (some b)) (hy : a.eval y = .string ⟨(wordL v).toArray⟩)
    (hK : wpList Tryz.prog ops Q rest (a.put o.dst (.int .i64 (idxL L v))) w) :
    wpList Tryz.prog ops Q (o :: rest) a w := by
  obtain ⟨D, hD, -, hat⟩ := hown
  refine wpList_lookup_own_int w hg x y _ hop _ _ .i64 strKeyedW Tryz.underlying77 Tryz.underlying3 (intZeroW w) b n D hx hD _ _ hy (keyOf_let hv) ?_
  intro z hz _
  have h3 := hat v hv hL
  rw [hz] at h3
  have e : z = idxL L v := by simpa using h3
  rw [e]
  exact hK
end
end Go.Proofs.YtldcmhgpppeooaaGreatDoor
