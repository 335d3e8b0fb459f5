/- IndexOfElement of the reference: contract. LeftTable of the reference: contract. All rows of polynomials by the reference: contract. The coefficients of all pairs by the reference: contract. Arrows between elements by the reference: contract. -/
import Derived.Test.YtobeigdjhepedaaGreatDoorG30
import Derived.Test.YtobeigdjhepedaaGreatDoorG02
import Derived.Test.YtobeigdjhepedaaGreatDoorG01
import Derived.BigQuiet
import Derived.Test.YtobeigdjhepedaaGreatDoorG32
import Derived.Test.YtobeigdjhepedaaGreatDoorG43
import Derived.Test.YtobeigdjhepedaaGreatDoorG24
import Derived.Test.YtobeigdjhepedaaGreatDoorG03
import Derived.Test.YtobeigdjhepedaaGreatDoorG46
import Derived.Test.YtobeigdjhepedaaGreatDoorG08
import Derived.Deep.RegionHeld3
import Derived.Deep.CutRange
import Derived.Deep.CutBlock
namespace Go.Proofs.YtobeigdjhepedaaGreatDoor
set_option maxRecDepth 100000
open Go.RowKit

set_option maxHeartbeats 2000000 in
theorem spec_IndexOf_any (g o n cp g1 o1 n1 c1 : Nat) (l : List (List Int)) (r : List Int) (w : World) (hn : l.length = n) (hn1 : r.length = n1) (hl : l.length ≤ 1048576) (hrl : ∀ j, j < l.length → (l.getD j []).length ≤ 1048576)
    (hr : Rows2 w g o l) (hc1 : Cells w g1 o1 r) :
    Calls Tryz.prog 63 #[(Value.slice (some ⟨g, o, none⟩) n cp), (Value.slice (some ⟨g1, o1, none⟩) n1 c1)] w (Reads w (.int .i64 (idxL l r))) := by
  subst hn; subst hn1
  go_enter Tryz.func63, Tryz.ntmps63
  go_wp2
  go_loopw [5] (fun i wr => ∃ k : Nat, k ≤ l.length ∧ i = .int .i64 k ∧ Hid (inTo l r k) ∧ ∃ m, wr = w.drewN m) (fun i _ => l.length - (intOf i).toNat)
  case atStart => exact ⟨0, Nat.zero_le _, rfl, fun j hj => absurd hj (by omega), (by first | exact ⟨_, rfl⟩ | exact ⟨0, rfl⟩ | exact still2 _ _ _ | exact still3 _ _ _ _)⟩
  case round =>
    obtain ⟨k, hk, rfl, hin, m, rfl⟩ := hrel
    by_cases hlt : k < l.length
    · obtain ⟨gj, oj, cj, q1, q2, q3, q4⟩ := hr k hlt
      have hlk := hrl k hlt
      have HY : Hid (l.getD k [] ≠ r → inTo l r (k + 1)) := fun h j hj => by
        by_cases e : j = k
        · subst e; exact h
        · exact hin.out j (by omega)
      have HX : Hid (l.getD k [] = r → (k : Int) = idxL l r) := fun h => (idx_found hlt hin.out h).symm
      generalize l.getD k [] = x at *
      have hcall := spec_EqualWords_any gj oj x.length cj g1 o1 r.length c1 x r (w.drewN m) rfl rfl (by omega) q4 hc1
      by_cases e : x = r
      · have hd := HX.out e
        rw [decide_eq_true e] at hcall
        have Hd := Lib.hid hd; have He := Lib.hid e; have Hcall := Lib.hid hcall
        clear hd hcall e
        go_wp2_with fail
        refine Hcall.out.mono ?_
        rintro e w2 ⟨rfl, m2, rfl⟩
        go_wp2_with fail
        go_ret
        exact ⟨ret_int Hd.out, (by first | exact ⟨_, rfl⟩ | exact ⟨0, rfl⟩ | exact still2 _ _ _ | exact still3 _ _ _ _)⟩
      · have hd := HY.out e
        rw [decide_eq_false e] at hcall
        have Hd := Lib.hid hd; have He := Lib.hid e; have Hcall := Lib.hid hcall
        clear hd hcall e
        go_wp2_with fail
        refine Hcall.out.mono ?_
        rintro e w2 ⟨rfl, m2, rfl⟩
        go_wp2_with fail
        go_roundw
        case rel => exact ⟨k + 1, by omega, by go_num, Hd.out, (by first | exact ⟨_, rfl⟩ | exact ⟨0, rfl⟩ | exact still2 _ _ _ | exact still3 _ _ _ _)⟩
        case measure => simp [intOf]; omega
    · obtain rfl : k = l.length := by omega
      have hf := idx_none hin.out
      have Hf := Lib.hid hf; clear hf
      go_wp2
      go_ret
      exact ⟨ret_int Hf.out.symm, (by first | exact ⟨_, rfl⟩ | exact ⟨0, rfl⟩ | exact still2 _ _ _ | exact still3 _ _ _ _)⟩

end Go.Proofs.YtobeigdjhepedaaGreatDoor
namespace Go.Proofs.YtobeigdjhepedaaGreatDoor
set_option maxRecDepth 100000
open Go.RowKit Game

set_option maxRecDepth 100000 in
set_option maxHeartbeats 4000000 in
theorem spec_LeftTable_any (gc oc n cc : Nat) (c : List (List Int)) (w : World) (hn : c.length = n) (hx : c.length ≤ 1048576) (hrl : ∀ j, j < c.length → (c.getD j []).length ≤ 1048576) (hgc : gc < w.heap.size) (hr : Rows2 w gc oc c) :
    Calls Tryz.prog 139 #[(Value.slice (some ⟨gc, oc, none⟩) n cc)] w (GotRows w (leftT c)) := by
  subst hn
  obtain ⟨w2, hw2⟩ : ∃ w2, w2 = w.alloc (.cells #[] 28) := ⟨_, rfl⟩
  have hb2 : Below w.heap.size w w2 := by rw [hw2]; exact (by repeat (first | with_reducible exact Below.refl _ _ | with_reducible assumption | with_reducible refine below_drewN ?_ _ | with_reducible refine Below.drew ?_ | (with_reducible refine Below.alloc ?_ ?_ _; rotate_left; · first | (simp; done) | (simp; omega) | exact Below.size (by assumption) | (have hsz := Below.size (by assumption : Below _ _ _); simp at hsz ⊢; omega)) | (with_reducible refine Below.setCell ?_ ?_ _; rotate_left; · first | (simp; done) | (simp; omega))))
  have ho2 : OwnRows w2 w.heap.size w.heap.size 0 [] := by rw [hw2]; exact OwnRows.empty (w := w) (Nat.le_refl _)
  have hcall := spec_ElementsOf_any gc oc c.length cc c w2 rfl hx hrl (Nat.lt_of_lt_of_le hgc hb2.size) (hr.below hb2 hgc)
  rw [hw2] at hcall
  have Hcall := Lib.hid hcall; have Hw2 := Lib.hid hw2
  have hL0 : elA c = [] ∨ (Grp c ∧ elA c = elemL c) := by
    by_cases hg : grpB c = true
    · exact .inr ⟨grp_B hg, if_pos hg⟩
    · exact .inl (if_neg hg)
  have hfew : (elA c).length ≤ 200 := by
    rcases hL0 with h | ⟨hG, h⟩
    · rw [h]; simp
    · rw [h]; exact hG.few
  have hlen : ∀ j, j < (elA c).length → ((elA c).getD j []).length ≤ 1048576 := by
    intro j hj
    rcases hL0 with h | ⟨hG, h⟩
    · rw [h] at hj; simp at hj
    · rw [h] at hj ⊢
      have := elem_len hG ((elemL c).getD j []) (by simp [List.getD, hj])
      omega
  have hN : ∀ j i, j < (elA c).length → i < c.length → IsC c ∧ Lets c 30 ([(i : Int)] ++ (elA c).getD j []) := by
    intro j i hj hi
    rcases hL0 with h | ⟨hG, h⟩
    · rw [h] at hj; simp at hj
    · rw [h] at hj ⊢
      exact ⟨hG.hC, left_lets hG (by simp [List.getD, hj]) hi⟩
  unfold leftT
  clear hcall hw2 hL0
  generalize elA c = L at *
  obtain ⟨N, hNL⟩ : ∃ N, L.length = N := ⟨_, rfl⟩
  have HNL := Lib.hid hNL
  rw [hNL] at hfew hlen hN ⊢
  have HN := Lib.hid hN; have Hlen := Lib.hid hlen; have Hr := Lib.hid hr
  clear hNL hN hlen hr hrl
  go_enter Tryz.func139, Tryz.ntmps139
  go_wp2_with fail
  refine Hcall.out.mono ?_
  rintro e w3 ⟨g3, c3, rs, rfl, hcr, hO3, hb3⟩
  rw [← Hw2.out] at hb3 hO3
  have hb3' := hb2.trans (hb3.mono hb2.size)
  have ho3 := ho2.below hb3
  have hE : w2.heap.size ≤ w3.heap.size := hb3.size
  have hH3 : HeldR w3 w2.heap.size w3.heap.size g3 c3 L := ⟨rs, hcr, hO3, hO3.lt, fun r hr => (hO3.2.1 r hr).lt⟩
  have hw2s : w.heap.size < w2.heap.size := ho2.lt
  rw [HNL.out]
  clear hb3 hb2 ho2 hcr hO3 Hcall Hw2
  go_wp2_with fail
  go_loopw [3, 6, 7, 8] (fun ov kv _ _ wr => ∃ (k gO cO : Nat) (rs : List RowRef), k ≤ N ∧ kv = .int .i64 k ∧ ov = (Value.slice (some ⟨gO, 0, none⟩) k cO) ∧ Hid (rs.length = k) ∧ Hid (contents rs = ltab c L k) ∧ OwnRows wr w.heap.size gO cO rs ∧ HeldR wr w2.heap.size w3.heap.size g3 c3 L ∧ w3.heap.size ≤ wr.heap.size ∧ (gO < w2.heap.size ∨ w3.heap.size ≤ gO) ∧ Below w.heap.size w wr) (fun _ kv _ _ _ => N - (intOf kv).toNat)
  case atStart => exact ⟨0, _, 0, [], Nat.zero_le _, rfl, rfl, rfl, rfl, ho3, hH3, Nat.le_refl _, .inl hw2s, hb3'⟩
  case round =>
    clear ho3 hH3 hb3'
    obtain ⟨k, gO, cO, rs, hk, rfl, rfl, hrs, hcont, hO, hH, hEs, hdj, hb⟩ := hrel
    by_cases hlt : k < N
    · have hkL : k < L.length := by rw [HNL.out]; exact hlt
      have Hsucc := Lib.hid (ltab_succ (c := c) hkL)
      have hR := hH.rows2
      have hg := hH.lt
      obtain ⟨gj, oj, cj, q1, q2, q3, q4⟩ := hR k hkL
      have hlk := Hlen.out k hlt
      have hNk := fun i hi => HN.out k i hlt hi
      generalize L.getD k [] = x at *
      have HNk := Lib.hid hNk
      obtain ⟨nx, hnx⟩ : ∃ nx, x.length = nx := ⟨_, rfl⟩
      rw [hnx] at hlk q1
      have Hnx := Lib.hid hnx
      obtain ⟨wr1, hwr1⟩ : ∃ wr1, wr1 = wr.alloc (.cells #[] 3) := ⟨_, rfl⟩
      have hbr : Below wr.heap.size wr wr1 := by rw [hwr1]; exact (Below.refl _ _).alloc (Nat.le_refl _) _
      have hor : Own wr1 wr.heap.size wr.heap.size 0 [] := by rw [hwr1]; exact Own.empty (w := wr) (Nat.le_refl _)
      clear hNk hnx
      go_wp2_with fail
      rw [← hwr1]
      generalize wr = wo at *
      go_loopw [7, 8] (fun rv iv wj => ∃ i gR cR : Nat, i ≤ c.length ∧ iv = .int .i64 i ∧ rv = (Value.slice (some ⟨gR, 0, none⟩) i cR) ∧ Own wj wo.heap.size gR cR (lrow c L x i) ∧ Below wo.heap.size wo wj) (fun _ iv _ => c.length - (intOf iv).toNat)
      case atStart => exact ⟨0, wo.heap.size, 0, Nat.zero_le _, rfl, rfl, hor, hbr⟩
      case round =>
        clear hor hbr hwr1
        obtain ⟨i, gR, cR, hi, rfl, rfl, hoR, hbj⟩ := hrel
        by_cases hil : i < c.length
        · obtain ⟨hC, hLt⟩ := HNk.out i hil
          have hnorm := (nfI_ok hLt).norm
          have hin := hLt.inr
          have hl30 := hLt.few
          have hsr := lrow_succ c L x i
          have hll := lrow_length c L x i
          have hR1 := hR.below hbj hg
          have qj : wr.cell? ⟨g3, k, none⟩ = some (Value.slice (some ⟨gj, oj, none⟩) nx cj) := by
            rw [Nat.zero_add] at q1
            exact (hbj.cell (p := ⟨g3, k, none⟩) hg).trans q1
          have hgw : g3 < wr.heap.size := Nat.lt_of_lt_of_le hg hbj.size
          have hB0 := hb.trans (hbj.mono hb.size)
          have q5 := q4.below hbj q3
          have hgj := Nat.lt_of_lt_of_le q3 hbj.size
          obtain ⟨wk, hwk⟩ : ∃ wk, wk = wr.alloc (.cells #[.int .i64 (i : Int)] 3) := ⟨_, rfl⟩
          have hbk : Below wr.heap.size wr wk := by rw [hwk]; exact (Below.refl _ _).alloc (Nat.le_refl _) _
          have hok : Own wk wr.heap.size wr.heap.size 1 [(i : Int)] := by rw [hwk]; exact Own.new _ (Nat.le_refl _)
          have hcall := spec_ConcatWords_any wr.heap.size 0 1 1 gj oj nx cj [(i : Int)] x wk rfl Hnx.out (by simp) (by rw [Hnx.out]; omega) hok.lt (Nat.lt_of_lt_of_le hgj hbk.size) hok.cells (q5.below hbk hgj)
          rw [hwk] at hcall
          have hl2 : ([(i : Int)] ++ x).length = nx + 1 := by simp [Hnx.out]
          have Hl2 := Lib.hid hl2
          have Hcall := Lib.hid hcall
          have Hin := Lib.hid hin; have Hnorm := Lib.hid hnorm; have Hsr := Lib.hid hsr
          generalize nfI c ([(i : Int)] ++ x) = X at *
          obtain ⟨nX, hnX⟩ : ∃ nX, X.length = nX := ⟨_, rfl⟩
          have HnX := Lib.hid hnX
          have hidx := idx_i64 (L := L) (by rw [HNL.out]; omega) X
          have hIdx := fun (W : World) (g4 c4 : Nat) (hR : Rows2 W g3 0 L) (h4 : Cells W g4 0 X) => spec_IndexOf_any g3 0 N c3 g4 0 nX c4 L X W HNL.out hnX (by rw [HNL.out]; omega) (by rw [HNL.out]; exact Hlen.out) hR h4
          generalize idxL L X = z at *
          have HIdx := Lib.hid hIdx
          have Hll := Lib.hid hll
          clear hcall hin hnorm hsr hnX hIdx hLt hll q5 hR1
          go_wp2_with fail
          refine Hcall.out.mono ?_
          rintro e v2 ⟨g4, c4, rfl, ho4, hb4⟩
          rw [Hl2.out]
          rw [← hwk] at hb4 ho4
          have hb4' : Below wr.heap.size wr v2 := hbk.trans (hb4.mono hbk.size)
          have hB4 : Below w.heap.size w v2 := hB0.trans (hb4'.mono hB0.size)
          clear hwk hbk hok hb4 Hcall
          go_wp2_with fail
          refine (spec_l8Normal_any gc oc _ cc g4 0 (nx + 1) c4 c ([(i : Int)] ++ x) X v2 rfl Hl2.out hC (by rw [Hl2.out]; omega) Hin.out Hnorm.out (Nat.lt_of_lt_of_le hgc hB4.size) ho4.lt (Hr.out.below hB4 hgc) ho4.cells).mono ?_
          rintro e v3 ⟨g5, c5, rfl, ho5, hb5⟩
          rw [HnX.out]
          have hb5' : Below wr.heap.size wr v3 := hb4'.trans (hb5.mono hb4'.size)
          have hb6 := hbj.trans (hb5'.mono hbj.size)
          have hoR5 := hoR.below hb5' hoR.lt
          have hR5 := hR.below hb6 hg
          clear hb5 hb4' hB4 ho4 hb5' hbj hoR
          go_wp2_with fail
          refine (HIdx.out v3 g5 c5 hR5 ho5.cells).mono ?_
          rintro e v4 ⟨rfl, hs4⟩
          have hb7 := below_still hb6 hs4
          have hoR7 := hoR5.still hs4
          clear hs4 hb6 hoR5 hR5 ho5
          go_wp2_with (at_builtin; refine wpList_append_int_n (w := v4) rfl _ _ rfl wo.heap.size gR cR i (lrow c L x i) z Hll.out hoR7 rfl rfl (by omega) ?_)
          intro g6 c6 v5 ho6 hg6 _
          have hb8 := hb7.grown hg6 hb7.size (by intro t ht; cases ht; exact hoR7.base)
          rw [← Hsr.out] at ho6
          clear hb7 hoR7 hg6
          go_wp2_with fail
          go_roundw
          case rel => exact ⟨i + 1, g6, c6, by omega, by go_num, rfl, ho6, hb8⟩
          case measure => simp [intOf]; omega
        · obtain rfl : i = c.length := by omega
          have hO1 := hO.below hbj
          have hH1 := hH.below hbj hEs
          have hE1 := Nat.le_trans hEs hbj.size
          have hB1 := hb.trans (hbj.mono hb.size)
          have hne : ∀ s ∈ rs, s.1 ≠ gR := fun s hs e => by have := (hO.2.1 s hs).lt; have := hoR.base; omega
          have Hll := Lib.hid (lrow_length c L x c.length)
          have hoR1 := hoR.mono hb.size
          clear hO hR hH hb hbj hg hoR q1 q4 hEs
          go_wp2_with (at_builtin; refine wpList_append_row (w := wr) rfl _ _ rfl w.heap.size gO cO k wr.heap.size rs (gR, cR, lrow c L x c.length) _ hrs.out (by unfold rowVal; rw [Hll.out]) rfl hO1 hoR1 hne rfl rfl (by omega) ?_)
          intro g6 c6 v5 ho6 hg6 hor6
          have hB2 := hB1.grown hg6 hB1.size (by intro t ht; cases ht; exact hO1.base)
          have hH2 := hH1.only (Only.of_grown (B := gO) (E := gO + 1) hg6 (Nat.le_refl _) (Nat.lt_succ_self _)) (by omega)
          have hE2 := Nat.le_trans hE1 hg6.size
          have hd2 : g6 < w2.heap.size ∨ w3.heap.size ≤ g6 := by omega
          have hl4 : Hid ((rs ++ [(gR, cR, lrow c L x c.length)]).length = k + 1) := Lib.hid (by rw [List.length_append, hrs.out]; rfl)
          have hc4 : Hid (contents (rs ++ [(gR, cR, lrow c L x c.length)]) = ltab c L (k + 1)) := Lib.hid (by rw [Hsucc.out, ← hcont.out]; simp [contents])
          clear hO1 hoR1 hB1 hg6 hne hH1 hE1 hdj hor6
          go_wp2_with fail
          go_roundw
          case rel => exact ⟨k + 1, g6, c6, _, by omega, by go_num, rfl, hl4.out, hc4.out, ho6, hH2, hE2, hd2, hB2⟩
          case measure => simp [intOf]; omega
    · obtain rfl : k = N := by omega
      go_wp2_with fail
      go_ret
      exact ⟨gO, cO, rs, by rw [ltab_length (by rw [HNL.out]; exact Nat.le_refl _)]; rfl, hcont.out, hO, hb⟩
end Go.Proofs.YtobeigdjhepedaaGreatDoor
namespace Go.Proofs.YtobeigdjhepedaaGreatDoor
set_option maxRecDepth 100000
open Go.RowKit Game

def Got3 (w : World) (R : List (List (List Int))) (e : Ending) (w' : World) : Prop :=
  ∃ g cap rr, e = .returned (Value.slice (some ⟨g, 0, none⟩) R.length cap) ∧ cont3 rr = R ∧ Own3 w' w.heap.size g cap rr ∧ Below w.heap.size w w'
theorem Got3.mk' {w w' : World} {R : List (List (List Int))} {n : Nat} (g cap : Nat) (rr : List TabRef) (hn : R.length = n) (hc : cont3 rr = R) (ho : Own3 w' w.heap.size g cap rr) (hb : Below w.heap.size w w') : Got3 w R (.returned (Value.slice (some ⟨g, 0, none⟩) n cap)) w' := by
  subst hn; exact ⟨g, cap, rr, rfl, hc, ho, hb⟩
theorem Own3.one {w : World} {B : Nat} {r : TabRef} (h : OwnRows w B r.1 r.2.1 r.2.2) (hB : B ≤ w.heap.size) : Own3 (w.alloc (.cells #[tabVal r] 22)) B w.heap.size 1 [r] := by
  refine ⟨World.ownsRow_lit w #[tabVal r] 1 hB (by decide) rfl, fun s hs => ?_⟩
  rw [List.mem_singleton] at hs
  subst hs
  exact h.below ((Below.refl w.heap.size w).alloc (Nat.le_refl _) _)
theorem rowsTo_row {L T : List (List Int)} : ∀ t i, i ≤ t → ((rowsTo L T t).getD i []).length = L.length
  | 0, i, h => by
    obtain rfl : i = 0 := by omega
    show (firstTo L.length).length = _
    simp [firstTo]
  | t + 1, i, h => by
    rw [rowsTo_succ]
    have hl := rowsTo_length L T t
    by_cases e : i = t + 1
    · subst e
      rw [← hl]
      simp [List.getD, nextTo']
    · rw [List.getD, List.getElem?_append_left (by omega)]
      exact rowsTo_row t i (by omega)
theorem RowAt.of3 {w : World} {B g cap N i : Nat} {rr : List TabRef} {R : List (List (List Int))} (h : Own3 w B g cap rr) (hc : cont3 rr = R) (hi : i < R.length) (hn : (R.getD i []).length = N) : RowAt w g N i (R.getD i []) := by
  subst hc
  obtain ⟨gi, ci, h1, h2, -, h4⟩ := h.at (i := i) (by rw [cont3_length] at hi; exact hi)
  rw [hn] at h1
  exact ⟨gi, ci, h1, h2, h4⟩
def Hr (rr : List TabRef) (R : List (List (List Int))) : Prop := cont3 rr = R

set_option maxRecDepth 100000 in
set_option maxHeartbeats 2000000 in
theorem spec_l23Rows_ok (gc oc n cc gl cl N t : Nat) (c L : List (List Int)) (w : World) (hn : c.length = n) (hC : IsC c) (H : KlOk c.length N L (leftT c)) (ht : t < N) (hgc : gc < w.heap.size) (hr : Rows2 w gc oc c) (hgl : gl < w.heap.size) (hL : Rows2 w gl 0 L) :
    Calls Tryz.prog 103 #[(Value.slice (some ⟨gc, oc, none⟩) n cc), (Value.slice (some ⟨gl, 0, none⟩) N cl), .int .i64 (t : Int)] w (Got3 w (rowsTo L (leftT c) t)) := by
  have hT0 := Lib.hid (spec_LeftTable_any gc oc n cc c w hn (by have := hC.2.1; omega) (fun j hj => by have := hC.2.1; rw [hC.2.2.1 j hj]; omega) hgc hr)
  have hTl := H.tlen
  have HH := Lib.hid H
  have hN24 := H.few
  clear hr hC
  generalize leftT c = T at *
  have HL := Lib.hid hL
  clear hL H
  go_enter Tryz.func103, Tryz.ntmps103
  go_wp2_with fail
  refine hT0.out.mono ?_
  rintro e w1 ⟨gT, cT, rsT, rfl, hcT, hoT, hb1⟩
  rw [hTl]
  have hT1 : HeldR w1 w.heap.size w1.heap.size gT cT T := ⟨rsT, hcT, hoT, hoT.lt, fun r hr => (hoT.2.1 r hr).lt⟩
  obtain ⟨w2, hw2⟩ : ∃ w2, w2 = w1.alloc (.cells #[] 28) := ⟨_, rfl⟩
  have hoF : OwnRows w2 w1.heap.size w1.heap.size 0 [] := by rw [hw2]; exact OwnRows.empty (Nat.le_refl _)
  have hb12 : Below w1.heap.size w1 w2 := by rw [hw2]; exact (Below.refl _ _).alloc (Nat.le_refl _) _
  have hT2 := hT1.below hb12 (Nat.le_refl _)
  have hb2 := hb1.trans (hb12.mono hb1.size)
  have hE0 := hb1.size
  have hE2 := hb12.size
  clear hcT hoT hT0 hb12 hb1 hTl hT1
  go_wp2_with fail
  rw [← hw2]
  clear hw2
  generalize w1.heap.size = E at *
  go_loopw [8, 9, 10] (fun fv uv _ wr => ∃ (u g c : Nat) (rs : List RowRef), u ≤ N ∧ uv = .int .i64 (u : Nat) ∧ fv = (Value.slice (some ⟨g, 0, none⟩) u c) ∧ Hid (rs.length = u) ∧ Hid (contents rs = firstTo u) ∧ OwnRows wr E g c rs ∧ HeldR wr w.heap.size E gT cT T ∧ E ≤ wr.heap.size ∧ Below w.heap.size w wr) (fun _ uv _ _ => N - (intOf uv).toNat)
  case atStart => exact ⟨0, E, 0, [], Nat.zero_le _, rfl, rfl, rfl, rfl, hoF, hT2, hE2, hb2⟩
  case round =>
    clear hoF hT2 hb2 hE2
    obtain ⟨u, g, cg, rs, hu, rfl, rfl, hrl, hrc, ho, hT, hE, hb⟩ := hrel
    by_cases hlt : u < N
    · have hsucc := firstTo_succ u
      by_cases h0 : u = 0
      · rw [if_pos h0] at hsucc
        have e0 : ((u : Int) == 0) = true := by rw [beq_iff_eq]; omega
        have hbx : Below wr.heap.size wr ((wr.alloc (.cells #[] 3)).alloc (.cells #[.int .i64 1] 3)) := (by repeat (first | with_reducible exact Below.refl _ _ | with_reducible assumption | with_reducible refine below_drewN ?_ _ | with_reducible refine Below.drew ?_ | (with_reducible refine Below.alloc ?_ ?_ _; rotate_left; · first | (simp; done) | (simp; omega) | exact Below.size (by assumption) | (have hsz := Below.size (by assumption : Below _ _ _); simp at hsz ⊢; omega)) | (with_reducible refine Below.setCell ?_ ?_ _; rotate_left; · first | (simp; done) | (simp; omega))))
        have hop : Own ((wr.alloc (.cells #[] 3)).alloc (.cells #[.int .i64 1] 3)) E (wr.heap.size + 1) 1 [1] := by
          have := Own.new (w := wr.alloc (.cells #[] 3)) (B := E) 1 (by simp; omega)
          simpa using this
        have hox := ho.below hbx
        have hTx := hT.below hbx hE
        have hBx := hb.trans (hbx.mono hb.size)
        have hne : ∀ s ∈ rs, s.1 ≠ wr.heap.size + 1 := fun s hs e => by have := (ho.2.1 s hs).lt; omega
        have hEx := Nat.le_trans hE hbx.size
        have hl4 : Hid ((rs ++ [(wr.heap.size + 1, 1, [(1 : Int)])]).length = u + 1) := Lib.hid (by rw [List.length_append, hrl.out]; rfl)
        have hcn4 : Hid (contents (rs ++ [(wr.heap.size + 1, 1, [(1 : Int)])]) = firstTo (u + 1)) := Lib.hid (by rw [contents_append, hrc.out, hsucc])
        clear hsucc h0 ho hT hb hbx
        go_wp2_with (at_builtin; refine wpList_append_row (w := (wr.alloc (.cells #[] 3)).alloc (.cells #[.int .i64 1] 3)) rfl _ _ rfl E g cg u (wr.heap.size + 1 + 1) rs (wr.heap.size + 1, 1, [1]) _ hrl.out rfl (by simp) hox hop hne rfl rfl (by omega) ?_)
        intro g6 c6 w6 ho6 hg6 hor6
        have hOn := Only.of_grown (B := g) (E := g + 1) hg6 (Nat.le_refl _) (Nat.lt_succ_self _)
        have hB6 := hBx.grown hg6 hBx.size (by intro t ht; cases ht; have := hox.base; omega)
        have hT6 := hTx.only hOn (.inl hox.base)
        have hE6 := Nat.le_trans hEx hg6.size
        clear hox hop hTx hBx hEx hg6 hOn hor6 hne
        go_wp2_with fail
        go_roundw
        case rel => exact ⟨u + 1, g6, c6, _, by omega, by go_num, rfl, hl4.out, hcn4.out, ho6, hT6, hE6, hB6⟩
        case measure => simp [intOf]; omega
      · rw [if_neg h0] at hsucc
        have e0 : ((u : Int) == 0) = false := by rw [beq_eq_false_iff_ne]; omega
        have hbx : Below wr.heap.size wr (wr.alloc (.cells #[] 3)) := (by repeat (first | with_reducible exact Below.refl _ _ | with_reducible assumption | with_reducible refine below_drewN ?_ _ | with_reducible refine Below.drew ?_ | (with_reducible refine Below.alloc ?_ ?_ _; rotate_left; · first | (simp; done) | (simp; omega) | exact Below.size (by assumption) | (have hsz := Below.size (by assumption : Below _ _ _); simp at hsz ⊢; omega)) | (with_reducible refine Below.setCell ?_ ?_ _; rotate_left; · first | (simp; done) | (simp; omega))))
        have hop : Own (wr.alloc (.cells #[] 3)) E wr.heap.size 0 [] := Own.empty hE
        have hox := ho.below hbx
        have hTx := hT.below hbx hE
        have hBx := hb.trans (hbx.mono hb.size)
        have hne : ∀ s ∈ rs, s.1 ≠ wr.heap.size := fun s hs e => by have := (ho.2.1 s hs).lt; omega
        have hEx := Nat.le_trans hE hbx.size
        have hl4 : Hid ((rs ++ [(wr.heap.size, 0, ([] : List Int))]).length = u + 1) := Lib.hid (by rw [List.length_append, hrl.out]; rfl)
        have hcn4 : Hid (contents (rs ++ [(wr.heap.size, 0, ([] : List Int))]) = firstTo (u + 1)) := Lib.hid (by rw [contents_append, hrc.out, hsucc])
        clear hsucc h0 ho hT hb hbx
        go_wp2_with (at_builtin; refine wpList_append_row (w := wr.alloc (.cells #[] 3)) rfl _ _ rfl E g cg u (wr.heap.size + 1) rs (wr.heap.size, 0, []) _ hrl.out rfl (by simp) hox hop hne rfl rfl (by omega) ?_)
        intro g6 c6 w6 ho6 hg6 hor6
        have hOn := Only.of_grown (B := g) (E := g + 1) hg6 (Nat.le_refl _) (Nat.lt_succ_self _)
        have hB6 := hBx.grown hg6 hBx.size (by intro t ht; cases ht; have := hox.base; omega)
        have hT6 := hTx.only hOn (.inl hox.base)
        have hE6 := Nat.le_trans hEx hg6.size
        clear hox hop hTx hBx hEx hg6 hOn hor6 hne
        go_wp2_with fail
        go_roundw
        case rel => exact ⟨u + 1, g6, c6, _, by omega, by go_num, rfl, hl4.out, hcn4.out, ho6, hT6, hE6, hB6⟩
        case measure => simp [intOf]; omega
    · obtain rfl : u = N := by omega
      obtain ⟨w3, hw3⟩ : ∃ w3, w3 = wr.alloc (.cells #[tabVal (g, cg, rs)] 22) := ⟨_, rfl⟩
      have hb3 : Below wr.heap.size wr w3 := by rw [hw3]; exact (Below.refl _ _).alloc (Nat.le_refl _) _
      have hO3 : Own3 w3 E wr.heap.size 1 [(g, cg, rs)] := by rw [hw3]; exact Own3.one ho hE
      have hT3 := hT.below hb3 hE
      have hB3 := hb.trans (hb3.mono hb.size)
      have hE3 := Nat.le_trans hE hb3.size
      have hR3 : Hid (cont3 [(g, cg, rs)] = rowsTo L T 0) := Lib.hid (by
        show [contents rs] = [firstTo L.length]
        rw [hrc.out, HH.out.len])
      rw [show tabVal (g, cg, rs) = (Value.slice (some ⟨g, 0, none⟩) u cg) by unfold tabVal; rw [hrl.out]] at hw3
      clear ho hT hb hE hb3
      go_wp2_with fail
      rw [← hw3]
      generalize wr.heap.size = H3 at *
      clear hw3
      go_loopw [11, 12, 13] (fun rv kv _ wr => ∃ (k g c : Nat) (rr : List TabRef), k ≤ t ∧ kv = .int .i64 ((k + 1 : Nat) : Int) ∧ rv = (Value.slice (some ⟨g, 0, none⟩) (k + 1) c) ∧ Hid (rr.length = k + 1) ∧ Hid (cont3 rr = rowsTo L T k) ∧ Own3 wr E g c rr ∧ HeldR wr w.heap.size E gT cT T ∧ E ≤ wr.heap.size ∧ Below w.heap.size w wr) (fun _ kv _ _ => t + 1 - (intOf kv).toNat)
      case atStart => exact ⟨0, H3, 1, [(g, cg, rs)], Nat.zero_le _, rfl, rfl, rfl, hR3.out, hO3, hT3, hE3, hB3⟩
      case round =>
        clear hO3 hT3 hE3 hB3
        obtain ⟨k, g3, c3, rr, hk, rfl, rfl, hrl3, hR, hO, hT, hE, hb⟩ := hrel
        by_cases hkt : k < t
        · have hkI : ((k + 1 : Nat) : Int) ≤ (t : Int) := by omega
          have hRl := rowsTo_length L T k
          have hnx := spec_l23Next_ok gl cl gT cT g3 c3 c.length u (k + 1) L T (rowsTo L T k) wr HH.out (by omega) (by omega) (Nat.lt_of_lt_of_le hgl hb.size) hT.lt hO.lt (HL.out.below hb hgl) hT.rows2 (fun i x _ => klRows_len HH.out k (by omega) i x)
            (fun i hi => by rw [rowsTo_row k i (by omega), HH.out.len]) (fun i hi => RowAt.of3 hO hR.out (by omega) (by rw [rowsTo_row k i (by omega), HH.out.len]))
          have hsu := rowsTo_succ L T k
          rw [HH.out.len] at hsu
          have hnl : (nextTo' L T (rowsTo L T k) (k + 1) u).length = u := by simp [nextTo']
          generalize nextTo' L T (rowsTo L T k) (k + 1) u = X at *
          have Hnx := Lib.hid hnx; have Hsu := Lib.hid hsu; have Hnl := Lib.hid hnl
          have ek : ((k + 1 : Nat) : Int) = (k : Int) + 1 := by omega
          rw [ek] at Hnx
          clear hnx hsu hnl hRl ek
          go_wp2_with fail
          refine Hnx.out.mono ?_
          rintro e w4 ⟨g4, c4, rs4, rfl, hc4, ho4, hb4⟩
          rw [Hnl.out]
          have hO4 := hO.below hb4
          have hT4 := hT.below hb4 hE
          have hB4 := hb.trans (hb4.mono hb.size)
          have hE4 := Nat.le_trans hE hb4.size
          have ho4' := ho4.mono hE
          have hl4 : rs4.length = u := by rw [← contents_length, hc4]; exact Hnl.out
          have htv : tabVal (g4, c4, rs4) = (Value.slice (some ⟨g4, 0, none⟩) u c4) := by unfold tabVal; rw [hl4]
          have hl5 : Hid ((rr ++ [(g4, c4, rs4)]).length = k + 1 + 1) := Lib.hid (by rw [List.length_append, hrl3.out]; rfl)
          have hR5 : Hid (cont3 (rr ++ [(g4, c4, rs4)]) = rowsTo L T (k + 1)) := Lib.hid (by rw [cont3_append, hR.out, Hsu.out, ← hc4]; rfl)
          have HTv := Lib.hid htv
          clear hO hT hb hE ho4 hb4 Hnx hc4 hl4 htv
          go_wp2_with (at_builtin; refine wpList_append_tab (w := w4) rfl _ _ rfl E g3 c3 (k + 1) w4.heap.size rr (g4, c4, rs4) _ hrl3.out (by rw [HTv.out]) rfl hO4 ho4' rfl rfl (by omega) ?_)
          intro g6 c6 w6 hO6 hg6 hor6
          have hOn := Only.of_grown (B := g3) (E := g3 + 1) hg6 (Nat.le_refl _) (Nat.lt_succ_self _)
          have hB6 := hB4.grown hg6 hB4.size (by intro t ht; cases ht; have := hO4.base; omega)
          have hT6 := hT4.only hOn (.inl hO4.base)
          have hE6 := Nat.le_trans hE4 hg6.size
          clear hO4 hT4 hB4 hE4 ho4' hg6 hOn hor6
          go_wp2_with fail
          go_roundw
          case rel => exact ⟨k + 1, g6, c6, _, by omega, by go_num, rfl, hl5.out, hR5.out, hO6, hT6, hE6, hB6⟩
          case measure => simp [intOf]; omega
        · obtain rfl : k = t := by omega
          have hkI : ¬ ((k + 1 : Nat) : Int) ≤ (k : Int) := by omega
          go_wp2_with fail
          go_ret
          exact Got3.mk' g3 c3 rr (rowsTo_length _ _ _) hR.out (hO.mono hE0) hb
end Go.Proofs.YtobeigdjhepedaaGreatDoor
namespace Go.Proofs.YtobeigdjhepedaaGreatDoor
set_option maxRecDepth 100000
open Go.RowKit Game

def muRow (L : List (List Int)) (R : List (List (List Int))) (i t : Nat) : List Int := (List.range t).map (musS L R i)
theorem muRow_succ (L : List (List Int)) (R : List (List (List Int))) (i t : Nat) : muRow L R i (t + 1) = muRow L R i t ++ [musS L R i t] := by simp [muRow, List.range_succ]
theorem muRow_length (L : List (List Int)) (R : List (List (List Int))) (i t : Nat) : (muRow L R i t).length = t := by simp [muRow]
def muMat (L : List (List Int)) (R : List (List (List Int))) (N t : Nat) : List (List Int) := (List.range t).map fun i => muRow L R i N
theorem muMat_succ (L : List (List Int)) (R : List (List (List Int))) (N t : Nat) : muMat L R N (t + 1) = muMat L R N t ++ [muRow L R t N] := by simp [muMat, List.range_succ]
theorem muMat_length (L : List (List Int)) (R : List (List (List Int))) (N t : Nat) : (muMat L R N t).length = t := by simp [muMat]

set_option maxRecDepth 100000 in
set_option maxHeartbeats 2000000 in
theorem spec_l24Mus_ok (gc oc n cc gl cl N : Nat) (c L : List (List Int)) (w : World) (hn : c.length = n) (hC : IsC c) (H : KlOk c.length N L (leftT c)) (hN : 0 < N) (hgc : gc < w.heap.size) (hr : Rows2 w gc oc c) (hgl : gl < w.heap.size) (hL : Rows2 w gl 0 L) :
    Calls Tryz.prog 77 #[(Value.slice (some ⟨gc, oc, none⟩) n cc), (Value.slice (some ⟨gl, 0, none⟩) N cl)] w (GotRows w (muMat L (rowsS L (leftT c)) N N)) := by
  have hT0 := Lib.hid (spec_l23Rows_ok gc oc n cc gl cl N (N - 1) c L w hn hC H (by omega) hgc hr hgl hL)
  have hRr : ∀ i, i < N → ((rowsTo L (leftT c) (N - 1)).getD i []).length = N := fun i hi => by rw [rowsTo_row _ i (by omega), H.len]
  have hRl : ∀ i u, (pol (rowsTo L (leftT c) (N - 1)) i u).length ≤ 100 + i := fun i u => klRows_len H _ (by omega) i u
  have hRn := rowsTo_length L (leftT c) (N - 1)
  have e1 : rowsS L (leftT c) = rowsTo L (leftT c) (N - 1) := by unfold rowsS; rw [H.len]
  rw [e1]
  have ewN : IntKind.i64.wrap ((N : Int) - 1) = ((N - 1 : Nat) : Int) := by have := H.few; rw [IntWalk.i64_in _ (by omega)]; omega
  have ewN2 : (N : Int) - 1 = ((N - 1 : Nat) : Int) := by omega
  have hlen := H.len
  have hsh := H.short
  have hN24 := H.few
  clear hr hC H e1
  generalize rowsTo L (leftT c) (N - 1) = R at *
  have HRr := Lib.hid hRr; have HRl := Lib.hid hRl; have HL := Lib.hid hL; have Hlen := Lib.hid hlen; have Hsh := Lib.hid hsh; have HRn := Lib.hid hRn
  clear hRr hRl hL hlen hsh hRn
  go_enter Tryz.func77, Tryz.ntmps77
  go_wp2_with fail
  refine hT0.out.mono ?_
  rintro e w1 ⟨gR, cR, rr, rfl, hcR, hoR, hb1⟩
  have hgl1 := Nat.lt_of_lt_of_le hgl hb1.size
  have HL1 := Lib.hid (HL.out.below hb1 hgl)
  have HR := Lib.hid (fun (i : Nat) (hi : i < N) => RowAt.of3 hoR hcR (i := i) (N := N) (by rw [HRn.out]; omega) (HRr.out i hi))
  have hRlen : R.length = N := by rw [HRn.out]; omega
  rw [hRlen]
  have hgR := hoR.lt
  clear hcR hoR hT0 HL ewN ewN2 hRlen
  obtain ⟨w2, hw2⟩ : ∃ w2, w2 = w1.alloc (.cells #[] 28) := ⟨_, rfl⟩
  have hO2 : OwnRows w2 w1.heap.size w1.heap.size 0 [] := by rw [hw2]; exact OwnRows.empty (Nat.le_refl _)
  have hb2 : Below w1.heap.size w1 w2 := by rw [hw2]; exact (Below.refl _ _).alloc (Nat.le_refl _) _
  go_wp2_with fail
  rw [← hw2]
  clear hw2
  go_loopw [6, 7, 8, 9, 10] (fun ov iv _ _ _ wr => ∃ (i g c : Nat) (rs : List RowRef), i ≤ N ∧ iv = .int .i64 (i : Nat) ∧ ov = (Value.slice (some ⟨g, 0, none⟩) i c) ∧ Hid (rs.length = i) ∧ Hid (contents rs = muMat L R N i) ∧ OwnRows wr w1.heap.size g c rs ∧ Below w1.heap.size w1 wr) (fun _ iv _ _ _ _ => N - (intOf iv).toNat)
  case atStart => exact ⟨0, w1.heap.size, 0, [], Nat.zero_le _, rfl, rfl, rfl, rfl, hO2, hb2⟩
  case round =>
    clear hO2 hb2
    obtain ⟨i, g, cg, rs, hi, rfl, rfl, hrl, hrc, ho, hb⟩ := hrel
    by_cases hlt : i < N
    · obtain ⟨wr1, hwr1⟩ : ∃ wr1, wr1 = wr.alloc (.cells #[] 3) := ⟨_, rfl⟩
      have hbr : Below wr.heap.size wr wr1 := by rw [hwr1]; exact (Below.refl _ _).alloc (Nat.le_refl _) _
      have hor : Own wr1 wr.heap.size wr.heap.size 0 [] := by rw [hwr1]; exact Own.empty (w := wr) (Nat.le_refl _)
      go_wp2_with fail
      rw [← hwr1]
      generalize wr = wo at *
      go_loopw [8, 9, 10] (fun lv kv _ wj => ∃ (k g c : Nat), k ≤ N ∧ kv = .int .i64 (k : Nat) ∧ lv = (Value.slice (some ⟨g, 0, none⟩) k c) ∧ Own wj wo.heap.size g c (muRow L R i k) ∧ Below wo.heap.size wo wj) (fun _ kv _ _ => N - (intOf kv).toNat)
      case atStart => exact ⟨0, wo.heap.size, 0, Nat.zero_le _, rfl, rfl, hor, hbr⟩
      case round =>
        clear hor hbr hwr1
        obtain ⟨k, gp, cp, hk, rfl, rfl, hoP, hbP⟩ := hrel
        by_cases hkN : k < N
        · have hB := hb.trans (hbP.mono hb.size)
          obtain ⟨g5', o5', c5', li, -, -, -⟩ := HL1.out i (by rw [Hlen.out]; exact hlt)
          obtain ⟨g6', o6', c6', lk, -, -, -⟩ := HL1.out k (by rw [Hlen.out]; exact hkN)
          obtain ⟨gK, cK, r1, r2, r3⟩ := HR.out k hkN
          obtain ⟨ga, oa, ca, d1, -, d3, d4⟩ := r3 i (by rw [HRr.out k hkN]; exact hlt)
          obtain ⟨gZ, cZ, s1, s2, s3⟩ := HR.out i hlt
          obtain ⟨gq, oq, cq, e1, -, e3, e4⟩ := s3 k (by rw [HRr.out i hlt]; exact hkN)
          have y0 := HRl.out k i
          have y1 := HRl.out i k
          have hks := Hsh.out k
          have his := Hsh.out i
          have hmu := fun (W : World) (hs : Below w1.heap.size w1 W) => spec_l23Mu_any ga oa _ ca ((lenA L k : Int) - lenA L i) (pol R k i) W rfl (by omega) (by omega) (d4.below hs d3)
          have hmu2 := fun (W : World) (hs : Below w1.heap.size w1 W) => spec_l23Mu_any gq oq _ cq ((lenA L i : Int) - lenA L k) (pol R i k) W rfl (by omega) (by omega) (e4.below hs e3)
          have hsucc := muRow_succ L R i k
          have hll := muRow_length L R i k
          have hmm : musS L R i k = if lenA L k < lenA L i then muS (pol R i k) ((lenA L i : Int) - lenA L k) else muS (pol R k i) ((lenA L k : Int) - lenA L i) := rfl
          rw [hmm] at hsucc
          change w1.cell? _ = some (Value.slice (some ⟨_, _, none⟩) (lenA L i) _) at li
          change w1.cell? _ = some (Value.slice (some ⟨_, _, none⟩) (lenA L k) _) at lk
          change w1.cell? _ = some (Value.slice (some ⟨_, _, none⟩) ((pol R k i).length) _) at d1
          change w1.cell? _ = some (Value.slice (some ⟨_, _, none⟩) ((pol R i k).length) _) at e1
          generalize muS (pol R k i) ((lenA L k : Int) - lenA L i) = m1 at *
          generalize muS (pol R i k) ((lenA L i : Int) - lenA L k) = m2 at *
          generalize pol R k i = p1 at *
          generalize pol R i k = p2 at *
          generalize lenA L i = lI at *
          generalize lenA L k = lK at *
          rw [Nat.zero_add] at li lk d1 e1
          have Hmu := Lib.hid (fun (W : World) (h : ∃ q, W = wr.drewN q) => hmu W (below_still hB h))
          have Hmu2 := Lib.hid (fun (W : World) (h : ∃ q, W = wr.drewN q) => hmu2 W (below_still hB h))
          have ewl : IntKind.i64.wrap ((lK : Int) - (lI : Int)) = (lK : Int) - (lI : Int) := IntWalk.i64_in _ (by omega)
          have ewl2 : IntKind.i64.wrap ((lI : Int) - (lK : Int)) = (lI : Int) - (lK : Int) := IntWalk.i64_in _ (by omega)
          have q1 := (hB.cell (p := ⟨gR, k, none⟩) hgR).trans r1
          have q2 := (hB.cell (p := ⟨gK, i, none⟩) r2).trans d1
          have q3 := (hB.cell (p := ⟨gl, k, none⟩) hgl1).trans lk
          have q4 := (hB.cell (p := ⟨gl, i, none⟩) hgl1).trans li
          have q5 := (hB.cell (p := ⟨gR, i, none⟩) hgR).trans s1
          have q6 := (hB.cell (p := ⟨gZ, k, none⟩) s2).trans e1
          have Hll := Lib.hid hll
          clear r1 r3 s1 s3 d1 d4 e1 e4 li lk hmu hmu2 hmm hll
          by_cases hcmp : lK < lI
          · rw [if_pos hcmp] at hsucc
            have Hsu := Lib.hid hsucc
            have hcd : decide (lK < lI) = true := decide_eq_true hcmp
            clear hsucc
            go_wp2_with fail
            go_quiet ((go_at_call 119; first | with_reducible exact Calls.quiet_of (Hmu.out _ ⟨_, rfl⟩) | with_reducible exact Reads.quiet4 (Hmu.out _ ⟨_, rfl⟩)))
            generalize nq = nq1 at *
            go_wp2_with fail
            go_quiet (fail)
            generalize nq = nq2 at *
            go_wp2_with fail
            go_quiet ((go_at_call 119; first | with_reducible exact Calls.quiet_of (Hmu2.out _ ⟨_, rfl⟩) | with_reducible exact Reads.quiet4 (Hmu2.out _ ⟨_, rfl⟩)))
            have hbQ := below_drewN hbP (nq1 + nq2 + nq)
            have hoQ : Own (wr.drewN (nq1 + nq2 + nq)) wo.heap.size gp cp (muRow L R i k) := hoP
            clear q1 q2 q3 q4 q5 q6 hB hbP hoP
            go_wp2_with (at_builtin; refine wpList_append_int_n (w := wr.drewN (nq1 + nq2 + nq)) rfl _ _ rfl wo.heap.size gp cp k (muRow L R i k) m2 Hll.out hoQ rfl rfl (by omega) ?_)
            intro g6 c6 w6 ho6 hg6 _
            rw [← Hsu.out] at ho6
            have hb6 := hbQ.grown hg6 hbQ.size (by intro t ht; cases ht; exact hoQ.base)
            clear hoQ hbQ hg6
            go_wp2_with fail
            go_roundw
            case rel => exact ⟨k + 1, g6, c6, by omega, by go_num, rfl, ho6, hb6⟩
            case measure => simp [intOf]; omega
          · rw [if_neg hcmp] at hsucc
            have Hsu := Lib.hid hsucc
            have hcd : decide (lK < lI) = false := decide_eq_false hcmp
            clear hsucc
            go_wp2_with fail
            go_quiet ((go_at_call 119; first | with_reducible exact Calls.quiet_of (Hmu.out _ ⟨_, rfl⟩) | with_reducible exact Reads.quiet4 (Hmu.out _ ⟨_, rfl⟩)))
            generalize nq = nq1 at *
            go_wp2_with fail
            go_quiet (fail)
            have hbQ := below_drewN hbP (nq1 + nq)
            have hoQ : Own (wr.drewN (nq1 + nq)) wo.heap.size gp cp (muRow L R i k) := hoP
            clear q1 q2 q3 q4 q5 q6 hB hbP hoP
            go_wp2_with (at_builtin; refine wpList_append_int_n (w := wr.drewN (nq1 + nq)) rfl _ _ rfl wo.heap.size gp cp k (muRow L R i k) m1 Hll.out hoQ rfl rfl (by omega) ?_)
            intro g6 c6 w6 ho6 hg6 _
            rw [← Hsu.out] at ho6
            have hb6 := hbQ.grown hg6 hbQ.size (by intro t ht; cases ht; exact hoQ.base)
            clear hoQ hbQ hg6
            go_wp2_with fail
            go_roundw
            case rel => exact ⟨k + 1, g6, c6, by omega, by go_num, rfl, ho6, hb6⟩
            case measure => simp [intOf]; omega
        · obtain rfl : k = N := by omega
          have hB := hb.trans (hbP.mono hb.size)
          have ho1 := ho.below hbP
          have hoP1 := hoP.mono hb.size
          have hne : ∀ s ∈ rs, s.1 ≠ gp := fun s hs e => by have := (ho.2.1 s hs).lt; have := hoP.base; omega
          have hl4 : Hid ((rs ++ [(gp, cp, muRow L R i k)]).length = i + 1) := Lib.hid (by rw [List.length_append, hrl.out]; rfl)
          have hcn4 : Hid (contents (rs ++ [(gp, cp, muRow L R i k)]) = muMat L R k (i + 1)) := Lib.hid (by rw [contents_append, hrc.out, muMat_succ])
          have Hll := Lib.hid (muRow_length L R i k)
          go_wp2_with (at_builtin; refine wpList_append_row (w := wr) rfl _ _ rfl w1.heap.size g cg i wr.heap.size rs (gp, cp, muRow L R i k) _ hrl.out (by unfold rowVal; rw [Hll.out]) rfl ho1 hoP1 hne rfl rfl (by omega) ?_)
          intro g6 c6 w6 ho6 hg6 hor6
          have hB2 := hB.grown hg6 hB.size (by intro t ht; cases ht; exact ho1.base)
          clear ho1 hoP1 hB hg6 hne hor6 ho hoP hb hbP
          go_wp2_with fail
          go_roundw
          case rel => exact ⟨i + 1, g6, c6, _, by omega, by go_num, rfl, hl4.out, hcn4.out, ho6, hB2⟩
          case measure => simp [intOf]; omega
    · obtain rfl : i = N := by omega
      go_wp2_with fail
      go_ret
      exact ⟨g, cg, rs, by rw [muMat_length]; rfl, hrc.out, ho.mono hb1.size, hb1.trans (hb.mono hb1.size)⟩
end Go.Proofs.YtobeigdjhepedaaGreatDoor
namespace Go.Proofs.YtobeigdjhepedaaGreatDoor
set_option maxRecDepth 100000
open Go.RowKit Game

set_option maxHeartbeats 1000000 in
theorem spec_l24Inside_any (g1 o1 n1 c1 g2 o2 n2 c2 : Nat) (a b : List Int) (w : World) (hn1 : a.length = n1) (hn2 : b.length = n2) (hx : n1 ≤ 1048576) (hy : n2 ≤ 1048576) (h1 : Cells w g1 o1 a) (h2 : Cells w g2 o2 b) :
    Calls Tryz.prog 78 #[(Value.slice (some ⟨g1, o1, none⟩) n1 c1), (Value.slice (some ⟨g2, o2, none⟩) n2 c2)] w (Reads w (.bool (insB a b))) := by
  have Hn1 := Lib.hid hn1
  have HH := Lib.hid (fun (x : Int) (W : World) (hs : ∃ q, W = w.drewN q) => spec_l3Has_ok g2 o2 n2 c2 x b W hn2 hy (h2.still hs))
  clear hn1 hn2 h2
  go_enter Tryz.func78, Tryz.ntmps78
  go_wp2_with fail
  go_loopw [5] (fun iv wr => ∃ i : Nat, i ≤ n1 ∧ iv = .int .i64 (i : Nat) ∧ Hid (∀ j, j < i → a.getD j 0 ∈ b) ∧ ∃ m, wr = w.drewN m) (fun iv _ => n1 - (intOf iv).toNat)
  case atStart => exact ⟨0, Nat.zero_le _, rfl, fun j hj => absurd hj (by omega), (by first | exact ⟨_, rfl⟩ | exact ⟨0, rfl⟩ | exact still2 _ _ _ | exact still3 _ _ _ _)⟩
  case round =>
    obtain ⟨i, hi, rfl, hall, m, rfl⟩ := hrel
    by_cases hlt : i < n1
    · have q := h1 i (by rw [Hn1.out]; exact hlt)
      have K := HH.out (a.getD i 0) (w.drewN m) ⟨m, rfl⟩
      by_cases hm : a.getD i 0 ∈ b
      · rw [decide_eq_true hm] at K
        have K := Lib.hid K
        have ha2 := Lib.hid (show ∀ j, j < i + 1 → a.getD j 0 ∈ b from fun j hj => by
          by_cases e : j = i
          · subst e; exact hm
          · exact hall.out j (by omega))
        clear hall hm
        generalize a.getD i 0 = x at *
        go_wp2_with fail
        refine K.out.mono ?_
        rintro e w2 ⟨rfl, m2, rfl⟩
        go_wp2_with fail
        go_roundw
        case rel => exact ⟨i + 1, by omega, by go_num, ha2.out, (by first | exact ⟨_, rfl⟩ | exact ⟨0, rfl⟩ | exact still2 _ _ _ | exact still3 _ _ _ _)⟩
        case measure => simp [intOf]; omega
      · rw [decide_eq_false hm] at K
        have K := Lib.hid K
        have hf : insB a b = false := by
          unfold insB
          rw [List.all_eq_false]
          refine ⟨a.getD i 0, ?_, by simpa using hm⟩
          have : i < a.length := by rw [Hn1.out]; exact hlt
          simp [List.getD, this]
        have Hf := Lib.hid hf
        clear hall hm hf
        generalize a.getD i 0 = x at *
        go_wp2_with fail
        refine K.out.mono ?_
        rintro e w2 ⟨rfl, m2, rfl⟩
        go_wp2_with fail
        go_ret
        exact ⟨by rw [Hf.out]; rfl, (by first | exact ⟨_, rfl⟩ | exact ⟨0, rfl⟩ | exact still2 _ _ _ | exact still3 _ _ _ _)⟩
    · obtain rfl : i = n1 := by omega
      have hf : insB a b = true := by
        unfold insB
        rw [List.all_eq_true]
        intro x hx
        obtain ⟨j, hj, e⟩ := List.mem_iff_getElem.1 hx
        have := hall.out j (by rw [← Hn1.out]; exact hj)
        rw [show a.getD j 0 = x by simp [List.getD, hj, e]] at this
        simpa using this
      have Hf := Lib.hid hf
      clear hall hf
      go_wp2_with fail
      go_ret
      exact ⟨by rw [Hf.out]; rfl, (by first | exact ⟨_, rfl⟩ | exact ⟨0, rfl⟩ | exact still2 _ _ _ | exact still3 _ _ _ _)⟩
def GotArrB (w : World) (A : List Arr) (b : Bool) (e : Ending) (w' : World) : Prop :=
  ∃ g cap, e = .returned (.tuple #[(Value.slice (some ⟨g, 0, none⟩) A.length cap), .bool b]) ∧ OwnArr w' w.heap.size g cap A ∧ Below w.heap.size w w'
theorem GotArrB.mk' {w w' : World} {A : List Arr} {b : Bool} {n : Nat} (g cap : Nat) (hn : A.length = n) (ho : OwnArr w' w.heap.size g cap A) (hb : Below w.heap.size w w') : GotArrB w A b (.returned (.tuple #[(Value.slice (some ⟨g, 0, none⟩) n cap), .bool b])) w' := by
  subst hn; exact ⟨g, cap, rfl, ho, hb⟩

theorem spec_WGraph_no (gc oc n cc : Nat) (c : List (List Int)) (w : World) (hn : c.length = n) (hx : c.length ≤ 1048576) (hrl : ∀ j, j < c.length → (c.getD j []).length ≤ 1048576) (hk : klB c = false) (hgc : gc < w.heap.size) (hr : Rows2 w gc oc c) :
    Calls Tryz.prog 39 #[(Value.slice (some ⟨gc, oc, none⟩) n cc)] w (GotArrB w [] false) := by
  have hX : Below w.heap.size w (w.alloc (.cells #[] 76)) := (by repeat (first | with_reducible exact Below.refl _ _ | with_reducible assumption | with_reducible refine below_drewN ?_ _ | with_reducible refine Below.drew ?_ | (with_reducible refine Below.alloc ?_ ?_ _; rotate_left; · first | (simp; done) | (simp; omega) | exact Below.size (by assumption) | (have hsz := Below.size (by assumption : Below _ _ _); simp at hsz ⊢; omega)) | (with_reducible refine Below.setCell ?_ ?_ _; rotate_left; · first | (simp; done) | (simp; omega))))
  have hE : OwnArr (w.alloc (.cells #[] 76)) w.heap.size w.heap.size 0 [] := OwnArr.empty (Nat.le_refl _)
  have hc := spec_l23Ready_any gc oc n cc c (w.alloc (.cells #[] 76)) hn hx hrl (Nat.lt_of_lt_of_le hgc hX.size) (hr.below hX hgc)
  rw [hk] at hc
  have Hc := Lib.hid hc
  clear hc hr hrl hk
  go_enter Tryz.func39, Tryz.ntmps39
  go_wp2_with fail
  refine Hc.out.mono ?_
  rintro e w1 ⟨g1, c1, rs1, rfl, -, ho1, hb1⟩
  have hb := hX.trans (hb1.mono hX.size)
  have hE1 := hE.below hb1 hE.lt
  go_wp2_with fail
  go_ret2
  exact ⟨_, _, rfl, hE1, hb⟩

set_option maxRecDepth 100000 in
set_option maxHeartbeats 4000000 in
theorem spec_WGraph_yes (gc oc n cc : Nat) (c : List (List Int)) (w : World) (hn : c.length = n) (hk : klB c = true) (hgc : gc < w.heap.size) (hr : Rows2 w gc oc c) :
    Calls Tryz.prog 39 #[(Value.slice (some ⟨gc, oc, none⟩) n cc)] w (GotArrB w (arrS c (elemL c) (rowsS (elemL c) (leftT c))) true) := by
  have H := klOk_of hk
  have hG := klB_grp hk
  have hC := hG.hC
  have hn4 := hC.2.1
  have hX : Below w.heap.size w (w.alloc (.cells #[] 76)) := (by repeat (first | with_reducible exact Below.refl _ _ | with_reducible assumption | with_reducible refine below_drewN ?_ _ | with_reducible refine Below.drew ?_ | (with_reducible refine Below.alloc ?_ ?_ _; rotate_left; · first | (simp; done) | (simp; omega) | exact Below.size (by assumption) | (have hsz := Below.size (by assumption : Below _ _ _); simp at hsz ⊢; omega)) | (with_reducible refine Below.setCell ?_ ?_ _; rotate_left; · first | (simp; done) | (simp; omega))))
  have hE : OwnArr (w.alloc (.cells #[] 76)) w.heap.size w.heap.size 0 [] := OwnArr.empty (Nat.le_refl _)
  have hrl : ∀ j, j < c.length → (c.getD j []).length ≤ 1048576 := fun j hj => by rw [hC.2.2.1 j hj]; omega
  have hc := spec_l23Ready_any gc oc n cc c (w.alloc (.cells #[] 76)) hn (by omega) hrl (Nat.lt_of_lt_of_le hgc hX.size) (hr.below hX hgc)
  rw [hk, show klL c = elemL c from if_pos hk] at hc
  have Hc := Lib.hid hc
  have hw := fun k (hk' : k < (elemL c).length) => elem_isWord hk hk'
  have hN0 : 0 < (elemL c).length := by have := (klB_len hk).2; have := (klB_iff c).1 hk; omega
  have hM := fun (W : World) (g1 c1 : Nat) (hb : Below w.heap.size w W) (h1 : g1 < W.heap.size) (hL : Rows2 W g1 0 (elemL c)) => spec_l24Mus_ok gc oc n cc g1 c1 (elemL c).length c (elemL c) W hn hC H hN0 (Nat.lt_of_lt_of_le hgc hb.size) (hr.below hb hgc) h1 hL
  have hD := fun (W : World) (k g o cp : Nat) (hk' : k < (elemL c).length) (hb : Below w.heap.size w W) (h1 : g < W.heap.size) (hv : Cells W g o ((elemL c).getD k [])) => spec_LeftDescents_any gc oc n cc g o _ cp c ((elemL c).getD k []) W hn rfl (by omega) hrl (by have := H.short k; unfold lenA at this; omega) (Nat.lt_of_lt_of_le hgc hb.size) h1 (hr.below hb hgc) hv
  have hdk : ∀ k, k < (elemL c).length → leftA c ((elemL c).getD k []) = desK c ((elemL c).getD k []) := fun k hk' => (desK_eq (hw k hk')).symm
  have hdl : ∀ v, (desK c v).length ≤ 24 := fun v => by
    unfold desK; rw [List.length_map]; exact Nat.le_trans (List.length_filter_le _ _) (by simp; omega)
  have hfew := H.few
  have hshort := H.short
  clear hc hr hrl hk hG hC hw H
  generalize rowsS (elemL c) (leftT c) = R at *
  generalize elemL c = L at *
  obtain ⟨N, hNL⟩ : ∃ N, L.length = N := ⟨_, rfl⟩
  have HNL := Lib.hid hNL
  unfold arrS
  have hlenR := fun t => arrSRow_len c L R (by omega) t
  have hlenT := fun i t => arrSTo_len c L R i t
  rw [hNL] at hfew hN0 hM hD hdk ⊢
  have HM := Lib.hid hM; have HD := Lib.hid hD; have Hdk := Lib.hid hdk; have Hdl := Lib.hid hdl; have HlR := Lib.hid hlenR; have HlT := Lib.hid hlenT; have Hsh := Lib.hid hshort
  clear hNL hM hD hdk hdl hlenR hlenT hshort
  go_enter Tryz.func39, Tryz.ntmps39
  go_wp2_with fail
  refine Hc.out.mono ?_
  rintro e w1 ⟨g1, c1, rs1, rfl, hcr1, hO1, hb1⟩
  rw [HNL.out]
  obtain ⟨w0, hw0⟩ : ∃ w0, w0 = w.alloc (.cells #[] 76) := ⟨_, rfl⟩
  rw [← hw0] at hb1 hO1 hE hX
  have hL1 : HeldR w1 w0.heap.size w1.heap.size g1 c1 L := ⟨rs1, hcr1, hO1, hO1.lt, fun r hr => (hO1.2.1 r hr).lt⟩
  have hB1 := hX.trans (hb1.mono hX.size)
  have hE1 := hE.below hb1 hE.lt
  have hMs := Lib.hid (HM.out w1 g1 c1 hB1 hL1.lt hL1.rows2)
  have hw01 := hE.lt
  have hw12 := hb1.size
  clear hcr1 hO1 Hc HM hE hX hb1
  go_wp2_with fail
  refine hMs.out.mono ?_
  rintro e w2 ⟨g2, c2, rs2, rfl, hcr2, hO2, hb2⟩
  rw [muMat_length]
  have hM2 : HeldR w2 w1.heap.size w2.heap.size g2 c2 (muMat L R N N) := ⟨rs2, hcr2, hO2, hO2.lt, fun r hr => (hO2.2.1 r hr).lt⟩
  have hL2 := hL1.below hb2 (Nat.le_refl _)
  have hE2 := hE1.below hb2 hE1.lt
  have hB2 := hB1.trans (hb2.mono hB1.size)
  have hw23 := hb2.size
  clear hcr2 hO2 hMs hL1 hE1 hB1 hb2 hw0
  generalize hEa : w0.heap.size = E0 at *
  generalize hEb : w1.heap.size = E1 at *
  go_wp2_with fail
  go_loopw [4, 8, 9] (fun ov iv _ wr => ∃ (i m g cp : Nat), i ≤ N ∧ iv = .int .i64 (i : Nat) ∧ ov = (Value.slice (some ⟨g, 0, none⟩) m cp) ∧ Hid ((arrSRow c L R i).length = m) ∧ OwnArr wr w.heap.size g cp (arrSRow c L R i) ∧ HeldR wr E0 E1 g1 c1 L ∧ HeldR wr E1 w2.heap.size g2 c2 (muMat L R N N) ∧ w2.heap.size ≤ wr.heap.size ∧ (g < E0 ∨ w2.heap.size ≤ g) ∧ Below w.heap.size w wr) (fun _ iv _ _ => N - (intOf iv).toNat)
  case atStart => exact ⟨0, 0, w.heap.size, 0, Nat.zero_le _, rfl, rfl, rfl, hE2, hL2, hM2, Nat.le_refl _, .inl hw01, hB2⟩
  case round =>
    clear hE2 hL2 hM2 hB2
    obtain ⟨i, m, g, cp, hi, rfl, rfl, hml, ho, hL, hMm, hsz, hdj, hb⟩ := hrel
    by_cases hlt : i < N
    · have hml0 : Hid ((arrSRow c L R i ++ arrSTo c L R i 0).length = m) := Lib.hid (by rw [show arrSTo c L R i 0 = [] from rfl, List.append_nil]; exact hml.out)
      have ho0 : OwnArr wr w.heap.size g cp (arrSRow c L R i ++ arrSTo c L R i 0) := by rw [show arrSTo c L R i 0 = [] from rfl, List.append_nil]; exact ho
      clear ho hml
      go_wp2_with fail
      go_loopw [4, 9] (fun ov kv wj => ∃ (k m g cp : Nat), k ≤ N ∧ kv = .int .i64 (k : Nat) ∧ ov = (Value.slice (some ⟨g, 0, none⟩) m cp) ∧ Hid ((arrSRow c L R i ++ arrSTo c L R i k).length = m) ∧ OwnArr wj w.heap.size g cp (arrSRow c L R i ++ arrSTo c L R i k) ∧ HeldR wj E0 E1 g1 c1 L ∧ HeldR wj E1 w2.heap.size g2 c2 (muMat L R N N) ∧ w2.heap.size ≤ wj.heap.size ∧ (g < E0 ∨ w2.heap.size ≤ g) ∧ Below w.heap.size w wj) (fun _ kv _ => N - (intOf kv).toNat)
      case atStart => exact ⟨0, m, g, cp, Nat.zero_le _, rfl, rfl, hml0.out, ho0, hL, hMm, hsz, hdj, hb⟩
      case round =>
        clear ho0 hL hMm hsz hdj hb hml0
        obtain ⟨k, m, g, cp, hk, rfl, rfl, hml, ho, hL, hMm, hsz, hdj, hb⟩ := hrel
        by_cases hkN : k < N
        · have hm24 : m ≤ 600 := by
            have h1 := HlR.out i
            have h2 := HlT.out i k
            have h3 := hml.out
            rw [List.length_append] at h3
            omega
          obtain ⟨gi, oi, ci, m1, -, m3, m4⟩ := hMm.rows2 i (by rw [muMat_length]; exact hlt)
          have em1 : (muMat L R N N).getD i [] = muRow L R i N := by simp [muMat, List.getD, hlt]
          have em2 : (muRow L R i N).getD k 0 = musS L R i k := by simp [muRow, List.getD, hkN]
          rw [em1] at m1 m4
          have m5 := m4 k (by rw [muRow_length]; exact hkN)
          rw [em2] at m5
          rw [muRow_length, Nat.zero_add] at m1
          obtain ⟨ga, oa, ca, l1, -, l3, l4⟩ := hL.rows2 i (by rw [HNL.out]; exact hlt)
          obtain ⟨gq, oq, cq, k1, -, k3, k4⟩ := hL.rows2 k (by rw [HNL.out]; exact hkN)
          rw [Nat.zero_add] at l1 k1
          have hsucc : arrSTo c L R i (k + 1) = arrSTo c L R i k ++ arrS1 c L R i k := arrSTo_succ c L R i k
          have hS1 : arrS1 c L R i k = if musS L R i k ≠ 0 ∧ insB (desK c (L.getD k [])) (desK c (L.getD i [])) = false then [(i, k, musS L R i k)] else [] := rfl
          have Di := fun (W : World) (hb' : Below wr.heap.size wr W) => HD.out W i ga oa ca hlt (hb.trans (hb'.mono hb.size)) (Nat.lt_of_lt_of_le l3 hb'.size) (l4.below hb' l3)
          have Dk := fun (W : World) (hb' : Below wr.heap.size wr W) => HD.out W k gq oq cq hkN (hb.trans (hb'.mono hb.size)) (Nat.lt_of_lt_of_le k3 hb'.size) (k4.below hb' k3)
          have e1 := Hdl.out (L.getD i [])
          have e2 := Hdl.out (L.getD k [])
          rw [Hdk.out i hlt] at Di
          rw [Hdk.out k hkN] at Dk
          generalize desK c (L.getD i []) = dI at *
          generalize desK c (L.getD k []) = dK at *
          generalize L.getD i [] = xI at *
          generalize L.getD k [] = xK at *
          generalize musS L R i k = mz at *
          have hIn := fun (W : World) (ga' ca' gb' cb' : Nat) (h1 : Own W wr.heap.size ga' ca' dK) (h2 : Own W wr.heap.size gb' cb' dI) => spec_l24Inside_any ga' 0 _ ca' gb' 0 _ cb' dK dI W rfl rfl (by omega) (by omega) h1.cells h2.cells
          generalize insB dK dI = ib at *
          have HDi := Lib.hid Di; have HDk := Lib.hid Dk; have HIn := Lib.hid hIn
          have Hsu := Lib.hid hsucc; have HS1 := Lib.hid hS1
          obtain ⟨tb, htb⟩ : ∃ tb, (decide (mz ≠ 0) && !ib) = tb := ⟨_, rfl⟩
          have Htb := Lib.hid htb
          clear m4 l4 k4 hsucc hS1 Di Dk hIn em1 em2 htb
          go_upto_region 12 with fail
          go_cut [57] from 34 to 57 (fun bv wx => bv = .bool tb ∧ Below wr.heap.size wr wx)
          case first =>
            by_cases hm0 : mz = 0
            · have e0 : (mz == 0) = true := by rw [beq_iff_eq]; exact hm0
              have e0' : (mz != 0) = false := by rw [bne, e0]; rfl
              have ht := Htb.out
              rw [decide_eq_false (by omega), Bool.false_and] at ht
              subst ht
              go_wp2_with fail
              go_quiet (fail)
              go_wp2_with fail
              go_meet
              exact ⟨rfl, below_drewN (Below.refl _ _) nq⟩
            · have e0 : (mz == 0) = false := by rw [beq_eq_false_iff_ne]; exact hm0
              have e0' : (mz != 0) = true := by rw [bne, e0]; rfl
              have ht := Htb.out
              rw [decide_eq_true hm0, Bool.true_and] at ht
              subst ht
              have hd1 : Below wr.heap.size wr wr.drew := Below.drew (Below.refl _ _)
              have hCl : ∀ W, Below wr.heap.size wr W → W.cell? ⟨g2, i, none⟩ = some (Value.slice (some ⟨gi, oi, none⟩) N ci) ∧ W.cell? ⟨gi, oi + k, none⟩ = some (.int .i64 mz) ∧ W.cell? ⟨g1, i, none⟩ = some (Value.slice (some ⟨ga, oa, none⟩) xI.length ca) ∧ W.cell? ⟨g1, k, none⟩ = some (Value.slice (some ⟨gq, oq, none⟩) xK.length cq) := fun W hb =>
                ⟨(hb.cell (p := ⟨g2, i, none⟩) hMm.lt).trans m1, (hb.cell (p := ⟨gi, oi + k, none⟩) m3).trans m5, (hb.cell (p := ⟨g1, i, none⟩) hL.lt).trans l1, (hb.cell (p := ⟨g1, k, none⟩) hL.lt).trans k1⟩
              have HCl := Lib.hid hCl
              have HInA := HIn
              clear m1 m5 l1 k1 hCl HNL Hsh HD Hdk Hdl HlR HlT
              go_wp2_with fail
              go_region_held3 (fun W => W.cell? ⟨g2, i, none⟩ = some (Value.slice (some ⟨gi, oi, none⟩) N ci) ∧ W.cell? ⟨gi, oi + k, none⟩ = some (.int .i64 mz) ∧ W.cell? ⟨g1, i, none⟩ = some (Value.slice (some ⟨ga, oa, none⟩) xI.length ca) ∧ W.cell? ⟨g1, k, none⟩ = some (Value.slice (some ⟨gq, oq, none⟩) xK.length cq))
                (first | with_reducible exact HCl.out _ hd1 | with_reducible exact HCl.out _ hX1 | with_reducible exact HCl.out _ hX2 | with_reducible exact HCl.out _ (below_still hX2 hsE))
                (first
                  | (go_at_call 79; (with_reducible refine (HDk.out _ hd1).mono ?_); rintro e wk ⟨gk', ck', rfl, hok, hbk⟩; have hX1 := hd1.trans (hbk.mono hd1.size); have hok1 := hok.mono hd1.size)
                  | (go_at_call 79; (with_reducible refine (HDi.out _ hd1).mono ?_); rintro e wi ⟨gi', ci', rfl, hoi, hbi⟩; have hX1 := hd1.trans (hbi.mono hd1.size); have hoi1 := hoi.mono hd1.size)
                  | (go_at_call 79; (with_reducible refine (HDi.out _ hX1).mono ?_); rintro e wi ⟨gi', ci', rfl, hoi, hbi⟩; have hX2 := hX1.trans (hbi.mono hX1.size); have hOi := hoi.mono hX1.size; have hOk := hok1.below hbi hok1.lt)
                  | (go_at_call 79; (with_reducible refine (HDk.out _ hX1).mono ?_); rintro e wk ⟨gk', ck', rfl, hok, hbk⟩; have hX2 := hX1.trans (hbk.mono hX1.size); have hOk := hok.mono hX1.size; have hOi := hoi1.below hbk hoi1.lt)
                  | (go_at_call 78; (with_reducible refine (HIn.out _ gk' ck' gi' ci' hOk hOi).mono ?_); rintro e wE ⟨rfl, hsE⟩))
              all_goals go_wp2_with fail
              all_goals go_meet
              all_goals exact ⟨rfl, below_still hX2 hsE⟩
          case rest =>
            obtain ⟨rfl, hbx⟩ := hcut
            have hL5 := hL.below hbx (by omega)
            have hM5 := hMm.below hbx hsz
            have ho5 := ho.below hbx ho.lt
            have hb5 := hb.trans (hbx.mono hb.size)
            have hsz5 := Nat.le_trans hsz hbx.size
            have n1 := (hbx.cell (p := ⟨g2, i, none⟩) hMm.lt).trans m1
            have n2 := (hbx.cell (p := ⟨gi, oi + k, none⟩) m3).trans m5
            clear ho hL hMm hsz hb hbx m1 m5 l1 k1 HDi HDk HIn
            cases tb with
            | false =>
              have hs : arrSTo c L R i (k + 1) = arrSTo c L R i k := by
                rw [Hsu.out, HS1.out, if_neg, List.append_nil]
                rintro ⟨h1, h2⟩
                have := Htb.out
                rw [h2, decide_eq_true h1] at this
                exact absurd this (by decide)
              have Hs := Lib.hid hs
              clear hs n1 n2
              go_wp2_with fail
              go_roundw
              case rel => exact ⟨k + 1, m, g, cp, by omega, by go_num, rfl, by rw [Hs.out]; exact hml.out, by rw [Hs.out]; exact ho5, hL5, hM5, hsz5, hdj, hb5⟩
              case measure => simp [intOf]; omega
            | true =>
              have ht := Htb.out
              rw [Bool.and_eq_true] at ht
              have hs : arrSRow c L R i ++ arrSTo c L R i (k + 1) = arrSRow c L R i ++ arrSTo c L R i k ++ [(i, k, mz)] := by
                rw [Hsu.out, HS1.out, if_pos ⟨of_decide_eq_true ht.1, by simpa using ht.2⟩, List.append_assoc]
              have Hs := Lib.hid hs
              have hml6 : Hid ((arrSRow c L R i ++ arrSTo c L R i (k + 1)).length = m + 1) := Lib.hid (by rw [hs, List.length_append, hml.out]; rfl)
              clear hs ht
              generalize arrSRow c L R i ++ arrSTo c L R i k = A at *
              go_wp2_with (at_builtin; refine wpList_append_arr (w := wc) rfl _ _ rfl w.heap.size g cp m wc.heap.size A (i, k, mz) _ hml.out rfl rfl ho5 rfl rfl (by omega) ?_)
              intro g6 c6 w6 ho6 hg6 hor6
              have hOn := Only.of_grown (B := g) (E := g + 1) hg6 (Nat.le_refl _) (Nat.lt_succ_self _)
              have hB6 := hb5.grown hg6 hb5.size (by intro t ht; cases ht; exact ho5.base)
              have hL6 := hL5.only hOn (by omega)
              have hM6 := hM5.only hOn (by omega)
              have hsz6 := Nat.le_trans hsz5 hg6.size
              have hd6 : g6 < E0 ∨ w2.heap.size ≤ g6 := by omega
              rw [← Hs.out] at ho6
              clear ho5 hL5 hM5 hsz5 hb5 hg6 hOn hor6 n1 n2
              go_wp2_with fail
              go_roundw
              case rel => exact ⟨k + 1, m + 1, g6, c6, by omega, by go_num, rfl, hml6.out, ho6, hL6, hM6, hsz6, hd6, hB6⟩
              case measure => simp [intOf]; omega
        · obtain rfl : k = N := by omega
          go_wp2_with fail
          go_roundw
          case rel => exact ⟨i + 1, m, g, cp, by omega, by go_num, rfl, by rw [arrSRow_succ, HNL.out]; exact hml.out, by rw [arrSRow_succ, HNL.out]; exact ho, hL, hMm, hsz, hdj, hb⟩
          case measure => simp [intOf]; omega
    · obtain rfl : i = N := by omega
      go_wp2_with fail
      go_ret2
      exact GotArrB.mk' g cp hml.out ho hb
end Go.Proofs.YtobeigdjhepedaaGreatDoor
