/- Cells by the program: contract. Words read backwards by the reference: contract. slices.Reverse, ReverseWord: contracts. Involutions are counted: contracts of both. CellLine of both: contracts. The table of the longest slice, from the world's shape. -/
import Derived.Test.YtobeigdjhepedaaGreatDoorG48
import Derived.Test.YtobeigdjhepedaaGreatDoorG49
import Derived.Test.YtobeigdjhepedaaGreatDoorG32
import Derived.Test.YtobeigdjhepedaaGreatDoorBase
import Derived.Test.YtobeigdjhepedaaGreatDoorG43
import Derived.Test.YtobeigdjhepedaaGreatDoorG44
import Derived.Deep.RegionHeld3
import Derived.Test.YtobeigdjhepedaaGreatDoorG15
import Derived.Test.YtobeigdjhepedaaGreatDoorG13
import Derived.Shelf.Vars
namespace Go.Proofs.YtobeigdjhepedaaGreatDoor
set_option maxRecDepth 100000
open Go.RowKit Game

theorem OwnRows.grownNe {w w' : World} {B g cap g2 : Nat} {rs : List RowRef} (h : OwnRows w B g cap rs) (hg : w.grownBy w' (some g2)) (h1 : g ≠ g2) (h2 : ∀ r ∈ rs, r.1 ≠ g2) : OwnRows w' B g cap rs :=
  ⟨h.1.grown hg (fun e => h1 (Option.some.inj e)), fun r hr => (h.2.1 r hr).grown hg (fun e => h2 r hr (Option.some.inj e)), h.2.2⟩
def markN (sn : List Bool) (l : List Nat) : List Bool := l.foldl (fun sn j => sn.set j true) sn
theorem markN_len (l : List Nat) : ∀ sn : List Bool, (markN sn l).length = sn.length := by
  induction l with
  | nil => intro sn; rfl
  | cons a l ih => intro sn; show (markN (sn.set a true) l).length = _; rw [ih]; simp
theorem markN_app (sn : List Bool) (l : List Nat) (j : Nat) : markN sn (l ++ [j]) = (markN sn l).set j true := by unfold markN; rw [List.foldl_append]; rfl
theorem cellI_len (M : List (List Bool)) (N : Nat) : ∀ t, (cellITo M N t).2.length ≤ t ∧ (cellITo M N t).1.length = N
  | 0 => by simp [cellITo]
  | t + 1 => by
    have ih := cellI_len M N t
    rw [cellITo_succ]
    unfold cellIStep
    split
    · exact ⟨by omega, ih.2⟩
    · refine ⟨by simp; omega, ?_⟩
      show (markN (cellITo M N t).1 (cellL M N t)).length = N
      rw [markN_len]; exact ih.2

theorem impl_LeftCells_no (gc oc n cc : Nat) (c : List (List Int)) (w : World) (hn : c.length = n) (hx : c.length ≤ 1048576) (hrl : ∀ j, j < c.length → (c.getD j []).length ≤ 1048576) (hk : klB c = false) (hgc : gc < w.heap.size) (hr : Rows2 w gc oc c) (hm : MaxL w) :
    Calls Tryz.prog 18 #[(Value.slice (some ⟨gc, oc, none⟩) n cc)] w (GotRowsB w [] false) := by
  have Hc := Lib.hid (impl_WGraph_no gc oc n cc c w hn hx hrl hk hgc hr hm)
  clear hr hrl hk hm
  go_enter Tryz.func18, Tryz.ntmps18
  go_wp2_with fail
  refine Hc.out.mono ?_
  rintro e w1 ⟨g1, c1, rfl, ho1, hb1⟩
  go_wp2_with fail
  go_ret2
  exact ⟨w1.heap.size, 0, [], rfl, rfl, (OwnRows.empty (w := w1) (Nat.le_refl _)).mono hb1.size, hb1.alloc hb1.size _⟩
set_option maxRecDepth 100000 in
set_option maxHeartbeats 4000000 in
theorem impl_LeftCells_yes (gc oc n cc : Nat) (c : List (List Int)) (w : World) (hn : c.length = n) (hk : klB c = true) (hgc : gc < w.heap.size) (hr : Rows2 w gc oc c) (hm : MaxL w) :
    Calls Tryz.prog 18 #[(Value.slice (some ⟨gc, oc, none⟩) n cc)] w (GotRowsB w ((cellsOfS c).map intsOf) true) := by
  have hG := klB_grp hk
  have hC := hG.hC
  have hn4 := hC.2.1
  have hrl : ∀ j, j < c.length → (c.getD j []).length ≤ 1048576 := fun j hj => by rw [hC.2.2.1 j hj]; omega
  have hc := impl_WGraph_yes gc oc n cc c w hn hk hgc hr hm
  have hF := klFound hk
  have hcells := hF.cells
  rw [hF.arr] at hc hcells
  have Hc := Lib.hid hc
  have Hz := Lib.hid (fun (W : World) (hb : Below w.heap.size w W) => impl_SizeOf_any gc oc n cc c W hn (by omega) hrl (Nat.lt_of_lt_of_le hgc hb.size) (hr.below hb hgc) (hm.below hb))
  have hlen := klB_len hk
  have hcell : cellsOfS c = cellSTo (matB (arrS c (elemL c) (rowsS (elemL c) (leftT c))) (elemL c).length) (elemL c).length (elemL c).length := if_pos hk
  have hin : ArrIn (arrS c (elemL c) (rowsS (elemL c) (leftT c))) (elemL c).length := fun a ha => arrS_in ha
  have hal : (arrS c (elemL c) (rowsS (elemL c) (leftT c))).length ≤ 600 := by
    have h1 := arrSRow_len c (elemL c) (rowsS (elemL c) (leftT c)) hlen.1 (elemL c).length
    unfold arrS
    have := hlen.1
    omega
  rw [hcell, hcells]
  clear hr hrl hC hG hk hcell hc hm hF hcells
  generalize arrS c (elemL c) (rowsS (elemL c) (leftT c)) = A at *
  obtain ⟨hN24, hsz⟩ := hlen
  rw [← hsz] at Hz
  generalize (elemL c).length = N at *
  have Hin := Lib.hid hin
  clear hsz hin
  obtain ⟨na, hna⟩ : ∃ na, A.length = na := ⟨_, rfl⟩
  have Hna := Lib.hid hna
  rw [hna] at hal
  clear hna
  go_enter Tryz.func18, Tryz.ntmps18
  go_wp2_with fail
  refine Hc.out.mono ?_
  rintro e w1 ⟨g1, c1, rfl, hA1, hb1⟩
  rw [Hna.out]
  clear Hc
  go_wp2_with fail
  refine (Hz.out w1 hb1).mono ?_
  rintro e w2 ⟨rfl, hb2⟩
  have hA2 := hA1.below hb2 hA1.lt
  have hB2 := hb1.trans (hb2.mono hb1.size)
  have Hre := Lib.hid (impl_reach_ok g1 c1 na N w.heap.size A w2 Hna.out hN24 (by omega) Hin.out hA2)
  clear hA1 hb1 hb2 Hz hA2 Hin
  go_wp2_with fail
  refine Hre.out.mono ?_
  rintro e w3 ⟨gM, cM, rrM, rfl, hcM, hM3, hb3⟩
  have hB3 := hB2.trans (hb3.mono hB2.size)
  have hbit := Lib.hid (fun (W : World) (h : Below w3.heap.size w3 W) (k : Nat) (hk : k < N) => (hM3.below h).bit hcM hk)
  have hgM := hM3.lt
  clear hB2 hb3 Hre hM3 hcM Hna
  generalize matB A N = M at *
  go_wp2_with (at_make; refine wpList_make_bs rfl _ _ rfl w3.heap.size N _ rfl rfl rfl (by omega) (Nat.le_refl _) ?_)
  intro w4 hS4 hgr4
  have hb4 : Below w3.heap.size w3 w4 := below_of_grown hgr4
  have hgS := hS4.lt
  clear hgr4
  obtain ⟨w5, hw5⟩ : ∃ w5, w5 = w4.alloc (.cells #[] 28) := ⟨_, rfl⟩
  have hO5 : OwnRows w5 w3.heap.size w4.heap.size 0 [] := by rw [hw5]; exact OwnRows.empty hb4.size
  have hS5 : OwnBs w5 w3.heap.size w3.heap.size N (List.replicate N false) := by rw [hw5]; exact hS4.alloc _
  have hb5 : Below w3.heap.size w3 w5 := by rw [hw5]; exact hb4.alloc hb4.size _
  have hI0 : cellITo M N 0 = (List.replicate N false, []) := rfl
  have HI0 := Lib.hid hI0
  clear hS4 hb4 hI0
  go_wp2_with fail
  rw [← hw5]
  clear hw5
  generalize hgse : w3.heap.size = gS at *
  go_loopw [9, 10, 11, 12, 30] (fun ov _ _ _ iv wr => ∃ (t m g6 c6 : Nat) (rs : List RowRef) (sn : List Bool) (LL : List (List Nat)), t ≤ N ∧ iv = .int .i64 (t : Nat) ∧ ov = (Value.slice (some ⟨g6, 0, none⟩) m c6) ∧ Hid (rs.length = m) ∧ Hid (cellITo M N t = (sn, LL)) ∧ Hid (contents rs = LL.map intsOf) ∧ OwnRows wr gS g6 c6 rs ∧ OwnBs wr gS gS N sn ∧ Below gS w3 wr) (fun _ _ _ _ iv _ => N - (intOf iv).toNat)
  case atStart => exact ⟨0, 0, w4.heap.size, 0, [], _, [], Nat.zero_le _, rfl, rfl, rfl, HI0.out, rfl, hO5, hS5, hb5⟩
  case round =>
    clear hO5 hS5 hb5 HI0
    obtain ⟨t, m, g6, c6, rs, sn, LL, ht, rfl, rfl, hml, hI, hmc, hO, hS, hb⟩ := hrel
    have hIl := cellI_len M N t
    rw [hI.out] at hIl
    have hm24 : m ≤ 24 := by
      have h2 := hml.out
      rw [← contents_length, hmc.out, List.length_map] at h2
      have := hIl.1
      dsimp only at this
      omega
    have hsnl : sn.length = N := hIl.2
    by_cases hti : t < N
    · have hsu := cellITo_succ M N t
      rw [hI.out] at hsu
      have q1 := hS.cell t (by rw [hsnl]; exact hti)
      have hst : cellIStep M N (sn, LL) t = if sn.getD t false = true then (sn, LL) else (markN sn (cellL M N t), LL ++ [cellL M N t]) := rfl
      rw [hst] at hsu
      generalize sn.getD t false = sv at *
      have htI : (t : Int) < (N : Int) := by omega
      have Hsnl := Lib.hid hsnl
      cases sv with
      | true =>
        have Hsu := Lib.hid (show cellITo M N (t + 1) = (sn, LL) from hsu)
        clear hsu hst hIl hsnl
        go_wp2_with fail
        go_roundw
        case rel => exact ⟨t + 1, m, g6, c6, rs, sn, LL, by omega, by go_num, rfl, hml.out, Hsu.out, hmc.out, hO, hS, hb⟩
        case measure => simp [intOf]; omega
      | false =>
        have Hsu := Lib.hid (show cellITo M N (t + 1) = (markN sn (cellL M N t), LL ++ [cellL M N t]) from hsu)
        obtain ⟨wr1, hwr1⟩ : ∃ wr1, wr1 = wr.alloc (.cells #[] 3) := ⟨_, rfl⟩
        have hgl0 := hS.lt
        have hbr : Below wr.heap.size wr wr1 := by rw [hwr1]; exact (Below.refl _ _).alloc (Nat.le_refl _) _
        have hor : Own wr1 wr.heap.size wr.heap.size 0 [] := by rw [hwr1]; exact Own.empty (w := wr) (Nat.le_refl _)
        have hO1 := hO.below hbr
        have hS1 := hS.below hbr hgl0
        have hb1 := hb.trans (hbr.mono (by omega))
        have hltg : g6 < wr.heap.size := hO.lt
        have hltr : Hid (∀ r ∈ rs, r.1 < wr.heap.size) := Lib.hid (fun r hr => (hO.2.1 r hr).lt)
        clear hsu hst hIl hsnl hO hS hb hbr hI
        go_wp2_with fail
        rw [← hwr1]
        generalize hwos : wr.heap.size = H0 at *
        go_loopw [11, 12, 39] (fun cv _ kv wj => ∃ (k l gx cx : Nat), k ≤ N ∧ kv = .int .i64 (k : Nat) ∧ cv = (Value.slice (some ⟨gx, 0, none⟩) l cx) ∧ Hid ((cellL M k t).length = l) ∧ Own wj H0 gx cx (intsOf (cellL M k t)) ∧ OwnBs wj gS gS N (markN sn (cellL M k t)) ∧ OwnRows wj gS g6 c6 rs ∧ H0 ≤ wj.heap.size ∧ Below gS w3 wj) (fun _ _ kv _ => N - (intOf kv).toNat)
        case atStart => exact ⟨0, 0, H0, 0, Nat.zero_le _, rfl, rfl, rfl, hor, hS1, hO1, by have := hor.lt; omega, hb1⟩
        case round =>
          clear hor hS1 hO1 hb1 hwr1 hwos
          obtain ⟨k, l, gx, cx, hk, rfl, rfl, hll, hoX, hS, hO, hH, hb⟩ := hrel
          by_cases hki : k < N
          · obtain ⟨ga', ca', r1, r2, r3⟩ := hbit.out wr hb t hti
            obtain ⟨gb', cb', s1, s2, s3⟩ := hbit.out wr hb k hki
            have r4 := r3 k hki
            have s4 := s3 t hti
            have hsu := cellL_succ M k t
            have hlk := cellL_len M k t
            have hll2 := hll.out
            have hml2 := markN_len (cellL M k t) sn
            generalize (M.getD t []).getD k false = b1 at *
            generalize (M.getD k []).getD t false = b2 at *
            have Hsu2 := Lib.hid hsu
            have hl24 : l ≤ 24 := by omega
            have hkI : (k : Int) < (N : Int) := by omega
            have hsk := hS.cell k (by rw [hml2, Hsnl.out]; exact hki)
            have hfk := hS.frozen k
            have hset := hS.set k true
            generalize (markN sn (cellL M k t)).getD k false = ob at *
            have Hset := Lib.hid hset
            clear r3 s3 hsu hlk hll2 hml2 hset
            by_cases hbb : (b1 && b2) = true
            · rw [Bool.and_eq_true] at hbb
              obtain ⟨rfl, rfl⟩ := hbb
              have hs := Hsu2.out
              rw [if_pos (by rfl)] at hs
              have hl6 : Hid ((cellL M (k + 1) t).length = l + 1) := Lib.hid (by rw [hs, List.length_append, hll.out]; rfl)
              have Hi6 : Hid (intsOf (cellL M k t) ++ [(k : Int)] = intsOf (cellL M (k + 1) t)) := Lib.hid (by rw [hs]; simp [intsOf])
              have Hm6 : Hid (markN sn (cellL M (k + 1) t) = (markN sn (cellL M k t)).set k true) := Lib.hid (by rw [hs, markN_app])
              obtain ⟨hS5, hgr5⟩ := Hset.out
              have hne1 : gS ≠ gx := by have := hoX.base; omega
              have hoX5 := hoX.grown hgr5 (by intro e; cases e; exact hne1 rfl)
              have hO5 := hO.apart hS (by decide) (by decide) hgr5
              have hb5 := hb.grown hgr5 (by have := hb.size; omega) (by intro t ht; cases ht; exact Nat.le_refl _)
              have hsz5 : (wr.setCell ⟨gS, k, none⟩ (.bool true)).heap.size = wr.heap.size := by simp
              clear hs Hsu2 Hset hgr5 hoX hO hb hS
              go_wp2_with (at_builtin; refine wpList_append_int_n (w := wr.setCell ⟨gS, k, none⟩ (.bool true)) rfl _ _ rfl H0 gx cx l (intsOf (cellL M k t)) (k : Int) (by rw [intsOf_length]; exact hll.out) hoX5 rfl (by rw [hsz5]; rfl) (by omega) ?_)
              intro g7 c7 w7 ho7 hg7 _
              rw [Hi6.out] at ho7
              have hbx := hoX5.base
              have hS7 := hS5.grown hg7 (by intro e; cases e; exact hne1 rfl)
              have hO7 := hO5.grownNe hg7 (by omega) (fun r hr => by have := hltr.out r hr; omega)
              have hb7 := hb5.grown hg7 (by omega) (by intro t ht; cases ht; omega)
              have hH7 : H0 ≤ w7.heap.size := by have := hg7.size; omega
              rw [← Hm6.out] at hS7
              clear hS5 hO5 hb5 hoX5 hg7 r1 r4 s1 s4 hsk hfk
              go_wp2_with fail
              go_roundw
              case rel => exact ⟨k + 1, l + 1, g7, c7, by omega, by go_num, rfl, hl6.out, ho7, hS7, hO7, hH7, hb7⟩
              case measure => simp [intOf]; omega
            · have hs := Hsu2.out
              rw [if_neg hbb, List.append_nil] at hs
              have Hs := Lib.hid hs
              clear hs Hsu2 Hset
              cases b1 with
              | false =>
                clear hbb
                go_wp2_with fail
                go_roundw
                case rel => exact ⟨k + 1, l, gx, cx, by omega, by go_num, rfl, by rw [Hs.out]; exact hll.out, by rw [Hs.out]; exact hoX, by rw [Hs.out]; exact hS, hO, hH, hb⟩
                case measure => simp [intOf]; omega
              | true =>
                obtain rfl : b2 = false := by simpa using hbb
                clear hbb
                go_wp2_with fail
                go_roundw
                case rel => exact ⟨k + 1, l, gx, cx, by omega, by go_num, rfl, by rw [Hs.out]; exact hll.out, by rw [Hs.out]; exact hoX, by rw [Hs.out]; exact hS, hO, hH, hb⟩
                case measure => simp [intOf]; omega
          · obtain rfl : k = N := by omega
            have hbx := hoX.base
            have hoX1 := hoX.mono (show gS ≤ H0 by omega)
            have hne : ∀ s ∈ rs, s.1 ≠ gx := fun s hs e => by have := hltr.out s hs; omega
            have hl4 : Hid ((rs ++ [(gx, cx, intsOf (cellL M k t))]).length = m + 1) := Lib.hid (by rw [List.length_append, hml.out]; rfl)
            have hc4 : Hid (contents (rs ++ [(gx, cx, intsOf (cellL M k t))]) = (LL ++ [cellL M k t]).map intsOf) := Lib.hid (by rw [contents_append, hmc.out, List.map_append]; rfl)
            have HV : Hid (rowVal (gx, cx, intsOf (cellL M k t)) = (Value.slice (some ⟨gx, 0, none⟩) l cx)) := Lib.hid (by unfold rowVal; rw [intsOf_length, hll.out])
            clear hoX hltr
            go_wp2_with (at_builtin; refine wpList_append_row (w := wr) rfl _ _ rfl gS g6 c6 m wr.heap.size rs (gx, cx, intsOf (cellL M k t)) _ hml.out (by rw [HV.out]) rfl hO hoX1 hne rfl rfl (by omega) ?_)
            intro g7 c7 w7 ho7 hg7 hor7
            have hS7 : OwnBs w7 gS gS k (markN sn (cellL M k t)) := hS.grown hg7 (by intro e; exact hO.1.ne hS (by decide) (Option.some.inj e).symm)
            have hB7 := hb.grown hg7 (by have := hb.size; omega) (by intro t ht; cases ht; exact hO.base)
            clear hO hoX1 hb hg7 hne hor7 hS
            go_wp2_with fail
            go_roundw
            case rel => exact ⟨t + 1, m + 1, g7, c7, _, _, _, by omega, by go_num, rfl, hl4.out, Hsu.out, hc4.out, ho7, hS7, hB7⟩
            case measure => simp [intOf]; omega
    · obtain rfl : t = N := by omega
      have hfin : (cellITo M t t).2 = LL := by rw [hI.out]
      have Hfin := Lib.hid hfin
      have hbw : Below w.heap.size w wr := hB3.trans ((show Below w3.heap.size w3 wr by rw [hgse]; exact hb).mono hB3.size)
      have hOw := hO.mono (show w.heap.size ≤ gS by rw [← hgse]; exact hB3.size)
      go_wp2_with fail
      go_ret2
      exact GotRowsB.mk' g6 c6 rs hml.out (by first | exact hmc.out | (rw [Hfin.out]; exact hmc.out)) hOw hbw
end Go.Proofs.YtobeigdjhepedaaGreatDoor
namespace Go.Proofs.YtobeigdjhepedaaGreatDoor
set_option maxRecDepth 100000
open Go.RowKit Game

set_option maxHeartbeats 1000000 in
theorem spec_ReverseWord_any (g o n c : Nat) (xs : List Int) (w : World) (hn : xs.length = n) (hx : xs.length ≤ 1048576) (hg : g < w.heap.size) (hc : Cells w g o xs) :
    Calls Tryz.prog 43 #[(Value.slice (some ⟨g, o, none⟩) n c)] w (GotInts w xs.reverse) := by
  subst hn
  have ew : IntKind.i64.wrap ((xs.length : Int) - 1) = (xs.length : Int) - 1 := IntWalk.i64_in _ (by omega)
  have Hc := Lib.hid hc
  clear hc
  go_enter Tryz.func43, Tryz.ntmps43
  go_wp2_with fail
  go_loopw [3, 4] (fun ov iv wr => ∃ (k g2 c2 : Nat), k ≤ xs.length ∧ iv = .int .i64 ((xs.length : Int) - 1 - k) ∧ ov = (Value.slice (some ⟨g2, 0, none⟩) k c2) ∧ Own wr w.heap.size g2 c2 (xs.reverse.take k) ∧ Below w.heap.size w wr) (fun _ iv _ => (intOf iv + 1).toNat)
  case atStart => exact ⟨0, w.heap.size, 0, Nat.zero_le _, by go_num, rfl, Own.empty (Nat.le_refl _), (Below.refl _ _).alloc (Nat.le_refl _) _⟩
  case round =>
    obtain ⟨k, g2, c2, hk, rfl, rfl, ho, hb⟩ := hrel
    have hrl : (xs.reverse.take k).length = k := by rw [List.length_take, List.length_reverse]; omega
    by_cases hlt : k < xs.length
    · obtain ⟨t, ht⟩ : ∃ t : Nat, (xs.length : Int) - 1 - k = t := ⟨((xs.length : Int) - 1 - k).toNat, by omega⟩
      have htl : t < xs.length := by omega
      have q1 := (Hc.out.below hb hg) t htl
      have hs : xs.reverse.take (k + 1) = xs.reverse.take k ++ [xs.getD t 0] := by
        rw [List.take_succ_eq_append_getElem (by rw [List.length_reverse]; exact hlt)]
        rw [List.getElem_reverse]
        have : xs.length - 1 - k = t := by omega
        simp [this, List.getD, htl]
      generalize xs.getD t 0 = z at *
      have Hs := Lib.hid hs
      have e1 : IntKind.i64.wrap ((t : Int) - 1) = (t : Int) - 1 := IntWalk.i64_in _ (by omega)
      have t0 : (0 : Int) ≤ (t : Int) := by omega
      rw [ht]
      clear hs
      go_wp2_with (at_builtin; refine wpList_append_int_n (w := wr) rfl _ _ rfl w.heap.size g2 c2 k (xs.reverse.take k) z hrl ho rfl rfl (by omega) ?_)
      intro g6 c6 w6 ho6 hg6 hor6
      have hb6 : Below w.heap.size w w6 := hb.grown hg6 hb.size (by intro t ht; cases ht; exact ho.base)
      rw [← Hs.out] at ho6
      clear ho hb hg6 hor6 q1 hrl
      go_wp2_with fail
      go_roundw
      case rel => exact ⟨k + 1, g6, c6, by omega, congrArg _ (by omega), rfl, ho6, hb6⟩
      case measure => simp [intOf]
    · obtain rfl : k = xs.length := by omega
      have d0 : ¬ (0 : Int) ≤ (xs.length : Int) - 1 - (xs.length : Int) := by omega
      rw [List.take_of_length_le (by rw [List.length_reverse]; exact Nat.le_refl _)] at ho
      go_wp2_with fail
      go_ret
      exact GotInts.mk' g2 c2 (by rw [List.length_reverse]) ho hb
end Go.Proofs.YtobeigdjhepedaaGreatDoor
namespace Go.Proofs.YtobeigdjhepedaaGreatDoor
set_option maxRecDepth 100000
open Go.RowKit

def revAt (xs : List Int) (k : Nat) : List Int := (List.range xs.length).map fun t => if t < k ∨ xs.length - k ≤ t then xs.getD (xs.length - 1 - t) 0 else xs.getD t 0
theorem revAt_length (xs : List Int) (k : Nat) : (revAt xs k).length = xs.length := by simp [revAt]
theorem revAt_getD (xs : List Int) (k t : Nat) (ht : t < xs.length) : (revAt xs k).getD t 0 = if t < k ∨ xs.length - k ≤ t then xs.getD (xs.length - 1 - t) 0 else xs.getD t 0 := by
  simp [revAt, List.getD, ht]
theorem revAt_zero (xs : List Int) : revAt xs 0 = xs := by
  apply List.ext_getElem (revAt_length _ _)
  intro t h1 h2
  have := revAt_getD xs 0 t h2
  rw [if_neg (by omega)] at this
  simpa [List.getD, h1, h2] using this
theorem revAt_done (xs : List Int) (k : Nat) (h : xs.length ≤ 2 * k + 1) : revAt xs k = xs.reverse := by
  apply List.ext_getElem (by simp [revAt_length])
  intro t h1 h2
  have ht : t < xs.length := by rw [revAt_length] at h1; exact h1
  have e := revAt_getD xs k t ht
  have h3 : (revAt xs k)[t] = (revAt xs k).getD t 0 := by simp [List.getD, h1]
  rw [h3, e, List.getElem_reverse]
  split
  · simp [List.getD, show xs.length - 1 - t < xs.length by omega]
  · have : xs.length - 1 - t = t := by omega
    simp [List.getD, ht, this]
theorem revAt_succ (xs : List Int) (k : Nat) (h : 2 * k + 1 < xs.length) :
    ((revAt xs k).set k ((revAt xs k).getD (xs.length - 1 - k) 0)).set (xs.length - 1 - k) ((revAt xs k).getD k 0) = revAt xs (k + 1) := by
  rw [revAt_getD _ _ _ (by omega), revAt_getD _ _ _ (by omega)]
  apply List.ext_getElem (by simp [revAt_length])
  intro t h1 h2
  have ht : t < xs.length := by rw [revAt_length] at h2; exact h2
  have h3 : (revAt xs (k + 1))[t] = (revAt xs (k + 1)).getD t 0 := by simp [List.getD, h2]
  rw [h3, revAt_getD _ _ _ ht, List.getElem_set, List.getElem_set]
  have h4 : t < (revAt xs k).length := by rw [revAt_length]; exact ht
  have h5 : (revAt xs k)[t] = (revAt xs k).getD t 0 := by simp [List.getD, h4]
  rw [h5, revAt_getD _ _ _ ht]
  by_cases a : xs.length - 1 - k = t
  · rw [if_pos a, if_neg (by omega), if_pos (by omega), show xs.length - 1 - t = k by omega]
  · rw [if_neg a]
    by_cases b : k = t
    · subst b
      rw [if_pos rfl, if_neg (by omega), if_pos (by omega)]
    · rw [if_neg b]
      by_cases c : t < k ∨ xs.length - k ≤ t
      · rw [if_pos c, if_pos (by omega)]
      · rw [if_neg c, if_neg (by omega)]

theorem rev_set {xs : List Int} {k : Nat} (h : 2 * k + 1 < xs.length) :
    ((revAt xs k).set k ((revAt xs k)[xs.length - 1 - k]'(by rw [revAt_length]; omega))).set (xs.length - 1 - k) ((revAt xs k)[k]'(by rw [revAt_length]; omega)) = revAt xs (k + 1) := by
  rw [← revAt_succ xs k h]
  have l1 : k < (revAt xs k).length := by rw [revAt_length]; omega
  have l2 : xs.length - 1 - k < (revAt xs k).length := by rw [revAt_length]; omega
  have e1 : (revAt xs k).getD k 0 = (revAt xs k)[k] := by simp [List.getD, l1]
  have e2 : (revAt xs k).getD (xs.length - 1 - k) 0 = (revAt xs k)[xs.length - 1 - k] := by simp [List.getD, l2]
  rw [e1, e2]

set_option maxHeartbeats 400000 in
theorem slices_Reverse_any (B g n c : Nat) (xs : List Int) (w : World) (hn : xs.length = n) (hx : xs.length ≤ 1099511627776) (hown : Own w B g c xs) :
    Calls Tryz.prog 94 #[(Value.slice (some ⟨g, 0, none⟩) n c)] w fun e w' => e = .returned (.tuple #[]) ∧ Own w' B g c xs.reverse ∧ w.grownBy w' (some g) := by
  subst hn
  have e0 : IntKind.i64.wrap ((xs.length : Int) - 1) = (xs.length : Int) - 1 := IntWalk.i64_in _ (by omega)
  go_enter Tryz.func94, Tryz.ntmps94
  go_wp2
  go_loopw [2, 3] (fun i j wr => ∃ k : Nat, 2 * k ≤ xs.length ∧ i = .int .i64 k ∧ j = .int .i64 ((xs.length : Int) - 1 - k) ∧ Own wr B g c (revAt xs k) ∧ w.grownBy wr (some g)) (fun i _ _ => xs.length - (intOf i).toNat)
  case atStart => exact ⟨0, Nat.zero_le _, rfl, by simp, by rw [revAt_zero]; exact hown, World.grownBy.refl _ _⟩
  case round =>
    obtain ⟨k, hk, rfl, rfl, ho, hg⟩ := hrel
    by_cases hlt : 2 * k + 1 < xs.length
    · have l1 : k < (revAt xs k).length := by rw [revAt_length]; omega
      have l2 : xs.length - 1 - k < (revAt xs k).length := by rw [revAt_length]; omega
      have h1 := ho.cell k l1
      have h2 := ho.cell (xs.length - 1 - k) l2
      have f1 := ho.frozen k
      have f2 := ho.frozen (xs.length - 1 - k)
      have i1 : ((xs.length : Int) - 1 - k).toNat = xs.length - 1 - k := by omega
      have i2 : (0 : Int) ≤ (xs.length : Int) - 1 - k := by omega
      have hne : k ≠ xs.length - 1 - k := by omega
      go_wp2
      go_region
      all_goals go_wp2
      all_goals
        go_roundw
        case rel =>
          have hs := ho.set2 k (xs.length - 1 - k) ((revAt xs k)[xs.length - 1 - k]) ((revAt xs k)[k])
          rw [rev_set hlt] at hs
          exact ⟨k + 1, by omega, by go_num, by go_num, hs.1.drew, grown_drew (World.grownBy.trans' hg hs.2)⟩
        case measure => simp [intOf]; omega
    · go_wp2
      go_end0
      rw [revAt_done xs k (by omega)] at ho
      exact ⟨rfl, ho, hg⟩

set_option maxHeartbeats 400000 in
theorem impl_ReverseWord_any (g o n c : Nat) (xs : List Int) (w : World) (hn : xs.length = n) (hx : xs.length ≤ 1099511627776) (hg : g < w.heap.size) (hc : Cells w g o xs) :
    Calls Tryz.prog 50 #[(Value.slice (some ⟨g, o, none⟩) n c)] w (GotInts w xs.reverse) := by
  subst hn
  go_enter Tryz.func50, Tryz.ntmps50
  go_wp2_with (at_builtin; refine wpList_clone rfl _ _ rfl g o _ c xs rfl hg hc rfl rfl hx ?_)
  intro g1 c1 w1 ho hb
  go_wp2_with fail
  refine (slices_Reverse_any _ g1 _ c1 xs _ rfl hx ho).mono ?_
  rintro e w2 ⟨rfl, ho2, hg2⟩
  go_wp2
  go_ret
  exact GotInts.mk' g1 c1 (by simp) ho2 (hb.grown hg2 hb.size (by intro k hk; cases hk; exact ho.base))
end Go.Proofs.YtobeigdjhepedaaGreatDoor
namespace Go.Proofs.YtobeigdjhepedaaGreatDoor
set_option maxRecDepth 100000
open Go.RowKit Game

def invTo (c L : List (List Int)) (t : Nat) : Nat := ((L.take t).filter fun x => decide (imI c x = imI c x.reverse)).length
theorem invTo_yes {c L : List (List Int)} {t : Nat} (ht : t < L.length) (h : decide (imI c (L.getD t []) = imI c (L.getD t []).reverse) = true) : invTo c L (t + 1) = invTo c L t + 1 := by
  have e : L.getD t [] = L[t] := by simp [List.getD, ht]
  rw [e] at h
  unfold invTo
  rw [List.take_succ_eq_append_getElem ht, List.filter_append, List.length_append, List.filter_cons_of_pos (p := fun x => decide (imI c x = imI c x.reverse)) h]; rfl
theorem invTo_no {c L : List (List Int)} {t : Nat} (ht : t < L.length) (h : decide (imI c (L.getD t []) = imI c (L.getD t []).reverse) = false) : invTo c L (t + 1) = invTo c L t := by
  have e : L.getD t [] = L[t] := by simp [List.getD, ht]
  rw [e] at h
  unfold invTo
  rw [List.take_succ_eq_append_getElem ht, List.filter_append, List.length_append, List.filter_cons_of_neg (by rw [h]; decide)]; rfl
theorem invTo_le (c L : List (List Int)) (t : Nat) : invTo c L t ≤ t := by
  unfold invTo; exact Nat.le_trans (List.length_filter_le _ _) (by rw [List.length_take]; omega)
def invN (c : List (List Int)) : Nat := invTo c (elemL c) (elemL c).length
theorem WordOk.rev {c : List (List Int)} {v : List Int} (h : WordOk c v) : WordOk c v.reverse :=
  ⟨h.isC, by rw [List.length_reverse]; exact h.few, fun k hk => by
    rw [List.length_reverse] at hk
    have := h.inr (v.length - 1 - k) (by omega)
    rw [show v.reverse.getD k 0 = v.getD (v.length - 1 - k) 0 by simp [List.getD, List.getElem?_reverse hk]]
    exact this⟩

set_option maxRecDepth 100000 in
set_option maxHeartbeats 2000000 in
theorem spec_CountInvolutions_ok (gc oc n cc : Nat) (c : List (List Int)) (w : World) (hn : c.length = n) (hk : klB c = true) (hgc : gc < w.heap.size) (hr : Rows2 w gc oc c) :
    Calls Tryz.prog 17 #[(Value.slice (some ⟨gc, oc, none⟩) n cc)] w (Gives w (.int .i64 (invN c : Int))) := by
  have hC := (klB_grp hk).hC
  have hn4 := hC.2.1
  have hrl : ∀ j, j < c.length → (c.getD j []).length ≤ 1048576 := fun j hj => by rw [hC.2.2.1 j hj]; omega
  have hE := spec_ElementsOf_any gc oc n cc c w hn (by omega) hrl hgc hr
  rw [(klB_elA hk).1, (klB_elA hk).2] at hE
  have HE := Lib.hid hE
  have hwd := fun k (hk' : k < (elemL c).length) => wordOk_of (elem_isWord hk hk')
  have hl24 := (klB_len hk).1
  unfold invN
  have HR := Lib.hid hr
  clear hE hrl hk hC hr
  generalize elemL c = L at *
  obtain ⟨N, hNL⟩ : ∃ N, L.length = N := ⟨_, rfl⟩
  have HNL := Lib.hid hNL
  rw [hNL] at hwd hl24 ⊢
  have Hwd := Lib.hid hwd
  clear hNL hwd
  go_enter Tryz.func17, Tryz.ntmps17
  go_wp2_with fail
  refine HE.out.mono ?_
  rintro e w1 ⟨g1, c1, rs1, rfl, hc1, hO1, hb1⟩
  rw [HNL.out]
  have hL1 := hO1.rows2
  rw [hc1] at hL1
  have hg1 := hO1.lt
  have HL := Lib.hid (fun (W : World) (h : Below w1.heap.size w1 W) => hL1.below h hg1)
  clear hc1 hO1 HE hL1
  go_wp2_with fail
  go_loopw [5, 6] (fun nv iv wr => ∃ i : Nat, i ≤ N ∧ iv = .int .i64 (i : Nat) ∧ nv = .int .i64 (invTo c L i : Nat) ∧ Below w1.heap.size w1 wr) (fun _ iv _ => N - (intOf iv).toNat)
  case atStart => exact ⟨0, Nat.zero_le _, rfl, rfl, Below.refl _ _⟩
  case round =>
    obtain ⟨i, hi, rfl, rfl, hb⟩ := hrel
    by_cases hlt : i < N
    · have hiL : i < L.length := by rw [HNL.out]; exact hlt
      obtain ⟨gj, oj, cj, q1, -, q3, q4⟩ := HL.out wr hb i hiL
      have hw := Hwd.out i hlt
      have hy := invTo_yes (c := c) hiL
      have hno := invTo_no (c := c) hiL
      have hle := invTo_le c L i
      generalize L.getD i [] = x at *
      rw [Nat.zero_add] at q1
      have hd1 : Below wr.heap.size wr wr.drew := Below.drew (Below.refl _ _)
      have hbw := hb1.trans (hb.mono hb1.size)
      have hfx := hw.few
      have K1 := Lib.hid (fun (W : World) (h : Below wr.heap.size wr W) => spec_ReverseWord_any gj oj x.length cj x W rfl (by omega) (Nat.lt_of_lt_of_le q3 h.size) (q4.below h q3))
      have K2 := Lib.hid (fun (W : World) (gR cR : Nat) (h : Below wr.heap.size wr W) (ho : Own W wr.heap.size gR cR x.reverse) => spec_AreSame_ok gc oc n cc gj oj x.length cj gR 0 x.reverse.length cR c x x.reverse W hn rfl rfl hw hw.rev (Nat.lt_of_lt_of_le hgc (hbw.trans (h.mono hbw.size)).size) (Nat.lt_of_lt_of_le q3 h.size) ho.lt (HR.out.below (hbw.trans (h.mono hbw.size)) hgc) (q4.below h q3) ho.cells)
      have hCl := Lib.hid (fun (W : World) (h : Below wr.heap.size wr W) => (h.cell (p := ⟨g1, i, none⟩) (Nat.lt_of_lt_of_le hg1 hb.size)).trans q1)
      generalize decide (imI c x = imI c x.reverse) = sb at *
      generalize x.reverse = xr at *
      generalize invTo c L i = ni at *
      have Hy := Lib.hid hy; have Hno := Lib.hid hno
      clear q1 q4 hw hy hno
      go_wp2_with fail
      go_region_held3 (fun W => W.cell? ⟨g1, i, none⟩ = some (Value.slice (some ⟨gj, oj, none⟩) x.length cj))
        (first | with_reducible exact hCl.out _ hd1 | with_reducible exact hCl.out _ hX1 | with_reducible exact hCl.out _ hX2)
        (first
          | (go_at_call 43; (with_reducible refine (K1.out _ hd1).mono ?_); rintro e wA ⟨gA, cA, rfl, hoA, hbA⟩; have hX1 := hd1.trans (hbA.mono hd1.size))
          | (go_at_call 25; (with_reducible refine (K2.out _ gA cA hX1 (hoA.mono hd1.size)).mono ?_); rintro e wB ⟨rfl, hbB⟩; have hX2 := hX1.trans (hbB.mono hX1.size)))
      have hb2 := hb.trans (hX2.mono hb.size)
      cases sb with
      | true =>
        have hs := Lib.hid (Hy.out rfl)
        go_wp2_with fail
        go_roundw
        case rel => exact ⟨i + 1, by omega, by go_num, by rw [hs.out]; go_num, hb2⟩
        case measure => simp [intOf]; omega
      | false =>
        have hs := Lib.hid (Hno.out rfl)
        go_wp2_with fail
        go_roundw
        case rel => exact ⟨i + 1, by omega, by go_num, by rw [hs.out], hb2⟩
        case measure => simp [intOf]; omega
    · obtain rfl : i = N := by omega
      go_wp2_with fail
      go_ret
      exact ⟨rfl, hb1.trans (hb.mono hb1.size)⟩
set_option maxRecDepth 100000 in
set_option maxHeartbeats 2000000 in
theorem impl_CountInvolutions_ok (gc oc n cc : Nat) (c : List (List Int)) (w : World) (hn : c.length = n) (hk : klB c = true) (hgc : gc < w.heap.size) (hr : Rows2 w gc oc c) (hm : MaxL w) :
    Calls Tryz.prog 21 #[(Value.slice (some ⟨gc, oc, none⟩) n cc)] w (Gives w (.int .i64 (invN c : Int))) := by
  have hC := (klB_grp hk).hC
  have hn4 := hC.2.1
  have hrl : ∀ j, j < c.length → (c.getD j []).length ≤ 1048576 := fun j hj => by rw [hC.2.2.1 j hj]; omega
  have hE := impl_ElementsOf_any gc oc n cc c w hn (by omega) hrl hgc hr hm
  rw [(klB_elA hk).1, (klB_elA hk).2] at hE
  have HE := Lib.hid hE
  have hwd := fun k (hk' : k < (elemL c).length) => wordOk_of (elem_isWord hk hk')
  have hl24 := (klB_len hk).1
  unfold invN
  have HR := Lib.hid hr
  clear hE hrl hk hC hr hm
  generalize elemL c = L at *
  obtain ⟨N, hNL⟩ : ∃ N, L.length = N := ⟨_, rfl⟩
  have HNL := Lib.hid hNL
  rw [hNL] at hwd hl24 ⊢
  have Hwd := Lib.hid hwd
  clear hNL hwd
  go_enter Tryz.func21, Tryz.ntmps21
  go_wp2_with fail
  refine HE.out.mono ?_
  rintro e w1 ⟨g1, c1, rs1, rfl, hc1, hO1, hb1⟩
  rw [HNL.out]
  have hL1 := hO1.rows2
  rw [hc1] at hL1
  have hg1 := hO1.lt
  have HL := Lib.hid (fun (W : World) (h : Below w1.heap.size w1 W) => hL1.below h hg1)
  clear hc1 hO1 HE hL1
  go_wp2_with fail
  go_loopw [5, 7, 17] (fun nv _ iv wr => ∃ i : Nat, i ≤ N ∧ iv = .int .i64 (i : Nat) ∧ nv = .int .i64 (invTo c L i : Nat) ∧ Below w1.heap.size w1 wr) (fun _ _ iv _ => N - (intOf iv).toNat)
  case atStart => exact ⟨0, Nat.zero_le _, rfl, rfl, Below.refl _ _⟩
  case round =>
    obtain ⟨i, hi, rfl, rfl, hb⟩ := hrel
    by_cases hlt : i < N
    · have hiL : i < L.length := by rw [HNL.out]; exact hlt
      obtain ⟨gj, oj, cj, q1, -, q3, q4⟩ := HL.out wr hb i hiL
      have hw := Hwd.out i hlt
      have hy := invTo_yes (c := c) hiL
      have hno := invTo_no (c := c) hiL
      have hle := invTo_le c L i
      generalize L.getD i [] = x at *
      rw [Nat.zero_add] at q1
      have hbw := hb1.trans (hb.mono hb1.size)
      have hfx := hw.few
      have K1 := Lib.hid (impl_ReverseWord_any gj oj x.length cj x wr rfl (by omega) q3 q4)
      have K2 := Lib.hid (fun (W : World) (gR cR : Nat) (h : Below wr.heap.size wr W) (ho : Own W wr.heap.size gR cR x.reverse) => impl_same_any gc oc n cc gj oj x.length cj gR 0 x.reverse.length cR c x x.reverse W hn rfl rfl (hw.lets.mono (by omega)) (hw.rev.lets.mono (by omega)) (Nat.lt_of_lt_of_le hgc (hbw.trans (h.mono hbw.size)).size) (Nat.lt_of_lt_of_le q3 h.size) ho.lt (HR.out.below (hbw.trans (h.mono hbw.size)) hgc) (q4.below h q3) ho.cells)
      generalize decide (imI c x = imI c x.reverse) = sb at *
      generalize x.reverse = xr at *
      generalize invTo c L i = ni at *
      have Hy := Lib.hid hy; have Hno := Lib.hid hno
      clear q4 hw hy hno
      go_wp2_with fail
      refine K1.out.mono ?_
      rintro e w2 ⟨gA, cA, rfl, hoA, hbA⟩
      go_wp2_with fail
      refine (K2.out w2 gA cA hbA hoA).mono ?_
      rintro e w3 ⟨rfl, hbB⟩
      have hb2 := hb.trans ((hbA.trans (hbB.mono hbA.size)).mono hb.size)
      cases sb with
      | true =>
        have hs := Lib.hid (Hy.out rfl)
        go_wp2_with fail
        go_roundw
        case rel => exact ⟨i + 1, by omega, by go_num, by rw [hs.out]; go_num, hb2⟩
        case measure => simp [intOf]; omega
      | false =>
        have hs := Lib.hid (Hno.out rfl)
        go_wp2_with fail
        go_roundw
        case rel => exact ⟨i + 1, by omega, by go_num, by rw [hs.out], hb2⟩
        case measure => simp [intOf]; omega
    · obtain rfl : i = N := by omega
      go_wp2_with fail
      go_ret
      exact ⟨rfl, hb1.trans (hb.mono hb1.size)⟩
end Go.Proofs.YtobeigdjhepedaaGreatDoor
namespace Go.Proofs.YtobeigdjhepedaaGreatDoor
set_option maxRecDepth 100000
open Go.RowKit Game
open Go.Lib (join decDigits itoa)

theorem addEK (a : List UInt8) (s : Array UInt8) (hs : s = a.toArray) (b : List UInt8) (h : (a ++ b).length ≤ 9223372036854775807) : ∃ s2 : Array UInt8, s2 = (a ++ b).toArray ∧ ∀ W, (Op.stringOp .add ⟨s⟩ ⟨b.toArray⟩).run Tryz.prog W = .ok (.string ⟨s2⟩) W := by
  subst hs
  exact ⟨_, rfl, fun W => addS W a b _ rfl h⟩
section
variable {ops : Array Oper} {rest : List Oper} {o : Oper} {a : Act} {Q : Exit → Act → World → Prop}
theorem wpList_append_K1 (hgd : o.guard = none) (s x : Operand)
    (ho : o.op = .call { callee := .builtin .append, args := #[s, x], argTypes := #[38, 38] })
    (B g cap n H : Nat) (L : List (List UInt8)) (z : List UInt8) (w W : World) (hn : L.length = n) (hW : W = w.alloc (.cells #[.string ⟨z.toArray⟩] 9)) (hH : w.heap.size = H) (hown : OwnStrs w B g cap (strs L))
    (hs : a.eval s = (Value.slice (some ⟨g, 0, none⟩) n cap)) (hx : a.eval x = (Value.slice (some ⟨H, 0, none⟩) 1 1)) (hlen : n + 1 ≤ 1048576)
    (h : ∀ g' cap' w', OwnStrs w' B g' cap' (strs (L ++ [z])) → w.grownBy w' (some g) → wpList Tryz.prog ops Q rest (a.put o.dst (Value.slice (some ⟨g', 0, none⟩) (n + 1) cap')) w') :
    wpList Tryz.prog ops Q (o :: rest) a W :=
  wpList_append_str hgd s x ho B g cap n H (strs L) ⟨z.toArray⟩ w W (by simpa [strs] using hn) hW hH hown hs hx hlen (fun g' cap' w' h1 h2 _ => h g' cap' w' (by simpa [strs] using h1) h2)
theorem wpList_append_K2 (hgd : o.guard = none) (s x : Operand)
    (ho : o.op = .call { callee := .builtin .append, args := #[s, x], argTypes := #[38, 38] })
    (B g cap n H : Nat) (L : List (List UInt8)) (y z : List UInt8) (w W : World) (hn : L.length = n) (hW : W = w.alloc (.cells #[.string ⟨y.toArray⟩, .string ⟨z.toArray⟩] 9)) (hH : w.heap.size = H) (hown : OwnStrs w B g cap (strs L))
    (hs : a.eval s = (Value.slice (some ⟨g, 0, none⟩) n cap)) (hx : a.eval x = (Value.slice (some ⟨H, 0, none⟩) 2 2)) (hlen : n + 2 ≤ 1048576)
    (h : ∀ g' cap' w', OwnStrs w' B g' cap' (strs (L ++ [y, z])) → w.grownBy w' (some g) → wpList Tryz.prog ops Q rest (a.put o.dst (Value.slice (some ⟨g', 0, none⟩) (n + 2) cap')) w') :
    wpList Tryz.prog ops Q (o :: rest) a W := by
  subst hn; subst hW; subst hH
  have hnew : OwnStrs (w.alloc (.cells #[.string ⟨y.toArray⟩, .string ⟨z.toArray⟩] 9)) w.heap.size w.heap.size 2 [⟨y.toArray⟩, ⟨z.toArray⟩] := World.ownsRow_lit w #[.string ⟨y.toArray⟩, .string ⟨z.toArray⟩] 2 (Nat.le_refl _) (by decide) rfl
  have hls : (strs L).length = L.length := by simp [strs]
  refine wpList_append_K infoStr Tryz.underlying38 rfl (by decide) (by decide) hgd s x ho B g cap L.length ((strs L).map Value.string) (by rw [← hls]; exact OwnK.alloc hown _) w.heap.size 0 2 2 [.string ⟨y.toArray⟩, .string ⟨z.toArray⟩] rfl ?_ ?_ hs hx hlen ?_
  · intro j u hu
    have hj : j < 2 := by have := (List.getElem?_eq_some_iff.1 hu).1; simpa using this
    rcases (show j = 0 ∨ j = 1 by omega) with rfl | rfl
    · have := hnew.cell 0 _ rfl
      rw [this]; simpa using hu
    · have := hnew.cell 1 _ rfl
      rw [this]; simpa using hu
  · intro u hu
    simp at hu
    rcases hu with rfl | rfl <;> rfl
  · intro g' cap' w' h2 h3 h4
    refine h g' cap' w' ?_ ⟨h3.os, h3.tape, h3.output, Nat.le_trans (by simp) h3.size, fun k hk hne => (h3.block k (by simp; omega) hne).trans (Below.heap_alloc _ _ _ hk)⟩
    have e : strs (L ++ [y, z]) = strs L ++ [⟨y.toArray⟩, ⟨z.toArray⟩] := by simp [strs]
    unfold OwnStrs
    rw [e, List.map_append, List.length_append, hls]
    exact h2
end
abbrev sCells : List UInt8 := [99, 101, 108, 108, 115]
abbrev sSizes : List UInt8 := [115, 105, 122, 101, 115]
abbrev sInv : List UInt8 := [105, 110, 118, 111, 108, 117, 116, 105, 111, 110, 115]
def clParts (nc : List UInt8) (L : List (List Nat)) (t : Nat) : List (List UInt8) := [sCells, nc, sSizes] ++ (L.take t).map fun l => itoa (l.length : Int)
theorem clParts_succ {nc : List UInt8} {L : List (List Nat)} {t : Nat} (ht : t < L.length) : clParts nc L (t + 1) = clParts nc L t ++ [itoa ((L.getD t []).length : Int)] := by
  unfold clParts
  rw [List.take_succ_eq_append_getElem ht, List.map_append, List.append_assoc]
  simp [List.getD, ht]
theorem clParts_len {nc : List UInt8} {L : List (List Nat)} {t : Nat} (ht : t ≤ L.length) : (clParts nc L t).length = 3 + t := by
  unfold clParts; simp; omega
def cellLineL (c : List (List Int)) : List UInt8 :=
  if klB c = true then join (clParts (itoa ((cellsOfS c).length : Int)) (cellsOfS c) (cellsOfS c).length ++ [sInv, itoa (invN c : Int)]) [32] else []
theorem itoa_sh {k : Nat} (h : k ≤ 1000) : (itoa (k : Int)).length ≤ 100 := by
  have := Lib.itoa_length_le (k : Int) (by omega) (by omega)
  omega
theorem cells_few {c : List (List Int)} (hk : klB c = true) : (cellsOfS c).length ≤ 24 ∧ ∀ l ∈ cellsOfS c, l.length ≤ 24 := by
  have hl := (klB_len hk).1
  unfold cellsOfS
  rw [if_pos hk]
  generalize arrS c (elemL c) (rowsS (elemL c) (leftT c)) = A
  generalize (elemL c).length = N at *
  refine ⟨Nat.le_trans (cellS_len _ _ _) hl, ?_⟩
  have : ∀ t, ∀ l ∈ cellSTo (matB A N) N t, l.length ≤ N := by
    intro t
    induction t with
    | zero => intro l hl'; simp [cellSTo] at hl'
    | succ t ih =>
      intro l hl'
      rw [cellSTo_succ] at hl'
      split at hl'
      · rcases List.mem_append.1 hl' with h | h
        · exact ih l h
        · rw [List.mem_singleton] at h; subst h; exact cellL_len _ _ _
      · exact ih l hl'
  intro l hl'
  exact Nat.le_trans (this N l hl') hl
theorem inv_few {c : List (List Int)} (hk : klB c = true) : invN c ≤ 24 := Nat.le_trans (invTo_le _ _ _) (klB_len hk).1
theorem join_short {xs : List (List UInt8)} (h : ∀ x ∈ xs, x.length ≤ 100) (hn : xs.length ≤ 40) : (join xs [32]).length ≤ 5000 := by
  have h1 := join_len_le xs [32]
  have h2 : Lib.lens xs ≤ 100 * xs.length := by
    clear h1 hn
    induction xs with
    | nil => simp [Lib.lens]
    | cons a l ih =>
      have := h a (by simp)
      have := ih (fun x hx => h x (by simp [hx]))
      simp only [Lib.lens, List.length_cons, List.map_cons, List.sum_cons] at *
      omega
  simp only [List.length_cons, List.length_nil] at h1
  omega
theorem wf_smKw {k : Nat} (h : k ≤ 1000) : (Lit.int .i64 (k : Int)).wf = true := by
  exact natWfW (by omega)
theorem clAll_short {c : List (List Int)} (hk : klB c = true) (t : Nat) : ∀ x ∈ clParts (itoa ((cellsOfS c).length : Int)) (cellsOfS c) t ++ [sInv, itoa (invN c : Int)], x.length ≤ 100 := by
  obtain ⟨h1, h2⟩ := cells_few hk
  have h3 := inv_few hk
  intro x hx
  unfold clParts at hx
  simp only [List.mem_append, List.mem_cons, List.not_mem_nil, or_false, List.mem_map] at hx
  rcases hx with ((rfl | rfl | rfl) | ⟨l, hl, rfl⟩) | rfl | rfl
  · decide
  · exact itoa_sh (by omega)
  · decide
  · exact itoa_sh (by have := h2 l (List.mem_of_mem_take hl); omega)
  · decide
  · exact itoa_sh (by omega)
set_option maxRecDepth 100000 in
set_option maxHeartbeats 2000000 in
theorem spec_CellLine_any (gc oc n cc : Nat) (c : List (List Int)) (w : World) (hn : c.length = n) (hx : c.length ≤ 1048576) (hrl : ∀ j, j < c.length → (c.getD j []).length ≤ 1048576) (hgc : gc < w.heap.size) (hr : Rows2 w gc oc c) :
    Calls Tryz.prog 6 #[(Value.slice (some ⟨gc, oc, none⟩) n cc)] w (Gives w (.string ⟨(cellLineL c).toArray⟩)) := by
  cases hk : klB c with
  | false =>
    have he : cellLineL c = [] := if_neg (by rw [hk]; decide)
    rw [he]
    have Hc := Lib.hid (spec_LeftCells_no gc oc n cc c w hn hx hrl hk hgc hr)
    clear hr hrl hk he
    go_enter Tryz.func6, Tryz.ntmps6
    go_wp2_with fail
    refine Hc.out.mono ?_
    rintro e w1 ⟨g1, c1, rs1, rfl, -, -, hb1⟩
    go_wp2_with fail
    go_ret
    exact ⟨rfl, hb1⟩
  | true =>
    have he : cellLineL c = join (clParts (itoa ((cellsOfS c).length : Int)) (cellsOfS c) (cellsOfS c).length ++ [sInv, itoa (invN c : Int)]) [32] := if_pos hk
    rw [he]
    have Hc := Lib.hid (spec_LeftCells_yes gc oc n cc c w hn hk hgc hr)
    have Hi := Lib.hid (fun (W : World) (h : Below w.heap.size w W) => spec_CountInvolutions_ok gc oc n cc c W hn hk (Nat.lt_of_lt_of_le hgc h.size) (hr.below h hgc))
    obtain ⟨hf1, hf2⟩ := cells_few hk
    have hf3 := inv_few hk
    have hsh := fun t (ht : t ≤ (cellsOfS c).length) => join_short (clAll_short hk t) (by rw [List.length_append, clParts_len ht]; simp; omega)
    clear hr hrl hk he
    generalize cellsOfS c = LL at *
    generalize invN c = iv at *
    obtain ⟨NL, hNL⟩ : ∃ NL, LL.length = NL := ⟨_, rfl⟩
    rw [hNL] at hf1 hsh ⊢
    have hx0 := hsh NL (Nat.le_refl _)
    have hF1 := Lib.hid (fun W => spec_FormatInt_any (NL : Int) W (wf_smKw (k := NL) (by omega)))
    have hF2 := Lib.hid (fun W => spec_FormatInt_any (iv : Int) W (wf_smKw (k := iv) (by omega)))
    have hF3 := Lib.hid (fun (k : Nat) (hk : k ≤ 24) (W : World) => spec_FormatInt_any (k : Int) W (wf_smKw (k := k) (by omega)))
    have hnl1 : (itoa (NL : Int)).length ≤ 100 := itoa_sh (by omega)
    have hnl2 : (itoa (iv : Int)).length ≤ 100 := itoa_sh (by omega)
    have hsuc := fun t (ht : t < LL.length) => clParts_succ (nc := itoa (NL : Int)) ht
    have hne := fun t => (show clParts (itoa (NL : Int)) LL t ≠ [] by unfold clParts; simp)
    have h0 : join (clParts (itoa (NL : Int)) LL 0) [32] = [99, 101, 108, 108, 115, 32] ++ itoa (NL : Int) ++ [32, 115, 105, 122, 101, 115] := by
      unfold clParts; simp [join]
    have hfin : join (clParts (itoa (NL : Int)) LL NL ++ [sInv, itoa (iv : Int)]) [32] = join (clParts (itoa (NL : Int)) LL NL) [32] ++ [32, 105, 110, 118, 111, 108, 117, 116, 105, 111, 110, 115, 32] ++ itoa (iv : Int) := by
      rw [show clParts (itoa (NL : Int)) LL NL ++ [sInv, itoa (iv : Int)] = (clParts (itoa (NL : Int)) LL NL ++ [sInv]) ++ [itoa (iv : Int)] by simp, join_snoc (by simp), join_snoc (hne NL)]
      simp
    have hjl : ∀ t, t ≤ NL → (join (clParts (itoa (NL : Int)) LL t) [32]).length ≤ 5000 := fun t ht => by
      have h1 := hsh t ht
      rw [show clParts (itoa (NL : Int)) LL t ++ [sInv, itoa (iv : Int)] = (clParts (itoa (NL : Int)) LL t ++ [sInv]) ++ [itoa (iv : Int)] by simp, join_snoc (by simp), join_snoc (hne t)] at h1
      simp only [List.length_append] at h1
      omega
    rw [hfin]
    clear hfin hsh hx0
    obtain ⟨s1, e1, q1⟩ := addEK [99, 101, 108, 108, 115, 32] #[99, 101, 108, 108, 115, 32] rfl (itoa (NL : Int)) (by simp only [List.length_append, List.length_cons, List.length_nil]; omega)
    obtain ⟨s2, e2, q2⟩ := addEK ([99, 101, 108, 108, 115, 32] ++ itoa (NL : Int)) s1 e1 [32, 115, 105, 122, 101, 115] (by simp only [List.length_append, List.length_cons, List.length_nil]; omega)
    rw [← h0] at e2
    obtain ⟨s3, e3, q3⟩ := addEK (join (clParts (itoa (NL : Int)) LL NL) [32]) _ rfl [32, 105, 110, 118, 111, 108, 117, 116, 105, 111, 110, 115, 32] (by have := hjl NL (Nat.le_refl _); simp only [List.length_append, List.length_cons, List.length_nil]; omega)
    obtain ⟨s4, e4, q4⟩ := addEK (join (clParts (itoa (NL : Int)) LL NL) [32] ++ [32, 105, 110, 118, 111, 108, 117, 116, 105, 111, 110, 115, 32]) s3 e3 (itoa (iv : Int)) (by have := hjl NL (Nat.le_refl _); simp only [List.length_append, List.length_cons, List.length_nil]; omega)
    have HNL := Lib.hid hNL; have E2 := Lib.hid e2; have E4 := Lib.hid e4; have Hsuc := Lib.hid hsuc; have Hne := Lib.hid hne; have Hjl := Lib.hid hjl; have Hf2 := Lib.hid hf2
    clear hNL e1 e2 e3 e4 hsuc hne hjl h0 hf2
    generalize hia : itoa (NL : Int) = IA at *
    generalize hib : itoa (iv : Int) = IB at *
    clear hia hib
    go_enter Tryz.func6, Tryz.ntmps6
    go_wp2_with fail
    refine Hc.out.mono ?_
    rintro e w1 ⟨g1, c1, rs1, rfl, hc1, hO1, hb1⟩
    have hL1 := hO1.rows2
    rw [hc1] at hL1
    have hg1 := hO1.lt
    have hll : (LL.map intsOf).length = NL := by rw [List.length_map]; exact HNL.out
    rw [hll]
    have HL := Lib.hid (fun (W : World) (h : Below w1.heap.size w1 W) => hL1.below h hg1)
    clear hc1 hO1 Hc hL1 hll
    go_wp2_with fail
    refine (hF1.out _).mono ?_
    rintro e w2 ⟨rfl, hb2⟩
    go_wp2_with fail
    go_loopw [5, 6] (fun sv iv wr => ∃ (i : Nat) (s : Array UInt8), i ≤ NL ∧ iv = .int .i64 (i : Nat) ∧ sv = .string ⟨s⟩ ∧ Hid (s = (join (clParts IA LL i) [32]).toArray) ∧ Below w1.heap.size w1 wr) (fun _ iv _ => NL - (intOf iv).toNat)
    case atStart => exact ⟨0, s2, Nat.zero_le _, rfl, rfl, E2.out, hb2⟩
    case round =>
      clear hb2
      obtain ⟨i, s, hi, rfl, rfl, hs, hb⟩ := hrel
      by_cases hlt : i < NL
      · have hiL : i < LL.length := by rw [HNL.out]; exact hlt
        obtain ⟨gj, oj, cj, r1, -, -, -⟩ := HL.out wr hb i (by rw [List.length_map]; exact hiL)
        have hrl' : ((LL.map intsOf).getD i []).length = (LL.getD i []).length := by
          rw [show (LL.map intsOf).getD i [] = intsOf (LL.getD i []) by simp [List.getD, hiL, intsOf], intsOf_length]
        rw [hrl', Nat.zero_add] at r1
        have hl24 := Hf2.out (LL.getD i []) (by simp [List.getD, hiL])
        have hsu := Hsuc.out i hiL
        have hJ := Hjl.out i hi
        have hne := Hne.out i
        generalize (LL.getD i []).length = l at *
        obtain ⟨sa, ea, qa⟩ := addEK (join (clParts IA LL i) [32]) s hs.out [32] (by simp only [List.length_append, List.length_cons, List.length_nil]; omega)
        have hil : (itoa (l : Int)).length ≤ 100 := itoa_sh (by omega)
        obtain ⟨sb, eb, qb⟩ := addEK (join (clParts IA LL i) [32] ++ [32]) sa ea (itoa (l : Int)) (by simp only [List.length_append, List.length_cons, List.length_nil]; omega)
        have hEb : Hid (sb = (join (clParts IA LL (i + 1)) [32]).toArray) := Lib.hid (by rw [eb, hsu, join_snoc hne])
        have HFi := Lib.hid (hF3.out l hl24)
        have hlI : (0 : Int) ≤ (l : Int) := by omega
        clear hrl' hsu hJ hne ea eb hil
        generalize itoa (l : Int) = IL at *
        go_wp2_with fail
        refine (HFi.out wr).mono ?_
        rintro e w4 ⟨rfl, hb4⟩
        have hb5 := hb.trans (hb4.mono hb.size)
        clear hb hb4 r1
        go_wp2_with fail
        go_roundw
        case rel => exact ⟨i + 1, sb, by omega, by go_num, rfl, hEb.out, hb5⟩
        case measure => simp [intOf]; omega
      · obtain rfl : i = NL := by omega
        have hs' := hs.out
        subst hs'
        have hw := hb1.trans (hb.mono hb1.size)
        go_wp2_with fail
        refine (Hi.out wr hw).mono ?_
        rintro e w4 ⟨rfl, hb4⟩
        have hw4 := hw.trans (hb4.mono hw.size)
        go_wp2_with fail
        refine (hF2.out w4).mono ?_
        rintro e w5 ⟨rfl, hb5⟩
        have hw5 := hw4.trans (hb5.mono hw4.size)
        go_wp2_with fail
        go_ret
        exact ⟨by rw [E4.out]; rfl, hw5⟩
theorem own_threeK (w : World) (B : Nat) (z : List UInt8) (hB : B ≤ w.heap.size) : OwnStrs (w.alloc (.cells #[.string ⟨sCells.toArray⟩, .string ⟨z.toArray⟩, .string ⟨sSizes.toArray⟩] 9)) B w.heap.size 3 (strs [sCells, z, sSizes]) := own_three w B sCells z sSizes hB
set_option maxRecDepth 100000 in
set_option maxHeartbeats 2000000 in
theorem impl_CellLine_any (gc oc n cc : Nat) (c : List (List Int)) (w : World) (hn : c.length = n) (hx : c.length ≤ 1048576) (hrl : ∀ j, j < c.length → (c.getD j []).length ≤ 1048576) (hgc : gc < w.heap.size) (hr : Rows2 w gc oc c) (hm : MaxL w) (hT : Tab w) :
    Calls Tryz.prog 8 #[(Value.slice (some ⟨gc, oc, none⟩) n cc)] w (Gives w (.string ⟨(cellLineL c).toArray⟩)) := by
  cases hk : klB c with
  | false =>
    have he : cellLineL c = [] := if_neg (by rw [hk]; decide)
    rw [he]
    have Hc := Lib.hid (impl_LeftCells_no gc oc n cc c w hn hx hrl hk hgc hr hm)
    clear hr hrl hk he
    go_enter Tryz.func8, Tryz.ntmps8
    go_wp2_with fail
    refine Hc.out.mono ?_
    rintro e w1 ⟨g1, c1, rs1, rfl, -, -, hb1⟩
    go_wp2_with fail
    go_ret
    exact ⟨rfl, hb1⟩
  | true =>
    have he : cellLineL c = join (clParts (itoa ((cellsOfS c).length : Int)) (cellsOfS c) (cellsOfS c).length ++ [sInv, itoa (invN c : Int)]) [32] := if_pos hk
    rw [he]
    have Hc := Lib.hid (impl_LeftCells_yes gc oc n cc c w hn hk hgc hr hm)
    have Hi := Lib.hid (fun (W : World) (h : Below w.heap.size w W) => impl_CountInvolutions_ok gc oc n cc c W hn hk (Nat.lt_of_lt_of_le hgc h.size) (hr.below h hgc) (hm.below h))
    obtain ⟨hf1, hf2⟩ := cells_few hk
    have hf3 := inv_few hk
    have hsh := fun t (ht : t ≤ (cellsOfS c).length) => join_short (clAll_short hk t) (by rw [List.length_append, clParts_len ht]; simp; omega)
    clear hr hrl hk he hm
    generalize cellsOfS c = LL at *
    generalize invN c = iv at *
    obtain ⟨NL, hNL⟩ : ∃ NL, LL.length = NL := ⟨_, rfl⟩
    rw [hNL] at hf1 hsh ⊢
    have hx0 := hsh NL (Nat.le_refl _)
    have hF1 := Lib.hid (fun (W : World) (h : Below w.heap.size w W) => impl_FormatInt_any (NL : Int) (wf_smKw (k := NL) (by omega)) W (hT.below h))
    have hF2 := Lib.hid (fun (W : World) (h : Below w.heap.size w W) => impl_FormatInt_any (iv : Int) (wf_smKw (k := iv) (by omega)) W (hT.below h))
    have hF3 := Lib.hid (fun (k : Nat) (hk : k ≤ 24) (W : World) (h : Below w.heap.size w W) => impl_FormatInt_any (k : Int) (wf_smKw (k := k) (by omega)) W (hT.below h))
    have hsuc := fun t (ht : t < LL.length) => clParts_succ (nc := itoa (NL : Int)) ht
    have hcl := fun t (ht : t ≤ LL.length) => clParts_len (nc := itoa (NL : Int)) ht
    have hp0 : clParts (itoa (NL : Int)) LL 0 = [sCells, itoa (NL : Int), sSizes] := by unfold clParts; simp
    rw [hNL] at hcl
    have HNL := Lib.hid hNL; have Hsuc := Lib.hid hsuc; have Hf2 := Lib.hid hf2; have Hcl := Lib.hid hcl; have Hx0 := Lib.hid hx0; have Hp0 := Lib.hid hp0
    clear hNL hsuc hf2 hcl hsh hx0 hp0 hT
    generalize itoa (NL : Int) = IA at *
    generalize itoa (iv : Int) = IB at *
    go_enter Tryz.func8, Tryz.ntmps8
    go_wp2_with fail
    refine Hc.out.mono ?_
    rintro e w1 ⟨g1, c1, rs1, rfl, hc1, hO1, hb1⟩
    have hL1 := hO1.rows2
    rw [hc1] at hL1
    have hg1 := hO1.lt
    have hll : (LL.map intsOf).length = NL := by rw [List.length_map]; exact HNL.out
    rw [hll]
    have HL := Lib.hid (fun (W : World) (h : Below w1.heap.size w1 W) => hL1.below h hg1)
    clear hc1 hO1 Hc hL1 hll
    go_wp2_with fail
    refine (hF1.out w1 hb1).mono ?_
    rintro e w2 ⟨rfl, hb2⟩
    obtain ⟨w3, hw3⟩ : ∃ w3, w3 = w2.alloc (.cells #[.string ⟨sCells.toArray⟩, .string ⟨IA.toArray⟩, .string ⟨sSizes.toArray⟩] 9) := ⟨_, rfl⟩
    have ho3 : OwnStrs w3 w1.heap.size w2.heap.size 3 (strs (clParts IA LL 0)) := by rw [hw3, Hp0.out]; exact own_threeK w2 _ IA hb2.size
    have hb3 : Below w1.heap.size w1 w3 := by rw [hw3]; exact hb2.alloc hb2.size _
    simp only [List.toArray] at hw3
    go_wp2_with fail
    rw [← hw3]
    clear hw3 hb2
    go_loopw [5, 7, 21] (fun sv _ iv wr => ∃ (i g ca : Nat), i ≤ NL ∧ iv = .int .i64 (i : Nat) ∧ sv = (Value.slice (some ⟨g, 0, none⟩) (3 + i) ca) ∧ OwnStrs wr w1.heap.size g ca (strs (clParts IA LL i)) ∧ Below w1.heap.size w1 wr) (fun _ _ iv _ => NL - (intOf iv).toNat)
    case atStart => exact ⟨0, w2.heap.size, 3, Nat.zero_le _, rfl, rfl, ho3, hb3⟩
    case round =>
      clear ho3 hb3
      obtain ⟨i, g, ca, hi, rfl, rfl, ho, hb⟩ := hrel
      by_cases hlt : i < NL
      · have hiL : i < LL.length := by rw [HNL.out]; exact hlt
        obtain ⟨gj, oj, cj, r1, -, -, -⟩ := HL.out wr hb i (by rw [List.length_map]; exact hiL)
        have hrl' : ((LL.map intsOf).getD i []).length = (LL.getD i []).length := by
          rw [show (LL.map intsOf).getD i [] = intsOf (LL.getD i []) by simp [List.getD, hiL, intsOf], intsOf_length]
        rw [hrl', Nat.zero_add] at r1
        have hl24 := Hf2.out (LL.getD i []) (by simp [List.getD, hiL])
        have hsu := Hsuc.out i hiL
        generalize (LL.getD i []).length = l at *
        have HFi := Lib.hid (hF3.out l hl24)
        have hcl := Lib.hid (Hcl.out i hi)
        have Hsu := Lib.hid hsu
        have hw := hb1.trans (hb.mono hb1.size)
        clear hrl' hsu
        generalize itoa (l : Int) = IL at *
        go_wp2_with fail
        refine (HFi.out wr hw).mono ?_
        rintro e w4 ⟨rfl, hb4⟩
        have hb5 := hb.trans (hb4.mono hb.size)
        have ho5 : OwnStrs w4 w1.heap.size g ca (strs (clParts IA LL i)) := OwnK.below ho hb4 (OwnK.lt ho)
        clear hb hb4 r1 ho hw
        go_wp2_with (at_builtin; refine wpList_append_K1 rfl _ _ rfl w1.heap.size g ca (3 + i) w4.heap.size (clParts IA LL i) IL w4 _ hcl.out rfl rfl ho5 rfl rfl (by omega) ?_)
        intro g6 c6 w6 ho6 hg6
        rw [← Hsu.out] at ho6
        have hb6 := hb5.grown hg6 hb5.size (by intro t ht; cases ht; exact OwnK.base ho5)
        clear ho5 hb5 hg6
        go_wp2_with fail
        go_roundw
        case rel => exact ⟨i + 1, g6, c6, by omega, by go_num, rfl, ho6, hb6⟩
        case measure => simp [intOf]; omega
      · obtain rfl : i = NL := by omega
        have hw := hb1.trans (hb.mono hb1.size)
        have hcl := Lib.hid (Hcl.out i hi)
        go_wp2_with fail
        refine (Hi.out wr hw).mono ?_
        rintro e w4 ⟨rfl, hb4⟩
        have hw4 := hw.trans (hb4.mono hw.size)
        have ho4 : OwnStrs w4 w1.heap.size g ca (strs (clParts IA LL i)) := OwnK.below ho hb4 (OwnK.lt ho)
        go_wp2_with fail
        refine (hF2.out w4 hw4).mono ?_
        rintro e w5 ⟨rfl, hb5⟩
        have hw5 := hw4.trans (hb5.mono hw4.size)
        have ho5 : OwnStrs w5 w1.heap.size g ca (strs (clParts IA LL i)) := OwnK.below ho4 hb5 (OwnK.lt ho4)
        clear ho ho4 hb4 hb5 hb
        go_wp2_with (at_builtin; refine wpList_append_K2 rfl _ _ rfl w1.heap.size g ca (3 + i) w5.heap.size (clParts IA LL i) sInv IB w5 _ hcl.out rfl rfl ho5 rfl rfl (by omega) ?_)
        intro g6 c6 w6 ho6 hg6
        have hb6 : Below w.heap.size w w6 := hw5.grown hg6 hw5.size (by intro t ht; cases ht; have := OwnK.base ho5; have := hb1.size; omega)
        have hli := Lib.hid (impl_line_any (n := 3 + i + 2) ho6 (by rw [List.length_append, hcl.out]; rfl) (by omega) (by have := Hx0.out; omega))
        clear ho5 hg6 ho6
        go_wp2_with fail
        refine hli.out.mono ?_
        rintro e w7 ⟨rfl, hb7⟩
        go_wp2_with fail
        go_ret
        exact ⟨rfl, hb6.trans (hb7.mono hb6.size)⟩
end Go.Proofs.YtobeigdjhepedaaGreatDoor
namespace Go.Proofs.YtobeigdjhepedaaGreatDoor
set_option maxRecDepth 100000
open Go.RowKit

theorem maxL_shape {w : World} (h : w.ShapedOpen Tryz.prog) : MaxL w :=
  cell_of_shapedOpen_int (zero := #[.int .i64 0]) (t := 3) (k := .i64) (g := 1) h (of_decide_eq_true (by kernel_rfl)) (by kernel_rfl) (by kernel_rfl) (by kernel_rfl) (by kernel_rfl) Tryz.underlying3
end Go.Proofs.YtobeigdjhepedaaGreatDoor
