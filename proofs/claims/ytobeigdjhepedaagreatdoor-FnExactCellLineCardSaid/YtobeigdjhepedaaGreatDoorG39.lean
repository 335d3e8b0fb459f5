/- The program's elements of a finite group of at most 200 elements; groups of at most 48: contracts. The reference's elements of a finite group of at most 200 elements; groups of at most 48: contracts. Groups of at most 24 elements: the lists of elements of both. Contracts. -/
import Derived.Test.YtobeigdjhepedaaGreatDoorG36
import Derived.Test.YtobeigdjhepedaaGreatDoorG20
import Derived.Test.YtobeigdjhepedaaGreatDoorG38
import Derived.Test.YtobeigdjhepedaaGreatDoorG24
namespace Go.Proofs.YtobeigdjhepedaaGreatDoor
set_option maxRecDepth 100000
open Go.RowKit Game

set_option maxHeartbeats 1000000 in
theorem impl_elements_ok (gc oc n cc : Nat) (c : List (List Int)) (w : World) (hn : c.length = n) (hG : Grp c) (hgc : gc < w.heap.size) (hr : Rows2 w gc oc c) (hm : MaxL w) :
    Calls Tryz.prog 93 #[(Value.slice (some ⟨gc, oc, none⟩) n cc)] w (GotRows w (elemL c)) := by
  have hC := hG.hC
  have hx : c.length ≤ 1048576 := by have := hC.2.1; omega
  have hrl : ∀ j, j < c.length → (c.getD j []).length ≤ 1048576 := fun j hj => by rw [hC.2.2.1 j hj]; exact hx
  have hF := impl_IsFinite_any gc oc n cc c w hn hx hrl hgc hr
  rw [hG.fin] at hF
  have hZ := fun W (hW : Below w.heap.size w W) => impl_SizeOf_any gc oc n cc c W hn hx hrl (Nat.lt_of_lt_of_le hgc hW.size) (hr.below hW hgc) (hm.below hW)
  have hB := fun W (hW : Below w.heap.size w W) => impl_ball_any gc oc n cc 60 c W hn hC (fun t _ ht => by
    rcases Nat.lt_or_ge t 29 with h | h
    · omega
    · have h29 : levS c 29 = [] := by
        by_cases e : levS c 29 = []
        · exact e
        · obtain ⟨W, hW⟩ := (lev_ne hC (by omega)).1 e
          have := elt24 hC hG.fin hW
          omega
      have := lev_stop h29 (t - 29)
      rw [show 29 + (t - 29) = t by omega] at this
      exact absurd this ht) (Nat.lt_of_lt_of_le hgc hW.size) (hr.below hW hgc)
  have hs : szO c ≤ 200 := by have := hG.len; have := hG.few; omega
  have hs0 := (szO_bound c).1
  have HF := Lib.hid hF; have HZ := Lib.hid hZ
  have HB : Hid (∀ W, Below w.heap.size w W → Calls Tryz.prog 137 #[(Value.slice (some ⟨gc, oc, none⟩) n cc), .int .i64 60, .int .i64 200] W (GotRowsB W (elemL c) (ballOk c 60))) := Lib.hid hB
  clear hF hZ hB hrl hx hG hn hr hm
  generalize szO c = z at *
  generalize elemL c = L at *
  generalize ballOk c 60 = b at *
  go_enter Tryz.func93, Tryz.ntmps93
  go_wp2_with fail
  refine HF.out.mono ?_
  rintro e w1 ⟨rfl, hb1⟩
  go_wp2_with fail
  refine (HZ.out w1 hb1).mono ?_
  rintro e w2 ⟨rfl, hb2⟩
  have hB2 := hb1.trans (hb2.mono hb1.size)
  go_wp2_with fail
  refine (HB.out w2 hB2).mono ?_
  rintro e w3 ⟨g3, c3, rs3, rfl, hc3, ho3, hb3⟩
  go_wp2_with fail
  go_ret
  exact ⟨g3, c3, rs3, rfl, hc3, ho3.mono hB2.size, hB2.trans (hb3.mono hB2.size)⟩

set_option maxHeartbeats 1000000 in
theorem impl_ElementsOf_ok (gc oc n cc : Nat) (c : List (List Int)) (w : World) (hn : c.length = n) (hG : Grp c) (hgc : gc < w.heap.size) (hr : Rows2 w gc oc c) (hm : MaxL w) :
    Calls Tryz.prog 49 #[(Value.slice (some ⟨gc, oc, none⟩) n cc)] w (GotRowsB w (elemL c) true) := by
  have HA := Lib.hid (impl_elements_ok gc oc n cc c w hn hG hgc hr hm)
  clear hG hn hr hm
  generalize elemL c = L at *
  have hnil : ∀ (W : World) (g3 n c3 : Nat), (binOp .eql 22 (Value.slice (some ⟨g3, 0, none⟩) n c3) (.slice none 0 0)).run Tryz.prog W = .ok (.bool false) W := fun W g3 n c3 => Lib.run_eql_slice_nil W 22 28 _ _ _ _ _ Tryz.underlying22
  go_enter Tryz.func49, Tryz.ntmps49
  go_wp2_with fail
  refine HA.out.mono ?_
  rintro e w1 ⟨g3, c3, rs3, rfl, hc3, ho3, hb3⟩
  go_wp2_with fail
  go_ret2
  exact ⟨g3, c3, rs3, rfl, hc3, ho3, hb3⟩

set_option maxHeartbeats 1000000 in
theorem impl_few_yes (gc oc n cc : Nat) (c : List (List Int)) (w : World) (hn : c.length = n) (hf : fewB c = true) (hgc : gc < w.heap.size) (hr : Rows2 w gc oc c) (hm : MaxL w) :
    Calls Tryz.prog 115 #[(Value.slice (some ⟨gc, oc, none⟩) n cc), .int .i64 48] w (GotRowsB w (elemL c) true) := by
  have hG := grp_few hf
  have hC := hG.hC
  have hx : c.length ≤ 1048576 := by have := hC.2.1; omega
  have hrl : ∀ j, j < c.length → (c.getD j []).length ≤ 1048576 := fun j hj => by rw [hC.2.2.1 j hj]; exact hx
  have hF := impl_IsFinite_any gc oc n cc c w hn hx hrl hgc hr
  rw [hG.fin] at hF
  have hZ := fun W (hW : Below w.heap.size w W) => impl_SizeOf_any gc oc n cc c W hn hx hrl (Nat.lt_of_lt_of_le hgc hW.size) (hr.below hW hgc) (hm.below hW)
  have hB := fun W (hW : Below w.heap.size w W) => impl_ElementsOf_ok gc oc n cc c W hn hG (Nat.lt_of_lt_of_le hgc hW.size) (hr.below hW hgc) (hm.below hW)
  have hs := fewB_48 hf
  have hs0 := (szO_bound c).1
  have HF := Lib.hid hF; have HZ := Lib.hid hZ; have HB := Lib.hid hB
  clear hF hZ hB hrl hx hG hn hr hm hf
  generalize szO c = z at *
  generalize elemL c = L at *
  go_enter Tryz.func115, Tryz.ntmps115
  go_wp2_with fail
  refine HF.out.mono ?_
  rintro e w1 ⟨rfl, hb1⟩
  go_wp2_with fail
  refine (HZ.out w1 hb1).mono ?_
  rintro e w2 ⟨rfl, hb2⟩
  have hB2 := hb1.trans (hb2.mono hb1.size)
  go_wp2_with fail
  refine (HB.out w2 hB2).mono ?_
  rintro e w3 ⟨g3, c3, rs3, rfl, hc3, ho3, hb3⟩
  go_wp2_with fail
  go_ret2
  exact ⟨g3, c3, rs3, rfl, hc3, ho3.mono hB2.size, hB2.trans (hb3.mono hB2.size)⟩

set_option maxHeartbeats 1000000 in
theorem impl_few_no (gc oc n cc : Nat) (c : List (List Int)) (w : World) (hn : c.length = n) (hx : c.length ≤ 1048576) (hrl : ∀ j, j < c.length → (c.getD j []).length ≤ 1048576) (hf : fewB c = false) (hgc : gc < w.heap.size) (hr : Rows2 w gc oc c) (hm : MaxL w) :
    Calls Tryz.prog 115 #[(Value.slice (some ⟨gc, oc, none⟩) n cc), .int .i64 48] w (Gives w (.tuple #[.slice none 0 0, .bool false])) := by
  have hF := impl_IsFinite_any gc oc n cc c w hn hx hrl hgc hr
  have hZ := fun W (hW : Below w.heap.size w W) => impl_SizeOf_any gc oc n cc c W hn hx hrl (Nat.lt_of_lt_of_le hgc hW.size) (hr.below hW hgc) (hm.below hW)
  by_cases hfin : finB c = true
  · have hs : 48 < szO c := by
      rcases Int.lt_or_le 48 (szO c) with h | h
      · exact h
      · have : fewB c = true := by unfold fewB; rw [hfin, decide_eq_true h]; rfl
        rw [hf] at this; exact absurd this (by decide)
    have hs0 := (szO_bound c).2
    rw [hfin] at hF
    have HF := Lib.hid hF; have HZ := Lib.hid hZ
    clear hF hZ hrl hx hn hr hm hf hfin
    generalize szO c = z at *
    go_enter Tryz.func115, Tryz.ntmps115
    go_wp2_with fail
    refine HF.out.mono ?_
    rintro e w1 ⟨rfl, hb1⟩
    go_wp2_with fail
    refine (HZ.out w1 hb1).mono ?_
    rintro e w2 ⟨rfl, hb2⟩
    go_wp2_with fail
    go_ret2
    exact ⟨rfl, hb1.trans (hb2.mono hb1.size)⟩
  · have hfin' : finB c = false := by simpa using hfin
    rw [hfin'] at hF
    have HF := Lib.hid hF
    clear hF hZ hrl hx hn hr hm hf hfin hfin'
    go_enter Tryz.func115, Tryz.ntmps115
    go_wp2_with fail
    refine HF.out.mono ?_
    rintro e w1 ⟨rfl, hb1⟩
    go_wp2_with fail
    go_ret2
    exact ⟨rfl, hb1⟩
end Go.Proofs.YtobeigdjhepedaaGreatDoor
namespace Go.Proofs.YtobeigdjhepedaaGreatDoor
set_option maxRecDepth 100000
open Go.RowKit Game

theorem AllSt.rowFacts {c Q : List (List Int)} {k i : Nat} (h : AllSt c Q k i) (hG : Grp c) (hk : k < Q.length) :
    (Q.getD k []).length ≤ 24 ∧ (∀ j, j < (Q.getD k []).length → 0 ≤ (Q.getD k []).getD j 0 ∧ (Q.getD k []).getD j 0 < c.length) ∧
    ∀ t, t < c.length → normG c 30 (actW c (Q.getD k [] ++ [(t : Int)]) (onesL c.length)) = some (nfI c (Q.getD k [] ++ [(t : Int)])) ∧ (nfI c (Q.getD k [] ++ [(t : Int)])).length ≤ 25 := by
  obtain ⟨n, W, hW, hWe⟩ := h.mem (Q.getD k []) (by simp [List.getD, hk])
  have h24 := elt24 hG.hC hG.fin hW
  rw [hWe]
  refine ⟨by rw [intsOf_length, hW.len]; exact h24, fun j hj => ?_, fun t ht => ?_⟩
  · rw [intsOf_length] at hj
    rw [intsOf_getD _ _ hj]
    have := hW.nf.lt (W.getD j 0) (by simp [List.getD, hj])
    omega
  · obtain ⟨X, hX, hXe, -, hXl⟩ := word_push hG.hC hG.fin hW ht
    have e : intsOf W ++ [(t : Int)] = intsOf (W ++ [t]) := by rw [intsOf_append]; rfl
    rw [hXe, intsOf_length, e]
    exact ⟨hX.norm, by omega⟩
theorem AllSt.rowsFew {c Q : List (List Int)} {k i : Nat} (h : AllSt c Q k i) (hG : Grp c) : ∀ j, j < Q.length → (Q.getD j []).length ≤ 1048576 := by
  intro j hj
  obtain ⟨n, W, hW, hWe⟩ := h.mem (Q.getD j []) (by simp [List.getD, hj])
  have h24 := elt24 hG.hC hG.fin hW
  rw [hWe, intsOf_length, hW.len]; omega

set_option maxHeartbeats 8000000 in
theorem spec_l13All_ok (gc oc n cc : Nat) (c : List (List Int)) (w : World) (hn : c.length = n) (hG : Grp c) (hgc : gc < w.heap.size) (hr : Rows2 w gc oc c) :
    Calls Tryz.prog 83 #[(Value.slice (some ⟨gc, oc, none⟩) n cc)] w (GotRows w (elemL c)) := by
  subst hn
  have hC := hG.hC
  have hn4 := hC.2.1
  have HG := Lib.hid hG; clear hG
  go_enter Tryz.func83, Tryz.ntmps83
  go_wp2
  go_loopw [3, 4, 5, 6] (fun ov kv _ _ wr => ∃ (k g' c' m : Nat) (rs : List RowRef), k ≤ m ∧ m ≤ 200 ∧ kv = .int .i64 k ∧ ov = (Value.slice (some ⟨g', 0, none⟩) m c') ∧ Hid (rs.length = m) ∧ Hid (AllSt c (contents rs) k 0) ∧ OwnRows wr w.heap.size g' c' rs ∧ Below w.heap.size w wr) (fun _ kv _ _ _ => 200 - (intOf kv).toNat)
  case atStart =>
    exact ⟨0, w.heap.size + 1, 1, 1, [(w.heap.size, 0, [])], by omega, by omega, rfl, rfl, rfl, AllSt.start hC, start_rows w, (by repeat (first | with_reducible exact Below.refl _ _ | with_reducible assumption | with_reducible refine below_drewN ?_ _ | with_reducible refine Below.drew ?_ | (with_reducible refine Below.alloc ?_ ?_ _; rotate_left; · first | (simp; done) | (simp; omega) | exact Below.size (by assumption) | (have hsz := Below.size (by assumption : Below _ _ _); simp at hsz ⊢; omega)) | (with_reducible refine Below.setCell ?_ ?_ _; rotate_left; · first | (simp; done) | (simp; omega))))⟩
  case round =>
    obtain ⟨k, g', c', m, rs, hkm, hm200, rfl, rfl, hm, hst, hR, hb⟩ := hrel
    by_cases hlt : k < m
    · clear hkm
      go_wp2
      go_loopw [3, 5, 6] (fun ov iv _ wj => ∃ (i g' c' m : Nat) (rs : List RowRef), i ≤ c.length ∧ k < m ∧ m ≤ 200 ∧ iv = .int .i64 i ∧ ov = (Value.slice (some ⟨g', 0, none⟩) m c') ∧ Hid (rs.length = m) ∧ Hid (AllSt c (contents rs) k i) ∧ OwnRows wj w.heap.size g' c' rs ∧ Below w.heap.size w wj) (fun _ iv _ _ => c.length - (intOf iv).toNat)
      case atStart =>
        exact ⟨0, g', c', m, rs, Nat.zero_le _, hlt, hm200, rfl, rfl, hm, hst, hR, hb⟩
      case round =>
        clear hR hb hm hst hlt hm200
        obtain ⟨i, g', c', m, rs, hi, hlt, hm200, rfl, rfl, hm, hst, hR, hbj⟩ := hrel
        by_cases hil : i < c.length
        · have hkr : k < rs.length := by rw [hm.out]; exact hlt
          have hkc : k < (contents rs).length := by rw [contents_length]; exact hkr
          have hcl : (contents rs).getD k [] = rs[k].2.2 := by simp [contents, List.getD, hkr]
          obtain ⟨hWl, hWin, hWn⟩ := hst.out.rowFacts HG.out hkc
          have hWn := hWn i hil
          have Hrows := Lib.hid (hst.out.rowsFew HG.out)
          have hadd := hst.out.add HG.out hkc hil
          have hskip := AllSt.skip hst.out
          unfold reach at hskip
          have hsub := fun (h : AllSt c (putL (contents rs) (nfI c ((contents rs).getD k [] ++ [(i : Int)]))) k (i + 1)) => h.sub HG.out
          rw [hcl] at hWl hWin hWn hadd hskip hsub
          have hRo := hR.2.1 rs[k] (List.getElem_mem _)
          have hqk : wr.cell? ⟨g', k, none⟩ = some (rowVal rs[k]) := by rw [hR.1.cell k (by simpa using hkr)]; simp
          clear hcl
          generalize rs[k] = RR at *
          obtain ⟨gW, cW, W⟩ := RR
          simp only at hRo hWl hWin hWn hadd hskip hsub
          obtain ⟨n1, hn1⟩ : ∃ n1, W.length = n1 := ⟨_, rfl⟩
          have hqk' : wr.cell? ⟨g', k, none⟩ = some (Value.slice (some ⟨gW, 0, none⟩) n1 cW) := by rw [hqk]; unfold rowVal; simp only [hn1]
          have hgR := hR.lt
          rw [hn1] at hWl hadd hskip
          obtain ⟨hnorm, hXl⟩ := hWn
          have hin2 := letters_push hWin hil
          generalize nfI c (W ++ [(i : Int)]) = X at *
          have Hn1 := Lib.hid hn1; have Hnorm := Lib.hid hnorm; have Hin2 := Lib.hid hin2; have Hadd := Lib.hid hadd; have Hskip := Lib.hid hskip; have Hsub := Lib.hid hsub
          clear hqk hn1 hnorm hin2 hadd hskip hsub hWin hkc hkr
          obtain ⟨xl, hxl⟩ : ∃ xl, X.length = xl := ⟨_, rfl⟩
          rw [hxl] at hXl
          have Hxl := Lib.hid hxl; clear hxl
          obtain ⟨wk, hwk⟩ : ∃ wk, wk = wr.alloc (.cells #[.int .i64 (i : Int)] 3) := ⟨_, rfl⟩
          have hbk : Below wr.heap.size wr wk := by rw [hwk]; exact (Below.refl _ _).alloc (Nat.le_refl _) _
          have hok : Own wk wr.heap.size wr.heap.size 1 [(i : Int)] := by rw [hwk]; exact Own.new _ (Nat.le_refl _)
          have hcall := spec_ConcatWords_any gW 0 n1 cW wr.heap.size 0 1 1 W [(i : Int)] wk Hn1.out rfl (by rw [Hn1.out]; omega) (by simp) (Nat.lt_of_lt_of_le hRo.lt hbk.size) hok.lt (hRo.cells.below hbk hRo.lt) hok.cells
          rw [hwk] at hcall
          have Hcall := Lib.hid hcall; clear hcall
          go_wp2_with fail
          refine Hcall.out.mono ?_
          rintro e w2 ⟨g2, c2, rfl, ho2, hb2⟩
          have hl2 : (W ++ [(i : Int)]).length = n1 + 1 := by simp [Hn1.out]
          rw [hl2]
          have Hl2 := Lib.hid hl2
          rw [← hwk] at hb2 ho2
          have hb2' : Below wr.heap.size wr w2 := hbk.trans (hb2.mono hbk.size)
          have hB2 : Below w.heap.size w w2 := hbj.trans (hb2'.mono hbj.size)
          clear hl2 hwk hbk hok hb2 Hcall
          go_wp2_with fail
          refine (spec_l8Normal_any gc oc _ cc g2 0 (n1 + 1) c2 c (W ++ [(i : Int)]) X w2 rfl Hl2.out hC (by rw [Hl2.out]; omega) Hin2.out Hnorm.out (Nat.lt_of_lt_of_le hgc hB2.size) ho2.lt (hr.below hB2 hgc) ho2.cells).mono ?_
          rintro e w3 ⟨g3, c3, rfl, ho3, hb3⟩
          rw [Hxl.out]
          have hb3' : Below wr.heap.size wr w3 := hb2'.trans (hb3.mono hb2'.size)
          have hR3 := hR.below hb3'
          have hbo3 : Below w.heap.size w w3 := hbj.trans (hb3'.mono hbj.size)
          have hox3 : Own w3 w.heap.size g3 c3 X := ho3.mono (by have := hB2.size; omega)
          have q3 : w3.cell? ⟨g', k, none⟩ = some (Value.slice (some ⟨gW, 0, none⟩) n1 cW) := (hb3'.cell (p := ⟨g', k, none⟩) hgR).trans hqk'
          clear hb3 hb2' hB2 ho2 hR hbj hRo ho3 hqk' hb3'
          by_cases hxt : n1 < xl
          · have hxI : (n1 : Int) < (xl : Int) := by omega
            by_cases hmem : X ∈ contents rs
            · have hcall := spec_l7In_any g' 0 m c' g3 0 xl c3 (contents rs) X w3 (by rw [contents_length]; exact hm.out) Hxl.out (by rw [contents_length, hm.out]; omega) Hrows.out hR3.rows2 hox3.cells
              rw [decide_eq_true hmem] at hcall
              have hnx := Hskip.out (fun _ => hmem)
              have Hcall := Lib.hid hcall; have Hnx := Lib.hid hnx
              clear hcall hmem hnx
              go_wp2_with fail
              refine Hcall.out.mono ?_
              rintro e w4 ⟨rfl, hs4⟩
              have hbo4 := below_still hbo3 hs4
              have hR4 := hR3.still hs4
              clear hs4
              go_wp2_with fail
              go_roundw
              case rel => exact ⟨i + 1, g', c', m, rs, by omega, hlt, hm200, by go_num, rfl, hm, Hnx.out, hR4, hbo4⟩
              case measure => simp [intOf]; omega
            · have hcall := spec_l7In_any g' 0 m c' g3 0 xl c3 (contents rs) X w3 (by rw [contents_length]; exact hm.out) Hxl.out (by rw [contents_length, hm.out]; omega) Hrows.out hR3.rows2 hox3.cells
              rw [decide_eq_false hmem] at hcall
              have hnx := Hadd.out (by rw [Hxl.out]; exact hxt)
              have hsb := Hsub.out hnx
              have Hcall := Lib.hid hcall; have Hnx := Lib.hid hnx
              clear hcall hmem hnx
              go_wp2_with fail
              refine Hcall.out.mono ?_
              rintro e w4 ⟨rfl, hs4⟩
              have hbo4 := below_still hbo3 hs4
              have hR4 := hR3.still hs4
              have hox4 := hox3.still hs4
              clear hs4
              go_wp2_with fail
              refine (spec_l11Put_any w.heap.size g' c' m g3 0 xl c3 rs X w4 hm.out Hxl.out (by rw [hm.out]; omega) (by rw [Hxl.out]; omega) hR4 hox4.lt hox4.cells).mono ?_
              rintro e w5 ⟨g5, c5, rs5, rfl, hc5, hR5, hg5, hb5⟩
              obtain ⟨m5, hm5⟩ : ∃ m5, (putL (contents rs) X).length = m5 := ⟨_, rfl⟩
              rw [hm5] at hsb ⊢
              have hge : m ≤ m5 := by
                have h1 := putL_len (contents rs) X
                rw [contents_length, hm.out, hm5] at h1
                exact h1
              have Hm5 := Lib.hid hm5; have Hc5 := Lib.hid hc5
              have hbo5 : Below w.heap.size w w5 := hbo4.trans (hb5.mono hbo4.size)
              clear hm5 hc5 hb5
              go_wp2_with fail
              go_roundw
              case rel =>
                refine ⟨i + 1, g5, c5, m5, rs5, by omega, by omega, hsb, by go_num, rfl, ?_, ?_, hR5, hbo5⟩
                · show _ = _
                  rw [← Hm5.out, ← Hc5.out, contents_length]
                · show AllSt _ _ _ _
                  rw [Hc5.out]; exact Hnx.out
              case measure => simp [intOf]; omega
          · have hxI : ¬ (n1 : Int) < (xl : Int) := by omega
            have hnx := Hskip.out (fun h => absurd h (by rw [Hxl.out]; exact hxt))
            have Hnx := Lib.hid hnx; clear hnx
            go_wp2_with fail
            go_roundw
            case rel => exact ⟨i + 1, g', c', m, rs, by omega, hlt, hm200, by go_num, rfl, hm, Hnx.out, hR3, hbo3⟩
            case measure => simp [intOf]; omega
        · obtain rfl : i = c.length := by omega
          have hnx := hst.out.next
          have Hnx := Lib.hid hnx; clear hnx
          go_wp2
          go_roundw
          case rel => exact ⟨k + 1, g', c', m, rs, by omega, hm200, by go_num, rfl, hm, Hnx.out, hR, hbj⟩
          case measure => simp [intOf]; omega
    · obtain rfl : k = m := by omega
      have hall : contents rs = elemL c := AllSt.all (by rw [contents_length, hm.out]; exact hst.out) HG.out
      have Hall := Lib.hid hall; clear hall
      go_wp2
      go_ret
      exact ⟨g', c', rs, by rw [← Hall.out, contents_length, hm.out]; rfl, Hall.out, hR, hb⟩

end Go.Proofs.YtobeigdjhepedaaGreatDoor
namespace Go.Proofs.YtobeigdjhepedaaGreatDoor
set_option maxRecDepth 100000
open Go.RowKit Game

def klB (c : List (List Int)) : Bool := finB c && decide (szO c ≤ 24)
def klL (c : List (List Int)) : List (List Int) := if klB c = true then elemL c else []
theorem klB_fin {c : List (List Int)} (h : klB c = true) : finB c = true := (Bool.and_eq_true_iff.1 h).1
theorem klB_24 {c : List (List Int)} (h : klB c = true) : szO c ≤ 24 := of_decide_eq_true (Bool.and_eq_true_iff.1 h).2
theorem klB_few {c : List (List Int)} (h : klB c = true) : fewB c = true := by
  unfold fewB; rw [klB_fin h, decide_eq_true (by have := klB_24 h; omega)]; rfl
theorem klB_iff (c : List (List Int)) : klB c = true ↔ 1 ≤ szO c ∧ szO c ≤ 24 := by
  constructor
  · intro h; exact ⟨size_pos (klB_fin h), klB_24 h⟩
  · intro ⟨h1, h2⟩
    have hf : finB c = true := by
      by_cases hf : finB c = true
      · exact hf
      · have : szO c = 0 := if_neg hf
        omega
    unfold klB
    rw [hf, decide_eq_true h2]; rfl
theorem klB_len {c : List (List Int)} (h : klB c = true) : (elemL c).length ≤ 24 ∧ ((elemL c).length : Int) = szO c := by
  have hG := grp_few (klB_few h)
  have h1 := hG.len
  have h2 := klB_24 h
  omega

set_option maxHeartbeats 1000000 in
theorem impl_few24_yes (gc oc n cc : Nat) (c : List (List Int)) (w : World) (hn : c.length = n) (hf : klB c = true) (hgc : gc < w.heap.size) (hr : Rows2 w gc oc c) (hm : MaxL w) :
    Calls Tryz.prog 115 #[(Value.slice (some ⟨gc, oc, none⟩) n cc), .int .i64 24] w (GotRowsB w (elemL c) true) := by
  have hG := grp_few (klB_few hf)
  have hC := hG.hC
  have hx : c.length ≤ 1048576 := by have := hC.2.1; omega
  have hrl : ∀ j, j < c.length → (c.getD j []).length ≤ 1048576 := fun j hj => by rw [hC.2.2.1 j hj]; exact hx
  have hF := impl_IsFinite_any gc oc n cc c w hn hx hrl hgc hr
  rw [hG.fin] at hF
  have hZ := fun W (hW : Below w.heap.size w W) => impl_SizeOf_any gc oc n cc c W hn hx hrl (Nat.lt_of_lt_of_le hgc hW.size) (hr.below hW hgc) (hm.below hW)
  have hB := fun W (hW : Below w.heap.size w W) => impl_ElementsOf_ok gc oc n cc c W hn hG (Nat.lt_of_lt_of_le hgc hW.size) (hr.below hW hgc) (hm.below hW)
  have hs := klB_24 hf
  have hs0 := (szO_bound c).1
  have HF := Lib.hid hF; have HZ := Lib.hid hZ; have HB := Lib.hid hB
  clear hF hZ hB hrl hx hG hn hr hm hf
  generalize szO c = z at *
  generalize elemL c = L at *
  go_enter Tryz.func115, Tryz.ntmps115
  go_wp2_with fail
  refine HF.out.mono ?_
  rintro e w1 ⟨rfl, hb1⟩
  go_wp2_with fail
  refine (HZ.out w1 hb1).mono ?_
  rintro e w2 ⟨rfl, hb2⟩
  have hB2 := hb1.trans (hb2.mono hb1.size)
  go_wp2_with fail
  refine (HB.out w2 hB2).mono ?_
  rintro e w3 ⟨g3, c3, rs3, rfl, hc3, ho3, hb3⟩
  go_wp2_with fail
  go_ret2
  exact ⟨g3, c3, rs3, rfl, hc3, ho3.mono hB2.size, hB2.trans (hb3.mono hB2.size)⟩

set_option maxHeartbeats 1000000 in
theorem impl_few24_no (gc oc n cc : Nat) (c : List (List Int)) (w : World) (hn : c.length = n) (hx : c.length ≤ 1048576) (hrl : ∀ j, j < c.length → (c.getD j []).length ≤ 1048576) (hf : klB c = false) (hgc : gc < w.heap.size) (hr : Rows2 w gc oc c) (hm : MaxL w) :
    Calls Tryz.prog 115 #[(Value.slice (some ⟨gc, oc, none⟩) n cc), .int .i64 24] w (Gives w (.tuple #[.slice none 0 0, .bool false])) := by
  have hF := impl_IsFinite_any gc oc n cc c w hn hx hrl hgc hr
  have hZ := fun W (hW : Below w.heap.size w W) => impl_SizeOf_any gc oc n cc c W hn hx hrl (Nat.lt_of_lt_of_le hgc hW.size) (hr.below hW hgc) (hm.below hW)
  by_cases hfin : finB c = true
  · have hs : 24 < szO c := by
      rcases Int.lt_or_le 24 (szO c) with h | h
      · exact h
      · have : klB c = true := by unfold klB; rw [hfin, decide_eq_true h]; rfl
        rw [hf] at this; exact absurd this (by decide)
    have hs0 := (szO_bound c).2
    rw [hfin] at hF
    have HF := Lib.hid hF; have HZ := Lib.hid hZ
    clear hF hZ hrl hx hn hr hm hf hfin
    generalize szO c = z at *
    go_enter Tryz.func115, Tryz.ntmps115
    go_wp2_with fail
    refine HF.out.mono ?_
    rintro e w1 ⟨rfl, hb1⟩
    go_wp2_with fail
    refine (HZ.out w1 hb1).mono ?_
    rintro e w2 ⟨rfl, hb2⟩
    go_wp2_with fail
    go_ret2
    exact ⟨rfl, hb1.trans (hb2.mono hb1.size)⟩
  · have hfin' : finB c = false := by simpa using hfin
    rw [hfin'] at hF
    have HF := Lib.hid hF
    clear hF hZ hrl hx hn hr hm hf hfin hfin'
    go_enter Tryz.func115, Tryz.ntmps115
    go_wp2_with fail
    refine HF.out.mono ?_
    rintro e w1 ⟨rfl, hb1⟩
    go_wp2_with fail
    go_ret2
    exact ⟨rfl, hb1⟩

set_option maxHeartbeats 1000000 in
theorem spec_l23Ready_any (gc oc n cc : Nat) (c : List (List Int)) (w : World) (hn : c.length = n) (hx : c.length ≤ 1048576) (hrl : ∀ j, j < c.length → (c.getD j []).length ≤ 1048576) (hgc : gc < w.heap.size) (hr : Rows2 w gc oc c) :
    Calls Tryz.prog 62 #[(Value.slice (some ⟨gc, oc, none⟩) n cc)] w (GotRowsB w (klL c) (klB c)) := by
  have hcall := spec_SizeOf_any gc oc n cc c w hn hx hrl hgc hr
  have hiff := klB_iff c
  have hbd := szO_bound c
  by_cases hf : klB c = true
  · have hG := grp_few (klB_few hf)
    have hL : klL c = elemL c := if_pos hf
    obtain ⟨h1, h2⟩ := hiff.1 hf
    rw [hL, hf]
    have HA := Lib.hid (fun W (hW : Below w.heap.size w W) => spec_l13All_ok gc oc n cc c W hn hG (Nat.lt_of_lt_of_le hgc hW.size) (hr.below hW hgc))
    have Hcall := Lib.hid hcall
    clear hcall hiff hf hG hL hrl hr hx hn
    generalize szO c = z at *
    generalize elemL c = L at *
    go_enter Tryz.func62, Tryz.ntmps62
    go_wp2_with fail
    refine Hcall.out.mono ?_
    rintro e w1 ⟨rfl, hb1⟩
    go_wp2_with fail
    refine (HA.out w1 hb1).mono ?_
    rintro e w2 ⟨g2, c2, rs2, rfl, hc2, ho2, hb2⟩
    go_wp2_with fail
    go_ret2
    exact ⟨g2, c2, rs2, rfl, hc2, ho2.mono hb1.size, hb1.trans (hb2.mono hb1.size)⟩
  · have hf' : klB c = false := by simpa using hf
    have hL : klL c = [] := if_neg hf
    have hno : szO c < 1 ∨ 24 < szO c := by
      rcases Int.lt_or_le (szO c) 1 with h | h
      · exact .inl h
      · rcases Int.lt_or_le 24 (szO c) with h2 | h2
        · exact .inr h2
        · exact absurd (hiff.2 ⟨h, h2⟩) hf
    rw [hL, hf']
    have Hcall := Lib.hid hcall
    clear hcall hiff hf hf' hL hrl hr hx hn
    generalize szO c = z at *
    rcases hno with hz | hz
    · go_enter Tryz.func62, Tryz.ntmps62
      go_wp2_with fail
      refine Hcall.out.mono ?_
      rintro e w1 ⟨rfl, hb1⟩
      go_wp2_with fail
      go_ret2
      exact ⟨w1.heap.size, 0, [], rfl, rfl, (OwnRows.empty (w := w1) (Nat.le_refl _)).mono hb1.size, hb1.alloc hb1.size _⟩
    · go_enter Tryz.func62, Tryz.ntmps62
      go_wp2_with fail
      refine Hcall.out.mono ?_
      rintro e w1 ⟨rfl, hb1⟩
      go_wp2_with fail
      go_ret2
      exact ⟨w1.heap.size, 0, [], rfl, rfl, (OwnRows.empty (w := w1) (Nat.le_refl _)).mono hb1.size, hb1.alloc hb1.size _⟩
end Go.Proofs.YtobeigdjhepedaaGreatDoor
