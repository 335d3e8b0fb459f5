/- The reference's l3Has, l3Orders: contracts. The reference's RelabelCartan at orders: contract. EqualCartans (slices.EqualFunc): contracts. AreIsomorphic, SymmetriesOf of both: contracts. The reference's copy of a matrix: contract. (Split off Rdc.) The reference's matrices of types: contracts. New rows and a bool; small laws of sets of vectors. -/
import Derived.Test.YtdedkfbiookofaaGreatDoorK11
import Derived.Test.YtdedkfbiookofaaGreatDoorK13
import Derived.Test.YtdedkfbiookofaaGreatDoorK06
import Derived.Test.YtdedkfbiookofaaGreatDoorK00
import Derived.Test.YtdedkfbiookofaaGreatDoorK01
import Derived.Test.YtdedkfbiookofaaGreatDoorK02
import Derived.Test.YtdedkfbiookofaaGreatDoorK12
namespace Go.Proofs.YtdedkfbiookofaaGreatDoor
set_option maxRecDepth 100000
open Go.RowKit
set_option maxHeartbeats 400000 in
theorem spec_l3Has_ok (g o n c : Nat) (x : Int) (xs : List Int) (w : World) (hn : xs.length = n) (hx : n ≤ 1048576) (hc : Cells w g o xs) :
    Calls Tryz.prog 206 #[(Value.slice (some ⟨g, o, none⟩) n c), .int .i64 x] w (Reads w (.bool (decide (x ∈ xs)))) := by
  subst hn
  go_enter Tryz.func206, Tryz.ntmps206
  go_wp2
  go_loopw [5] (fun i wr => ∃ k : Nat, k ≤ xs.length ∧ i = .int .i64 k ∧ Hid (x ∉ xs.take k) ∧ ∃ n, wr = w.drewN n) (fun i _ => xs.length - (intOf i).toNat)
  case atStart => exact ⟨0, Nat.zero_le _, rfl, Lib.hid (by simp), 0, rfl⟩
  case round =>
    obtain ⟨k, hk, rfl, hno, n, rfl⟩ := hrel
    by_cases hlt : k < xs.length
    · have q1 := hc k hlt
      have hm : Hid (xs.getD k 0 = x → x ∈ xs) := fun e => by rw [← e]; simp [List.getD, hlt]
      have hno2 : Hid (¬ x = xs.getD k 0 → x ∉ xs.take (k + 1)) := fun e hmem => by
        rw [List.take_succ_eq_append_getElem hlt] at hmem
        rcases List.mem_append.1 hmem with h | h
        · exact hno.out h
        · have e3 : xs.getD k 0 = xs[k] := by simp [List.getD, hlt]
          rw [List.mem_singleton, ← e3] at h
          exact e h
      generalize xs.getD k 0 = y at *
      by_cases hxy : x = y
      · have Hm := Lib.hid (hm.out hxy.symm)
        subst hxy
        go_wp2
        go_ret
        exact ⟨ret_bool (by rw [decide_eq_true Hm.out]), n, rfl⟩
      · have Hn := Lib.hid (hno2.out hxy)
        have hb : (y == x) = false := by rw [beq_eq_false_iff_ne]; exact fun e => hxy e.symm
        clear hno2 hm
        go_wp2
        go_roundw
        case rel => exact ⟨k + 1, by omega, by go_num, Hn, n, rfl⟩
        case measure => simp [intOf]; omega
    · obtain rfl : k = xs.length := by omega
      have h := hno.out
      rw [List.take_length] at h
      have H := Lib.hid h
      clear hno h
      go_wp2
      go_ret
      exact ⟨ret_bool (by rw [decide_eq_false H.out]), n, rfl⟩
def ordTo (o : List Nat) (x : Nat) : List (List Nat) := ((List.range x).filter fun y => !(o.contains y)).map fun y => o ++ [y]
theorem ordTo_succ (o : List Nat) (x : Nat) : ordTo o (x + 1) = ordTo o x ++ (if o.contains x then [] else [o ++ [x]]) := by
  unfold ordTo
  rw [List.range_succ, List.filter_append, List.map_append]
  congr 1
  cases h : o.contains x with
  | true =>
    have h2 : x ∈ o := by simpa using h
    simp [h2]
  | false =>
    have h2 : x ∉ o := by simpa using h
    simp [h2]
def ordsTo (n : Nat) (L : List (List Nat)) (k : Nat) : List (List Nat) := (L.take k).flatMap (ordStep n)
theorem ordsTo_succ (n : Nat) (L : List (List Nat)) (k : Nat) (hk : k < L.length) : ordsTo n L (k + 1) = ordsTo n L k ++ ordTo (L.getD k []) n := by
  have e : L.take (k + 1) = L.take k ++ [L[k]] := List.take_succ_eq_append_getElem hk
  have e2 : L.getD k [] = L[k] := by simp [List.getD, hk]
  unfold ordsTo
  rw [e, e2, List.flatMap_append, List.flatMap_cons, List.flatMap_nil, List.append_nil]
  rfl
theorem ords_len {n i : Nat} (hn : n ≤ 4) (hi : i ≤ n) : (ordsN n i).length ≤ 24 := by
  have : n = 0 ∨ n = 1 ∨ n = 2 ∨ n = 3 ∨ n = 4 := by omega
  rcases this with rfl | rfl | rfl | rfl | rfl
  · obtain rfl : i = 0 := by omega
    decide
  · have : i = 0 ∨ i = 1 := by omega
    rcases this with rfl | rfl <;> decide
  · have : i = 0 ∨ i = 1 ∨ i = 2 := by omega
    rcases this with rfl | rfl | rfl <;> decide
  · have : i = 0 ∨ i = 1 ∨ i = 2 ∨ i = 3 := by omega
    rcases this with rfl | rfl | rfl | rfl <;> decide
  · have : i = 0 ∨ i = 1 ∨ i = 2 ∨ i = 3 ∨ i = 4 := by omega
    rcases this with rfl | rfl | rfl | rfl | rfl <;> decide
set_option maxHeartbeats 2000000 in
theorem spec_l3Orders_ok (n : Nat) (w : World) (hn : n ≤ 4) : Calls Tryz.prog 184 #[.int .i64 n] w (GotRows w ((ordsN n n).map intsOf)) := by
  have h0 : OwnRows ((w.alloc (.cells #[] 3)).alloc (.cells #[(Value.slice (some ⟨w.heap.size, 0, none⟩) 0 0)] 25)) w.heap.size (w.heap.size + 1) 1 [(w.heap.size, 0, [])] := by
    have := own_row1 (w := w.alloc (.cells #[] 3)) (B := w.heap.size) (n := 0) (by simp) rfl (Own.empty (w := w) (Nat.le_refl _))
    simpa using this
  have hb0 : Below w.heap.size w ((w.alloc (.cells #[] 3)).alloc (.cells #[(Value.slice (some ⟨w.heap.size, 0, none⟩) 0 0)] 25)) := ((Below.refl _ _).alloc (Nat.le_refl _) _).alloc (by simp) _
  have H0 := Lib.hid h0; have Hb0 := Lib.hid hb0
  clear h0 hb0
  go_enter Tryz.func184, Tryz.ntmps184
  go_wp2_with fail
  go_loopw [3, 4, 5, 6, 7] (fun ov iv _ _ _ wr => ∃ (i p gO cO : Nat) (rs : List RowRef), i ≤ n ∧ iv = .int .i64 i ∧ ov = (Value.slice (some ⟨gO, 0, none⟩) p cO) ∧ Hid (rs.length = p) ∧ Hid (contents rs = (ordsN n i).map intsOf) ∧ OwnRows wr w.heap.size gO cO rs ∧ Below w.heap.size w wr) (fun _ iv _ _ _ _ => n - (intOf iv).toNat)
  case atStart => exact ⟨0, 1, w.heap.size + 1, 1, [(w.heap.size, 0, [])], Nat.zero_le _, rfl, rfl, rfl, rfl, H0.out, Hb0.out⟩
  case round =>
    clear H0 Hb0
    obtain ⟨i, p, gO, cO, rs, hi, rfl, rfl, hp, hcont, ho, hb⟩ := hrel
    rename World => wo
    by_cases hlt : i < n
    · have hp24 : p ≤ 24 := by
        have h1 := congrArg List.length hcont.out
        rw [contents_length, hp.out, List.length_map] at h1
        have := ords_len (i := i) hn (by omega)
        omega
      have Hpl : Hid ((ordsN n i).length = p) := Lib.hid (by
        have h1 := congrArg List.length hcont.out
        rw [contents_length, hp.out, List.length_map] at h1
        exact h1.symm)
      have Hmem := Lib.hid (fun k (hk : k < p) => show ((ordsN n i).getD k []).length = i from (ordsN_mem (n := n) (k := i) (by simp [List.getD, show k < (ordsN n i).length by rw [Hpl.out]; exact hk])).1)
      have Hnext : Hid (ordsN n (i + 1) = ordsTo n (ordsN n i) p) := Lib.hid (by unfold ordsTo; rw [← Hpl.out, List.take_length]; rfl)
      generalize ordsN n i = L at *
      go_wp2_with fail
      go_loopw [5, 6, 7] (fun nv kv _ wr => ∃ (k q gN cN : Nat) (rn : List RowRef), k ≤ p ∧ q ≤ k * 4 ∧ kv = .int .i64 k ∧ nv = (Value.slice (some ⟨gN, 0, none⟩) q cN) ∧ Hid (rn.length = q) ∧ Hid (contents rn = (ordsTo n L k).map intsOf) ∧ OwnRows wr w.heap.size gN cN rn ∧ wo.heap.size ≤ gN ∧ Below wo.heap.size wo wr) (fun _ kv _ _ => p - (intOf kv).toNat)
      case atStart => exact ⟨0, 0, wo.heap.size, 0, [], Nat.zero_le _, Nat.zero_le _, rfl, rfl, rfl, rfl, OwnRows.empty hb.size, Nat.le_refl _, (Below.refl _ _).alloc (Nat.le_refl _) _⟩
      case round =>
        obtain ⟨k, q, gN, cN, rn, hk, hq, rfl, rfl, hrn, hcn, hon, hgN, hbn⟩ := hrel
        rename World => wk
        by_cases hltk : k < p
        · have hsucc := ordsTo_succ n L k (by rw [Hpl.out]; exact hltk)
          have Hsucc := Lib.hid hsucc
          have hkr : k < rs.length := by rw [hp.out]; exact hltk
          have hrow : rs[k].2.2 = intsOf (L.getD k []) := by
            rw [← contents_getD rs k hkr, hcont.out]
            simp [List.getD, show k < L.length by rw [Hpl.out]; exact hltk]
          have hok := ho.2.1 _ (List.getElem_mem hkr)
          have hcell := ho.1.cell k (by simpa using hkr)
          have hl := Hmem.out k hltk
          rw [hrow] at hok
          have hrv : rowVal rs[k] = (Value.slice (some ⟨(rs[k].1), 0, none⟩) i (rs[k].2.1)) := by unfold rowVal; rw [hrow, intsOf_length, hl]
          simp only [List.getElem_map, hrv] at hcell
          generalize rs[k].1 = gk at *
          generalize rs[k].2.1 = ck at *
          generalize L.getD k [] = o at *
          have Hl := Lib.hid hl
          have Hok := Lib.hid hok
          have hlo : Hid ((intsOf o).length = i) := Lib.hid (by rw [intsOf_length]; exact hl)
          have Hcell := Lib.hid hcell
          have hgk := hok.lt
          clear hrow hsucc hrv hok hcell hl
          go_wp2_with fail
          go_loopw [5, 7] (fun nv xv wr => ∃ (x q2 gN cN : Nat) (rn : List RowRef), x ≤ n ∧ q2 ≤ q + x ∧ xv = .int .i64 x ∧ nv = (Value.slice (some ⟨gN, 0, none⟩) q2 cN) ∧ Hid (rn.length = q2) ∧ Hid (contents rn = (ordsTo n L k ++ ordTo o x).map intsOf) ∧ OwnRows wr w.heap.size gN cN rn ∧ wo.heap.size ≤ gN ∧ Below wo.heap.size wo wr) (fun _ xv _ => n - (intOf xv).toNat)
          case atStart => exact ⟨0, q, gN, cN, rn, Nat.zero_le _, by omega, rfl, rfl, hrn, by
            show _ = _
            rw [hcn.out]; simp [ordTo], hon, hgN, hbn⟩
          case round =>
            clear hrn hcn hon hgN hbn
            obtain ⟨x, q2, gN, cN, rn, hx, hq2, rfl, rfl, hrn, hcn, hon, hgN, hbn⟩ := hrel
            by_cases hltx : x < n
            · have hcell := (hbn.cell (p := ⟨gO, k, none⟩) ho.lt).trans Hcell.out
              have hcel := (Hok.out.below hbn hgk).cells
              have hH := spec_l3Has_ok gk 0 i ck (x : Int) (intsOf o) wr hlo.out (by omega) hcel
              rw [mem_intsOf] at hH
              have Hst := Lib.hid (ordTo_succ o x)
              have Hcel := Lib.hid hcel
              have hgkw : gk < wr.heap.size := Nat.lt_of_lt_of_le hgk hbn.size
              cases hc : o.contains x with
              | true =>
                rw [hc] at hH
                have HH := Lib.hid hH
                have Hst2 : Hid (ordTo o (x + 1) = ordTo o x) := Lib.hid (by rw [Hst.out, hc]; simp)
                clear hH hc hcel
                go_wp2_with fail
                refine HH.out.mono ?_
                rintro e w4 ⟨rfl, hs⟩
                have hon4 := hon.still hs
                have hbn4 := below_still hbn hs
                clear HH hon hbn hs hcell
                go_wp2_with fail
                go_roundw
                case rel => exact ⟨x + 1, q2, gN, cN, rn, by omega, by omega, by go_num, rfl, hrn, by rw [Hst2.out]; exact hcn, hon4, hgN, hbn4⟩
                case measure => simp [intOf]; omega
              | false =>
                rw [hc] at hH
                have HH := Lib.hid hH
                have Hst2 : Hid (ordTo o (x + 1) = ordTo o x ++ [o ++ [x]]) := Lib.hid (by rw [Hst.out, hc]; simp)
                clear hH hc hcel
                go_wp2_with fail
                refine HH.out.mono ?_
                rintro e w4 ⟨rfl, hs⟩
                have hon4 := hon.still hs
                have hbn4 := below_still hbn hs
                have hcell4 : ∀ ob, (w4.alloc ob).cell? ⟨gO, k, none⟩ = some (Value.slice (some ⟨gk, 0, none⟩) i ck) := fun ob => (((Below.refl w4.heap.size w4).alloc (Nat.le_refl _) ob).cell (p := ⟨gO, k, none⟩) (Nat.lt_of_lt_of_le ho.lt hbn4.size)).trans ((cell_still hs _).trans hcell)
                have hcel4 := Hcel.out.still hs
                have hgk4 : gk < w4.heap.size := Nat.lt_of_lt_of_le hgk hbn4.size
                clear HH hon hbn hs hcell hgkw
                go_wp2_with (at_builtin; refine wpList_clone (w := w4) rfl _ _ rfl gk 0 i ck (intsOf o) hlo.out hgk4 hcel4 rfl rfl (by rw [hlo.out]; omega) ?_)
                intro g5 c5 w5 ho5 hb5
                clear hcell4 hcel4
                go_wp2_with (at_builtin; refine wpList_append_int_n (w := w5) rfl _ _ rfl w4.heap.size g5 c5 i (intsOf o) (x : Int) hlo.out ho5 rfl rfl (by omega) ?_)
                intro g6 c6 w6 ho6 hg6 hor6
                have hb46 : Below w4.heap.size w4 w6 := hb5.grown hg6 hb5.size (by intro t ht; cases ht; exact ho5.base)
                have hon6 := hon4.below hb46
                have hbn6 := hbn4.trans (hb46.mono hbn4.size)
                rw [← intsOf_push] at ho6
                have hne6 : ∀ s ∈ rn, s.1 ≠ g6 := fun s hs e => by have h1 := (hon4.2.1 s hs).lt; have h2 := ho6.base; omega
                have hl6 : Hid ((intsOf (o ++ [x])).length = i + 1) := Lib.hid (by rw [intsOf_length, List.length_append, Hl.out]; rfl)
                have ho6' : Own w6 w.heap.size g6 c6 (intsOf (o ++ [x])) := ho6.mono (Nat.le_trans hb.size hbn4.size)
                clear ho5 hb5 hg6 hor6 hon4 hbn4 hb46 ho6
                go_wp2_with (at_builtin; refine wpList_append_row (w := w6) rfl _ _ rfl w.heap.size gN cN q2 w6.heap.size rn (g6, c6, intsOf (o ++ [x])) _ hrn.out (by unfold rowVal; rw [hl6.out]) rfl hon6 ho6' hne6 rfl rfl (by omega) ?_)
                intro g7 c7 w7 ho7 hg7 hor7
                have hbn7 := hbn6.grown hg7 hbn6.size (by intro t ht; cases ht; exact hgN)
                have hgN7 : wo.heap.size ≤ g7 := by
                  rcases hor7 with h | h
                  · omega
                  · have := hbn6.size; omega
                have HC7 : Hid (contents (rn ++ [(g6, c6, intsOf (o ++ [x]))]) = (ordsTo n L k ++ ordTo o (x + 1)).map intsOf) := Lib.hid (by
                  rw [Hst2.out, ← List.append_assoc, List.map_append, ← hcn.out]
                  simp [contents])
                clear hon6 hbn6 hg7 hor7 hne6 ho6'
                go_wp2_with fail
                go_roundw
                case rel => exact ⟨x + 1, q2 + 1, g7, c7, _, by omega, by omega, by go_num, rfl, by show _ = _; rw [List.length_append, hrn.out]; rfl, HC7, ho7, hgN7, hbn7⟩
                case measure => simp [intOf]; omega
            · obtain rfl : x = n := by omega
              rw [← Hsucc.out] at hcn
              go_wp2_with fail
              go_roundw
              case rel => exact ⟨k + 1, q2, gN, cN, rn, by omega, by omega, by go_num, rfl, hrn, hcn, hon, hgN, hbn⟩
              case measure => simp [intOf]; omega
        · obtain rfl : k = p := by omega
          rw [← Hnext.out] at hcn
          have hb9 := hb.trans (hbn.mono hb.size)
          clear ho hb
          go_wp2_with fail
          go_roundw
          case rel => exact ⟨i + 1, q, gN, cN, rn, by omega, by go_num, rfl, hrn, hcn, hon, hb9⟩
          case measure => simp [intOf]; omega
    · obtain rfl : i = n := by omega
      go_wp2_with fail
      go_ret
      exact GotRows.mk' gO cO rs hp.out hcont.out ho hb
end Go.Proofs.YtdedkfbiookofaaGreatDoor
namespace Go.Proofs.YtdedkfbiookofaaGreatDoor
set_option maxRecDepth 100000
open Go.RowKit
attribute [local go_sem ↓] Go.wp_at_zero Go.wp_at_succ
set_option maxHeartbeats 4000000 in
theorem spec_Relabel_ok (gc oc n cc g o m cs : Nat) (c : List (List Int)) (od : List Nat) (w : World) (hn : c.length = n) (hod : od.length = n) (hm : n = m) (hC : IsC c) (hnd : od.Nodup) (hlt : ∀ x ∈ od, x < n) (hcap : n ≤ cs) (hgc : gc < w.heap.size) (hg : g < w.heap.size) (hr : Rows2 w gc oc c) (hc : Cells w g o (intsOf od)) :
    Calls Tryz.prog 185 #[(Value.slice (some ⟨gc, oc, none⟩) n cc), (Value.slice (some ⟨g, o, none⟩) m cs)] w (fun e w' => ∃ g' cap rs, e = .returned (.tuple #[(Value.slice (some ⟨g', 0, none⟩) n cap), .bool true]) ∧ contents rs = pickL c (intsOf od) ∧ OwnRows w' w.heap.size g' cap rs ∧ Below w.heap.size w w') := by
  subst hm
  have hn4 := hC.2.1
  have hcart := spec_IsCartan gc oc n cc c w hn (by omega) (fun j hj => by have := hC.2.2.1 j hj; omega) hr
  rw [decide_eq_true hC] at hcart
  have Hcart := Lib.hid hcart
  clear hcart
  obtain ⟨s, hs⟩ : ∃ s, intsOf od = s := ⟨_, rfl⟩
  rw [hs] at hc ⊢
  have hsl : s.length = n := by rw [← hs, intsOf_length]; exact hod
  have hg2 : ∀ t, t < s.length → s.getD t 0 = ((od.getD t 0 : Nat) : Int) := fun t ht => by rw [← hs]; exact intsOf_getD od t (by omega)
  have hin : ∀ t, t < s.length → 0 ≤ s.getD t 0 ∧ s.getD t 0 < c.length := fun t ht => by
    rw [hg2 t ht]
    have := hlt (od.getD t 0) (by simp [List.getD, show t < od.length by omega])
    omega
  have Hnot := Lib.hid (fun t (ht : t < s.length) => show decide (s.getD t 0 ∈ s.take t) = false from decide_eq_false (fun hmem => by
    rw [hg2 t ht, ← hs] at hmem
    unfold intsOf at hmem
    rw [← List.map_take] at hmem
    obtain ⟨y, hy, e⟩ := List.mem_map.1 hmem
    have e2 : y = od.getD t 0 := by omega
    obtain ⟨u, hu, rfl⟩ := List.mem_iff_getElem.1 hy
    rw [List.length_take] at hu
    rw [List.getElem_take] at e2
    have ht2 : t < od.length := by omega
    have e3 : od.getD t 0 = od[t] := by simp [List.getD, ht2]
    rw [e3] at e2
    have := (List.getElem_inj hnd).1 e2
    omega))
  have HH := Lib.hid (fun W (hW : ∃ q, W = w.drewN q) t (ht : t < s.length) => spec_l3Has_ok g o t cs (s.getD t 0) (s.take t) W (by rw [List.length_take]; omega) (by omega) ((hc.take t).still hW))
  have H1 := Lib.hid (fun W t (ht : t < s.length) => show Calls Tryz.prog 92 #[.int .i64 (s.getD t 0), .int .i64 0, .int .i64 ((n : Int) - 1)] W (Reads W (.bool true)) from by
    have := spec_l1In (s.getD t 0) 0 ((n : Int) - 1) W
    have h2 := hin t ht
    rwa [decide_eq_true h2.1, decide_eq_true (show s.getD t 0 ≤ (n : Int) - 1 by omega)] at this)
  clear hg2 hs hnd hlt hod
  have hn4' : n ≤ 4 := by omega
  have Hcl := Lib.hid hn
  have Hsl := Lib.hid hsl
  go_enter Tryz.func185, Tryz.ntmps185
  go_wp2_with fail
  refine Hcart.out.mono ?_
  rintro e w1 ⟨rfl, m1, rfl⟩
  clear Hcart
  have Hin : Hid (∀ t, t < n → 0 ≤ s.getD t 0 ∧ s.getD t 0 < (n : Int)) := Lib.hid (fun t ht => by have := hin t (by omega); rw [Hcl.out] at this; exact this)
  clear hin hsl hn hn4
  go_wp2_with fail
  go_loopw [6] (fun iv wr => ∃ t q : Nat, t ≤ n ∧ iv = .int .i64 t ∧ wr = w.drewN q) (fun iv _ => n - (intOf iv).toNat)
  case atStart => exact ⟨0, m1, Nat.zero_le _, rfl, rfl⟩
  case round =>
    obtain ⟨t, q, ht, rfl, rfl⟩ := hrel
    by_cases hlt : t < n
    · have hts : t < s.length := by rw [Hsl.out]; exact hlt
      have p1 := hc t hts
      have k1 := Lib.hid (fun W => H1.out W t hts)
      have k2 := Lib.hid (fun W hW => HH.out W hW t hts)
      rw [Hnot.out t hts] at k2
      have b1 : (t : Int) ≤ (cs : Int) := by omega
      generalize s.getD t 0 = y at *
      clear hts
      go_wp2_with fail
      go_quiet ((first | (go_at_call 92; first | with_reducible exact Calls.quiet_of (k1.out _) | with_reducible exact Reads.quiet4 (k1.out _)) | (go_at_call 206; first | with_reducible exact Calls.quiet_of (k2.out _ ⟨_, rfl⟩) | with_reducible exact Reads.quiet4 (k2.out _ ⟨_, rfl⟩))))
      go_wp2_with fail
      go_roundw
      case rel => exact ⟨t + 1, _, by omega, by go_num, by first | rfl | exact World.drewN_drewN _ _ _⟩
      case measure => simp [intOf]; omega
    · obtain rfl : n = t := by omega
      have HE0 := Lib.hid (show OwnRows ((w.drewN q).alloc (.cells #[] 25)) w.heap.size w.heap.size 0 [] from OwnRows.empty (w := w.drewN q) (Nat.le_refl _))
      have HB0 := Lib.hid (show Below w.heap.size w ((w.drewN q).alloc (.cells #[] 25)) from (below_drewN (Below.refl _ w) q).alloc (Nat.le_refl _) _)
      clear H1 HH Hnot
      have hs := Hin.out
      go_wp2_with fail
      go_loopw [7, 8, 9, 10] (fun x i _ _ wr => ∃ (t g' c' : Nat) (rs : List RowRef), t ≤ n ∧ i = .int .i64 t ∧ x = (Value.slice (some ⟨g', 0, none⟩) t c') ∧ Hid (rs.length = t) ∧ Hid (contents rs = (s.take t).map fun i => pickRow c i s) ∧ OwnRows wr w.heap.size g' c' rs ∧ Below w.heap.size w wr) (fun _ i _ _ _ => n - (intOf i).toNat)
      case atStart => exact ⟨0, w.heap.size, 0, [], Nat.zero_le _, rfl, rfl, rfl, rfl, HE0.out, HB0.out⟩
      case round =>
        obtain ⟨t, g', c', rs, ht, rfl, rfl, hrs, hcont, ho, hb⟩ := hrel
        by_cases hlt : t < n
        · have hst := hs t hlt
          have htk := take_map_succ (fun i => pickRow c i s) s t (by rw [Hsl.out]; exact hlt)
          obtain ⟨iN, hiN⟩ : ∃ iN : Nat, s.getD t 0 = iN := ⟨(s.getD t 0).toNat, by omega⟩
          have p1 := hc t (by rw [Hsl.out]; exact hlt)
          rw [hiN] at p1 hst htk
          have hic : iN < n := by omega
          have hicI : (iN : Int) < (n : Int) := by omega
          obtain ⟨ga, oa, ca, q1, q2, q3, q4⟩ := hr iN (by rw [Hcl.out]; exact hic)
          have hri : (c.getD iN []).length = n := (hC.2.2.1 iN (by rw [Hcl.out]; exact hic)).trans Hcl.out
          rw [hri] at q1
          have Htk := Lib.hid htk; clear htk hst hiN
          obtain ⟨wo, rfl⟩ : ∃ wo : World, wo = wr := ⟨_, rfl⟩
          go_wp2
          go_loopw [9, 10] (fun x i wr => ∃ k gr cr : Nat, k ≤ n ∧ i = .int .i64 k ∧ x = (Value.slice (some ⟨gr, 0, none⟩) k cr) ∧ Own wr wo.heap.size gr cr (pickRow c iN (s.take k)) ∧ Below wo.heap.size wo wr) (fun _ i _ => n - (intOf i).toNat)
          case atStart => exact ⟨0, wo.heap.size, 0, Nat.zero_le _, rfl, rfl, Own.empty (Nat.le_refl _), (Below.refl _ _).alloc (Nat.le_refl _) _⟩
          case round =>
            obtain ⟨k, gr, cr, hk, rfl, rfl, hor, hb2⟩ := hrel
            have hbb : Below w.heap.size w wr := hb.trans (hb2.mono hb.size)
            by_cases hltk : k < n
            · have hsk := hs k hltk
              have htk2 := take_map_succ (fun j => ent c iN j.toNat) s k (by rw [Hsl.out]; exact hltk)
              obtain ⟨jN, hjN⟩ : ∃ jN : Nat, s.getD k 0 = jN := ⟨(s.getD k 0).toNat, by omega⟩
              have p2 := hc k (by rw [Hsl.out]; exact hltk)
              rw [hjN] at p2 hsk htk2
              rw [Int.toNat_natCast] at htk2
              have hjc : jN < n := by omega
              have Htk2 := Lib.hid htk2; clear htk2 hsk hjN
              have e2 := q4 jN (by rw [hri]; exact hjc)
              have hee : (c.getD iN []).getD jN 0 = ent c iN jN := rfl
              rw [hee] at e2
              have hpl : (pickRow c iN (s.take k)).length = k := by simp [pickRow]; have := Hsl.out; omega
              have Hpl := Lib.hid hpl; clear hpl hee
              generalize ent c iN jN = y at *
              have hB : Below w.heap.size w wr.drew := Below.drew hbb
              have u1 : wr.drew.cell? ⟨g, o + t, none⟩ = some (.int .i64 iN) := (hB.cell (p := ⟨g, o + t, none⟩) hg).trans p1
              have u2 : wr.drew.cell? ⟨g, o + k, none⟩ = some (.int .i64 jN) := (hB.cell (p := ⟨g, o + k, none⟩) hg).trans p2
              have u3 : wr.drew.cell? ⟨gc, oc + iN, none⟩ = some (Value.slice (some ⟨ga, oa, none⟩) n ca) := (hB.cell (p := ⟨gc, oc + iN, none⟩) hgc).trans q1
              have u4 : wr.drew.cell? ⟨ga, oa + jN, none⟩ = some (.int .i64 y) := (hB.cell (p := ⟨ga, oa + jN, none⟩) q3).trans e2
              have hBg := hor.base
              have hsz := hb.size
              have ne1 : some g ≠ some gr := by intro e; cases e; omega
              have ne2 : some gc ≠ some gr := by intro e; cases e; omega
              have ne3 : some ga ≠ some gr := by intro e; cases e; omega
              have i1 : (0 : Int) ≤ (iN : Int) := by omega
              have i2 : (0 : Int) ≤ (jN : Int) := by omega
              have i3 : (jN : Int) < (n : Int) := by omega
              have hor' : Own wr.drew wo.heap.size gr cr (pickRow c iN (s.take k)) := hor.drew
              have bA : Below wr.drew.heap.size wr.drew ((wr.alloc (.cells #[.int .i64 y] 3)).drew) := (Below.refl _ wr.drew).alloc (Nat.le_refl _) (.cells #[.int .i64 y] 3)
              go_wp2_with fail
              go_region_held3 (fun W => W.cell? ⟨g, o + t, none⟩ = some (.int .i64 iN) ∧ W.cell? ⟨g, o + k, none⟩ = some (.int .i64 jN) ∧ W.cell? ⟨gc, oc + iN, none⟩ = some (Value.slice (some ⟨ga, oa, none⟩) n ca) ∧ W.cell? ⟨ga, oa + jN, none⟩ = some (.int .i64 y))
                (first | exact ⟨u1, u2, u3, u4⟩ | exact ⟨keepCell bA u1, keepCell bA u2, keepCell bA u3, keepCell bA u4⟩ | exact ⟨hg3.cell (a := ⟨g, o + t, none⟩) u1 ne1, hg3.cell (a := ⟨g, o + k, none⟩) u2 ne1, hg3.cell (a := ⟨gc, oc + iN, none⟩) u3 ne2, hg3.cell (a := ⟨ga, oa + jN, none⟩) u4 ne3⟩)
                ((refine step_append_int (w := wr.drew) (by rfl) _ _ (by rfl) wo.heap.size gr cr k wr.heap.size (pickRow c iN (s.take k)) y _ Hpl.out (by rfl) (by rfl) (by exact hor') (by rfl) (by rfl) (by omega) ?_; intro g3 c3 w3 ho3 hg3 hor3))
              go_wp2
              go_roundw
              case rel =>
                refine ⟨k + 1, g3, c3, by omega, by go_num, rfl, ?_, (Below.drew hb2).grown hg3 hb2.size (by intro j hj; cases hj; exact hor.base)⟩
                have := Htk2.out
                have e : pickRow c iN (s.take (k + 1)) = pickRow c iN (s.take k) ++ [y] := this
                rw [e]; exact ho3
              case measure => simp [intOf]; omega
            · obtain rfl : n = k := by omega
              rw [List.take_of_length_le (Nat.le_of_eq Hsl.out)] at hor
              have hpl : (pickRow c iN s).length = n := by simp [pickRow]; exact Hsl.out
              have ho2 := ho.below hb2
              have hne : ∀ r ∈ rs, r.1 ≠ gr := fun r hr => by have h1 := (ho.2.1 r hr).lt; have h2 := hor.base; omega
              have hor2 := hor.mono hb.size
              have hrow : rowVal (gr, cr, pickRow c iN s) = (Value.slice (some ⟨gr, 0, none⟩) n cr) := by unfold rowVal; rw [hpl]
              clear p1 hpl q1 q4
              go_wp2_with (at_builtin; refine wpList_append_row rfl _ _ rfl w.heap.size g' c' t wr.heap.size rs (gr, cr, pickRow c iN s) _ hrs.out (by rw [hrow]) rfl ho2 hor2 hne rfl rfl (by omega) ?_)
              intro g4 c4 w4 ho4 hg4 _
              go_wp2
              go_roundw
              case rel =>
                refine ⟨t + 1, g4, c4, rs ++ [(gr, cr, pickRow c iN s)], by omega, by go_num, rfl, by show _ = _; rw [List.length_append, hrs.out]; rfl, ?_, ho4, hbb.grown hg4 hbb.size (by intro j hj; cases hj; exact ho.base)⟩
                show _ = _
                rw [contents_push, hcont.out, Htk.out]
              case measure => simp [intOf]; omega
        · obtain rfl : n = t := by omega
          have hc2 := hcont.out
          rw [List.take_of_length_le (Nat.le_of_eq Hsl.out)] at hc2
          have Hc2 := Lib.hid hc2
          clear hc2
          go_wp2
          go_ret2
          exact ⟨g', c', rs, rfl, Hc2.out, ho, hb⟩
end Go.Proofs.YtdedkfbiookofaaGreatDoor
namespace Go.Proofs.YtdedkfbiookofaaGreatDoor
set_option maxRecDepth 100000
open Go.RowKit
theorem rows_take_succ {a b : List (List Int)} {k : Nat} (hl : b.length = a.length) (hk : k < a.length) (h : a.take k = b.take k) (he : a.getD k [] = b.getD k []) : a.take (k + 1) = b.take (k + 1) := by
  have hk2 : k < b.length := by omega
  rw [List.take_succ_eq_append_getElem hk, List.take_succ_eq_append_getElem hk2, h]
  simp [List.getD, hk, hk2] at he
  rw [he]
set_option maxHeartbeats 1000000 in
theorem spec_EqualCartans_any (g1 o1 n1 c1 g2 o2 n2 c2 : Nat) (a b : List (List Int)) (w : World) (hn1 : a.length = n1) (hn2 : b.length = n2) (hx : a.length ≤ 1099511627776)
    (hra : ∀ j, j < a.length → (a.getD j []).length ≤ 1099511627776) (hrb : ∀ j, j < b.length → (b.getD j []).length ≤ 1099511627776) (hca : Rows2 w g1 o1 a) (hcb : Rows2 w g2 o2 b) :
    Calls Tryz.prog 186 #[(Value.slice (some ⟨g1, o1, none⟩) n1 c1), (Value.slice (some ⟨g2, o2, none⟩) n2 c2)] w (Reads w (.bool (decide (a = b)))) := by
  subst hn1; subst hn2
  by_cases hl : b.length = a.length
  · have hl' : b.length = a.length := hl
    have Hl := Lib.hid hl'; clear hl'
    have hb : ((a.length : Int) != (b.length : Int)) = false := by rw [hl]; simp
    clear hl
    go_enter Tryz.func186, Tryz.ntmps186
    go_wp2
    go_loopw [5, 6] (fun i _ wr => ∃ k : Nat, k ≤ a.length ∧ i = .int .i64 k ∧ Hid (a.take k = b.take k) ∧ ∃ n, wr = w.drewN n) (fun i _ _ => a.length - (intOf i).toNat)
    case atStart => exact ⟨0, Nat.zero_le _, rfl, rfl, 0, rfl⟩
    case round =>
      obtain ⟨k, hk, rfl, he, n, rfl⟩ := hrel
      by_cases hlt : k < a.length
      · have hl2 : k < b.length := by rw [Hl.out]; exact hlt
        obtain ⟨ga, oa, ca, q1, q2, q3, q4⟩ := hca k hlt
        obtain ⟨gb, ob, cb, p1, p2, p3, p4⟩ := hcb k hl2
        have hrk := hra k hlt
        have hrk2 := hrb k hl2
        obtain ⟨R, hR⟩ : ∃ R, a.getD k [] = R := ⟨_, rfl⟩
        obtain ⟨S, hS⟩ : ∃ S, b.getD k [] = S := ⟨_, rfl⟩
        rw [hR] at q1 q2 q4 hrk
        rw [hS] at p1 p2 p4 hrk2
        have HR := Lib.hid hR; have HS := Lib.hid hS
        clear hR hS
        by_cases hRS : S.length = R.length
        · have hRb : ((R.length : Int) != (S.length : Int)) = false := by rw [hRS]; simp
          have HRS := Lib.hid hRS; clear hRS
          go_wp2
          go_quiet (fail)
          go_wp2
          obtain ⟨wo, hwo⟩ : ∃ wo : World, wo = w.drewN n := ⟨_, rfl⟩
          clear hwo
          go_loopw [6] (fun j wr => ∃ t : Nat, t ≤ R.length ∧ j = .int .i64 t ∧ Hid (R.take t = S.take t) ∧ ∃ n, wr = w.drewN n) (fun j _ => R.length - (intOf j).toNat)
          case atStart => exact ⟨0, Nat.zero_le _, rfl, rfl, (by first | exact ⟨_, rfl⟩ | exact ⟨0, rfl⟩ | exact still2 _ _ _ | exact still3 _ _ _ _)⟩
          case round =>
            obtain ⟨t, ht, rfl, het, n2, rfl⟩ := hrel
            by_cases htl : t < R.length
            · have htl2 : t < S.length := by rw [HRS.out]; exact htl
              have r1 := q4 t htl
              have r2 := p4 t htl2
              go_wp2
              go_quiet (fail)
              go_wp2
              · have hne : (R[t] != S[t]) = true := by assumption
                go_ret
                have hab : a ≠ b := fun e => by
                  have : R = S := by rw [← HR.out, ← HS.out, e]
                  subst this; simp at hne
                exact ⟨ret_bool (by simp [hab]), (by first | exact ⟨_, rfl⟩ | exact ⟨0, rfl⟩ | exact still2 _ _ _ | exact still3 _ _ _ _)⟩
              · have heq : (R[t] != S[t]) = false := by assumption
                go_roundw
                case rel => exact ⟨t + 1, by omega, by go_num, take_succ_eq HRS.out.symm htl het.out (by simpa [List.getD, htl, htl2] using heq), (by first | exact ⟨_, rfl⟩ | exact ⟨0, rfl⟩ | exact still2 _ _ _ | exact still3 _ _ _ _)⟩
                case measure => simp [intOf]; omega
            · obtain rfl : t = R.length := by omega
              go_wp2
              go_roundw
              case rel =>
                have hRS : R = S := by
                  have h3 := het.out
                  rwa [List.take_of_length_le (by omega), List.take_of_length_le (by have := HRS.out; omega)] at h3
                exact ⟨k + 1, by omega, by go_num, rows_take_succ Hl.out hlt he.out (by rw [HR.out, HS.out]; exact hRS), (by first | exact ⟨_, rfl⟩ | exact ⟨0, rfl⟩ | exact still2 _ _ _ | exact still3 _ _ _ _)⟩
              case measure => simp [intOf]; omega
        · have hRb : ((R.length : Int) != (S.length : Int)) = true := by rw [bne_iff_ne]; omega
          go_wp2
          go_quiet (fail)
          go_wp2
          go_ret
          have hne : a ≠ b := fun e => hRS (by rw [← HR.out, ← HS.out, e])
          exact ⟨ret_bool (by simp [hne]), (by first | exact ⟨_, rfl⟩ | exact ⟨0, rfl⟩ | exact still2 _ _ _ | exact still3 _ _ _ _)⟩
      · obtain rfl : k = a.length := by omega
        go_wp2
        go_ret
        refine ⟨ret_bool ?_, n, rfl⟩
        have h3 := he.out
        rw [List.take_of_length_le (by omega), List.take_of_length_le (by have := Hl.out; omega)] at h3
        simp [h3]
  · have hb : ((a.length : Int) != (b.length : Int)) = true := by rw [bne_iff_ne]; omega
    go_enter Tryz.func186, Tryz.ntmps186
    go_wp2
    go_ret
    exact ⟨ret_bool (by simp; intro e; exact hl (by rw [e])), 0, rfl⟩
end Go.Proofs.YtdedkfbiookofaaGreatDoor
namespace Go.Proofs.YtdedkfbiookofaaGreatDoor
set_option maxRecDepth 100000
open Go.RowKit
def isoV (a b : List (List Int)) : List Int := ((isoO a b).map intsOf).getD []
theorem sqOf {c : List (List Int)} {n : Nat} (hn : c.length = n) (hC : IsC c) : SqN n c := ⟨hn, fun k hk => by rw [hC.2.2.1 k (by omega)]; exact hn⟩
set_option maxHeartbeats 2000000 in
theorem spec_AreIsomorphic_ok (ga oa na ca gb ob nb cb : Nat) (a b : List (List Int)) (w : World) (hna : a.length = na) (hnb : b.length = nb) (ha : IsC a) (hb : IsC b) (hga : ga < w.heap.size) (hgb : gb < w.heap.size) (hra : Rows2 w ga oa a) (hrb : Rows2 w gb ob b) :
    Calls Tryz.prog 163 #[(Value.slice (some ⟨ga, oa, none⟩) na ca), (Value.slice (some ⟨gb, ob, none⟩) nb cb)] w (GotIntsB w (isoV a b) (isoB a b)) := by
  have hCa := spec_IsCartan ga oa na ca a w hna (by have := ha.2.1; omega) (fun j hj => by have := ha.2.2.1 j hj; have := ha.2.1; omega) hra
  have hCb := fun W (hW : ∃ q, W = w.drewN q) => spec_IsCartan gb ob nb cb b W hnb (by have := hb.2.1; omega) (fun j hj => by have := hb.2.2.1 j hj; have := hb.2.1; omega) (hrb.still hW)
  rw [decide_eq_true ha] at hCa
  rw [decide_eq_true hb] at hCb
  have HCa := Lib.hid hCa; have HCb := Lib.hid hCb
  clear hCa hCb
  by_cases hl : na = nb
  · subst hl
    have hn4 : na ≤ 4 := by have := ha.2.1; omega
    have HO := Lib.hid (fun W => spec_l3Orders_ok na W hn4)
    have Hha := Lib.hid ha
    have Hhb := Lib.hid hb
    have Hna := Lib.hid hna; have Hnb := Lib.hid hnb
    have Hra := Lib.hid hra; have Hrb := Lib.hid hrb
    have hL24 := ords_len (n := na) (i := na) hn4 (Nat.le_refl _)
    have Hmem : Hid (∀ k, k < (ordsN na na).length → ((ordsN na na).getD k []).length = na ∧ ((ordsN na na).getD k []).Nodup ∧ ∀ x ∈ (ordsN na na).getD k [], x < na) := Lib.hid (fun k hk => ordsN_mem (by simp [List.getD, hk]))
    have Hto : Hid (∀ i, i < (ordsN na na).length → ((ordsN na na).take i).find? (agr a b) = none → agr a b ((ordsN na na).getD i []) = true → isoO a b = some ((ordsN na na).getD i [])) := Lib.hid (fun i hi h1 h2 => by
      have := iso_to (a := a) (b := b) (hna.trans hnb.symm) (i := i) (by rw [hna]; exact hi) (by rw [hna]; exact h1) (by rw [hna]; exact h2)
      rwa [hna] at this)
    have Hnone : Hid ((ordsN na na).find? (agr a b) = none → isoO a b = none) := Lib.hid (fun h => by unfold isoO; rw [if_pos (hna.trans hnb.symm), hna]; exact h)
    generalize ordsN na na = L at *
    clear ha hb hna hnb hra hrb
    go_enter Tryz.func163, Tryz.ntmps163
    go_wp2_with fail
    refine HCa.out.mono ?_
    rintro e w1 ⟨rfl, hs1⟩
    have Hcb := Lib.hid (HCb.out _ hs1)
    go_wp2_with fail
    refine Hcb.out.mono ?_
    rintro e w2 ⟨rfl, hs2⟩
    have hb2 := below_still (Below.refl w.heap.size w) (still_trans hs1 hs2)
    have Ho := Lib.hid (HO.out w2)
    clear HCa HCb Hcb hs1 hs2 HO
    go_wp2_with fail
    refine Ho.out.mono ?_
    rintro e w3 ⟨gl, cl, rl, rfl, hcl, hol, hbl⟩
    rw [List.length_map]
    have hb3 := hb2.trans (hbl.mono hb2.size)
    have hol' := hol.mono hb2.size
    have Hcl := Lib.hid hcl
    have Hrl : Hid (rl.length = L.length) := Lib.hid (by rw [← contents_length, hcl, List.length_map])
    clear Ho hol hbl hb2 hcl
    go_wp2_with fail
    go_loopw [7, 8, 9] (fun iv _ _ wr => ∃ i : Nat, i ≤ L.length ∧ iv = .int .i64 i ∧ Hid ((L.take i).find? (agr a b) = none) ∧ Below w3.heap.size w3 wr) (fun iv _ _ _ => L.length - (intOf iv).toNat)
    case atStart => exact ⟨0, Nat.zero_le _, rfl, rfl, Below.refl _ _⟩
    case round =>
      obtain ⟨i, hi, rfl, hf, hb⟩ := hrel
      have hbw := hb3.trans (hb.mono hb3.size)
      by_cases hlt : i < L.length
      · obtain ⟨m1, m2, m3⟩ := Hmem.out i hlt
        have hir : i < rl.length := by rw [Hrl.out]; exact hlt
        have hrow : rl[i].2.2 = intsOf (L.getD i []) := by
          rw [← contents_getD rl i hir, Hcl.out]
          simp [List.getD, hlt]
        have hok := hol'.2.1 _ (List.getElem_mem hir)
        have hcell := hol'.1.cell i (by simpa using hir)
        rw [hrow] at hok
        have hrv : rowVal rl[i] = (Value.slice (some ⟨(rl[i].1), 0, none⟩) na (rl[i].2.1)) := by unfold rowVal; rw [hrow, intsOf_length, m1]
        simp only [List.getElem_map, hrv] at hcell
        have hcap : na ≤ rl[i].2.1 := by have := hok.capLe; rw [intsOf_length, m1] at this; exact this
        generalize rl[i].1 = gk at *
        generalize rl[i].2.1 = ck at *
        have hto := Hto.out i hlt hf.out
        have hfs := fun h => find_step (p := agr a b) (d := []) hlt hf.out h
        have hpa := pick_agr (a := a) (b := b) (o := L.getD i []) (by rw [m1, Hnb.out]) (fun k hk => by exact Hhb.out.2.2.1 k hk)
        generalize L.getD i [] = o at *
        have hokr := hok.below hb hok.lt
        have hcellr := (hb.cell (p := ⟨gl, i, none⟩) hol'.lt).trans hcell
        have hrel := spec_Relabel_ok ga oa na ca gk 0 na ck a o wr Hna.out m1 rfl Hha.out m2 m3 hcap (Nat.lt_of_lt_of_le hga hbw.size) hokr.lt (Hra.out.below hbw hga) hokr.cells
        have Hrel := Lib.hid hrel
        have Hto2 := Lib.hid hto; have Hfs := Lib.hid hfs; have Hpa := Lib.hid hpa; have Hm1 := Lib.hid m1
        have Hok := Lib.hid hok
        have Hcell := Lib.hid hcell
        clear hrow hrv hrel hto hfs hpa hokr hcell m1 m2 m3 hok
        go_wp2_with fail
        refine Hrel.out.mono ?_
        rintro e w5 ⟨g5, c5, rs5, rfl, hc5, ho5, hb5⟩
        have hbw5 := hbw.trans (hb5.mono hbw.size)
        have hb35 := hb.trans (hb5.mono hb.size)
        have hpl : (pickL a (intsOf o)).length = na := by rw [← hc5, contents_length]; have := Hm1.out; have h9 := congrArg List.length hc5; rw [contents_length] at h9; rw [h9]; simp [pickL, intsOf, this]
        have heq := spec_EqualCartans_any g5 0 na c5 gb ob na cb (pickL a (intsOf o)) b w5 hpl Hnb.out (by omega) (fun j hj => by
          have : (pickL a (intsOf o)).getD j [] = o.map fun q => ent a (o.getD j 0) q := pick_getD a o j (by rw [Hm1.out, ← hpl]; exact hj)
          rw [this, List.length_map, Hm1.out]; omega) (fun j hj => by have := Hhb.out.2.2.1 j hj; have := Hnb.out; omega) (by rw [← hc5]; exact ho5.rows2) (Hrb.out.below hbw5 hgb)
        have Heq := Lib.hid heq
        clear Hrel heq hpl hc5 ho5 hb5 hbw hb
        cases hag : agr a b o with
        | true =>
          have hdec : decide (pickL a (intsOf o) = b) = true := decide_eq_true (Hpa.out.2 hag)
          have Hiso := Lib.hid (Hto2.out hag)
          rw [hdec] at Heq
          clear hdec hag
          go_wp2_with fail
          refine Heq.out.mono ?_
          rintro e w6 ⟨rfl, hs6⟩
          have hb36 := below_still hb35 hs6
          have hcell6 := (hb36.cell (p := ⟨gl, i, none⟩) hol'.lt).trans Hcell.out
          have ho6 := (Hok.out.below hb36 Hok.out.lt)
          have hb6 := hb3.trans (hb36.mono hb3.size)
          clear Heq hs6 hb35 hbw5
          go_wp2_with fail
          go_ret2
          have e1 : isoV a b = intsOf o := by unfold isoV; rw [Hiso.out]; rfl
          have e2 : isoB a b = true := by unfold isoB; rw [Hiso.out]; rfl
          rw [e1, e2]
          exact GotIntsB.mk' gk ck (by rw [intsOf_length]; exact Hm1.out) ho6 hb6
        | false =>
          have hdec : decide (pickL a (intsOf o) = b) = false := decide_eq_false (fun h => by rw [Hpa.out.1 h] at hag; cases hag)
          have Hf2 := Lib.hid (Hfs.out hag)
          rw [hdec] at Heq
          clear hdec hag
          go_wp2_with fail
          refine Heq.out.mono ?_
          rintro e w6 ⟨rfl, hs6⟩
          have hb36 := below_still hb35 hs6
          clear Heq hs6 hb35 hbw5
          go_wp2_with fail
          go_roundw
          case rel => exact ⟨i + 1, by omega, by go_num, Hf2, hb36⟩
          case measure => simp [intOf]; omega
      · obtain rfl : i = L.length := by omega
        have hf2 := hf.out
        rw [List.take_length] at hf2
        have Hiso := Lib.hid (Hnone.out hf2)
        clear hf hf2
        go_wp2_with fail
        go_ret2
        have e1 : isoV a b = [] := by unfold isoV; rw [Hiso.out]; rfl
        have e2 : isoB a b = false := by unfold isoB; rw [Hiso.out]; rfl
        rw [e1, e2]
        exact GotIntsB.mk' _ 0 rfl (Own.empty hbw.size) (hbw.alloc hbw.size _)
  · have e0 : isoO a b = none := by unfold isoO; rw [if_neg (by omega)]
    have e1 : isoV a b = [] := by unfold isoV; rw [e0]; rfl
    have e2 : isoB a b = false := by unfold isoB; rw [e0]; rfl
    rw [e1, e2]
    have hne : ((na : Int) != (nb : Int)) = true := by rw [bne_iff_ne]; omega
    clear e0 e1 e2 hl hna hnb
    go_enter Tryz.func163, Tryz.ntmps163
    go_wp2_with fail
    refine HCa.out.mono ?_
    rintro e w1 ⟨rfl, hs1⟩
    have Hcb := Lib.hid (HCb.out _ hs1)
    go_wp2_with fail
    refine Hcb.out.mono ?_
    rintro e w2 ⟨rfl, hs2⟩
    have hb2 := below_still (Below.refl w.heap.size w) (still_trans hs1 hs2)
    clear hs1 hs2
    go_wp2_with fail
    go_ret2
    exact GotIntsB.mk' _ 0 rfl (Own.empty hb2.size) (hb2.alloc hb2.size _)
set_option maxHeartbeats 2000000 in
theorem impl_AreIsomorphic_ok (ga oa na ca gb ob nb cb : Nat) (a b : List (List Int)) (w : World) (hna : a.length = na) (hnb : b.length = nb) (ha : IsC a) (hb : IsC b) (hga : ga < w.heap.size) (hgb : gb < w.heap.size) (hra : Rows2 w ga oa a) (hrb : Rows2 w gb ob b) :
    Calls Tryz.prog 205 #[(Value.slice (some ⟨ga, oa, none⟩) na ca), (Value.slice (some ⟨gb, ob, none⟩) nb cb)] w (GotIntsB w (isoV a b) (isoB a b)) := by
  have hCa := impl_IsCartan ga oa na ca a w hna (by have := ha.2.1; omega) (fun j hj => by have := ha.2.2.1 j hj; have := ha.2.1; omega) hra
  have hCb := fun W (hW : ∃ q, W = w.drewN q) => impl_IsCartan gb ob nb cb b W hnb (by have := hb.2.1; omega) (fun j hj => by have := hb.2.2.1 j hj; have := hb.2.1; omega) (hrb.still hW)
  rw [decide_eq_true ha] at hCa
  rw [decide_eq_true hb] at hCb
  have HCa := Lib.hid hCa; have HCb := Lib.hid hCb
  clear hCa hCb
  by_cases hl : na = nb
  · subst hl
    have hn4 : na ≤ 4 := by have := ha.2.1; omega
    have hn1 : 1 ≤ na := by have := ha.1; omega
    have hT := iso_mt ha hb (hna.trans hnb.symm)
    rw [hnb] at hT
    have HM := Lib.hid (fun W (hW : Below w.heap.size w W) => impl_matches_ok a b na hn1 hn4 (sqOf hna ha) (sqOf hnb hb) na ga oa ca gb ob cb none 0 0 0 [] 1 W (by simp) rfl (by simp) (Nat.le_refl _) (by omega) (Nat.lt_of_lt_of_le hga hW.size) (Nat.lt_of_lt_of_le hgb hW.size) (hra.below hW hga) (hrb.below hW hgb) (.inl ⟨rfl, rfl⟩))
    rw [hT] at HM
    have hm := fun o (h : isoO a b = some o) => (iso_mem h).trans hna
    have Hm := Lib.hid hm
    have e1 : isoV a b = ((isoO a b).map intsOf).getD [] := rfl
    have e2 : isoB a b = (isoO a b).isSome := rfl
    rw [e1, e2]
    clear hT hna hnb ha hb hra hrb hm e1 e2
    generalize isoO a b = R at *
    cases R with
    | none =>
      show Calls _ _ _ _ (GotIntsB w [] false)
      go_enter Tryz.func205, Tryz.ntmps205
      go_wp2_with fail
      refine HCa.out.mono ?_
      rintro e w1 ⟨rfl, hs1⟩
      have Hcb := Lib.hid (HCb.out _ hs1)
      go_wp2_with fail
      refine Hcb.out.mono ?_
      rintro e w2 ⟨rfl, hs2⟩
      have hb2 := below_still (Below.refl w.heap.size w) (still_trans hs1 hs2)
      have Hmm := Lib.hid (HM.out w2 hb2)
      clear hs1 hs2 Hcb HM HCa HCb
      go_wp2_with fail
      refine Hmm.out.mono ?_
      rintro e w3 ⟨g3, c3, r3, rfl, hc3, ho3, hb3⟩
      have hb4 := hb2.trans (hb3.mono hb2.size)
      clear Hmm hc3 ho3 hb3
      go_wp2_with fail
      go_ret2
      exact GotIntsB.mk' _ 0 rfl (Own.empty hb4.size) (hb4.alloc hb4.size _)
    | some o =>
      show Calls _ _ _ _ (GotIntsB w (intsOf o) true)
      have hol := Lib.hid (Hm.out o rfl)
      go_enter Tryz.func205, Tryz.ntmps205
      go_wp2_with fail
      refine HCa.out.mono ?_
      rintro e w1 ⟨rfl, hs1⟩
      have Hcb := Lib.hid (HCb.out _ hs1)
      go_wp2_with fail
      refine Hcb.out.mono ?_
      rintro e w2 ⟨rfl, hs2⟩
      have hb2 := below_still (Below.refl w.heap.size w) (still_trans hs1 hs2)
      have Hmm := Lib.hid (HM.out w2 hb2)
      clear hs1 hs2 Hcb HM HCa HCb
      go_wp2_with fail
      refine Hmm.out.mono ?_
      rintro e w3 ⟨g3, c3, r3, rfl, hc3, ho3, hb3⟩
      have hb4 := hb2.trans (hb3.mono hb2.size)
      have hl3 : r3.length = 1 := by rw [← contents_length, hc3]; rfl
      have hr3 : r3[0].2.2 = intsOf o := by
        rw [← contents_getD r3 0 (by omega), hc3]; rfl
      have hok := ho3.2.1 _ (List.getElem_mem (show 0 < r3.length by omega))
      have hcell := ho3.1.cell 0 (by simp; omega)
      rw [hr3] at hok
      have hrv : rowVal r3[0] = (Value.slice (some ⟨(r3[0].1), 0, none⟩) na (r3[0].2.1)) := by unfold rowVal; rw [hr3, intsOf_length, hol.out]
      simp only [List.getElem_map, hrv] at hcell
      generalize r3[0].1 = gk at *
      generalize r3[0].2.1 = ck at *
      have hok' := hok.mono hb2.size
      have HB4 := Lib.hid hb4; have HOK := Lib.hid hok'
      clear Hmm hc3 ho3 hb3 hl3 hr3 hrv hok hok' hb4 hb2
      go_wp2_with fail
      go_ret2
      exact GotIntsB.mk' gk ck (by rw [intsOf_length]; exact hol.out) HOK.out HB4.out
  · have e0 : isoO a b = none := by unfold isoO; rw [if_neg (by omega)]
    have e1 : isoV a b = [] := by unfold isoV; rw [e0]; rfl
    have e2 : isoB a b = false := by unfold isoB; rw [e0]; rfl
    rw [e1, e2]
    have hne : ((na : Int) != (nb : Int)) = true := by rw [bne_iff_ne]; omega
    clear e0 e1 e2 hl hna hnb
    go_enter Tryz.func205, Tryz.ntmps205
    go_wp2_with fail
    refine HCa.out.mono ?_
    rintro e w1 ⟨rfl, hs1⟩
    have Hcb := Lib.hid (HCb.out _ hs1)
    go_wp2_with fail
    refine Hcb.out.mono ?_
    rintro e w2 ⟨rfl, hs2⟩
    have hb2 := below_still (Below.refl w.heap.size w) (still_trans hs1 hs2)
    clear hs1 hs2
    go_wp2_with fail
    go_ret2
    exact GotIntsB.mk' _ 0 rfl (Own.empty hb2.size) (hb2.alloc hb2.size _)
end Go.Proofs.YtdedkfbiookofaaGreatDoor
namespace Go.Proofs.YtdedkfbiookofaaGreatDoor
set_option maxRecDepth 100000
open Go.RowKit
set_option maxHeartbeats 2000000 in
theorem spec_l2Copy_any (g o n cp : Nat) (rows : List (List Int)) (w : World) (hn : rows.length = n) (hx : rows.length ≤ 1048576) (hrl : ∀ j, j < rows.length → (rows.getD j []).length ≤ 1048576) (hg : g < w.heap.size) (hr : Rows2 w g o rows) :
    Calls Tryz.prog 172 #[(Value.slice (some ⟨g, o, none⟩) n cp)] w (GotRows w rows) := by
  subst hn
  go_enter Tryz.func172, Tryz.ntmps172
  go_wp2
  go_loopw [3, 4] (fun ov kv wr => ∃ (k g2 c2 : Nat) (rs : List RowRef), k ≤ rows.length ∧ kv = .int .i64 k ∧ ov = (Value.slice (some ⟨g2, 0, none⟩) k c2) ∧ Hid (rs.length = k) ∧ Hid (contents rs = rows.take k) ∧ OwnRows wr w.heap.size g2 c2 rs ∧ Below w.heap.size w wr) (fun _ kv _ => rows.length - (intOf kv).toNat)
  case atStart => exact ⟨0, w.heap.size, 0, [], Nat.zero_le _, rfl, rfl, rfl, rfl, OwnRows.empty (Nat.le_refl _), (Below.refl _ _).alloc (Nat.le_refl _) _⟩
  case round =>
    obtain ⟨k, g2, c2, rs, hk, rfl, rfl, hrk, hcon, hO, hb⟩ := hrel
    by_cases hlt : k < rows.length
    · obtain ⟨gj, oj, cj, q1, q2, q3, q4⟩ := (hr.below hb hg) k hlt
      have hlk := hrl k hlt
      have ht : rows.take (k + 1) = rows.take k ++ [rows.getD k []] := by
        rw [List.take_succ_eq_append_getElem hlt]; simp [List.getD, hlt]
      generalize rows.getD k [] = x at *
      obtain ⟨lx, hlx⟩ : ∃ lx, x.length = lx := ⟨_, rfl⟩
      rw [hlx] at q1 q2 hlk
      have Ht := Lib.hid ht; have Hlx := Lib.hid hlx; have Q4 := Lib.hid q4
      have hE := (Below.refl wr.heap.size wr).alloc (Nat.le_refl _) (.cells #[] 3)
      have q1' := (hE.cell (p := ⟨g, o + k, none⟩) (Nat.lt_of_lt_of_le hg hb.size)).trans q1
      clear ht hlx q4 hE
      go_wp2_with (at_builtin; refine wpList_clone rfl _ _ rfl gj oj lx cj x Hlx.out q3 Q4.out rfl rfl (by rw [Hlx.out]; omega) ?_)
      intro g3 c3 w3 ho3 hb3
      have hO3 := hO.below hb3
      have hB3 := hb.trans (hb3.mono hb.size)
      have hne : ∀ s ∈ rs, s.1 ≠ g3 := fun s hs e => by have h1 := (hO.2.1 s hs).lt; have h2 := ho3.base; omega
      have Hne := Lib.hid hne
      clear hO hne q1 q1' q3 hb3
      go_wp2_with (at_builtin; refine wpList_append_row (w := w3) rfl _ _ rfl w.heap.size g2 c2 k w3.heap.size rs (g3, c3, x) _ hrk.out (by unfold rowVal; rw [Hlx.out]) rfl hO3 (ho3.mono hb.size) Hne.out rfl rfl (by omega) ?_)
      intro g4 c4 w4 hO4 hg4 hor4
      have hB4 : Below w.heap.size w w4 := hB3.grown hg4 hB3.size (by intro t ht; cases ht; exact hO3.base)
      have hl4 : Hid ((rs ++ [(g3, c3, x)]).length = k + 1) := Lib.hid (by rw [List.length_append, hrk.out]; rfl)
      have hc4 : Hid (contents (rs ++ [(g3, c3, x)]) = rows.take (k + 1)) := Lib.hid (by rw [Ht.out, ← hcon.out]; simp [contents])
      clear hO3 hB3 hg4 hor4 hb
      go_wp2_with fail
      go_roundw
      case rel => exact ⟨k + 1, g4, c4, _, by omega, by go_num, rfl, hl4.out, hc4.out, hO4, hB4⟩
      case measure => simp [intOf]; omega
    · obtain rfl : k = rows.length := by omega
      have hc := hcon.out
      rw [List.take_length] at hc
      have Hc := Lib.hid hc
      clear hc
      go_wp2_with fail
      go_ret
      exact ⟨g2, c2, rs, rfl, Hc.out, hO, hb⟩
end Go.Proofs.YtdedkfbiookofaaGreatDoor
namespace Go.Proofs.YtdedkfbiookofaaGreatDoor
set_option maxRecDepth 100000
open Go.RowKit
set_option maxHeartbeats 1000000 in
theorem spec_l2Set_ok (gc oc n cc i j : Nat) (a b : Int) (c : List (List Int)) (w : World) (hn : c.length = n) (hn4 : n ≤ 4) (hsq : ∀ k, k < c.length → (c.getD k []).length = n) (hi : i < n) (hj : j < n) (hij : i ≠ j) (hgc : gc < w.heap.size) (hr : Rows2 w gc oc c) :
    Calls Tryz.prog 151 #[(Value.slice (some ⟨gc, oc, none⟩) n cc), .int .i64 i, .int .i64 j, .int .i64 a, .int .i64 b] w (GotRows w (setM (setM c i j a) j i b)) := by
  have H := Lib.hid (spec_l2Copy_any gc oc n cc c w hn (by omega) (fun k hk => by have := hsq k hk; omega) hgc hr)
  have Hn := Lib.hid hn; have Hsq := Lib.hid hsq
  clear hr hsq hgc hn
  go_enter Tryz.func151, Tryz.ntmps151
  go_wp2_with fail
  refine H.out.mono ?_
  rintro e w1 ⟨g1, c1, rs, rfl, hc, ho, hb⟩
  obtain ⟨gr, cr, -, hbr, hlr, hne, q1, q2, q3⟩ := ho.setMat hc i (by rw [Hn.out]; exact hi)
  rw [Hsq.out i (by rw [Hn.out]; exact hi)] at q1 q2
  obtain ⟨q4, q5⟩ := q2 j hj
  obtain ⟨rs2, -, hc2, hl2, ho2, hg2⟩ := q3 j a
  have hb2 := hb.grown hg2 hb.size (by intro t ht; cases ht; exact hbr)
  have hlen2 : (setM c i j a).length = n := by rw [setM_length]; exact Hn.out
  obtain ⟨gs, cs, -, hbs, hls, hne2, r1, r2, r3⟩ := ho2.setMat hc2 j (by rw [hlen2]; exact hj)
  have hrow : (setM c i j a).getD j [] = c.getD j [] := by simp [setM, List.getD, hij]
  rw [hrow, Hsq.out j (by rw [Hn.out]; exact hj)] at r1 r2
  obtain ⟨r4, r5⟩ := r2 i hi
  obtain ⟨rs3, -, hc3, hl3, ho3, hg3⟩ := r3 i b
  have hb3 := hb2.grown hg3 hb2.size (by intro t ht; cases ht; exact hbs)
  have hl : c.length = n := Hn.out
  rw [hl]
  have HO := Lib.hid ho3; have HC := Lib.hid hc3; have HB := Lib.hid hb3
  have Hlen : Hid ((setM (setM c i j a) j i b).length = n) := Lib.hid (by rw [setM_length]; exact hlen2)
  clear q2 q3 r2 r3 ho ho2 ho3 hb hb2 hb3 hc hc2 hc3 hg2 hg3 hrow hlen2 hl H hl2 hl3
  generalize (c.getD j []).getD i 0 = y1 at *
  generalize (c.getD i []).getD j 0 = y2 at *
  go_wp2_with fail
  go_ret
  exact ⟨g1, c1, rs3, congrArg (fun z => Ending.returned (Value.slice (some ⟨g1, 0, none⟩) z c1)) Hlen.out.symm, HC.out, HO.out, HB.out⟩
end Go.Proofs.YtdedkfbiookofaaGreatDoor
namespace Go.Proofs.YtdedkfbiookofaaGreatDoor
set_option maxRecDepth 100000
open Go.RowKit Game
theorem SeenM.neOwn {w : World} {b n m g cap B : Nat} {ks : List (List Int)} {xs : List Int} (h : SeenM w b n m ks) (ho : Own w B g cap xs) : b ≠ g := by
  rintro rfl
  obtain ⟨D, ⟨es, clock, hh, -⟩, -⟩ := h
  obtain ⟨cur, h2, -⟩ := ho.toV.row
  rw [hh] at h2
  simp at h2
theorem wfV_refl (c : List (List Int)) (i : Nat) (v : List Int) : WfV (refl c i v) := by
  intro j _
  by_cases h : j < v.length
  · have e : (refl c i v).getD j 0 = reflAt c i v j := by simp [refl, List.getD, h]
    rw [e]; exact wrap64_wf _
  · have e : (refl c i v).getD j 0 = 0 := by simp [refl, List.getD, h]
    rw [e]; decide
/-- new rows and a bool -/
def GotRowsB (w : World) (rows : List (List Int)) (b : Bool) (e : Ending) (w' : World) : Prop :=
  ∃ g cap rs, e = .returned (.tuple #[(Value.slice (some ⟨g, 0, none⟩) rows.length cap), .bool b]) ∧ contents rs = rows ∧ OwnRows w' w.heap.size g cap rs ∧ Below w.heap.size w w'
theorem GotRowsB.mk' {w w' : World} {rows : List (List Int)} {b : Bool} {n : Nat} (g cap : Nat) (rs : List RowRef) (hl : rs.length = n) (hc : contents rs = rows) (ho : OwnRows w' w.heap.size g cap rs) (hb : Below w.heap.size w w') :
    GotRowsB w rows b (.returned (.tuple #[(Value.slice (some ⟨g, 0, none⟩) n cap), .bool b])) w' := by
  subst hl; subst hc
  exact ⟨g, cap, rs, by rw [contents_length], rfl, ho, hb⟩
theorem start_rows (w : World) : OwnRows ((w.alloc (.cells #[] 3)).alloc (.cells #[(Value.slice (some ⟨w.heap.size, 0, none⟩) 0 0)] 25)) w.heap.size (w.heap.size + 1) 1 [(w.heap.size, 0, [])] := by
  have h1 : Own (w.alloc (.cells #[] 3)) w.heap.size w.heap.size 0 [] := Own.empty (w := w) (Nat.le_refl _)
  have h2 : OwnV ((w.alloc (.cells #[] 3)).alloc (.cells #[(Value.slice (some ⟨w.heap.size, 0, none⟩) 0 0)] 25)) w.heap.size 25 (w.heap.size + 1) 1 [(Value.slice (some ⟨w.heap.size, 0, none⟩) 0 0)] := by
    have := OwnV.new (w := w.alloc (.cells #[] 3)) (B := w.heap.size) (E := 25) (Value.slice (some ⟨w.heap.size, 0, none⟩) 0 0) rfl (by simp)
    simpa using this
  exact ⟨h2, ⟨fun r hr => by rw [List.mem_singleton] at hr; subst hr; exact h1.alloc _, by simp⟩⟩
end Go.Proofs.YtdedkfbiookofaaGreatDoor
