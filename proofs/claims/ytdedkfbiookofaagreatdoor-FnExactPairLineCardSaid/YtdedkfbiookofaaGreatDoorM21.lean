/- The reference's l3Has, l3Orders: contracts. The reference's RelabelCartan at orders: contract. EqualCartans (slices.EqualFunc): contracts. -/
import Derived.Test.YtdedkfbiookofaaGreatDoorM18
import Derived.Test.YtdedkfbiookofaaGreatDoorM20
import Derived.Test.YtdedkfbiookofaaGreatDoorM10
import Derived.Test.YtdedkfbiookofaaGreatDoorM01
import Derived.Test.YtdedkfbiookofaaGreatDoorM02
namespace Go.Proofs.YtdedkfbiookofaaGreatDoor
set_option maxRecDepth 100000
open Go.RowKit
set_option maxHeartbeats 400000 in
theorem spec_l3Has_ok (g o n c : Nat) (x : Int) (xs : List Int) (w : World) (hn : xs.length = n) (hx : n ≤ 1048576) (hc : Cells w g o xs) :
    Calls Tryz.prog 206 #[(Value.slice (some ⟨g, o, none⟩) n c), .int .i64 x] w (Reads w (.bool (decide (x ∈ xs)))) := by
  subst hn
  go_enter Tryz.func206, Tryz.ntmps206
  go_wp2
  go_loopw [5] (fun i wr => ∃ k : Nat, k ≤ xs.length ∧ i = .int .i64 k ∧ Hid (x ∉ xs.take k) ∧ ∃ n, wr = w.drewN n) (fun i _ => xs.length - (intOf i).toNat)
  case atStart => exact ⟨0, Nat.zero_le _, rfl, Lib.hid (by simp), 0, rfl⟩
  case round =>
    obtain ⟨k, hk, rfl, hno, n, rfl⟩ := hrel
    by_cases hlt : k < xs.length
    · have q1 := hc k hlt
      have hm : Hid (xs.getD k 0 = x → x ∈ xs) := fun e => by rw [← e]; simp [List.getD, hlt]
      have hno2 : Hid (¬ x = xs.getD k 0 → x ∉ xs.take (k + 1)) := fun e hmem => by
        rw [List.take_succ_eq_append_getElem hlt] at hmem
        rcases List.mem_append.1 hmem with h | h
        · exact hno.out h
        · have e3 : xs.getD k 0 = xs[k] := by simp [List.getD, hlt]
          rw [List.mem_singleton, ← e3] at h
          exact e h
      generalize xs.getD k 0 = y at *
      by_cases hxy : x = y
      · have Hm := Lib.hid (hm.out hxy.symm)
        subst hxy
        go_wp2
        go_ret
        exact ⟨ret_bool (by rw [decide_eq_true Hm.out]), n, rfl⟩
      · have Hn := Lib.hid (hno2.out hxy)
        have hb : (y == x) = false := by rw [beq_eq_false_iff_ne]; exact fun e => hxy e.symm
        clear hno2 hm
        go_wp2
        go_roundw
        case rel => exact ⟨k + 1, by omega, by go_num, Hn, n, rfl⟩
        case measure => simp [intOf]; omega
    · obtain rfl : k = xs.length := by omega
      have h := hno.out
      rw [List.take_length] at h
      have H := Lib.hid h
      clear hno h
      go_wp2
      go_ret
      exact ⟨ret_bool (by rw [decide_eq_false H.out]), n, rfl⟩
def ordTo (o : List Nat) (x : Nat) : List (List Nat) := ((List.range x).filter fun y => !(o.contains y)).map fun y => o ++ [y]
theorem ordTo_succ (o : List Nat) (x : Nat) : ordTo o (x + 1) = ordTo o x ++ (if o.contains x then [] else [o ++ [x]]) := by
  unfold ordTo
  rw [List.range_succ, List.filter_append, List.map_append]
  congr 1
  cases h : o.contains x with
  | true =>
    have h2 : x ∈ o := by simpa using h
    simp [h2]
  | false =>
    have h2 : x ∉ o := by simpa using h
    simp [h2]
def ordsTo (n : Nat) (L : List (List Nat)) (k : Nat) : List (List Nat) := (L.take k).flatMap (ordStep n)
theorem ordsTo_succ (n : Nat) (L : List (List Nat)) (k : Nat) (hk : k < L.length) : ordsTo n L (k + 1) = ordsTo n L k ++ ordTo (L.getD k []) n := by
  have e : L.take (k + 1) = L.take k ++ [L[k]] := List.take_succ_eq_append_getElem hk
  have e2 : L.getD k [] = L[k] := by simp [List.getD, hk]
  unfold ordsTo
  rw [e, e2, List.flatMap_append, List.flatMap_cons, List.flatMap_nil, List.append_nil]
  rfl
theorem ords_len {n i : Nat} (hn : n ≤ 4) (hi : i ≤ n) : (ordsN n i).length ≤ 24 := by
  have : n = 0 ∨ n = 1 ∨ n = 2 ∨ n = 3 ∨ n = 4 := by omega
  rcases this with rfl | rfl | rfl | rfl | rfl
  · obtain rfl : i = 0 := by omega
    decide
  · have : i = 0 ∨ i = 1 := by omega
    rcases this with rfl | rfl <;> decide
  · have : i = 0 ∨ i = 1 ∨ i = 2 := by omega
    rcases this with rfl | rfl | rfl <;> decide
  · have : i = 0 ∨ i = 1 ∨ i = 2 ∨ i = 3 := by omega
    rcases this with rfl | rfl | rfl | rfl <;> decide
  · have : i = 0 ∨ i = 1 ∨ i = 2 ∨ i = 3 ∨ i = 4 := by omega
    rcases this with rfl | rfl | rfl | rfl | rfl <;> decide
set_option maxHeartbeats 2000000 in
theorem spec_l3Orders_ok (n : Nat) (w : World) (hn : n ≤ 4) : Calls Tryz.prog 184 #[.int .i64 n] w (GotRows w ((ordsN n n).map intsOf)) := by
  have h0 : OwnRows ((w.alloc (.cells #[] 3)).alloc (.cells #[(Value.slice (some ⟨w.heap.size, 0, none⟩) 0 0)] 25)) w.heap.size (w.heap.size + 1) 1 [(w.heap.size, 0, [])] := by
    have := own_row1 (w := w.alloc (.cells #[] 3)) (B := w.heap.size) (n := 0) (by simp) rfl (Own.empty (w := w) (Nat.le_refl _))
    simpa using this
  have hb0 : Below w.heap.size w ((w.alloc (.cells #[] 3)).alloc (.cells #[(Value.slice (some ⟨w.heap.size, 0, none⟩) 0 0)] 25)) := ((Below.refl _ _).alloc (Nat.le_refl _) _).alloc (by simp) _
  have H0 := Lib.hid h0; have Hb0 := Lib.hid hb0
  clear h0 hb0
  go_enter Tryz.func184, Tryz.ntmps184
  go_wp2_with fail
  go_loopw [3, 4, 5, 6, 7] (fun ov iv _ _ _ wr => ∃ (i p gO cO : Nat) (rs : List RowRef), i ≤ n ∧ iv = .int .i64 i ∧ ov = (Value.slice (some ⟨gO, 0, none⟩) p cO) ∧ Hid (rs.length = p) ∧ Hid (contents rs = (ordsN n i).map intsOf) ∧ OwnRows wr w.heap.size gO cO rs ∧ Below w.heap.size w wr) (fun _ iv _ _ _ _ => n - (intOf iv).toNat)
  case atStart => exact ⟨0, 1, w.heap.size + 1, 1, [(w.heap.size, 0, [])], Nat.zero_le _, rfl, rfl, rfl, rfl, H0.out, Hb0.out⟩
  case round =>
    clear H0 Hb0
    obtain ⟨i, p, gO, cO, rs, hi, rfl, rfl, hp, hcont, ho, hb⟩ := hrel
    rename World => wo
    by_cases hlt : i < n
    · have hp24 : p ≤ 24 := by
        have h1 := congrArg List.length hcont.out
        rw [contents_length, hp.out, List.length_map] at h1
        have := ords_len (i := i) hn (by omega)
        omega
      have Hpl : Hid ((ordsN n i).length = p) := Lib.hid (by
        have h1 := congrArg List.length hcont.out
        rw [contents_length, hp.out, List.length_map] at h1
        exact h1.symm)
      have Hmem := Lib.hid (fun k (hk : k < p) => show ((ordsN n i).getD k []).length = i from (ordsN_mem (n := n) (k := i) (by simp [List.getD, show k < (ordsN n i).length by rw [Hpl.out]; exact hk])).1)
      have Hnext : Hid (ordsN n (i + 1) = ordsTo n (ordsN n i) p) := Lib.hid (by unfold ordsTo; rw [← Hpl.out, List.take_length]; rfl)
      generalize ordsN n i = L at *
      go_wp2_with fail
      go_loopw [5, 6, 7] (fun nv kv _ wr => ∃ (k q gN cN : Nat) (rn : List RowRef), k ≤ p ∧ q ≤ k * 4 ∧ kv = .int .i64 k ∧ nv = (Value.slice (some ⟨gN, 0, none⟩) q cN) ∧ Hid (rn.length = q) ∧ Hid (contents rn = (ordsTo n L k).map intsOf) ∧ OwnRows wr w.heap.size gN cN rn ∧ wo.heap.size ≤ gN ∧ Below wo.heap.size wo wr) (fun _ kv _ _ => p - (intOf kv).toNat)
      case atStart => exact ⟨0, 0, wo.heap.size, 0, [], Nat.zero_le _, Nat.zero_le _, rfl, rfl, rfl, rfl, OwnRows.empty hb.size, Nat.le_refl _, (Below.refl _ _).alloc (Nat.le_refl _) _⟩
      case round =>
        obtain ⟨k, q, gN, cN, rn, hk, hq, rfl, rfl, hrn, hcn, hon, hgN, hbn⟩ := hrel
        rename World => wk
        by_cases hltk : k < p
        · have hsucc := ordsTo_succ n L k (by rw [Hpl.out]; exact hltk)
          have Hsucc := Lib.hid hsucc
          have hkr : k < rs.length := by rw [hp.out]; exact hltk
          have hrow : rs[k].2.2 = intsOf (L.getD k []) := by
            rw [← contents_getD rs k hkr, hcont.out]
            simp [List.getD, show k < L.length by rw [Hpl.out]; exact hltk]
          have hok := ho.2.1 _ (List.getElem_mem hkr)
          have hcell := ho.1.cell k (by simpa using hkr)
          have hl := Hmem.out k hltk
          rw [hrow] at hok
          have hrv : rowVal rs[k] = (Value.slice (some ⟨(rs[k].1), 0, none⟩) i (rs[k].2.1)) := by unfold rowVal; rw [hrow, intsOf_length, hl]
          simp only [List.getElem_map, hrv] at hcell
          generalize rs[k].1 = gk at *
          generalize rs[k].2.1 = ck at *
          generalize L.getD k [] = o at *
          have Hl := Lib.hid hl
          have Hok := Lib.hid hok
          have hlo : Hid ((intsOf o).length = i) := Lib.hid (by rw [intsOf_length]; exact hl)
          have Hcell := Lib.hid hcell
          have hgk := hok.lt
          clear hrow hsucc hrv hok hcell hl
          go_wp2_with fail
          go_loopw [5, 7] (fun nv xv wr => ∃ (x q2 gN cN : Nat) (rn : List RowRef), x ≤ n ∧ q2 ≤ q + x ∧ xv = .int .i64 x ∧ nv = (Value.slice (some ⟨gN, 0, none⟩) q2 cN) ∧ Hid (rn.length = q2) ∧ Hid (contents rn = (ordsTo n L k ++ ordTo o x).map intsOf) ∧ OwnRows wr w.heap.size gN cN rn ∧ wo.heap.size ≤ gN ∧ Below wo.heap.size wo wr) (fun _ xv _ => n - (intOf xv).toNat)
          case atStart => exact ⟨0, q, gN, cN, rn, Nat.zero_le _, by omega, rfl, rfl, hrn, by
            show _ = _
            rw [hcn.out]; simp [ordTo], hon, hgN, hbn⟩
          case round =>
            clear hrn hcn hon hgN hbn
            obtain ⟨x, q2, gN, cN, rn, hx, hq2, rfl, rfl, hrn, hcn, hon, hgN, hbn⟩ := hrel
            by_cases hltx : x < n
            · have hcell := (hbn.cell (p := ⟨gO, k, none⟩) ho.lt).trans Hcell.out
              have hcel := (Hok.out.below hbn hgk).cells
              have hH := spec_l3Has_ok gk 0 i ck (x : Int) (intsOf o) wr hlo.out (by omega) hcel
              rw [mem_intsOf] at hH
              have Hst := Lib.hid (ordTo_succ o x)
              have Hcel := Lib.hid hcel
              have hgkw : gk < wr.heap.size := Nat.lt_of_lt_of_le hgk hbn.size
              cases hc : o.contains x with
              | true =>
                rw [hc] at hH
                have HH := Lib.hid hH
                have Hst2 : Hid (ordTo o (x + 1) = ordTo o x) := Lib.hid (by rw [Hst.out, hc]; simp)
                clear hH hc hcel
                go_wp2_with fail
                refine HH.out.mono ?_
                rintro e w4 ⟨rfl, hs⟩
                have hon4 := hon.still hs
                have hbn4 := below_still hbn hs
                clear HH hon hbn hs hcell
                go_wp2_with fail
                go_roundw
                case rel => exact ⟨x + 1, q2, gN, cN, rn, by omega, by omega, by go_num, rfl, hrn, by rw [Hst2.out]; exact hcn, hon4, hgN, hbn4⟩
                case measure => simp [intOf]; omega
              | false =>
                rw [hc] at hH
                have HH := Lib.hid hH
                have Hst2 : Hid (ordTo o (x + 1) = ordTo o x ++ [o ++ [x]]) := Lib.hid (by rw [Hst.out, hc]; simp)
                clear hH hc hcel
                go_wp2_with fail
                refine HH.out.mono ?_
                rintro e w4 ⟨rfl, hs⟩
                have hon4 := hon.still hs
                have hbn4 := below_still hbn hs
                have hcell4 : ∀ ob, (w4.alloc ob).cell? ⟨gO, k, none⟩ = some (Value.slice (some ⟨gk, 0, none⟩) i ck) := fun ob => (((Below.refl w4.heap.size w4).alloc (Nat.le_refl _) ob).cell (p := ⟨gO, k, none⟩) (Nat.lt_of_lt_of_le ho.lt hbn4.size)).trans ((cell_still hs _).trans hcell)
                have hcel4 := Hcel.out.still hs
                have hgk4 : gk < w4.heap.size := Nat.lt_of_lt_of_le hgk hbn4.size
                clear HH hon hbn hs hcell hgkw
                go_wp2_with (at_builtin; refine wpList_clone (w := w4) rfl _ _ rfl gk 0 i ck (intsOf o) hlo.out hgk4 hcel4 rfl rfl (by rw [hlo.out]; omega) ?_)
                intro g5 c5 w5 ho5 hb5
                clear hcell4 hcel4
                go_wp2_with (at_builtin; refine wpList_append_int_n (w := w5) rfl _ _ rfl w4.heap.size g5 c5 i (intsOf o) (x : Int) hlo.out ho5 rfl rfl (by omega) ?_)
                intro g6 c6 w6 ho6 hg6 hor6
                have hb46 : Below w4.heap.size w4 w6 := hb5.grown hg6 hb5.size (by intro t ht; cases ht; exact ho5.base)
                have hon6 := hon4.below hb46
                have hbn6 := hbn4.trans (hb46.mono hbn4.size)
                rw [← intsOf_push] at ho6
                have hne6 : ∀ s ∈ rn, s.1 ≠ g6 := fun s hs e => by have h1 := (hon4.2.1 s hs).lt; have h2 := ho6.base; omega
                have hl6 : Hid ((intsOf (o ++ [x])).length = i + 1) := Lib.hid (by rw [intsOf_length, List.length_append, Hl.out]; rfl)
                have ho6' : Own w6 w.heap.size g6 c6 (intsOf (o ++ [x])) := ho6.mono (Nat.le_trans hb.size hbn4.size)
                clear ho5 hb5 hg6 hor6 hon4 hbn4 hb46 ho6
                go_wp2_with (at_builtin; refine wpList_append_row (w := w6) rfl _ _ rfl w.heap.size gN cN q2 w6.heap.size rn (g6, c6, intsOf (o ++ [x])) _ hrn.out (by unfold rowVal; rw [hl6.out]) rfl hon6 ho6' hne6 rfl rfl (by omega) ?_)
                intro g7 c7 w7 ho7 hg7 hor7
                have hbn7 := hbn6.grown hg7 hbn6.size (by intro t ht; cases ht; exact hgN)
                have hgN7 : wo.heap.size ≤ g7 := by
                  rcases hor7 with h | h
                  · omega
                  · have := hbn6.size; omega
                have HC7 : Hid (contents (rn ++ [(g6, c6, intsOf (o ++ [x]))]) = (ordsTo n L k ++ ordTo o (x + 1)).map intsOf) := Lib.hid (by
                  rw [Hst2.out, ← List.append_assoc, List.map_append, ← hcn.out]
                  simp [contents])
                clear hon6 hbn6 hg7 hor7 hne6 ho6'
                go_wp2_with fail
                go_roundw
                case rel => exact ⟨x + 1, q2 + 1, g7, c7, _, by omega, by omega, by go_num, rfl, by show _ = _; rw [List.length_append, hrn.out]; rfl, HC7, ho7, hgN7, hbn7⟩
                case measure => simp [intOf]; omega
            · obtain rfl : x = n := by omega
              rw [← Hsucc.out] at hcn
              go_wp2_with fail
              go_roundw
              case rel => exact ⟨k + 1, q2, gN, cN, rn, by omega, by omega, by go_num, rfl, hrn, hcn, hon, hgN, hbn⟩
              case measure => simp [intOf]; omega
        · obtain rfl : k = p := by omega
          rw [← Hnext.out] at hcn
          have hb9 := hb.trans (hbn.mono hb.size)
          clear ho hb
          go_wp2_with fail
          go_roundw
          case rel => exact ⟨i + 1, q, gN, cN, rn, by omega, by go_num, rfl, hrn, hcn, hon, hb9⟩
          case measure => simp [intOf]; omega
    · obtain rfl : i = n := by omega
      go_wp2_with fail
      go_ret
      exact GotRows.mk' gO cO rs hp.out hcont.out ho hb
end Go.Proofs.YtdedkfbiookofaaGreatDoor
namespace Go.Proofs.YtdedkfbiookofaaGreatDoor
set_option maxRecDepth 100000
open Go.RowKit
attribute [local go_sem ↓] Go.wp_at_zero Go.wp_at_succ
set_option maxHeartbeats 4000000 in
theorem spec_Relabel_ok (gc oc n cc g o m cs : Nat) (c : List (List Int)) (od : List Nat) (w : World) (hn : c.length = n) (hod : od.length = n) (hm : n = m) (hC : IsC c) (hnd : od.Nodup) (hlt : ∀ x ∈ od, x < n) (hcap : n ≤ cs) (hgc : gc < w.heap.size) (hg : g < w.heap.size) (hr : Rows2 w gc oc c) (hc : Cells w g o (intsOf od)) :
    Calls Tryz.prog 185 #[(Value.slice (some ⟨gc, oc, none⟩) n cc), (Value.slice (some ⟨g, o, none⟩) m cs)] w (fun e w' => ∃ g' cap rs, e = .returned (.tuple #[(Value.slice (some ⟨g', 0, none⟩) n cap), .bool true]) ∧ contents rs = pickL c (intsOf od) ∧ OwnRows w' w.heap.size g' cap rs ∧ Below w.heap.size w w') := by
  subst hm
  have hn4 := hC.2.1
  have hcart := spec_IsCartan gc oc n cc c w hn (by omega) (fun j hj => by have := hC.2.2.1 j hj; omega) hr
  rw [decide_eq_true hC] at hcart
  have Hcart := Lib.hid hcart
  clear hcart
  obtain ⟨s, hs⟩ : ∃ s, intsOf od = s := ⟨_, rfl⟩
  rw [hs] at hc ⊢
  have hsl : s.length = n := by rw [← hs, intsOf_length]; exact hod
  have hg2 : ∀ t, t < s.length → s.getD t 0 = ((od.getD t 0 : Nat) : Int) := fun t ht => by rw [← hs]; exact intsOf_getD od t (by omega)
  have hin : ∀ t, t < s.length → 0 ≤ s.getD t 0 ∧ s.getD t 0 < c.length := fun t ht => by
    rw [hg2 t ht]
    have := hlt (od.getD t 0) (by simp [List.getD, show t < od.length by omega])
    omega
  have Hnot := Lib.hid (fun t (ht : t < s.length) => show decide (s.getD t 0 ∈ s.take t) = false from decide_eq_false (fun hmem => by
    rw [hg2 t ht, ← hs] at hmem
    unfold intsOf at hmem
    rw [← List.map_take] at hmem
    obtain ⟨y, hy, e⟩ := List.mem_map.1 hmem
    have e2 : y = od.getD t 0 := by omega
    obtain ⟨u, hu, rfl⟩ := List.mem_iff_getElem.1 hy
    rw [List.length_take] at hu
    rw [List.getElem_take] at e2
    have ht2 : t < od.length := by omega
    have e3 : od.getD t 0 = od[t] := by simp [List.getD, ht2]
    rw [e3] at e2
    have := (List.getElem_inj hnd).1 e2
    omega))
  have HH := Lib.hid (fun W (hW : ∃ q, W = w.drewN q) t (ht : t < s.length) => spec_l3Has_ok g o t cs (s.getD t 0) (s.take t) W (by rw [List.length_take]; omega) (by omega) ((hc.take t).still hW))
  have H1 := Lib.hid (fun W t (ht : t < s.length) => show Calls Tryz.prog 92 #[.int .i64 (s.getD t 0), .int .i64 0, .int .i64 ((n : Int) - 1)] W (Reads W (.bool true)) from by
    have := spec_l1In (s.getD t 0) 0 ((n : Int) - 1) W
    have h2 := hin t ht
    rwa [decide_eq_true h2.1, decide_eq_true (show s.getD t 0 ≤ (n : Int) - 1 by omega)] at this)
  clear hg2 hs hnd hlt hod
  have hn4' : n ≤ 4 := by omega
  have Hcl := Lib.hid hn
  have Hsl := Lib.hid hsl
  go_enter Tryz.func185, Tryz.ntmps185
  go_wp2_with fail
  refine Hcart.out.mono ?_
  rintro e w1 ⟨rfl, m1, rfl⟩
  clear Hcart
  have Hin : Hid (∀ t, t < n → 0 ≤ s.getD t 0 ∧ s.getD t 0 < (n : Int)) := Lib.hid (fun t ht => by have := hin t (by omega); rw [Hcl.out] at this; exact this)
  clear hin hsl hn hn4
  go_wp2_with fail
  go_loopw [6] (fun iv wr => ∃ t q : Nat, t ≤ n ∧ iv = .int .i64 t ∧ wr = w.drewN q) (fun iv _ => n - (intOf iv).toNat)
  case atStart => exact ⟨0, m1, Nat.zero_le _, rfl, rfl⟩
  case round =>
    obtain ⟨t, q, ht, rfl, rfl⟩ := hrel
    by_cases hlt : t < n
    · have hts : t < s.length := by rw [Hsl.out]; exact hlt
      have p1 := hc t hts
      have k1 := Lib.hid (fun W => H1.out W t hts)
      have k2 := Lib.hid (fun W hW => HH.out W hW t hts)
      rw [Hnot.out t hts] at k2
      have b1 : (t : Int) ≤ (cs : Int) := by omega
      generalize s.getD t 0 = y at *
      clear hts
      go_wp2_with fail
      go_quiet ((first | (go_at_call 92; first | with_reducible exact Calls.quiet_of (k1.out _) | with_reducible exact Reads.quiet4 (k1.out _)) | (go_at_call 206; first | with_reducible exact Calls.quiet_of (k2.out _ ⟨_, rfl⟩) | with_reducible exact Reads.quiet4 (k2.out _ ⟨_, rfl⟩))))
      go_wp2_with fail
      go_roundw
      case rel => exact ⟨t + 1, _, by omega, by go_num, by first | rfl | exact World.drewN_drewN _ _ _⟩
      case measure => simp [intOf]; omega
    · obtain rfl : n = t := by omega
      have HE0 := Lib.hid (show OwnRows ((w.drewN q).alloc (.cells #[] 25)) w.heap.size w.heap.size 0 [] from OwnRows.empty (w := w.drewN q) (Nat.le_refl _))
      have HB0 := Lib.hid (show Below w.heap.size w ((w.drewN q).alloc (.cells #[] 25)) from (below_drewN (Below.refl _ w) q).alloc (Nat.le_refl _) _)
      clear H1 HH Hnot
      have hs := Hin.out
      go_wp2_with fail
      go_loopw [7, 8, 9, 10] (fun x i _ _ wr => ∃ (t g' c' : Nat) (rs : List RowRef), t ≤ n ∧ i = .int .i64 t ∧ x = (Value.slice (some ⟨g', 0, none⟩) t c') ∧ Hid (rs.length = t) ∧ Hid (contents rs = (s.take t).map fun i => pickRow c i s) ∧ OwnRows wr w.heap.size g' c' rs ∧ Below w.heap.size w wr) (fun _ i _ _ _ => n - (intOf i).toNat)
      case atStart => exact ⟨0, w.heap.size, 0, [], Nat.zero_le _, rfl, rfl, rfl, rfl, HE0.out, HB0.out⟩
      case round =>
        obtain ⟨t, g', c', rs, ht, rfl, rfl, hrs, hcont, ho, hb⟩ := hrel
        by_cases hlt : t < n
        · have hst := hs t hlt
          have htk := take_map_succ (fun i => pickRow c i s) s t (by rw [Hsl.out]; exact hlt)
          obtain ⟨iN, hiN⟩ : ∃ iN : Nat, s.getD t 0 = iN := ⟨(s.getD t 0).toNat, by omega⟩
          have p1 := hc t (by rw [Hsl.out]; exact hlt)
          rw [hiN] at p1 hst htk
          have hic : iN < n := by omega
          have hicI : (iN : Int) < (n : Int) := by omega
          obtain ⟨ga, oa, ca, q1, q2, q3, q4⟩ := hr iN (by rw [Hcl.out]; exact hic)
          have hri : (c.getD iN []).length = n := (hC.2.2.1 iN (by rw [Hcl.out]; exact hic)).trans Hcl.out
          rw [hri] at q1
          have Htk := Lib.hid htk; clear htk hst hiN
          obtain ⟨wo, rfl⟩ : ∃ wo : World, wo = wr := ⟨_, rfl⟩
          go_wp2
          go_loopw [9, 10] (fun x i wr => ∃ k gr cr : Nat, k ≤ n ∧ i = .int .i64 k ∧ x = (Value.slice (some ⟨gr, 0, none⟩) k cr) ∧ Own wr wo.heap.size gr cr (pickRow c iN (s.take k)) ∧ Below wo.heap.size wo wr) (fun _ i _ => n - (intOf i).toNat)
          case atStart => exact ⟨0, wo.heap.size, 0, Nat.zero_le _, rfl, rfl, Own.empty (Nat.le_refl _), (Below.refl _ _).alloc (Nat.le_refl _) _⟩
          case round =>
            obtain ⟨k, gr, cr, hk, rfl, rfl, hor, hb2⟩ := hrel
            have hbb : Below w.heap.size w wr := hb.trans (hb2.mono hb.size)
            by_cases hltk : k < n
            · have hsk := hs k hltk
              have htk2 := take_map_succ (fun j => ent c iN j.toNat) s k (by rw [Hsl.out]; exact hltk)
              obtain ⟨jN, hjN⟩ : ∃ jN : Nat, s.getD k 0 = jN := ⟨(s.getD k 0).toNat, by omega⟩
              have p2 := hc k (by rw [Hsl.out]; exact hltk)
              rw [hjN] at p2 hsk htk2
              rw [Int.toNat_natCast] at htk2
              have hjc : jN < n := by omega
              have Htk2 := Lib.hid htk2; clear htk2 hsk hjN
              have e2 := q4 jN (by rw [hri]; exact hjc)
              have hee : (c.getD iN []).getD jN 0 = ent c iN jN := rfl
              rw [hee] at e2
              have hpl : (pickRow c iN (s.take k)).length = k := by simp [pickRow]; have := Hsl.out; omega
              have Hpl := Lib.hid hpl; clear hpl hee
              generalize ent c iN jN = y at *
              have hB : Below w.heap.size w wr.drew := Below.drew hbb
              have u1 : wr.drew.cell? ⟨g, o + t, none⟩ = some (.int .i64 iN) := (hB.cell (p := ⟨g, o + t, none⟩) hg).trans p1
              have u2 : wr.drew.cell? ⟨g, o + k, none⟩ = some (.int .i64 jN) := (hB.cell (p := ⟨g, o + k, none⟩) hg).trans p2
              have u3 : wr.drew.cell? ⟨gc, oc + iN, none⟩ = some (Value.slice (some ⟨ga, oa, none⟩) n ca) := (hB.cell (p := ⟨gc, oc + iN, none⟩) hgc).trans q1
              have u4 : wr.drew.cell? ⟨ga, oa + jN, none⟩ = some (.int .i64 y) := (hB.cell (p := ⟨ga, oa + jN, none⟩) q3).trans e2
              have hBg := hor.base
              have hsz := hb.size
              have ne1 : some g ≠ some gr := by intro e; cases e; omega
              have ne2 : some gc ≠ some gr := by intro e; cases e; omega
              have ne3 : some ga ≠ some gr := by intro e; cases e; omega
              have i1 : (0 : Int) ≤ (iN : Int) := by omega
              have i2 : (0 : Int) ≤ (jN : Int) := by omega
              have i3 : (jN : Int) < (n : Int) := by omega
              have hor' : Own wr.drew wo.heap.size gr cr (pickRow c iN (s.take k)) := hor.drew
              have bA : Below wr.drew.heap.size wr.drew ((wr.alloc (.cells #[.int .i64 y] 3)).drew) := (Below.refl _ wr.drew).alloc (Nat.le_refl _) (.cells #[.int .i64 y] 3)
              go_wp2_with fail
              go_region_held3 (fun W => W.cell? ⟨g, o + t, none⟩ = some (.int .i64 iN) ∧ W.cell? ⟨g, o + k, none⟩ = some (.int .i64 jN) ∧ W.cell? ⟨gc, oc + iN, none⟩ = some (Value.slice (some ⟨ga, oa, none⟩) n ca) ∧ W.cell? ⟨ga, oa + jN, none⟩ = some (.int .i64 y))
                (first | exact ⟨u1, u2, u3, u4⟩ | exact ⟨keepCell bA u1, keepCell bA u2, keepCell bA u3, keepCell bA u4⟩ | exact ⟨hg3.cell (a := ⟨g, o + t, none⟩) u1 ne1, hg3.cell (a := ⟨g, o + k, none⟩) u2 ne1, hg3.cell (a := ⟨gc, oc + iN, none⟩) u3 ne2, hg3.cell (a := ⟨ga, oa + jN, none⟩) u4 ne3⟩)
                ((refine step_append_int (w := wr.drew) (by rfl) _ _ (by rfl) wo.heap.size gr cr k wr.heap.size (pickRow c iN (s.take k)) y _ Hpl.out (by rfl) (by rfl) (by exact hor') (by rfl) (by rfl) (by omega) ?_; intro g3 c3 w3 ho3 hg3 hor3))
              go_wp2
              go_roundw
              case rel =>
                refine ⟨k + 1, g3, c3, by omega, by go_num, rfl, ?_, (Below.drew hb2).grown hg3 hb2.size (by intro j hj; cases hj; exact hor.base)⟩
                have := Htk2.out
                have e : pickRow c iN (s.take (k + 1)) = pickRow c iN (s.take k) ++ [y] := this
                rw [e]; exact ho3
              case measure => simp [intOf]; omega
            · obtain rfl : n = k := by omega
              rw [List.take_of_length_le (Nat.le_of_eq Hsl.out)] at hor
              have hpl : (pickRow c iN s).length = n := by simp [pickRow]; exact Hsl.out
              have ho2 := ho.below hb2
              have hne : ∀ r ∈ rs, r.1 ≠ gr := fun r hr => by have h1 := (ho.2.1 r hr).lt; have h2 := hor.base; omega
              have hor2 := hor.mono hb.size
              have hrow : rowVal (gr, cr, pickRow c iN s) = (Value.slice (some ⟨gr, 0, none⟩) n cr) := by unfold rowVal; rw [hpl]
              clear p1 hpl q1 q4
              go_wp2_with (at_builtin; refine wpList_append_row rfl _ _ rfl w.heap.size g' c' t wr.heap.size rs (gr, cr, pickRow c iN s) _ hrs.out (by rw [hrow]) rfl ho2 hor2 hne rfl rfl (by omega) ?_)
              intro g4 c4 w4 ho4 hg4 _
              go_wp2
              go_roundw
              case rel =>
                refine ⟨t + 1, g4, c4, rs ++ [(gr, cr, pickRow c iN s)], by omega, by go_num, rfl, by show _ = _; rw [List.length_append, hrs.out]; rfl, ?_, ho4, hbb.grown hg4 hbb.size (by intro j hj; cases hj; exact ho.base)⟩
                show _ = _
                rw [contents_push, hcont.out, Htk.out]
              case measure => simp [intOf]; omega
        · obtain rfl : n = t := by omega
          have hc2 := hcont.out
          rw [List.take_of_length_le (Nat.le_of_eq Hsl.out)] at hc2
          have Hc2 := Lib.hid hc2
          clear hc2
          go_wp2
          go_ret2
          exact ⟨g', c', rs, rfl, Hc2.out, ho, hb⟩
end Go.Proofs.YtdedkfbiookofaaGreatDoor
namespace Go.Proofs.YtdedkfbiookofaaGreatDoor
set_option maxRecDepth 100000
open Go.RowKit
theorem rows_take_succ {a b : List (List Int)} {k : Nat} (hl : b.length = a.length) (hk : k < a.length) (h : a.take k = b.take k) (he : a.getD k [] = b.getD k []) : a.take (k + 1) = b.take (k + 1) := by
  have hk2 : k < b.length := by omega
  rw [List.take_succ_eq_append_getElem hk, List.take_succ_eq_append_getElem hk2, h]
  simp [List.getD, hk, hk2] at he
  rw [he]
set_option maxHeartbeats 1000000 in
theorem spec_EqualCartans_any (g1 o1 n1 c1 g2 o2 n2 c2 : Nat) (a b : List (List Int)) (w : World) (hn1 : a.length = n1) (hn2 : b.length = n2) (hx : a.length ≤ 1099511627776)
    (hra : ∀ j, j < a.length → (a.getD j []).length ≤ 1099511627776) (hrb : ∀ j, j < b.length → (b.getD j []).length ≤ 1099511627776) (hca : Rows2 w g1 o1 a) (hcb : Rows2 w g2 o2 b) :
    Calls Tryz.prog 186 #[(Value.slice (some ⟨g1, o1, none⟩) n1 c1), (Value.slice (some ⟨g2, o2, none⟩) n2 c2)] w (Reads w (.bool (decide (a = b)))) := by
  subst hn1; subst hn2
  by_cases hl : b.length = a.length
  · have hl' : b.length = a.length := hl
    have Hl := Lib.hid hl'; clear hl'
    have hb : ((a.length : Int) != (b.length : Int)) = false := by rw [hl]; simp
    clear hl
    go_enter Tryz.func186, Tryz.ntmps186
    go_wp2
    go_loopw [5, 6] (fun i _ wr => ∃ k : Nat, k ≤ a.length ∧ i = .int .i64 k ∧ Hid (a.take k = b.take k) ∧ ∃ n, wr = w.drewN n) (fun i _ _ => a.length - (intOf i).toNat)
    case atStart => exact ⟨0, Nat.zero_le _, rfl, rfl, 0, rfl⟩
    case round =>
      obtain ⟨k, hk, rfl, he, n, rfl⟩ := hrel
      by_cases hlt : k < a.length
      · have hl2 : k < b.length := by rw [Hl.out]; exact hlt
        obtain ⟨ga, oa, ca, q1, q2, q3, q4⟩ := hca k hlt
        obtain ⟨gb, ob, cb, p1, p2, p3, p4⟩ := hcb k hl2
        have hrk := hra k hlt
        have hrk2 := hrb k hl2
        obtain ⟨R, hR⟩ : ∃ R, a.getD k [] = R := ⟨_, rfl⟩
        obtain ⟨S, hS⟩ : ∃ S, b.getD k [] = S := ⟨_, rfl⟩
        rw [hR] at q1 q2 q4 hrk
        rw [hS] at p1 p2 p4 hrk2
        have HR := Lib.hid hR; have HS := Lib.hid hS
        clear hR hS
        by_cases hRS : S.length = R.length
        · have hRb : ((R.length : Int) != (S.length : Int)) = false := by rw [hRS]; simp
          have HRS := Lib.hid hRS; clear hRS
          go_wp2
          go_quiet (fail)
          go_wp2
          obtain ⟨wo, hwo⟩ : ∃ wo : World, wo = w.drewN n := ⟨_, rfl⟩
          clear hwo
          go_loopw [6] (fun j wr => ∃ t : Nat, t ≤ R.length ∧ j = .int .i64 t ∧ Hid (R.take t = S.take t) ∧ ∃ n, wr = w.drewN n) (fun j _ => R.length - (intOf j).toNat)
          case atStart => exact ⟨0, Nat.zero_le _, rfl, rfl, (by first | exact ⟨_, rfl⟩ | exact ⟨0, rfl⟩ | exact still2 _ _ _ | exact still3 _ _ _ _)⟩
          case round =>
            obtain ⟨t, ht, rfl, het, n2, rfl⟩ := hrel
            by_cases htl : t < R.length
            · have htl2 : t < S.length := by rw [HRS.out]; exact htl
              have r1 := q4 t htl
              have r2 := p4 t htl2
              go_wp2
              go_quiet (fail)
              go_wp2
              · have hne : (R[t] != S[t]) = true := by assumption
                go_ret
                have hab : a ≠ b := fun e => by
                  have : R = S := by rw [← HR.out, ← HS.out, e]
                  subst this; simp at hne
                exact ⟨ret_bool (by simp [hab]), (by first | exact ⟨_, rfl⟩ | exact ⟨0, rfl⟩ | exact still2 _ _ _ | exact still3 _ _ _ _)⟩
              · have heq : (R[t] != S[t]) = false := by assumption
                go_roundw
                case rel => exact ⟨t + 1, by omega, by go_num, take_succ_eq HRS.out.symm htl het.out (by simpa [List.getD, htl, htl2] using heq), (by first | exact ⟨_, rfl⟩ | exact ⟨0, rfl⟩ | exact still2 _ _ _ | exact still3 _ _ _ _)⟩
                case measure => simp [intOf]; omega
            · obtain rfl : t = R.length := by omega
              go_wp2
              go_roundw
              case rel =>
                have hRS : R = S := by
                  have h3 := het.out
                  rwa [List.take_of_length_le (by omega), List.take_of_length_le (by have := HRS.out; omega)] at h3
                exact ⟨k + 1, by omega, by go_num, rows_take_succ Hl.out hlt he.out (by rw [HR.out, HS.out]; exact hRS), (by first | exact ⟨_, rfl⟩ | exact ⟨0, rfl⟩ | exact still2 _ _ _ | exact still3 _ _ _ _)⟩
              case measure => simp [intOf]; omega
        · have hRb : ((R.length : Int) != (S.length : Int)) = true := by rw [bne_iff_ne]; omega
          go_wp2
          go_quiet (fail)
          go_wp2
          go_ret
          have hne : a ≠ b := fun e => hRS (by rw [← HR.out, ← HS.out, e])
          exact ⟨ret_bool (by simp [hne]), (by first | exact ⟨_, rfl⟩ | exact ⟨0, rfl⟩ | exact still2 _ _ _ | exact still3 _ _ _ _)⟩
      · obtain rfl : k = a.length := by omega
        go_wp2
        go_ret
        refine ⟨ret_bool ?_, n, rfl⟩
        have h3 := he.out
        rw [List.take_of_length_le (by omega), List.take_of_length_le (by have := Hl.out; omega)] at h3
        simp [h3]
  · have hb : ((a.length : Int) != (b.length : Int)) = true := by rw [bne_iff_ne]; omega
    go_enter Tryz.func186, Tryz.ntmps186
    go_wp2
    go_ret
    exact ⟨ret_bool (by simp; intro e; exact hl (by rw [e])), 0, rfl⟩
end Go.Proofs.YtdedkfbiookofaaGreatDoor
