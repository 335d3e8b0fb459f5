/- The reference's l3Has, l3Orders: contracts. -/
import Derived.Test.YtnpechcnmchneaaGreatDoorG25
import Derived.Test.YtnpechcnmchneaaGreatDoorG29
namespace Go.Proofs.YtnpechcnmchneaaGreatDoor
set_option maxRecDepth 100000
open Go.RowKit

set_option maxHeartbeats 400000 in
theorem spec_l3Has_ok (g o n c : Nat) (x : Int) (xs : List Int) (w : World) (hn : xs.length = n) (hx : n ≤ 1048576) (hc : Cells w g o xs) :
    Calls Tryz.prog 118 #[(Value.slice (some ⟨g, o, none⟩) n c), .int .i64 x] w (Reads w (.bool (decide (x ∈ xs)))) := by
  subst hn
  go_enter Tryz.func118, Tryz.ntmps118
  go_wp2
  go_loopw [5] (fun i wr => ∃ k : Nat, k ≤ xs.length ∧ i = .int .i64 k ∧ Hid (x ∉ xs.take k) ∧ ∃ n, wr = w.drewN n) (fun i _ => xs.length - (intOf i).toNat)
  case atStart => exact ⟨0, Nat.zero_le _, rfl, Lib.hid (by simp), 0, rfl⟩
  case round =>
    obtain ⟨k, hk, rfl, hno, n, rfl⟩ := hrel
    by_cases hlt : k < xs.length
    · have q1 := hc k hlt
      have hm : Hid (xs.getD k 0 = x → x ∈ xs) := fun e => by rw [← e]; simp [List.getD, hlt]
      have hno2 : Hid (¬ x = xs.getD k 0 → x ∉ xs.take (k + 1)) := fun e hmem => by
        rw [List.take_succ_eq_append_getElem hlt] at hmem
        rcases List.mem_append.1 hmem with h | h
        · exact hno.out h
        · have e3 : xs.getD k 0 = xs[k] := by simp [List.getD, hlt]
          rw [List.mem_singleton, ← e3] at h
          exact e h
      generalize xs.getD k 0 = y at *
      by_cases hxy : x = y
      · have Hm := Lib.hid (hm.out hxy.symm)
        subst hxy
        go_wp2
        go_ret
        exact ⟨ret_bool (by rw [decide_eq_true Hm.out]), n, rfl⟩
      · have Hn := Lib.hid (hno2.out hxy)
        have hb : (y == x) = false := by rw [beq_eq_false_iff_ne]; exact fun e => hxy e.symm
        clear hno2 hm
        go_wp2
        go_roundw
        case rel => exact ⟨k + 1, by omega, by go_num, Hn, n, rfl⟩
        case measure => simp [intOf]; omega
    · obtain rfl : k = xs.length := by omega
      have h := hno.out
      rw [List.take_length] at h
      have H := Lib.hid h
      clear hno h
      go_wp2
      go_ret
      exact ⟨ret_bool (by rw [decide_eq_false H.out]), n, rfl⟩

def ordTo (o : List Nat) (x : Nat) : List (List Nat) := ((List.range x).filter fun y => !(o.contains y)).map fun y => o ++ [y]
theorem ordTo_succ (o : List Nat) (x : Nat) : ordTo o (x + 1) = ordTo o x ++ (if o.contains x then [] else [o ++ [x]]) := by
  unfold ordTo
  rw [List.range_succ, List.filter_append, List.map_append]
  congr 1
  cases h : o.contains x with
  | true =>
    have h2 : x ∈ o := by simpa using h
    simp [h2]
  | false =>
    have h2 : x ∉ o := by simpa using h
    simp [h2]
def ordsTo (n : Nat) (L : List (List Nat)) (k : Nat) : List (List Nat) := (L.take k).flatMap (ordStep n)
theorem ordsTo_succ (n : Nat) (L : List (List Nat)) (k : Nat) (hk : k < L.length) : ordsTo n L (k + 1) = ordsTo n L k ++ ordTo (L.getD k []) n := by
  have e : L.take (k + 1) = L.take k ++ [L[k]] := List.take_succ_eq_append_getElem hk
  have e2 : L.getD k [] = L[k] := by simp [List.getD, hk]
  unfold ordsTo
  rw [e, e2, List.flatMap_append, List.flatMap_cons, List.flatMap_nil, List.append_nil]
  rfl
theorem ords_len {n i : Nat} (hn : n ≤ 4) (hi : i ≤ n) : (ordsN n i).length ≤ 24 := by
  have : n = 0 ∨ n = 1 ∨ n = 2 ∨ n = 3 ∨ n = 4 := by omega
  rcases this with rfl | rfl | rfl | rfl | rfl
  · obtain rfl : i = 0 := by omega
    decide
  · have : i = 0 ∨ i = 1 := by omega
    rcases this with rfl | rfl <;> decide
  · have : i = 0 ∨ i = 1 ∨ i = 2 := by omega
    rcases this with rfl | rfl | rfl <;> decide
  · have : i = 0 ∨ i = 1 ∨ i = 2 ∨ i = 3 := by omega
    rcases this with rfl | rfl | rfl | rfl <;> decide
  · have : i = 0 ∨ i = 1 ∨ i = 2 ∨ i = 3 ∨ i = 4 := by omega
    rcases this with rfl | rfl | rfl | rfl | rfl <;> decide

set_option maxHeartbeats 2000000 in
theorem spec_l3Orders_ok (n : Nat) (w : World) (hn : n ≤ 4) : Calls Tryz.prog 69 #[.int .i64 n] w (GotRows w ((ordsN n n).map intsOf)) := by
  have h0 : OwnRows ((w.alloc (.cells #[] 3)).alloc (.cells #[(Value.slice (some ⟨w.heap.size, 0, none⟩) 0 0)] 28)) w.heap.size (w.heap.size + 1) 1 [(w.heap.size, 0, [])] := by
    have := own_row1 (w := w.alloc (.cells #[] 3)) (B := w.heap.size) (n := 0) (by simp) rfl (Own.empty (w := w) (Nat.le_refl _))
    simpa using this
  have hb0 : Below w.heap.size w ((w.alloc (.cells #[] 3)).alloc (.cells #[(Value.slice (some ⟨w.heap.size, 0, none⟩) 0 0)] 28)) := ((Below.refl _ _).alloc (Nat.le_refl _) _).alloc (by simp) _
  have H0 := Lib.hid h0; have Hb0 := Lib.hid hb0
  clear h0 hb0
  go_enter Tryz.func69, Tryz.ntmps69
  go_wp2_with fail
  go_loopw [3, 4, 5, 6, 7] (fun ov iv _ _ _ wr => ∃ (i p gO cO : Nat) (rs : List RowRef), i ≤ n ∧ iv = .int .i64 i ∧ ov = (Value.slice (some ⟨gO, 0, none⟩) p cO) ∧ Hid (rs.length = p) ∧ Hid (contents rs = (ordsN n i).map intsOf) ∧ OwnRows wr w.heap.size gO cO rs ∧ Below w.heap.size w wr) (fun _ iv _ _ _ _ => n - (intOf iv).toNat)
  case atStart => exact ⟨0, 1, w.heap.size + 1, 1, [(w.heap.size, 0, [])], Nat.zero_le _, rfl, rfl, rfl, rfl, H0.out, Hb0.out⟩
  case round =>
    clear H0 Hb0
    obtain ⟨i, p, gO, cO, rs, hi, rfl, rfl, hp, hcont, ho, hb⟩ := hrel
    rename World => wo
    by_cases hlt : i < n
    · have hp24 : p ≤ 24 := by
        have h1 := congrArg List.length hcont.out
        rw [contents_length, hp.out, List.length_map] at h1
        have := ords_len (i := i) hn (by omega)
        omega
      have Hpl : Hid ((ordsN n i).length = p) := Lib.hid (by
        have h1 := congrArg List.length hcont.out
        rw [contents_length, hp.out, List.length_map] at h1
        exact h1.symm)
      have Hmem := Lib.hid (fun k (hk : k < p) => show ((ordsN n i).getD k []).length = i from (ordsN_mem (n := n) (k := i) (by simp [List.getD, show k < (ordsN n i).length by rw [Hpl.out]; exact hk])).1)
      have Hnext : Hid (ordsN n (i + 1) = ordsTo n (ordsN n i) p) := Lib.hid (by unfold ordsTo; rw [← Hpl.out, List.take_length]; rfl)
      generalize ordsN n i = L at *
      go_wp2_with fail
      go_loopw [5, 6, 7] (fun nv kv _ wr => ∃ (k q gN cN : Nat) (rn : List RowRef), k ≤ p ∧ q ≤ k * 4 ∧ kv = .int .i64 k ∧ nv = (Value.slice (some ⟨gN, 0, none⟩) q cN) ∧ Hid (rn.length = q) ∧ Hid (contents rn = (ordsTo n L k).map intsOf) ∧ OwnRows wr w.heap.size gN cN rn ∧ wo.heap.size ≤ gN ∧ Below wo.heap.size wo wr) (fun _ kv _ _ => p - (intOf kv).toNat)
      case atStart => exact ⟨0, 0, wo.heap.size, 0, [], Nat.zero_le _, Nat.zero_le _, rfl, rfl, rfl, rfl, OwnRows.empty hb.size, Nat.le_refl _, (Below.refl _ _).alloc (Nat.le_refl _) _⟩
      case round =>
        obtain ⟨k, q, gN, cN, rn, hk, hq, rfl, rfl, hrn, hcn, hon, hgN, hbn⟩ := hrel
        rename World => wk
        by_cases hltk : k < p
        · have hsucc := ordsTo_succ n L k (by rw [Hpl.out]; exact hltk)
          have Hsucc := Lib.hid hsucc
          have hkr : k < rs.length := by rw [hp.out]; exact hltk
          have hrow : rs[k].2.2 = intsOf (L.getD k []) := by
            rw [← contents_getD rs k hkr, hcont.out]
            simp [List.getD, show k < L.length by rw [Hpl.out]; exact hltk]
          have hok := ho.2.1 _ (List.getElem_mem hkr)
          have hcell := ho.1.cell k (by simpa using hkr)
          have hl := Hmem.out k hltk
          rw [hrow] at hok
          have hrv : rowVal rs[k] = (Value.slice (some ⟨(rs[k].1), 0, none⟩) i (rs[k].2.1)) := by unfold rowVal; rw [hrow, intsOf_length, hl]
          simp only [List.getElem_map, hrv] at hcell
          generalize rs[k].1 = gk at *
          generalize rs[k].2.1 = ck at *
          generalize L.getD k [] = o at *
          have Hl := Lib.hid hl
          have Hok := Lib.hid hok
          have hlo : Hid ((intsOf o).length = i) := Lib.hid (by rw [intsOf_length]; exact hl)
          have Hcell := Lib.hid hcell
          have hgk := hok.lt
          clear hrow hsucc hrv hok hcell hl
          go_wp2_with fail
          go_loopw [5, 7] (fun nv xv wr => ∃ (x q2 gN cN : Nat) (rn : List RowRef), x ≤ n ∧ q2 ≤ q + x ∧ xv = .int .i64 x ∧ nv = (Value.slice (some ⟨gN, 0, none⟩) q2 cN) ∧ Hid (rn.length = q2) ∧ Hid (contents rn = (ordsTo n L k ++ ordTo o x).map intsOf) ∧ OwnRows wr w.heap.size gN cN rn ∧ wo.heap.size ≤ gN ∧ Below wo.heap.size wo wr) (fun _ xv _ => n - (intOf xv).toNat)
          case atStart => exact ⟨0, q, gN, cN, rn, Nat.zero_le _, by omega, rfl, rfl, hrn, by
            show _ = _
            rw [hcn.out]; simp [ordTo], hon, hgN, hbn⟩
          case round =>
            clear hrn hcn hon hgN hbn
            obtain ⟨x, q2, gN, cN, rn, hx, hq2, rfl, rfl, hrn, hcn, hon, hgN, hbn⟩ := hrel
            by_cases hltx : x < n
            · have hcell := (hbn.cell (p := ⟨gO, k, none⟩) ho.lt).trans Hcell.out
              have hcel := (Hok.out.below hbn hgk).cells
              have hH := spec_l3Has_ok gk 0 i ck (x : Int) (intsOf o) wr hlo.out (by omega) hcel
              rw [mem_intsOf] at hH
              have Hst := Lib.hid (ordTo_succ o x)
              have Hcel := Lib.hid hcel
              have hgkw : gk < wr.heap.size := Nat.lt_of_lt_of_le hgk hbn.size
              cases hc : o.contains x with
              | true =>
                rw [hc] at hH
                have HH := Lib.hid hH
                have Hst2 : Hid (ordTo o (x + 1) = ordTo o x) := Lib.hid (by rw [Hst.out, hc]; simp)
                clear hH hc hcel
                go_wp2_with fail
                refine HH.out.mono ?_
                rintro e w4 ⟨rfl, hs⟩
                have hon4 := hon.still hs
                have hbn4 := below_still hbn hs
                clear HH hon hbn hs hcell
                go_wp2_with fail
                go_roundw
                case rel => exact ⟨x + 1, q2, gN, cN, rn, by omega, by omega, by go_num, rfl, hrn, by rw [Hst2.out]; exact hcn, hon4, hgN, hbn4⟩
                case measure => simp [intOf]; omega
              | false =>
                rw [hc] at hH
                have HH := Lib.hid hH
                have Hst2 : Hid (ordTo o (x + 1) = ordTo o x ++ [o ++ [x]]) := Lib.hid (by rw [Hst.out, hc]; simp)
                clear hH hc hcel
                go_wp2_with fail
                refine HH.out.mono ?_
                rintro e w4 ⟨rfl, hs⟩
                have hon4 := hon.still hs
                have hbn4 := below_still hbn hs
                have hcell4 : ∀ ob, (w4.alloc ob).cell? ⟨gO, k, none⟩ = some (Value.slice (some ⟨gk, 0, none⟩) i ck) := fun ob => (((Below.refl w4.heap.size w4).alloc (Nat.le_refl _) ob).cell (p := ⟨gO, k, none⟩) (Nat.lt_of_lt_of_le ho.lt hbn4.size)).trans ((cell_still hs _).trans hcell)
                have hcel4 := Hcel.out.still hs
                have hgk4 : gk < w4.heap.size := Nat.lt_of_lt_of_le hgk hbn4.size
                clear HH hon hbn hs hcell hgkw
                go_wp2_with (at_builtin; refine wpList_clone (w := w4) rfl _ _ rfl gk 0 i ck (intsOf o) hlo.out hgk4 hcel4 rfl rfl (by rw [hlo.out]; omega) ?_)
                intro g5 c5 w5 ho5 hb5
                clear hcell4 hcel4
                go_wp2_with (at_builtin; refine wpList_append_int_n (w := w5) rfl _ _ rfl w4.heap.size g5 c5 i (intsOf o) (x : Int) hlo.out ho5 rfl rfl (by omega) ?_)
                intro g6 c6 w6 ho6 hg6 hor6
                have hb46 : Below w4.heap.size w4 w6 := hb5.grown hg6 hb5.size (by intro t ht; cases ht; exact ho5.base)
                have hon6 := hon4.below hb46
                have hbn6 := hbn4.trans (hb46.mono hbn4.size)
                rw [← intsOf_push] at ho6
                have hne6 : ∀ s ∈ rn, s.1 ≠ g6 := fun s hs e => by have h1 := (hon4.2.1 s hs).lt; have h2 := ho6.base; omega
                have hl6 : Hid ((intsOf (o ++ [x])).length = i + 1) := Lib.hid (by rw [intsOf_length, List.length_append, Hl.out]; rfl)
                have ho6' : Own w6 w.heap.size g6 c6 (intsOf (o ++ [x])) := ho6.mono (Nat.le_trans hb.size hbn4.size)
                clear ho5 hb5 hg6 hor6 hon4 hbn4 hb46 ho6
                go_wp2_with (at_builtin; refine wpList_append_row (w := w6) rfl _ _ rfl w.heap.size gN cN q2 w6.heap.size rn (g6, c6, intsOf (o ++ [x])) _ hrn.out (by unfold rowVal; rw [hl6.out]) rfl hon6 ho6' hne6 rfl rfl (by omega) ?_)
                intro g7 c7 w7 ho7 hg7 hor7
                have hbn7 := hbn6.grown hg7 hbn6.size (by intro t ht; cases ht; exact hgN)
                have hgN7 : wo.heap.size ≤ g7 := by
                  rcases hor7 with h | h
                  · omega
                  · have := hbn6.size; omega
                have HC7 : Hid (contents (rn ++ [(g6, c6, intsOf (o ++ [x]))]) = (ordsTo n L k ++ ordTo o (x + 1)).map intsOf) := Lib.hid (by
                  rw [Hst2.out, ← List.append_assoc, List.map_append, ← hcn.out]
                  simp [contents])
                clear hon6 hbn6 hg7 hor7 hne6 ho6'
                go_wp2_with fail
                go_roundw
                case rel => exact ⟨x + 1, q2 + 1, g7, c7, _, by omega, by omega, by go_num, rfl, by show _ = _; rw [List.length_append, hrn.out]; rfl, HC7, ho7, hgN7, hbn7⟩
                case measure => simp [intOf]; omega
            · obtain rfl : x = n := by omega
              rw [← Hsucc.out] at hcn
              go_wp2_with fail
              go_roundw
              case rel => exact ⟨k + 1, q2, gN, cN, rn, by omega, by omega, by go_num, rfl, hrn, hcn, hon, hgN, hbn⟩
              case measure => simp [intOf]; omega
        · obtain rfl : k = p := by omega
          rw [← Hnext.out] at hcn
          have hb9 := hb.trans (hbn.mono hb.size)
          clear ho hb
          go_wp2_with fail
          go_roundw
          case rel => exact ⟨i + 1, q, gN, cN, rn, by omega, by go_num, rfl, hrn, hcn, hon, hb9⟩
          case measure => simp [intOf]; omega
    · obtain rfl : i = n := by omega
      go_wp2_with fail
      go_ret
      exact GotRows.mk' gO cO rs hp.out hcont.out ho hb
end Go.Proofs.YtnpechcnmchneaaGreatDoor
