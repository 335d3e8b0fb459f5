/- The reference's l3Has, l3Orders: contracts. append of integers, of a row, inside a region that draws its order. determinants: contracts. -/
import Derived.Test.YtobeigdjhepedaaGreatDoorG05
import Derived.Test.YtobeigdjhepedaaGreatDoorG07
import Derived.Test.YtobeigdjhepedaaGreatDoorG02
import Derived.Test.YtobeigdjhepedaaGreatDoorG04
namespace Go.Proofs.YtobeigdjhepedaaGreatDoor
set_option maxRecDepth 100000
open Go.RowKit

set_option maxHeartbeats 400000 in
theorem spec_l3Has_ok (g o n c : Nat) (x : Int) (xs : List Int) (w : World) (hn : xs.length = n) (hx : n ≤ 1048576) (hc : Cells w g o xs) :
    Calls Tryz.prog 120 #[(Value.slice (some ⟨g, o, none⟩) n c), .int .i64 x] w (Reads w (.bool (decide (x ∈ xs)))) := by
  subst hn
  go_enter Tryz.func120, Tryz.ntmps120
  go_wp2
  go_loopw [5] (fun i wr => ∃ k : Nat, k ≤ xs.length ∧ i = .int .i64 k ∧ Hid (x ∉ xs.take k) ∧ ∃ n, wr = w.drewN n) (fun i _ => xs.length - (intOf i).toNat)
  case atStart => exact ⟨0, Nat.zero_le _, rfl, Lib.hid (by simp), 0, rfl⟩
  case round =>
    obtain ⟨k, hk, rfl, hno, n, rfl⟩ := hrel
    by_cases hlt : k < xs.length
    · have q1 := hc k hlt
      have hm : Hid (xs.getD k 0 = x → x ∈ xs) := fun e => by rw [← e]; simp [List.getD, hlt]
      have hno2 : Hid (¬ x = xs.getD k 0 → x ∉ xs.take (k + 1)) := fun e hmem => by
        rw [List.take_succ_eq_append_getElem hlt] at hmem
        rcases List.mem_append.1 hmem with h | h
        · exact hno.out h
        · have e3 : xs.getD k 0 = xs[k] := by simp [List.getD, hlt]
          rw [List.mem_singleton, ← e3] at h
          exact e h
      generalize xs.getD k 0 = y at *
      by_cases hxy : x = y
      · have Hm := Lib.hid (hm.out hxy.symm)
        subst hxy
        go_wp2
        go_ret
        exact ⟨ret_bool (by rw [decide_eq_true Hm.out]), n, rfl⟩
      · have Hn := Lib.hid (hno2.out hxy)
        have hb : (y == x) = false := by rw [beq_eq_false_iff_ne]; exact fun e => hxy e.symm
        clear hno2 hm
        go_wp2
        go_roundw
        case rel => exact ⟨k + 1, by omega, by go_num, Hn, n, rfl⟩
        case measure => simp [intOf]; omega
    · obtain rfl : k = xs.length := by omega
      have h := hno.out
      rw [List.take_length] at h
      have H := Lib.hid h
      clear hno h
      go_wp2
      go_ret
      exact ⟨ret_bool (by rw [decide_eq_false H.out]), n, rfl⟩

def ordTo (o : List Nat) (x : Nat) : List (List Nat) := ((List.range x).filter fun y => !(o.contains y)).map fun y => o ++ [y]
theorem ordTo_succ (o : List Nat) (x : Nat) : ordTo o (x + 1) = ordTo o x ++ (if o.contains x then [] else [o ++ [x]]) := by
  unfold ordTo
  rw [List.range_succ, List.filter_append, List.map_append]
  congr 1
  cases h : o.contains x with
  | true =>
    have h2 : x ∈ o := by simpa using h
    simp [h2]
  | false =>
    have h2 : x ∉ o := by simpa using h
    simp [h2]
def ordsTo (n : Nat) (L : List (List Nat)) (k : Nat) : List (List Nat) := (L.take k).flatMap (ordStep n)
theorem ordsTo_succ (n : Nat) (L : List (List Nat)) (k : Nat) (hk : k < L.length) : ordsTo n L (k + 1) = ordsTo n L k ++ ordTo (L.getD k []) n := by
  have e : L.take (k + 1) = L.take k ++ [L[k]] := List.take_succ_eq_append_getElem hk
  have e2 : L.getD k [] = L[k] := by simp [List.getD, hk]
  unfold ordsTo
  rw [e, e2, List.flatMap_append, List.flatMap_cons, List.flatMap_nil, List.append_nil]
  rfl
theorem ords_len {n i : Nat} (hn : n ≤ 4) (hi : i ≤ n) : (ordsN n i).length ≤ 24 := by
  have : n = 0 ∨ n = 1 ∨ n = 2 ∨ n = 3 ∨ n = 4 := by omega
  rcases this with rfl | rfl | rfl | rfl | rfl
  · obtain rfl : i = 0 := by omega
    decide
  · have : i = 0 ∨ i = 1 := by omega
    rcases this with rfl | rfl <;> decide
  · have : i = 0 ∨ i = 1 ∨ i = 2 := by omega
    rcases this with rfl | rfl | rfl <;> decide
  · have : i = 0 ∨ i = 1 ∨ i = 2 ∨ i = 3 := by omega
    rcases this with rfl | rfl | rfl | rfl <;> decide
  · have : i = 0 ∨ i = 1 ∨ i = 2 ∨ i = 3 ∨ i = 4 := by omega
    rcases this with rfl | rfl | rfl | rfl | rfl <;> decide

set_option maxHeartbeats 2000000 in
theorem spec_l3Orders_ok (n : Nat) (w : World) (hn : n ≤ 4) : Calls Tryz.prog 174 #[.int .i64 n] w (GotRows w ((ordsN n n).map intsOf)) := by
  have h0 : OwnRows ((w.alloc (.cells #[] 3)).alloc (.cells #[(Value.slice (some ⟨w.heap.size, 0, none⟩) 0 0)] 28)) w.heap.size (w.heap.size + 1) 1 [(w.heap.size, 0, [])] := by
    have := own_row1 (w := w.alloc (.cells #[] 3)) (B := w.heap.size) (n := 0) (by simp) rfl (Own.empty (w := w) (Nat.le_refl _))
    simpa using this
  have hb0 : Below w.heap.size w ((w.alloc (.cells #[] 3)).alloc (.cells #[(Value.slice (some ⟨w.heap.size, 0, none⟩) 0 0)] 28)) := ((Below.refl _ _).alloc (Nat.le_refl _) _).alloc (by simp) _
  have H0 := Lib.hid h0; have Hb0 := Lib.hid hb0
  clear h0 hb0
  go_enter Tryz.func174, Tryz.ntmps174
  go_wp2_with fail
  go_loopw [3, 4, 5, 6, 7] (fun ov iv _ _ _ wr => ∃ (i p gO cO : Nat) (rs : List RowRef), i ≤ n ∧ iv = .int .i64 i ∧ ov = (Value.slice (some ⟨gO, 0, none⟩) p cO) ∧ Hid (rs.length = p) ∧ Hid (contents rs = (ordsN n i).map intsOf) ∧ OwnRows wr w.heap.size gO cO rs ∧ Below w.heap.size w wr) (fun _ iv _ _ _ _ => n - (intOf iv).toNat)
  case atStart => exact ⟨0, 1, w.heap.size + 1, 1, [(w.heap.size, 0, [])], Nat.zero_le _, rfl, rfl, rfl, rfl, H0.out, Hb0.out⟩
  case round =>
    clear H0 Hb0
    obtain ⟨i, p, gO, cO, rs, hi, rfl, rfl, hp, hcont, ho, hb⟩ := hrel
    rename World => wo
    by_cases hlt : i < n
    · have hp24 : p ≤ 24 := by
        have h1 := congrArg List.length hcont.out
        rw [contents_length, hp.out, List.length_map] at h1
        have := ords_len (i := i) hn (by omega)
        omega
      have Hpl : Hid ((ordsN n i).length = p) := Lib.hid (by
        have h1 := congrArg List.length hcont.out
        rw [contents_length, hp.out, List.length_map] at h1
        exact h1.symm)
      have Hmem := Lib.hid (fun k (hk : k < p) => show ((ordsN n i).getD k []).length = i from (ordsN_mem (n := n) (k := i) (by simp [List.getD, show k < (ordsN n i).length by rw [Hpl.out]; exact hk])).1)
      have Hnext : Hid (ordsN n (i + 1) = ordsTo n (ordsN n i) p) := Lib.hid (by unfold ordsTo; rw [← Hpl.out, List.take_length]; rfl)
      generalize ordsN n i = L at *
      go_wp2_with fail
      go_loopw [5, 6, 7] (fun nv kv _ wr => ∃ (k q gN cN : Nat) (rn : List RowRef), k ≤ p ∧ q ≤ k * 4 ∧ kv = .int .i64 k ∧ nv = (Value.slice (some ⟨gN, 0, none⟩) q cN) ∧ Hid (rn.length = q) ∧ Hid (contents rn = (ordsTo n L k).map intsOf) ∧ OwnRows wr w.heap.size gN cN rn ∧ wo.heap.size ≤ gN ∧ Below wo.heap.size wo wr) (fun _ kv _ _ => p - (intOf kv).toNat)
      case atStart => exact ⟨0, 0, wo.heap.size, 0, [], Nat.zero_le _, Nat.zero_le _, rfl, rfl, rfl, rfl, OwnRows.empty hb.size, Nat.le_refl _, (Below.refl _ _).alloc (Nat.le_refl _) _⟩
      case round =>
        obtain ⟨k, q, gN, cN, rn, hk, hq, rfl, rfl, hrn, hcn, hon, hgN, hbn⟩ := hrel
        rename World => wk
        by_cases hltk : k < p
        · have hsucc := ordsTo_succ n L k (by rw [Hpl.out]; exact hltk)
          have Hsucc := Lib.hid hsucc
          have hkr : k < rs.length := by rw [hp.out]; exact hltk
          have hrow : rs[k].2.2 = intsOf (L.getD k []) := by
            rw [← contents_getD rs k hkr, hcont.out]
            simp [List.getD, show k < L.length by rw [Hpl.out]; exact hltk]
          have hok := ho.2.1 _ (List.getElem_mem hkr)
          have hcell := ho.1.cell k (by simpa using hkr)
          have hl := Hmem.out k hltk
          rw [hrow] at hok
          have hrv : rowVal rs[k] = (Value.slice (some ⟨(rs[k].1), 0, none⟩) i (rs[k].2.1)) := by unfold rowVal; rw [hrow, intsOf_length, hl]
          simp only [List.getElem_map, hrv] at hcell
          generalize rs[k].1 = gk at *
          generalize rs[k].2.1 = ck at *
          generalize L.getD k [] = o at *
          have Hl := Lib.hid hl
          have Hok := Lib.hid hok
          have hlo : Hid ((intsOf o).length = i) := Lib.hid (by rw [intsOf_length]; exact hl)
          have Hcell := Lib.hid hcell
          have hgk := hok.lt
          clear hrow hsucc hrv hok hcell hl
          go_wp2_with fail
          go_loopw [5, 7] (fun nv xv wr => ∃ (x q2 gN cN : Nat) (rn : List RowRef), x ≤ n ∧ q2 ≤ q + x ∧ xv = .int .i64 x ∧ nv = (Value.slice (some ⟨gN, 0, none⟩) q2 cN) ∧ Hid (rn.length = q2) ∧ Hid (contents rn = (ordsTo n L k ++ ordTo o x).map intsOf) ∧ OwnRows wr w.heap.size gN cN rn ∧ wo.heap.size ≤ gN ∧ Below wo.heap.size wo wr) (fun _ xv _ => n - (intOf xv).toNat)
          case atStart => exact ⟨0, q, gN, cN, rn, Nat.zero_le _, by omega, rfl, rfl, hrn, by
            show _ = _
            rw [hcn.out]; simp [ordTo], hon, hgN, hbn⟩
          case round =>
            clear hrn hcn hon hgN hbn
            obtain ⟨x, q2, gN, cN, rn, hx, hq2, rfl, rfl, hrn, hcn, hon, hgN, hbn⟩ := hrel
            by_cases hltx : x < n
            · have hcell := (hbn.cell (p := ⟨gO, k, none⟩) ho.lt).trans Hcell.out
              have hcel := (Hok.out.below hbn hgk).cells
              have hH := spec_l3Has_ok gk 0 i ck (x : Int) (intsOf o) wr hlo.out (by omega) hcel
              rw [mem_intsOf] at hH
              have Hst := Lib.hid (ordTo_succ o x)
              have Hcel := Lib.hid hcel
              have hgkw : gk < wr.heap.size := Nat.lt_of_lt_of_le hgk hbn.size
              cases hc : o.contains x with
              | true =>
                rw [hc] at hH
                have HH := Lib.hid hH
                have Hst2 : Hid (ordTo o (x + 1) = ordTo o x) := Lib.hid (by rw [Hst.out, hc]; simp)
                clear hH hc hcel
                go_wp2_with fail
                refine HH.out.mono ?_
                rintro e w4 ⟨rfl, hs⟩
                have hon4 := hon.still hs
                have hbn4 := below_still hbn hs
                clear HH hon hbn hs hcell
                go_wp2_with fail
                go_roundw
                case rel => exact ⟨x + 1, q2, gN, cN, rn, by omega, by omega, by go_num, rfl, hrn, by rw [Hst2.out]; exact hcn, hon4, hgN, hbn4⟩
                case measure => simp [intOf]; omega
              | false =>
                rw [hc] at hH
                have HH := Lib.hid hH
                have Hst2 : Hid (ordTo o (x + 1) = ordTo o x ++ [o ++ [x]]) := Lib.hid (by rw [Hst.out, hc]; simp)
                clear hH hc hcel
                go_wp2_with fail
                refine HH.out.mono ?_
                rintro e w4 ⟨rfl, hs⟩
                have hon4 := hon.still hs
                have hbn4 := below_still hbn hs
                have hcell4 : ∀ ob, (w4.alloc ob).cell? ⟨gO, k, none⟩ = some (Value.slice (some ⟨gk, 0, none⟩) i ck) := fun ob => (((Below.refl w4.heap.size w4).alloc (Nat.le_refl _) ob).cell (p := ⟨gO, k, none⟩) (Nat.lt_of_lt_of_le ho.lt hbn4.size)).trans ((cell_still hs _).trans hcell)
                have hcel4 := Hcel.out.still hs
                have hgk4 : gk < w4.heap.size := Nat.lt_of_lt_of_le hgk hbn4.size
                clear HH hon hbn hs hcell hgkw
                go_wp2_with (at_builtin; refine wpList_clone (w := w4) rfl _ _ rfl gk 0 i ck (intsOf o) hlo.out hgk4 hcel4 rfl rfl (by rw [hlo.out]; omega) ?_)
                intro g5 c5 w5 ho5 hb5
                clear hcell4 hcel4
                go_wp2_with (at_builtin; refine wpList_append_int_n (w := w5) rfl _ _ rfl w4.heap.size g5 c5 i (intsOf o) (x : Int) hlo.out ho5 rfl rfl (by omega) ?_)
                intro g6 c6 w6 ho6 hg6 hor6
                have hb46 : Below w4.heap.size w4 w6 := hb5.grown hg6 hb5.size (by intro t ht; cases ht; exact ho5.base)
                have hon6 := hon4.below hb46
                have hbn6 := hbn4.trans (hb46.mono hbn4.size)
                rw [← intsOf_push] at ho6
                have hne6 : ∀ s ∈ rn, s.1 ≠ g6 := fun s hs e => by have h1 := (hon4.2.1 s hs).lt; have h2 := ho6.base; omega
                have hl6 : Hid ((intsOf (o ++ [x])).length = i + 1) := Lib.hid (by rw [intsOf_length, List.length_append, Hl.out]; rfl)
                have ho6' : Own w6 w.heap.size g6 c6 (intsOf (o ++ [x])) := ho6.mono (Nat.le_trans hb.size hbn4.size)
                clear ho5 hb5 hg6 hor6 hon4 hbn4 hb46 ho6
                go_wp2_with (at_builtin; refine wpList_append_row (w := w6) rfl _ _ rfl w.heap.size gN cN q2 w6.heap.size rn (g6, c6, intsOf (o ++ [x])) _ hrn.out (by unfold rowVal; rw [hl6.out]) rfl hon6 ho6' hne6 rfl rfl (by omega) ?_)
                intro g7 c7 w7 ho7 hg7 hor7
                have hbn7 := hbn6.grown hg7 hbn6.size (by intro t ht; cases ht; exact hgN)
                have hgN7 : wo.heap.size ≤ g7 := by
                  rcases hor7 with h | h
                  · omega
                  · have := hbn6.size; omega
                have HC7 : Hid (contents (rn ++ [(g6, c6, intsOf (o ++ [x]))]) = (ordsTo n L k ++ ordTo o (x + 1)).map intsOf) := Lib.hid (by
                  rw [Hst2.out, ← List.append_assoc, List.map_append, ← hcn.out]
                  simp [contents])
                clear hon6 hbn6 hg7 hor7 hne6 ho6'
                go_wp2_with fail
                go_roundw
                case rel => exact ⟨x + 1, q2 + 1, g7, c7, _, by omega, by omega, by go_num, rfl, by show _ = _; rw [List.length_append, hrn.out]; rfl, HC7, ho7, hgN7, hbn7⟩
                case measure => simp [intOf]; omega
            · obtain rfl : x = n := by omega
              rw [← Hsucc.out] at hcn
              go_wp2_with fail
              go_roundw
              case rel => exact ⟨k + 1, q2, gN, cN, rn, by omega, by omega, by go_num, rfl, hrn, hcn, hon, hgN, hbn⟩
              case measure => simp [intOf]; omega
        · obtain rfl : k = p := by omega
          rw [← Hnext.out] at hcn
          have hb9 := hb.trans (hbn.mono hb.size)
          clear ho hb
          go_wp2_with fail
          go_roundw
          case rel => exact ⟨i + 1, q, gN, cN, rn, by omega, by go_num, rfl, hrn, hcn, hon, hb9⟩
          case measure => simp [intOf]; omega
    · obtain rfl : i = n := by omega
      go_wp2_with fail
      go_ret
      exact GotRows.mk' gO cO rs hp.out hcont.out ho hb
end Go.Proofs.YtobeigdjhepedaaGreatDoor
namespace Go.Proofs.YtobeigdjhepedaaGreatDoor
set_option maxRecDepth 100000
open Go.RowKit

theorem step_append_ints {ops : Array Oper} {W : World} {o : Oper} {a : Act} {K : Act → World → Prop} {Q : Exit → Act → World → Prop} {E : Prop} (hgd : o.guard = none) (s x : Operand)
    (ho : o.op = .call { callee := .builtin .append, args := #[s, x], argTypes := #[28, 28] })
    (B g cap n g2 o2 n2 c2 : Nat) (xs ys : List Int) (hn : xs.length = n) (hn2 : ys.length = n2) (hown : Own W B g cap xs) (hc : Cells W g2 o2 ys) (hs : a.eval s = (Value.slice (some ⟨g, 0, none⟩) n cap)) (hx : a.eval x = (Value.slice (some ⟨g2, o2, none⟩) n2 c2)) (hlen : n + n2 ≤ 1099511627776)
    (h : ∀ g' cap' w', Own w' B g' cap' (xs ++ ys) → W.grownBy w' (some g) → (g' = g ∨ g' = W.heap.size) → K (a.put o.dst (Value.slice (some ⟨g', 0, none⟩) (n + n2) cap')) w') :
    if Region.wanted o (yielded ops a.tmps) = true then Oper.wp Tryz.prog o a W K Q else E := by
  subst hn; subst hn2
  have hw : Region.wanted o (yielded ops a.tmps) = true := by simp [Region.wanted, hgd]
  rw [if_pos hw]
  obtain ⟨g', cap', w', hr, h1, h2, h3⟩ := run_append_ints hown hc (c2 := c2) hlen o.type
  unfold Oper.wp execOp
  simp only [ho, resolve, invoke, builtin, Sem.run_bind, Sem.run_pure, Result.andThen_ok, List.map_toArray, List.map_cons, List.map_nil, hs, hx, hr]
  exact h g' cap' w' h1 h2 h3

theorem step_append_intsA {ops : Array Oper} {W : World} {o : Oper} {a : Act} {K : Act → World → Prop} {Q : Exit → Act → World → Prop} {E : Prop} (hgd : o.guard = none) (s x : Operand)
    (ho : o.op = .call { callee := .builtin .append, args := #[s, x], argTypes := #[28, 28] })
    (B g cap n n2 c2 : Nat) (A : Option Addr) (xs ys : List Int) (hn : xs.length = n) (hn2 : ys.length = n2) (hown : Own W B g cap xs) (hs : a.eval s = (Value.slice (some ⟨g, 0, none⟩) n cap)) (hx : a.eval x = .slice A n2 c2) (hc : ∃ g2 o2, A = some ⟨g2, o2, none⟩ ∧ Cells W g2 o2 ys) (hlen : n + n2 ≤ 1099511627776)
    (h : ∀ g' cap' w', Own w' B g' cap' (xs ++ ys) → W.grownBy w' (some g) → (g' = g ∨ g' = W.heap.size) → K (a.put o.dst (Value.slice (some ⟨g', 0, none⟩) (n + n2) cap')) w') :
    if Region.wanted o (yielded ops a.tmps) = true then Oper.wp Tryz.prog o a W K Q else E := by
  obtain ⟨g2, o2, rfl, hc2⟩ := hc
  exact step_append_ints hgd s x ho B g cap n g2 o2 n2 c2 xs ys hn hn2 hown hc2 hs hx hlen h

theorem step_append_row {ops : Array Oper} {w : World} {o : Oper} {a : Act} {K : Act → World → Prop} {Q : Exit → Act → World → Prop} {E : Prop} (hgd : o.guard = none) (s x : Operand)
    (ho : o.op = .call { callee := .builtin .append, args := #[s, x], argTypes := #[22, 22] })
    (B g cap n H : Nat) (rs : List RowRef) (r : RowRef) (W : World) (hn : rs.length = n) (hW : W = w.alloc (.cells #[rowVal r] 28)) (hH : w.heap.size = H) (hown : OwnRows w B g cap rs) (hr : Own w B r.1 r.2.1 r.2.2) (hne : ∀ s ∈ rs, s.1 ≠ r.1)
    (hs : a.eval s = (Value.slice (some ⟨g, 0, none⟩) n cap)) (hx : a.eval x = (Value.slice (some ⟨H, 0, none⟩) 1 1)) (hlen : n + 1 ≤ 1048576)
    (h : ∀ g' cap' w', OwnRows w' B g' cap' (rs ++ [r]) → w.grownBy w' (some g) → (g' = g ∨ w.heap.size < g') → K (a.put o.dst (Value.slice (some ⟨g', 0, none⟩) (n + 1) cap')) w') :
    if Region.wanted o (yielded ops a.tmps) = true then Oper.wp Tryz.prog o a W K Q else E := by
  subst hn; subst hW; subst hH
  have hw : Region.wanted o (yielded ops a.tmps) = true := by simp [Region.wanted, hgd]
  rw [if_pos hw]
  have hl : (rs.map rowVal).length = rs.length := by simp
  obtain ⟨g', cap', w', hrun, h2, h3, h4⟩ := run_append_row hown.1 (rowVal r) rfl (by rw [hl]; exact hlen) o.type
  rw [hl] at hrun
  unfold Oper.wp execOp
  simp only [ho, resolve, invoke, builtin, Sem.run_bind, Sem.run_pure, Result.andThen_ok, List.map_toArray, List.map_cons, List.map_nil, hs, hx, hrun]
  exact h g' cap' w' (hown.push hr hne h2 h3) h3 h4
end Go.Proofs.YtobeigdjhepedaaGreatDoor
namespace Go.Proofs.YtobeigdjhepedaaGreatDoor
set_option maxRecDepth 100000
open Go.RowKit

theorem minorOf_length (m : List (List Int)) (j : Nat) : (minorOf m j).length = m.length - 1 := by simp [minorOf]
theorem minor_take {m : List (List Int)} {j k : Nat} (hk : k + 1 < m.length) : (minorOf m j).take (k + 1) = (minorOf m j).take k ++ [cutAt (m.getD (k + 1) []) j] := by
  have hk' : k < (minorOf m j).length := by rw [minorOf_length]; omega
  rw [List.take_succ_eq_append_getElem hk']
  congr 2
  simp [minorOf, List.getD, hk]

theorem sgn_succ (t : Nat) : sgn (t + 1) = -(sgn t) := by
  unfold sgn
  by_cases h : t % 2 = 0
  · rw [if_pos h, if_neg (by omega)]
  · rw [if_neg h, if_pos (by omega)]; rfl
theorem sgn_cases (t : Nat) : sgn t = 1 ∨ sgn t = -1 := by unfold sgn; split <;> simp
theorem detB_le {n : Nat} (h : n ≤ 3) : 0 ≤ detB n ∧ detB n ≤ 162 := by
  have : n = 0 ∨ n = 1 ∨ n = 2 ∨ n = 3 := by omega
  rcases this with rfl | rfl | rfl | rfl <;> simp [detB]
theorem term_bound {G x d : Int} (hG : G = 1 ∨ G = -1) (hx : -3 ≤ x ∧ x ≤ 3) (hd : -162 ≤ d ∧ d ≤ 162) : -486 ≤ G * x * d ∧ G * x * d ≤ 486 ∧ -3 ≤ G * x ∧ G * x ≤ 3 := by
  have hx' : x = -3 ∨ x = -2 ∨ x = -1 ∨ x = 0 ∨ x = 1 ∨ x = 2 ∨ x = 3 := by omega
  rcases hG with rfl | rfl <;> rcases hx' with rfl | rfl | rfl | rfl | rfl | rfl | rfl <;> omega
theorem det_sum_bound {n : Nat} {m : List (List Int)} (hsq : Sq (n + 1) m) (hn : n ≤ 3) {t : Nat} (ht : t ≤ n + 1) :
    -1944 ≤ (sumTo t fun j => sgn j * ent m 0 j * det n (minorOf m j)) ∧ (sumTo t fun j => sgn j * ent m 0 j * det n (minorOf m j)) ≤ 1944 := by
  have := sumTo_bound (fun j => sgn j * ent m 0 j * det n (minorOf m j)) 486 t (fun j hj => by
    have h1 := det_bound n _ (minorOf_sq hsq (j := j) (by omega))
    have h2 := detB_le hn
    have h3 := term_bound (d := det n (minorOf m j)) (sgn_cases j) (hsq.2.2 0 j) ⟨by omega, by omega⟩
    exact ⟨h3.1, h3.2.1⟩)
  omega

attribute [local go_sem ↓] Go.wp_at_zero Go.wp_at_succ
set_option maxHeartbeats 4000000 in
theorem impl_determinant_step (n : Nat) (hn1 : 1 ≤ n) (hn4 : n + 1 ≤ 4) (ih : ∀ (g o cap : Nat) (m : List (List Int)) (w : World), Sq n m → g < w.heap.size → n ≤ cap → Rows2 w g o m → Calls Tryz.prog 177 #[(Value.slice (some ⟨g, o, none⟩) n cap)] w (Gives w (.int .i64 (det n m))))
    (g o cap : Nat) (m : List (List Int)) (w : World) (hsq : Sq (n + 1) m) (hg : g < w.heap.size) (hcap : n + 1 ≤ cap) (hr : Rows2 w g o m) :
    Calls Tryz.prog 177 #[(Value.slice (some ⟨g, o, none⟩) (n + 1) cap)] w (Gives w (.int .i64 (det (n + 1) m))) := by
  have IH := Lib.hid ih; clear ih
  obtain ⟨g0, o0, c0, p1, p2, p3, p4⟩ := hr 0 (by rw [hsq.1]; omega)
  have hr0 := hsq.2.1 0 (by omega)
  rw [hr0] at p1 p2
  have Hr0 := Lib.hid hr0; clear hr0
  rw [Nat.add_zero] at p1
  have hcap1 : ¬ cap = 1 := by omega
  have hcap2 : 1 < cap := by omega
  have c1 : (0 : Int) < ((n + 1 : Nat) : Int) := by omega
  have hD : ((n : Int) + 1 == 0) = false := by simp; omega
  go_enter Tryz.func177, Tryz.ntmps177
  go_wp2
  go_loopw [3, 4, 17] (fun s sg i wr => ∃ t : Nat, t ≤ n + 1 ∧ i = .int .i64 t ∧ s = .int .i64 (sumTo t fun j => sgn j * ent m 0 j * det n (minorOf m j)) ∧ sg = .int .i64 (sgn t) ∧ Below w.heap.size w wr) (fun _ _ i _ => n + 1 - (intOf i).toNat)
  case atStart => exact ⟨0, Nat.zero_le _, rfl, rfl, rfl, Below.refl _ _⟩
  case round =>
    obtain ⟨t, ht, rfl, rfl, rfl, hb⟩ := hrel
    by_cases hlt : t < n + 1
    · have e0 := p4.below hb p3 t (by rw [Hr0.out]; exact hlt)
      have hee : (m.getD 0 []).getD t 0 = ent m 0 t := rfl
      rw [hee] at e0
      have hbx := hsq.2.2 0 t
      by_cases hx0 : ent m 0 t = 0
      · have hterm : (sumTo (t + 1) fun j => sgn j * ent m 0 j * det n (minorOf m j)) = sumTo t fun j => sgn j * ent m 0 j * det n (minorOf m j) := by
          simp only [sumTo]; rw [hx0]; simp
        have Hterm := Lib.hid hterm; clear hterm hee hbx
        rw [hx0] at e0
        have Hx0 := Lib.hid hx0; clear hx0
        generalize (sumTo t fun j => sgn j * ent m 0 j * det n (minorOf m j)) = S at *
        have hsg := sgn_succ t
        have Hsg := Lib.hid hsg; clear hsg
        have hGc := sgn_cases t
        generalize hG : sgn t = G at *
        have HG := Lib.hid hG; clear hG
        have hG1 : -1 ≤ G ∧ G ≤ 1 := by omega
        clear hGc
        go_wp2
        go_roundw
        case rel => exact ⟨t + 1, by omega, by go_num, by rw [Hterm.out], by rw [Hsg.out], hb⟩
        case measure => simp [intOf]; omega
      · have hxb : (ent m 0 t != 0) = true := by simpa using hx0
        generalize hxx : ent m 0 t = x at *
        have Hxx := Lib.hid hxx; clear hxx hee
        have hltI : (t : Int) < (n : Int) + 1 := by omega
        obtain ⟨wo, rfl⟩ : ∃ wo : World, wo = wr := ⟨_, rfl⟩
        go_wp2
        go_loopw [7, 28] (fun mn i wr => ∃ (k g' c' : Nat) (rs : List RowRef), k ≤ n ∧ i = .int .i64 k ∧ mn = (Value.slice (some ⟨g', 0, none⟩) k c') ∧ Hid (rs.length = k) ∧ Hid (contents rs = (minorOf m t).take k) ∧ OwnRows wr wo.heap.size g' c' rs ∧ Below wo.heap.size wo wr) (fun _ i _ => n - (intOf i).toNat)
        case atStart => exact ⟨0, wo.heap.size, 0, [], Nat.zero_le _, rfl, rfl, rfl, rfl, OwnRows.empty (Nat.le_refl _), (Below.refl _ _).alloc (Nat.le_refl _) _⟩
        case round =>
          obtain ⟨k, g', c', rs, hk, rfl, rfl, hrs, hcont, ho, hb2⟩ := hrel
          have hbb := hb.trans (hb2.mono hb.size)
          by_cases hltk : k < n
          · obtain ⟨ga, oa, ca, q1, q2, q3, q4⟩ := hr (k + 1) (by rw [hsq.1]; omega)
            have hrk := hsq.2.1 (k + 1) (by omega)
            rw [hrk] at q1 q2
            have hq1 := (hbb.cell (p := ⟨g, o + (k + 1), none⟩) hg).trans q1
            have hq1' : wr.cell? ⟨g, o + 1 + k, none⟩ = some (Value.slice (some ⟨ga, oa, none⟩) (n + 1) ca) := by rw [show o + 1 + k = o + (k + 1) by omega]; exact hq1
            have hrow := q4.below hbb q3
            clear q1 hq1
            go_wp2
            have b1 : (0 : Int) ≤ (t : Int) := by omega
            have b2 : (t : Int) ≤ (ca : Int) := by omega
            have b3 : (0 : Int) ≤ (t : Int) + 1 := by omega
            have b4 : (t : Int) + 1 ≤ ((n + 1 : Nat) : Int) := by omega
            have b5 : (t : Int) + 1 ≤ (n : Int) + 1 := by omega
            have b6 : (n : Int) + 1 ≤ (ca : Int) := by omega
            have b7 : IntKind.i64.wrap ((t : Int) + 1) = (t : Int) + 1 := IntWalk.i64_in _ (by omega)
            have HN : Hid (n + 1 ≤ 4) := hn4
            have hrl : (m.getD (k + 1) []).length = n + 1 := hrk
            generalize hR : m.getD (k + 1) [] = R at *
            have l1 : (R.take t).length = t := by simp; omega
            have l2 : (R.drop (t + 1)).length = n - t := by simp; omega
            have B0 : Below wr.heap.size wr ((wr.alloc (.cells #[] 3)).drew) := Below.drew ((Below.refl _ _).alloc (Nat.le_refl _) _)
            have F1 : ∀ w1, ((wr.alloc (.cells #[] 3)).drew).grownBy w1 (some wr.heap.size) → Below wr.heap.size wr w1 := fun w1 h => B0.grown h B0.size (by intro j hj; cases hj; exact Nat.le_refl _)
            have F2 : ∀ (w1 w2 : World) (g1 : Nat), Below wr.heap.size wr w1 → wr.heap.size ≤ g1 → w1.grownBy w2 (some g1) → Below wr.heap.size wr w2 := fun w1 w2 g1 h hg h2 => h.grown h2 h.size (by intro j hj; cases hj; exact hg)
            have hga : ga < wr.heap.size := Nat.lt_of_lt_of_le q3 hbb.size
            have FA : Hid (∀ W, Cells W ga oa R → ∃ g2 o2, (if ca = t + 1 then some (⟨ga, oa, none⟩ : Addr) else some ⟨ga, oa + (t + 1), none⟩) = some ⟨g2, o2, none⟩ ∧ Cells W g2 o2 (R.drop (t + 1))) := fun W hW => by
              by_cases hca : ca = t + 1
              · rw [if_pos hca]
                refine ⟨_, _, rfl, ?_⟩
                have : R.drop (t + 1) = [] := List.drop_eq_nil_of_le (by omega)
                rw [this]; intro j hj; simp at hj
              · rw [if_neg hca]; exact ⟨_, _, rfl, hW.drop (t + 1)⟩
            have l3 : (([] ++ R.take t) ++ R.drop (t + 1)).length = t + (n - t) := by simp; omega
            have hrv : ∀ g2 c2 : Nat, rowVal (g2, c2, ([] ++ R.take t) ++ R.drop (t + 1)) = (Value.slice (some ⟨g2, 0, none⟩) (t + (n - t)) c2) := fun g2 c2 => by unfold rowVal; rw [l3]
            have Hrv := Lib.hid hrv; have L3 := Lib.hid l3; clear hrv l3
            have F3 : Hid (∀ (w2 : World) (g2 c2 : Nat), Below wr.heap.size wr w2 → Own w2 wr.heap.size g2 c2 (([] ++ R.take t) ++ R.drop (t + 1)) → OwnRows w2 wo.heap.size g' c' rs ∧ Own w2 wo.heap.size g2 c2 (([] ++ R.take t) ++ R.drop (t + 1)) ∧ ∀ s ∈ rs, s.1 ≠ g2) := fun w2 g2 c2 hB hO =>
              ⟨ho.below hB, hO.mono hb2.size, fun s hs => by have h1 := (ho.2.1 s hs).lt; have h2 := hO.base; omega⟩
            have FB : ∀ w1, Below wr.heap.size wr w1 → Below wo.heap.size wo w1 := fun w1 h => hb2.trans (h.mono hb2.size)
            have hBg : wo.heap.size ≤ g' := ho.base
            go_region_held3 (fun W => Below wo.heap.size wo W)
              (first | exact Below.drew hb2 | exact FB _ B0 | exact (Below.drew hb2).alloc hb2.size _ | exact FB _ (F1 _ hg1) | exact FB _ (F2 _ _ _ (F1 _ hg1) ho1.base hg2) | exact (FB _ (F2 _ _ _ (F1 _ hg1) ho1.base hg2)).alloc (FB _ (F2 _ _ _ (F1 _ hg1) ho1.base hg2)).size _ | exact (FB _ (F2 _ _ _ (F1 _ hg1) ho1.base hg2)).grown hg3 (FB _ (F2 _ _ _ (F1 _ hg1) ho1.base hg2)).size (by intro j hj; cases hj; exact hBg))
              (first
                | (refine step_append_ints (by rfl) _ _ (by rfl) wr.heap.size wr.heap.size 0 0 ga oa t ca [] (R.take t) rfl l1 (by exact (Own.empty (w := wr.drew) (Nat.le_refl _))) (by exact (hrow.below B0 hga).take t) (by rfl) (by rfl) (by omega) ?_; intro g1 c1 w1 ho1 hg1 hor1)
                | (refine step_append_intsA (by rfl) _ _ (by rfl) wr.heap.size g1 c1 (0 + t) (n - t) _ _ ([] ++ R.take t) (R.drop (t + 1)) (by simp; omega) l2 (by exact ho1) (by rfl) (by rfl) (by exact FA.out _ (hrow.below (F1 _ hg1) hga)) (by omega) ?_; intro g2 c2 w2 ho2 hg2 hor2)
                | (refine step_append_row (w := w2) (by rfl) _ _ (by rfl) wo.heap.size g' c' k w2.heap.size rs (g2, c2, ([] ++ R.take t) ++ R.drop (t + 1)) _ hrs.out (by rw [Hrv.out]) (by rfl) (by exact (F3.out w2 g2 c2 (F2 _ _ _ (F1 _ hg1) ho1.base hg2) ho2).1) (by exact (F3.out w2 g2 c2 (F2 _ _ _ (F1 _ hg1) ho1.base hg2) ho2).2.1) (by exact (F3.out w2 g2 c2 (F2 _ _ _ (F1 _ hg1) ho1.base hg2) ho2).2.2) (by rfl) (by rfl) (by omega) ?_; intro g3 c3 w3 ho3 hg3 hor3))
            have hB3 : Below wo.heap.size wo w3 := (FB _ (F2 _ _ _ (F1 _ hg1) ho1.base hg2)).grown hg3 (FB _ (F2 _ _ _ (F1 _ hg1) ho1.base hg2)).size (by intro j hj; cases hj; exact hBg)
            have HB3 := Lib.hid hB3
            clear F1 F2 FB ho1 hg1 hor1 ho2 hg2 hor2 hor3 FA hB3
            generalize (if ca = t + 1 then some (⟨ga, oa, none⟩ : Addr) else some ⟨ga, oa + (t + 1), none⟩) = AA
            go_wp2
            go_roundw
            case rel =>
              refine ⟨k + 1, g3, c3, rs ++ [(g2, c2, ([] ++ R.take t) ++ R.drop (t + 1))], by omega, by go_num, rfl, by show _ = _; rw [List.length_append, hrs.out]; rfl, ?_, ho3, HB3.out⟩
              show _ = _
              rw [contents_push, hcont.out, minor_take (by rw [hsq.1]; omega), hR]
              rfl
            case measure => simp [intOf]; omega
          · obtain rfl : n = k := by omega
            have hcc := hcont.out
            rw [List.take_of_length_le (by rw [minorOf_length, hsq.1]; omega)] at hcc
            have hdc := IH.out g' 0 c' (minorOf m t) wr (minorOf_sq hsq hlt) ho.lt (by have := ho.capLe; rw [hrs.out] at this; exact this) (by rw [← hcc]; exact ho.rows2)
            have hterm : (sumTo (t + 1) fun j => sgn j * ent m 0 j * det n (minorOf m j)) = (sumTo t fun j => sgn j * ent m 0 j * det n (minorOf m j)) + sgn t * x * det n (minorOf m t) := by
              simp only [sumTo]; rw [Hxx.out]
            have hS := det_sum_bound hsq (by omega) (t := t) (by omega)
            have hdb := det_bound n _ (minorOf_sq hsq hlt)
            have hDB := detB_le (n := n) (by omega)
            have htb := term_bound (sgn_cases t) hbx (d := det n (minorOf m t)) ⟨by omega, by omega⟩
            have hsg := sgn_succ t
            have hGc := sgn_cases t
            have Hdc := Lib.hid hdc; clear hdc
            have Hterm := Lib.hid hterm; have Hsg := Lib.hid hsg; clear hterm hsg hcc
            generalize (sumTo t fun j => sgn j * ent m 0 j * det n (minorOf m j)) = S at *
            generalize det n (minorOf m t) = d at *
            generalize sgn t = G at *
            have hG1 : -1 ≤ G ∧ G ≤ 1 := by omega
            have e1 : IntKind.i64.wrap (G * x) = G * x := IntWalk.i64_in _ (by omega)
            have e2 : IntKind.i64.wrap (G * x * d) = G * x * d := IntWalk.i64_in _ (by omega)
            have e3 : IntKind.i64.wrap (S + G * x * d) = S + G * x * d := IntWalk.i64_in _ (by omega)
            have hbb2 := hb.trans (hb2.mono hb.size)
            clear hGc hdb hDB htb hS
            go_wp2_with fail
            refine Hdc.out.mono ?_
            rintro e w1 ⟨rfl, hb3⟩
            go_wp2_with fail
            go_roundw
            case rel => exact ⟨t + 1, by omega, by go_num, by rw [Hterm.out], by rw [Hsg.out], hbb2.trans (hb3.mono hbb2.size)⟩
            case measure => simp [intOf]; omega
    · obtain rfl : t = n + 1 := by omega
      go_wp2
      go_ret
      exact ⟨rfl, hb⟩

theorem impl_determinant_zero (g o cap : Nat) (w : World) : Calls Tryz.prog 177 #[(Value.slice (some ⟨g, o, none⟩) 0 cap)] w (Gives w (.int .i64 1)) := by
  go_enter Tryz.func177, Tryz.ntmps177
  go_wp2
  go_ret
  exact ⟨rfl, Below.refl _ _⟩

set_option maxHeartbeats 4000000 in
theorem impl_determinant_one (g o cap : Nat) (m : List (List Int)) (w : World) (hsq : Sq 1 m) (hcap : 1 ≤ cap) (hr : Rows2 w g o m) :
    Calls Tryz.prog 177 #[(Value.slice (some ⟨g, o, none⟩) 1 cap)] w (Gives w (.int .i64 (det 1 m))) := by
  obtain ⟨g0, o0, c0, p1, p2, p3, p4⟩ := hr 0 (by rw [hsq.1]; omega)
  have hr0 := hsq.2.1 0 (by omega)
  rw [hr0] at p1 p2
  rw [Nat.add_zero] at p1
  have e0 := p4 0 (by rw [hr0]; omega)
  have hee : (m.getD 0 []).getD 0 0 = ent m 0 0 := rfl
  rw [hee, Nat.add_zero] at e0
  have hbx := hsq.2.2 0 0
  have hdet : det 1 m = ent m 0 0 := by simp [det, sumTo, sgn]
  rw [hdet]
  clear hdet hee hr0 p4
  generalize ent m 0 0 = x at *
  go_enter Tryz.func177, Tryz.ntmps177
  go_wp2
  go_loopw [3, 4, 17] (fun s sg i wr => ((i = .int .i64 0 ∧ s = .int .i64 0 ∧ sg = .int .i64 1) ∨ (i = .int .i64 1 ∧ s = .int .i64 x)) ∧ Below w.heap.size w wr) (fun _ _ i _ => 1 - (intOf i).toNat)
  case atStart => exact ⟨.inl ⟨rfl, rfl, rfl⟩, Below.refl _ _⟩
  case round =>
    obtain ⟨h | h, hb⟩ := hrel
    · obtain ⟨rfl, rfl, rfl⟩ := h
      have f0 := (hb.cell (p := ⟨g0, o0, none⟩) p3).trans e0
      by_cases hx0 : x = 0
      · subst hx0
        go_wp2
        go_roundw
        case rel => exact ⟨.inr ⟨rfl, rfl⟩, hb⟩
        case measure => simp [intOf]
      · have hxb : (x != 0) = true := by simpa using hx0
        obtain ⟨wo, rfl⟩ : ∃ wo : World, wo = wr := ⟨_, rfl⟩
        by_cases hc1 : cap = 1
        · subst hc1
          go_wp2
          refine wp_loop_rounds 1 ?_
          rw [rounds_succ]
          go_wp2_with fail
          refine (impl_determinant_zero _ _ _ _).mono ?_
          rintro e w1 ⟨rfl, hb3⟩
          go_wp2_with fail
          go_roundw
          case rel =>
            refine ⟨.inr ⟨rfl, ?_⟩, ?_⟩
            · simp
            · exact (hb.alloc hb.size _).trans (hb3.mono (hb.alloc hb.size _).size)
          case measure => simp [intOf]
        · have hc2 : 1 < cap := by omega
          go_wp2
          refine wp_loop_rounds 1 ?_
          rw [rounds_succ]
          go_wp2_with fail
          refine (impl_determinant_zero _ _ _ _).mono ?_
          rintro e w1 ⟨rfl, hb3⟩
          go_wp2_with fail
          go_roundw
          case rel =>
            refine ⟨.inr ⟨rfl, ?_⟩, ?_⟩
            · simp
            · exact (hb.alloc hb.size _).trans (hb3.mono (hb.alloc hb.size _).size)
          case measure => simp [intOf]
    · obtain ⟨rfl, rfl⟩ := h
      go_wp2
      go_ret
      exact ⟨rfl, hb⟩

theorem impl_determinant_any : ∀ (n : Nat), n ≤ 4 → ∀ (g o cap : Nat) (m : List (List Int)) (w : World), Sq n m → g < w.heap.size → n ≤ cap → Rows2 w g o m → Calls Tryz.prog 177 #[(Value.slice (some ⟨g, o, none⟩) n cap)] w (Gives w (.int .i64 (det n m))) := by
  intro n
  induction n with
  | zero => intro _ g o cap m w _ _ _ _; exact impl_determinant_zero g o cap w
  | succ n ih =>
    intro hn g o cap m w hsq hg hcap hr
    cases n with
    | zero => exact impl_determinant_one g o cap m w hsq hcap hr
    | succ n => exact impl_determinant_step (n + 1) (by omega) hn (ih (by omega)) g o cap m w hsq hg hcap hr

theorem cutAt_range (row : List Int) (j k : Nat) :
    (if k ≠ j then ((List.range k).filter (· ≠ j)).map (fun t => row.getD t 0) ++ [row.getD k 0] else ((List.range k).filter (· ≠ j)).map (fun t => row.getD t 0)) = ((List.range (k + 1)).filter (· ≠ j)).map (fun t => row.getD t 0) := by
  rw [List.range_succ, List.filter_append]
  by_cases h : k = j
  · subst h; simp
  · simp [h]
theorem cutAt_all {row : List Int} {n j : Nat} (hl : row.length = n + 1) (hj : j ≤ n) : ((List.range (n + 1)).filter (· ≠ j)).map (fun t => row.getD t 0) = cutAt row j := by
  have e : List.range (n + 1) = List.range j ++ (j :: (List.range (n - j)).map (fun t => j + 1 + t)) := by
    apply List.ext_getElem
    · simp; omega
    · intro i h1 h2
      simp only [List.getElem_range]
      by_cases hi : i < j
      · rw [List.getElem_append_left (by simpa using hi)]; simp
      · rw [List.getElem_append_right (by simp; omega)]
        simp only [List.length_range]
        by_cases hij : i = j
        · subst hij; simp
        · obtain ⟨d, rfl⟩ : ∃ d, i = j + 1 + d := ⟨i - (j + 1), by omega⟩
          have : j + 1 + d - j = d + 1 := by omega
          simp [this]
  rw [e, List.filter_append, List.map_append]
  unfold cutAt
  congr 1
  · rw [List.filter_eq_self.2 (by intro a ha; have := List.mem_range.1 ha; simp; omega)]
    apply List.ext_getElem
    · simp; omega
    · intro i h1 h2
      simp at h1
      simp [List.getD]
      rw [List.getElem?_eq_getElem (by omega)]; rfl
  · rw [List.filter_cons_of_neg (by simp), List.filter_eq_self.2 (by intro a ha; obtain ⟨b, _, rfl⟩ := List.mem_map.1 ha; simp; omega)]
    apply List.ext_getElem
    · simp; omega
    · intro i h1 h2
      simp at h1
      simp [List.getD]
      rw [List.getElem?_eq_getElem (by omega)]; rfl
end Go.Proofs.YtobeigdjhepedaaGreatDoor
