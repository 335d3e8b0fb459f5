/- NeighboursOf: contracts. The search of a part: words and the reference's contract. -/
import Derived.Test.YtdedkfbiookofaaGreatDoorK06
import Derived.Test.YtdedkfbiookofaaGreatDoorK00
import Derived.Test.YtdedkfbiookofaaGreatDoorK02
namespace Go.Proofs.YtdedkfbiookofaaGreatDoor
set_option maxRecDepth 100000
open Go.RowKit
theorem impl_isPoint_nb (gc oc n cc : Nat) (i : Int) (w : World) : Calls Tryz.prog 130 #[(Value.slice (some ⟨gc, oc, none⟩) n cc), .int .i64 i] w (Reads w (.bool (decide (0 ≤ i) && decide (i < n)))) := by
  by_cases h : 0 ≤ i
  · have h' : decide (0 ≤ i) = true := decide_eq_true h
    rw [h']
    go_enter Tryz.func130, Tryz.ntmps130
    go_wp2
    go_ret
    exact ⟨rfl, 0, rfl⟩
  · have h' : decide (0 ≤ i) = false := decide_eq_false h
    rw [h']
    go_enter Tryz.func130, Tryz.ntmps130
    go_wp2
    go_ret
    exact ⟨rfl, 0, rfl⟩
def nbTo (c : List (List Int)) (i k : Nat) : List Nat := (List.range k).filter fun j => j != i && (ent c i j != 0)
theorem nbTo_yes {c : List (List Int)} {i k : Nat} (h : k ≠ i) (h2 : ent c i k ≠ 0) : nbTo c i (k + 1) = nbTo c i k ++ [k] := by
  unfold nbTo; rw [List.range_succ, List.filter_append]; simp [h, h2]
theorem nbTo_no {c : List (List Int)} {i k : Nat} (h : k = i ∨ ent c i k = 0) : nbTo c i (k + 1) = nbTo c i k := by
  unfold nbTo; rw [List.range_succ, List.filter_append]
  rcases h with h | h <;> simp [h]
theorem nbTo_le (c : List (List Int)) (i k : Nat) : (nbTo c i k).length ≤ k := by
  unfold nbTo; exact Nat.le_trans (List.length_filter_le _ _) (by simp)
set_option maxHeartbeats 2000000 in
theorem impl_NeighboursOf_ok (gc oc n cc i : Nat) (c : List (List Int)) (w : World) (hn : c.length = n) (hC : IsC c) (hi : i < c.length) (hgc : gc < w.heap.size) (hr : Rows2 w gc oc c) :
    Calls Tryz.prog 201 #[(Value.slice (some ⟨gc, oc, none⟩) n cc), .int .i64 i] w (GotInts w (intsOf (nbL c i))) := by
  subst hn
  have hn4 := hC.2.1
  have hb0 : Below w.heap.size w (w.alloc (.cells #[] 3)) := (by repeat (first | with_reducible exact Below.refl _ _ | with_reducible assumption | with_reducible refine below_drewN ?_ _ | with_reducible refine Below.drew ?_ | (with_reducible refine Below.alloc ?_ ?_ _; rotate_left; · first | (simp; done) | (simp; omega) | exact Below.size (by assumption) | (have hsz := Below.size (by assumption : Below _ _ _); simp at hsz ⊢; omega)) | (with_reducible refine Below.setCell ?_ ?_ _; rotate_left; · first | (simp; done) | (simp; omega))))
  have hiI : (decide ((0 : Int) ≤ (i : Int)) && decide ((i : Int) < (c.length : Int))) = true := by simp; omega
  go_enter Tryz.func201, Tryz.ntmps201
  go_wp2_with fail
  refine (impl_IsCartan gc oc _ cc c _ rfl (by omega) (fun j hj => by have := hC.2.2.1 j hj; omega) (hr.below hb0 hgc)).mono ?_
  rintro e w1 ⟨rfl, m1, rfl⟩
  rw [decide_eq_true hC]
  go_wp2_with fail
  refine (impl_isPoint_nb gc oc _ cc i _).mono ?_
  rintro e w2 ⟨rfl, m2, rfl⟩
  rw [hiI]
  clear hiI
  obtain ⟨ga, oa, ca, q1, q2, q3, q4⟩ := hr i hi
  have hri := hC.2.2.1 i hi
  rw [hri] at q1
  have hiI2 : (i : Int) < (c.length : Int) := by omega
  go_wp2_with fail
  go_loopw [5, 6, 20] (fun s _ k wr => ∃ t g' c' n' : Nat, t ≤ c.length ∧ k = .int .i64 t ∧ s = (Value.slice (some ⟨g', 0, none⟩) n' c') ∧ Hid ((nbTo c i t).length = n') ∧ Own wr w.heap.size g' c' (intsOf (nbTo c i t)) ∧ Below w.heap.size w wr) (fun _ _ k _ => c.length - (intOf k).toNat)
  case atStart => exact ⟨0, w.heap.size, 0, 0, Nat.zero_le _, rfl, rfl, rfl, Own.drewN (Own.empty (w := w) (Nat.le_refl _)) _, below_drewN hb0 _⟩
  case round =>
    obtain ⟨t, g', c', n', ht, rfl, rfl, hn', ho, hb⟩ := hrel
    have hle := nbTo_le c i t
    rw [hn'.out] at hle
    by_cases hlt : t < c.length
    · have hltI : (t : Int) < (c.length : Int) := by omega
      have r1 := (hb.cell (p := ⟨gc, oc + i, none⟩) hgc).trans q1
      have r2 := q4.below hb q3 t (by rw [hri]; exact hlt)
      have hee : (c.getD i []).getD t 0 = ent c i t := rfl
      rw [hee] at r2
      by_cases hti : t = i
      · have hS := nbTo_no (c := c) (i := i) (k := t) (.inl hti)
        have HS := Lib.hid hS
        have hd : ((t : Int) != (i : Int)) = false := by simp; omega
        clear hS hti hee r1 r2
        go_wp2
        go_roundw
        case rel => exact ⟨t + 1, g', c', n', by omega, by go_num, rfl, by show _ = _; rw [HS.out]; exact hn'.out, by rw [HS.out]; exact ho, hb⟩
        case measure => simp [intOf]; omega
      · have hd : ((t : Int) != (i : Int)) = true := by simp; omega
        by_cases hz : ent c i t = 0
        · have hS := nbTo_no (c := c) (i := i) (k := t) (.inr hz)
          have HS := Lib.hid hS
          rw [hz] at r2
          clear hS hti hee hz
          go_wp2
          go_roundw
          case rel => exact ⟨t + 1, g', c', n', by omega, by go_num, rfl, by show _ = _; rw [HS.out]; exact hn'.out, by rw [HS.out]; exact ho, hb⟩
          case measure => simp [intOf]; omega
        · have hS := nbTo_yes (c := c) hti hz
          have HS := Lib.hid hS
          have hzb : (ent c i t != 0) = true := by simpa using hz
          clear hS hti hee hz
          generalize ent c i t = x at *
          go_wp2_with (at_builtin; refine wpList_append_int_n rfl _ _ rfl w.heap.size g' c' n' (intsOf (nbTo c i t)) (t : Int) (by rw [intsOf_length]; exact hn'.out) ho rfl rfl (by omega) ?_)
          intro g3 c3 w3 ho3 hg3 _
          go_wp2
          go_roundw
          case rel =>
            rw [← intsOf_push, ← HS.out] at ho3
            exact ⟨t + 1, g3, c3, n' + 1, by omega, by go_num, rfl, by show _ = _; rw [HS.out, List.length_append, hn'.out]; rfl, ho3, hb.grown hg3 hb.size (by intro j hj; cases hj; exact ho.base)⟩
          case measure => simp [intOf]; omega
    · obtain rfl : t = c.length := by omega
      have hN : nbTo c i c.length = nbL c i := rfl
      rw [hN] at ho hn'
      go_wp2
      go_ret
      exact GotInts.mk' g' c' (by rw [intsOf_length]; exact hn'.out) ho hb
set_option maxHeartbeats 2000000 in
theorem spec_NeighboursOf_ok (gc oc n cc i : Nat) (c : List (List Int)) (w : World) (hn : c.length = n) (hC : IsC c) (hi : i < c.length) (hgc : gc < w.heap.size) (hr : Rows2 w gc oc c) :
    Calls Tryz.prog 183 #[(Value.slice (some ⟨gc, oc, none⟩) n cc), .int .i64 i] w (GotInts w (intsOf (nbL c i))) := by
  subst hn
  have hn4 := hC.2.1
  have hcart : Hid (∀ W, Below w.heap.size w W → Calls Tryz.prog 93 #[(Value.slice (some ⟨gc, oc, none⟩) c.length cc)] W (Reads W (.bool true))) := fun W hW => by
    have := spec_IsCartan gc oc _ cc c W rfl (by omega) (fun j hj => by have := hC.2.2.1 j hj; omega) (hr.below hW hgc)
    rwa [decide_eq_true hC] at this
  have hin : Hid (∀ W, Calls Tryz.prog 92 #[.int .i64 i, .int .i64 0, .int .i64 ((c.length : Int) - 1)] W (Reads W (.bool true))) := fun W => by
    have := spec_l1In i 0 ((c.length : Int) - 1) W
    rwa [show (decide ((0 : Int) ≤ (i : Int)) && decide ((i : Int) ≤ (c.length : Int) - 1)) = true by rw [Bool.and_eq_true, decide_eq_true_eq, decide_eq_true_eq]; omega] at this
  have ew : IntKind.i64.wrap ((c.length : Int) - 1) = (c.length : Int) - 1 := IntWalk.i64_in _ (by omega)
  obtain ⟨ga, oa, ca, q1, q2, q3, q4⟩ := hr i hi
  have hri := hC.2.2.1 i hi
  rw [hri] at q1
  have hiI2 : (i : Int) < (c.length : Int) := by omega
  go_enter Tryz.func183, Tryz.ntmps183
  go_wp2_with fail
  go_loopw [5, 6] (fun s k wr => ∃ t g' c' n' : Nat, t ≤ c.length ∧ k = .int .i64 t ∧ s = (Value.slice (some ⟨g', 0, none⟩) n' c') ∧ Hid ((nbTo c i t).length = n') ∧ Own wr w.heap.size g' c' (intsOf (nbTo c i t)) ∧ Below w.heap.size w wr) (fun _ k _ => c.length - (intOf k).toNat)
  case atStart => exact ⟨0, w.heap.size, 0, 0, Nat.zero_le _, rfl, rfl, rfl, Own.empty (w := w) (Nat.le_refl _), (Below.refl _ _).alloc (Nat.le_refl _) _⟩
  case round =>
    obtain ⟨t, g', c', n', ht, rfl, rfl, hn', ho, hb⟩ := hrel
    have hle := nbTo_le c i t
    rw [hn'.out] at hle
    by_cases hlt : t < c.length
    · have hltI : (t : Int) < (c.length : Int) := by omega
      go_wp2_with fail
      refine (hcart.out _ hb).mono ?_
      rintro e w2 ⟨rfl, m2, rfl⟩
      go_wp2_with fail
      refine (hin.out _).mono ?_
      rintro e w3 ⟨rfl, m3, rfl⟩
      have hb3 : Below w.heap.size w (wr.drewN (m2 + m3)) := below_drewN hb (m2 + m3)
      have ho3 : Own (wr.drewN (m2 + m3)) w.heap.size g' c' (intsOf (nbTo c i t)) := ho.drewN (m2 + m3)
      have r1 := (hb.cell (p := ⟨gc, oc + i, none⟩) hgc).trans q1
      have r2 := q4.below hb q3 t (by rw [hri]; exact hlt)
      have hee : (c.getD i []).getD t 0 = ent c i t := rfl
      rw [hee] at r2
      by_cases hti : t = i
      · have hS := nbTo_no (c := c) (i := i) (k := t) (.inl hti)
        have HS := Lib.hid hS
        have hd : ((t : Int) != (i : Int)) = false := by simp; omega
        clear hS hti hee r1 r2
        go_wp2_with fail
        go_roundw
        case rel => exact ⟨t + 1, g', c', n', by omega, by go_num, rfl, by show _ = _; rw [HS.out]; exact hn'.out, by rw [HS.out]; exact ho3, hb3⟩
        case measure => simp [intOf]; omega
      · have hd : ((t : Int) != (i : Int)) = true := by simp; omega
        by_cases hz : ent c i t = 0
        · have hS := nbTo_no (c := c) (i := i) (k := t) (.inr hz)
          have HS := Lib.hid hS
          rw [hz] at r2
          clear hS hti hee hz
          go_wp2_with fail
          go_roundw
          case rel => exact ⟨t + 1, g', c', n', by omega, by go_num, rfl, by show _ = _; rw [HS.out]; exact hn'.out, by rw [HS.out]; exact ho3, hb3⟩
          case measure => simp [intOf]; omega
        · have hS := nbTo_yes (c := c) hti hz
          have HS := Lib.hid hS
          have hzb : (ent c i t != 0) = true := by simpa using hz
          clear hS hti hee hz
          generalize ent c i t = x at *
          go_wp2_with (at_builtin; refine wpList_append_int_n (w := wr.drewN (m2 + m3)) rfl _ _ rfl w.heap.size g' c' n' (intsOf (nbTo c i t)) (t : Int) (by rw [intsOf_length]; exact hn'.out) ho3 rfl rfl (by omega) ?_)
          intro g4 c4 w4 ho4 hg4 _
          go_wp2
          go_roundw
          case rel =>
            rw [← intsOf_push, ← HS.out] at ho4
            exact ⟨t + 1, g4, c4, n' + 1, by omega, by go_num, rfl, by show _ = _; rw [HS.out, List.length_append, hn'.out]; rfl, ho4, hb3.grown hg4 hb3.size (by intro j hj; cases hj; exact ho.base)⟩
          case measure => simp [intOf]; omega
    · obtain rfl : t = c.length := by omega
      have hN : nbTo c i c.length = nbL c i := rfl
      rw [hN] at ho hn'
      go_wp2_with fail
      go_ret
      exact GotInts.mk' g' c' (by rw [intsOf_length]; exact hn'.out) ho hb
end Go.Proofs.YtdedkfbiookofaaGreatDoor
namespace Go.Proofs.YtdedkfbiookofaaGreatDoor
set_option maxRecDepth 100000
open Go.RowKit
theorem infoBool : (Tryz.prog.info? 4).map (fun i => (i.zero, i.size, i.bytes)) = some (some (.bool false), 1, 1) := by kernel_rfl
def OwnBs (w : World) (B g cap : Nat) (bs : List Bool) : Prop := OwnV w B 4 g cap (bs.map Value.bool)
section
variable {w w' : World} {B g cap : Nat} {bs : List Bool}
theorem OwnBs.lt (h : OwnBs w B g cap bs) : g < w.heap.size := OwnV.lt h
theorem OwnBs.base (h : OwnBs w B g cap bs) : B ≤ g := OwnV.base h
theorem OwnBs.cell (h : OwnBs w B g cap bs) (j : Nat) (hj : j < bs.length) : w.cell? ⟨g, j, none⟩ = some (.bool (bs.getD j false)) := by
  have := OwnV.cell h j (by simpa using hj)
  rw [this]; simp [List.getD, hj]
theorem OwnBs.frozen (h : OwnBs w B g cap bs) (j : Nat) : w.frozen? ⟨g, j, none⟩ = false := OwnV.frozen h j
theorem OwnBs.below {B' : Nat} (h : OwnBs w B g cap bs) (hb : Below B' w w') (hg : g < B') : OwnBs w' B g cap bs := OwnV.below h hb hg
theorem OwnBs.grown {row : Option Nat} (h : OwnBs w B g cap bs) (hg : w.grownBy w' row) (hne : some g ≠ row) : OwnBs w' B g cap bs := OwnV.grown h hg hne
theorem OwnBs.alloc (h : OwnBs w B g cap bs) (o : Obj) : OwnBs (w.alloc o) B g cap bs := OwnV.alloc h o
theorem OwnBs.set (h : OwnBs w B g cap bs) (j : Nat) (b : Bool) : OwnBs (w.setCell ⟨g, j, none⟩ (.bool b)) B g cap (bs.set j b) ∧ w.grownBy (w.setCell ⟨g, j, none⟩ (.bool b)) (some g) := by
  have := OwnV.set h j (.bool b)
  refine ⟨?_, this.2⟩
  unfold OwnBs
  rw [List.map_set]
  exact this.1
end
theorem wpList_make_bs {w : World} {ops : Array Oper} {rest : List Oper} {o : Oper} {a : Act} {Q : Exit → Act → World → Prop} (hgd : o.guard = none) (l c : Operand)
    (hop : o.op = Op.makeSlice 144 l c) (B n : Nat) (C : Int) (hC : C = (n : Int)) (hl : a.eval l = .int .i64 C) (hc : a.eval c = .int .i64 C) (hn : n ≤ 1048576) (hB : B ≤ w.heap.size)
    (h : ∀ w', OwnBs w' B w.heap.size n (List.replicate n false) → w.grownBy w' none → wpList Tryz.prog ops Q rest (a.put o.dst (Value.slice (some ⟨w.heap.size, 0, none⟩) n n)) w') :
    wpList Tryz.prog ops Q (o :: rest) a w := by
  obtain ⟨i0, hi, hz0, hz1, hz2⟩ := info_parts infoBool
  refine wpList_make_full _ hgd l c 144 hop B 4 i0 (.bool false) 1 Tryz.underlying144 hi hz0 hz1 _ _ _ _ n hl hc hC hC (by rw [hz2]; omega) (by unfold maxLen; omega) hB ?_
  intro w' hown hgr
  refine h w' ?_ hgr
  unfold OwnBs OwnV
  rw [List.length_map, List.length_replicate, List.map_replicate]
  have e : (madeCells (Value.bool false).cells (n * 1)).toList = List.replicate n (Value.bool false) := by
    rw [Nat.mul_one]; exact toList_madeCells_one _ _
  rw [← e]; exact hown
theorem visit_succ (s : Bst) (l : List Nat) (u : Nat) (hu : u < l.length) : visitAll s (l.take (u + 1)) = visitOne (visitAll s (l.take u)) (l.getD u 0) := by
  unfold visitAll
  rw [List.take_succ_eq_append_getElem hu, List.foldl_append]; simp [List.getD, hu]
theorem visitOne_seen {s : Bst} {j : Nat} (h : s.1.getD j false = true) : visitOne s j = s := by unfold visitOne; rw [if_pos h]
theorem visitOne_new {s : Bst} {j : Nat} (h : s.1.getD j false = false) : visitOne s j = (s.1.set j true, s.2 ++ [j]) := by unfold visitOne; rw [if_neg (by rw [h]; simp)]
theorem bfsG_go {tab : List (List Nat)} {f k : Nat} {s fin : Bst} (h : bfsG tab f k s = some fin) (hk : k < s.2.length) : ∃ f', f = f' + 1 ∧ bfsG tab f' (k + 1) (visitAll s (tab.getD (s.2.getD k 0) [])) = some fin := by
  cases f with
  | zero => unfold bfsG at h; rw [if_pos hk] at h; simp at h
  | succ f => unfold bfsG at h; rw [if_pos hk] at h; exact ⟨f, rfl, h⟩
theorem bfsG_end {tab : List (List Nat)} {f k : Nat} {s fin : Bst} (h : bfsG tab f k s = some fin) (hk : ¬ k < s.2.length) : fin = s := by
  cases f with
  | zero => unfold bfsG at h; rw [if_neg hk] at h; exact (Option.some.inj h).symm
  | succ f => unfold bfsG at h; rw [if_neg hk] at h; exact (Option.some.inj h).symm
/-- a state of the search: as many marks as points, a queue of points, not too long -/
def BOk (n m : Nat) (s : Bst) : Prop := s.1.length = n ∧ (∀ x ∈ s.2, x < n) ∧ s.2.length ≤ m
theorem BOk.visit {n m : Nat} {s : Bst} {j : Nat} (h : BOk n m s) (hj : j < n) : BOk n (m + 1) (visitOne s j) := by
  unfold visitOne
  split
  · exact ⟨h.1, h.2.1, by have := h.2.2; omega⟩
  · refine ⟨by simpa using h.1, fun x hx => ?_, by have := h.2.2; simp; omega⟩
    rcases List.mem_append.1 hx with e | e
    · exact h.2.1 x e
    · simp at e; omega
theorem BOk.weak {n m m' : Nat} {s : Bst} (h : BOk n m s) (hm : m ≤ m') : BOk n m' s := ⟨h.1, h.2.1, Nat.le_trans h.2.2 hm⟩
theorem nbL_lt {c : List (List Int)} {i j : Nat} (h : j ∈ nbL c i) : j < c.length := by
  unfold nbL at h
  exact List.mem_range.1 (List.mem_filter.1 h).1
theorem nbL_len (c : List (List Int)) (i : Nat) : (nbL c i).length ≤ c.length := nbTo_le c i c.length
theorem tab_at {c : List (List Int)} {i : Nat} (h : i < c.length) : (nbTab c).getD i [] = nbL c i := by simp [nbTab, List.getD, h]
theorem nbTab_length (c : List (List Int)) : (nbTab c).length = c.length := by simp [nbTab]
def trueTo (seen : List Bool) (k : Nat) : List Nat := (List.range k).filter fun k => seen.getD k false
theorem trueTo_yes {seen : List Bool} {k : Nat} (h : seen.getD k false = true) : trueTo seen (k + 1) = trueTo seen k ++ [k] := by
  unfold trueTo; rw [List.range_succ, List.filter_append, List.filter_cons_of_pos (by simpa using h)]; rfl
theorem trueTo_no {seen : List Bool} {k : Nat} (h : seen.getD k false = false) : trueTo seen (k + 1) = trueTo seen k := by
  unfold trueTo; rw [List.range_succ, List.filter_append, List.filter_cons_of_neg (by rw [h]; simp)]; simp
theorem trueTo_le (seen : List Bool) (k : Nat) : (trueTo seen k).length ≤ k := by
  unfold trueTo; exact Nat.le_trans (List.length_filter_le _ _) (by simp)
set_option maxHeartbeats 4000000 in
theorem spec_l3Part_ok (gc oc n cc i : Nat) (c : List (List Int)) (p : List Nat) (w : World) (hn : c.length = n) (hC : IsC c) (hi : i < c.length) (hp : partS (nbTab c) i = some p) (hgc : gc < w.heap.size) (hr : Rows2 w gc oc c) :
    Calls Tryz.prog 160 #[(Value.slice (some ⟨gc, oc, none⟩) n cc), .int .i64 i] w (GotInts w (intsOf p)) := by
  subst hn
  have hn4 := hC.2.1
  have hiI : (i : Int) < (c.length : Int) := by omega
  obtain ⟨fin, hfin, hpf⟩ : ∃ fin : Bst, bfsG (nbTab c) 5 0 ((List.replicate c.length false).set i true, [i]) = some fin ∧ p = trueAt fin.1 := by
    unfold partS partG at hp
    rw [nbTab_length] at hp
    cases h : bfsG (nbTab c) 5 0 ((List.replicate c.length false).set i true, [i]) with
    | none => rw [h] at hp; simp at hp
    | some fin => rw [h] at hp; exact ⟨fin, rfl, (by simpa using hp.symm)⟩
  have Hpf := Lib.hid hpf; have Hfin := Lib.hid hfin
  clear hp hpf hfin
  go_enter Tryz.func160, Tryz.ntmps160
  go_wp2_with (at_make; refine wpList_make_bs rfl _ _ rfl w.heap.size c.length _ rfl rfl rfl (by omega) (Nat.le_refl _) ?_)
  intro w1 hown1 hgr1
  have hb1 := below_of_grown hgr1
  have hB1 : Below w.heap.size w w1 := hb1
  have q1 := hown1.cell i (by simpa using hi)
  have f1 := hown1.frozen i
  have hs1 := hown1.set i true
  have Hs1 := Lib.hid hs1
  have hgs : w.heap.size < w1.heap.size := hown1.lt
  generalize hgse : w.heap.size = gs at *
  clear hs1 hgr1 hb1
  generalize (List.replicate c.length false).getD i false = b0 at q1
  go_wp2
  go_loopw [6, 7, 8, 9] (fun qv kv _ _ wr => ∃ (f k gq cq m : Nat) (s : Bst), f + k = 5 ∧ kv = .int .i64 k ∧ qv = (Value.slice (some ⟨gq, 0, none⟩) m cq) ∧ Hid (s.2.length = m) ∧ Hid (bfsG (nbTab c) f k s = some fin) ∧ BOk c.length (1 + 4 * k) s ∧ OwnBs wr gs gs c.length s.1 ∧ Own wr gs gq cq (intsOf s.2) ∧ gs ≠ gq ∧ Below gs w wr) (fun _ kv _ _ _ => 6 - (intOf kv).toNat)
  case atStart =>
    refine ⟨5, 0, (w1.setCell ⟨gs, i, none⟩ (.bool true)).heap.size, 1, 1, ((List.replicate c.length false).set i true, [i]), rfl, rfl, by simp, rfl, Hfin.out, ⟨by simp, by intro x hx; simp at hx; omega, by simp⟩, Hs1.out.1.alloc _, ?_, by simp; omega, ?_⟩
    · exact Own.new (w := w1.setCell ⟨gs, i, none⟩ (.bool true)) (i : Int) (by simp; omega)
    · exact (hB1.grown Hs1.out.2 (by omega) (by intro j hj; cases hj; exact Nat.le_refl _)).alloc (by simp; omega) _
  case round =>
    obtain ⟨f, k, gq, cq, m, s, hfk, rfl, rfl, hsl, hbf, hok, hos, hoq, hne, hB⟩ := hrel
    have hgB := hos.base
    have hBs : gs ≤ wr.heap.size := by have := hB.size; omega
    by_cases hlt : k < m
    · obtain ⟨f', rfl, hbf'⟩ := bfsG_go hbf.out (by rw [hsl.out]; exact hlt)
      have hltI : (k : Int) < (m : Int) := by omega
      have hx : s.2.getD k 0 < c.length := hok.2.1 _ (by have := hsl.out; rw [show s.2.getD k 0 = s.2[k]'(by omega) by simp [List.getD, show k < s.2.length by omega]]; exact List.getElem_mem _)
      rw [tab_at hx] at hbf'
      have qk := hoq.cell k (by rw [intsOf_length, hsl.out]; exact hlt)
      rw [intsOf_getD _ _ (by rw [hsl.out]; exact hlt)] at qk
      generalize s.2.getD k 0 = x at *
      have hlen := nbL_len c x
      have hmem : Hid (∀ j ∈ nbL c x, j < c.length) := fun j hj => nbL_lt hj
      have hnb := spec_NeighboursOf_ok gc oc _ cc x c wr rfl hC hx (by omega) (hr.below (by rw [hgse]; exact hB) (by omega))
      have Hbf := Lib.hid hbf'
      generalize nbL c x = L at *
      generalize hLl : L.length = ll at *
      have HLl := Lib.hid hLl
      clear hbf' hLl hbf hx
      go_wp2_with fail
      refine hnb.mono ?_
      rintro e w2 ⟨gl, cl, rfl, hol, hb2⟩
      have hlw := hol.base
      rw [intsOf_length, HLl.out]
      have hgq := hoq.lt
      have hgsl := hos.lt
      have hos2 := hos.below hb2 hgsl
      have hoq2 := hoq.below hb2 hgq
      have hB2 : Below gs w w2 := hB.trans (hb2.mono hBs)
      have hgl1 : gl ≠ gs := by omega
      have hgl2 : gl ≠ gq := by omega
      have hlB := hol.mono (B' := gs) (by omega)
      clear hb2 hnb hol hlw qk hos hoq hB hgq hgsl
      clear hlt hltI
      go_wp2
      go_loopw [6, 9] (fun qv nv wi => ∃ (u gq cq m : Nat), u ≤ ll ∧ nv = .int .i64 u ∧ qv = (Value.slice (some ⟨gq, 0, none⟩) m cq) ∧ Hid ((visitAll s (L.take u)).2.length = m) ∧ BOk c.length (1 + 4 * k + u) (visitAll s (L.take u)) ∧ OwnBs wi gs gs c.length (visitAll s (L.take u)).1 ∧ Own wi gs gq cq (intsOf (visitAll s (L.take u)).2) ∧ gs ≠ gq ∧ gl ≠ gq ∧ gl ≠ gs ∧ Own wi gs gl cl (intsOf L) ∧ Below gs w wi) (fun _ nv _ => 6 - (intOf nv).toNat)
      case atStart => exact ⟨0, gq, cq, m, Nat.zero_le _, rfl, rfl, hsl, hok, hos2, hoq2, hne, hgl2, hgl1, hlB, hB2⟩
      case round =>
        obtain ⟨u, gq, cq, m, hu, rfl, rfl, hsl, hok, hos, hoq, hne, hgl, hgl2', hlB, hB⟩ := hrel
        have hgB := hos.base
        have hBs2 : gs ≤ wr.heap.size := by have := hB.size; omega
        have hm4 : m ≤ 1 + 4 * k + u := by have := hok.2.2; have := hsl.out; omega
        by_cases hlt : u < ll
        · have hltI : (u : Int) < (ll : Int) := by omega
          have hv := visit_succ s L u (by rw [HLl.out]; exact hlt)
          have hj : L.getD u 0 < c.length := hmem.out _ (by have := HLl.out; rw [show L.getD u 0 = L[u]'(by omega) by simp [List.getD, show u < L.length by omega]]; exact List.getElem_mem _)
          have ql := hlB.cell u (by rw [intsOf_length, HLl.out]; exact hlt)
          rw [intsOf_getD _ _ (by rw [HLl.out]; exact hlt)] at ql
          generalize L.getD u 0 = j at *
          have qs := hos.cell j (by rw [hok.1]; exact hj)
          have fs := hos.frozen j
          have hjI : (j : Int) < (c.length : Int) := by omega
          have hok' := hok.visit hj
          rw [← hv] at hok'
          have Hok' := Lib.hid hok'
          generalize visitAll s (L.take u) = s2 at *
          cases hb : s2.1.getD j false with
          | true =>
            rw [visitOne_seen hb] at hv
            have Hv := Lib.hid hv
            rw [hb] at qs
            clear hv hok'
            go_wp2
            go_roundw
            case rel => exact ⟨u + 1, gq, cq, m, by omega, by go_num, rfl, by show _ = _; rw [Hv.out]; exact hsl.out, Hok'.out, by rw [Hv.out]; exact hos, by rw [Hv.out]; exact hoq, hne, hgl, hgl2', hlB, hB⟩
            case measure => simp [intOf]; omega
          | false =>
            rw [visitOne_new hb] at hv
            have Hv := Lib.hid hv
            rw [hb] at qs
            have hset := Lib.hid (hos.set j true)
            clear hv hok'
            have hsz : (wr.setCell ⟨gs, j, none⟩ (.bool true)).heap.size = wr.heap.size := by simp
            have Hsz := Lib.hid hsz; clear hsz
            go_wp2_with (at_builtin; refine wpList_append_int_n (w := wr.setCell ⟨gs, j, none⟩ (.bool true)) rfl _ _ rfl gs gq cq m (intsOf s2.2) (j : Int) (by rw [intsOf_length]; exact hsl.out) (hoq.grown hset.out.2 (by intro e; cases e; exact hne rfl)) rfl (by rw [Hsz.out]; rfl) (by omega) ?_)
            intro g4 c4 w4 ho4 hg4 hor
            have hgls := hlB.lt
            have hszs : wr.heap.size ≤ (wr.setCell ⟨gs, j, none⟩ (.bool true)).heap.size := hset.out.2.size
            go_wp2
            go_roundw
            case rel =>
              rw [← intsOf_push] at ho4
              refine ⟨u + 1, g4, c4, m + 1, by omega, by go_num, rfl, by show _ = _; rw [Hv.out, List.length_append, hsl.out]; rfl, Hok'.out, ?_, ?_, ?_, ?_, ?_, ?_, ?_⟩
              · rw [Hv.out]; exact hset.out.1.grown hg4 (by intro e; cases e; exact hne rfl)
              · rw [Hv.out]; exact ho4
              · rcases hor with e | e
                · rw [e]; exact hne
                · have := hos.lt; omega
              · rcases hor with e | e
                · rw [e]; exact hgl
                · omega
              · exact hgl2'
              · exact (hlB.grown hset.out.2 (by intro e; cases e; exact hgl2' rfl)).grown hg4 (by intro e; cases e; exact hgl rfl)
              · exact (hB.grown hset.out.2 hBs2 (by intro j hj; cases hj; exact Nat.le_refl _)).grown hg4 (by omega) (by intro j hj; cases hj; exact hoq.base)
            case measure => simp [intOf]; omega
        · obtain rfl : u = ll := by omega
          have ht : L.take u = L := List.take_of_length_le (by rw [HLl.out]; exact Nat.le_refl _)
          rw [ht] at hsl hok hos hoq
          go_wp2
          go_roundw
          case rel => exact ⟨f', k + 1, gq, cq, m, visitAll s L, by omega, by go_num, rfl, hsl, Hbf.out, hok.weak (by omega), hos, hoq, hne, hB⟩
          case measure => simp [intOf]; omega
    · have hfin := bfsG_end hbf.out (by rw [hsl.out]; exact hlt)
      rw [hfin] at Hpf
      have hsl1 := hok.1
      obtain ⟨seen, qs⟩ := s
      simp only at Hpf hos hsl1
      have hmkI : (m : Int) ≤ (k : Int) := by omega
      clear hbf hfin hoq hsl hok hne hlt Hfin
      have Hsl1 := Lib.hid hsl1; clear hsl1
      go_wp2
      generalize decide (k < m) = bkm
      clear hmkI
      go_loopw [10, 11] (fun ov kv wi => ∃ (t go co no : Nat), t ≤ c.length ∧ kv = .int .i64 t ∧ ov = (Value.slice (some ⟨go, 0, none⟩) no co) ∧ Hid ((trueTo seen t).length = no) ∧ OwnBs wi gs gs c.length seen ∧ Own wi gs go co (intsOf (trueTo seen t)) ∧ gs ≠ go ∧ Below gs w wi) (fun _ kv _ => c.length - (intOf kv).toNat)
      case atStart => exact ⟨0, wr.heap.size, 0, 0, Nat.zero_le _, rfl, rfl, rfl, hos.alloc _, Own.empty (w := wr) hBs, by have := hos.lt; omega, hB.alloc hBs _⟩
      case round =>
        obtain ⟨t, go, co, no, ht, rfl, rfl, hno, hos, hoo, hne, hB⟩ := hrel
        have hBs3 : gs ≤ wr.heap.size := by have := hB.size; omega
        have hle := trueTo_le seen t
        rw [hno.out] at hle
        by_cases hlt : t < c.length
        · have hltI : (t : Int) < (c.length : Int) := by omega
          have qs := hos.cell t (by rw [Hsl1.out]; exact hlt)
          cases hb : seen.getD t false with
          | true =>
            have hv := trueTo_yes hb
            have Hv := Lib.hid hv
            rw [hb] at qs
            clear hv hb
            go_wp2_with (at_builtin; refine wpList_append_int_n (w := wr) rfl _ _ rfl gs go co no (intsOf (trueTo seen t)) (t : Int) (by rw [intsOf_length]; exact hno.out) hoo rfl rfl (by omega) ?_)
            intro g4 c4 w4 ho4 hg4 hor
            go_wp2
            go_roundw
            case rel =>
              rw [← intsOf_push, ← Hv.out] at ho4
              refine ⟨t + 1, g4, c4, no + 1, by omega, by go_num, rfl, by show _ = _; rw [Hv.out, List.length_append, hno.out]; rfl, hos.grown hg4 (by intro e; cases e; exact hne rfl), ho4, ?_, hB.grown hg4 hBs3 (by intro j hj; cases hj; exact hoo.base)⟩
              rcases hor with e | e
              · rw [e]; exact hne
              · have := hos.lt; omega
            case measure => simp [intOf]; omega
          | false =>
            have hv := trueTo_no hb
            have Hv := Lib.hid hv
            rw [hb] at qs
            clear hv hb
            go_wp2
            go_roundw
            case rel => exact ⟨t + 1, go, co, no, by omega, by go_num, rfl, by show _ = _; rw [Hv.out]; exact hno.out, hos, by rw [Hv.out]; exact hoo, hne, hB⟩
            case measure => simp [intOf]; omega
        · obtain rfl : t = c.length := by omega
          have hpt : trueTo seen c.length = p := by rw [Hpf.out, ← Hsl1.out]; rfl
          rw [hpt] at hoo hno
          go_wp2
          go_ret
          rw [← hgse] at hoo hB
          exact GotInts.mk' go co (by rw [intsOf_length]; exact hno.out) hoo hB
end Go.Proofs.YtdedkfbiookofaaGreatDoor
