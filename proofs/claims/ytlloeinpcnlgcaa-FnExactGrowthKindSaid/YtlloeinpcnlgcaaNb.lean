/- NeighboursOf: contracts. -/
import Derived.Test.YtlloeinpcnlgcaaParts
import Derived.Test.YtlloeinpcnlgcaaArg
namespace Go.Proofs.Ytlloeinpcnlgcaa
open Go.RowKit

theorem impl_isPoint_nb (gc oc n cc : Nat) (i : Int) (w : World) : Calls Try.prog 38 #[(Value.slice (some ⟨gc, oc, none⟩) n cc), .int .i64 i] w (Reads w (.bool (decide (0 ≤ i) && decide (i < n)))) := by
  by_cases h : 0 ≤ i
  · have h' : decide (0 ≤ i) = true := decide_eq_true h
    rw [h']
    go_enter Try.func38, Try.ntmps38
    go_wp2
    go_ret
    exact ⟨rfl, 0, rfl⟩
  · have h' : decide (0 ≤ i) = false := decide_eq_false h
    rw [h']
    go_enter Try.func38, Try.ntmps38
    go_wp2
    go_ret
    exact ⟨rfl, 0, rfl⟩

def nbTo (c : List (List Int)) (i k : Nat) : List Nat := (List.range k).filter fun j => j != i && (ent c i j != 0)
def intsOf (l : List Nat) : List Int := l.map fun i : Nat => (i : Int)
theorem nbTo_yes {c : List (List Int)} {i k : Nat} (h : k ≠ i) (h2 : ent c i k ≠ 0) : nbTo c i (k + 1) = nbTo c i k ++ [k] := by
  unfold nbTo; rw [List.range_succ, List.filter_append]; simp [h, h2]
theorem nbTo_no {c : List (List Int)} {i k : Nat} (h : k = i ∨ ent c i k = 0) : nbTo c i (k + 1) = nbTo c i k := by
  unfold nbTo; rw [List.range_succ, List.filter_append]
  rcases h with h | h <;> simp [h]
theorem nbTo_le (c : List (List Int)) (i k : Nat) : (nbTo c i k).length ≤ k := by
  unfold nbTo; exact Nat.le_trans (List.length_filter_le _ _) (by simp)
theorem intsOf_length (l : List Nat) : (intsOf l).length = l.length := by simp [intsOf]
theorem intsOf_push (l : List Nat) (k : Nat) : intsOf (l ++ [k]) = intsOf l ++ [(k : Int)] := by simp [intsOf]
theorem intsOf_getD (l : List Nat) (k : Nat) (hk : k < l.length) : (intsOf l).getD k 0 = ((l.getD k 0 : Nat) : Int) := by simp [intsOf, List.getD, hk]

set_option maxHeartbeats 2000000 in
theorem impl_NeighboursOf_ok (gc oc n cc i : Nat) (c : List (List Int)) (w : World) (hn : c.length = n) (hC : IsC c) (hi : i < c.length) (hgc : gc < w.heap.size) (hr : Rows2 w gc oc c) :
    Calls Try.prog 29 #[(Value.slice (some ⟨gc, oc, none⟩) n cc), .int .i64 i] w (GotInts w (intsOf (nbL c i))) := by
  subst hn
  have hn4 := hC.2.1
  have hb0 : Below w.heap.size w (w.alloc (.cells #[] 3)) := (by repeat (first | with_reducible exact Below.refl _ _ | with_reducible assumption | with_reducible refine below_drewN ?_ _ | with_reducible refine Below.drew ?_ | (with_reducible refine Below.alloc ?_ ?_ _; rotate_left; · first | (simp; done) | (simp; omega) | exact Below.size (by assumption) | (have hsz := Below.size (by assumption : Below _ _ _); simp at hsz ⊢; omega)) | (with_reducible refine Below.setCell ?_ ?_ _; rotate_left; · first | (simp; done) | (simp; omega))))
  have hiI : (decide ((0 : Int) ≤ (i : Int)) && decide ((i : Int) < (c.length : Int))) = true := by simp; omega
  go_enter Try.func29, Try.ntmps29
  go_wp2_with fail
  refine (impl_IsCartan gc oc _ cc c _ rfl (by omega) (fun j hj => by have := hC.2.2.1 j hj; omega) (hr.below hb0 hgc)).mono ?_
  rintro e w1 ⟨rfl, m1, rfl⟩
  rw [decide_eq_true hC]
  go_wp2_with fail
  refine (impl_isPoint_nb gc oc _ cc i _).mono ?_
  rintro e w2 ⟨rfl, m2, rfl⟩
  rw [hiI]
  clear hiI
  obtain ⟨ga, oa, ca, q1, q2, q3, q4⟩ := hr i hi
  have hri := hC.2.2.1 i hi
  rw [hri] at q1
  have hiI2 : (i : Int) < (c.length : Int) := by omega
  go_wp2_with fail
  go_loopw [5, 6, 20] (fun s _ k wr => ∃ t g' c' n' : Nat, t ≤ c.length ∧ k = .int .i64 t ∧ s = (Value.slice (some ⟨g', 0, none⟩) n' c') ∧ Hid ((nbTo c i t).length = n') ∧ Own wr w.heap.size g' c' (intsOf (nbTo c i t)) ∧ Below w.heap.size w wr) (fun _ _ k _ => c.length - (intOf k).toNat)
  case atStart => exact ⟨0, w.heap.size, 0, 0, Nat.zero_le _, rfl, rfl, rfl, Own.drewN (Own.empty (w := w) (Nat.le_refl _)) _, below_drewN hb0 _⟩
  case round =>
    obtain ⟨t, g', c', n', ht, rfl, rfl, hn', ho, hb⟩ := hrel
    have hle := nbTo_le c i t
    rw [hn'.out] at hle
    by_cases hlt : t < c.length
    · have hltI : (t : Int) < (c.length : Int) := by omega
      have r1 := (hb.cell (p := ⟨gc, oc + i, none⟩) hgc).trans q1
      have r2 := q4.below hb q3 t (by rw [hri]; exact hlt)
      have hee : (c.getD i []).getD t 0 = ent c i t := rfl
      rw [hee] at r2
      by_cases hti : t = i
      · have hS := nbTo_no (c := c) (i := i) (k := t) (.inl hti)
        have HS := Lib.hid hS
        have hd : ((t : Int) != (i : Int)) = false := by simp; omega
        clear hS hti hee r1 r2
        go_wp2
        go_roundw
        case rel => exact ⟨t + 1, g', c', n', by omega, by go_num, rfl, by show _ = _; rw [HS.out]; exact hn'.out, by rw [HS.out]; exact ho, hb⟩
        case measure => simp [intOf]; omega
      · have hd : ((t : Int) != (i : Int)) = true := by simp; omega
        by_cases hz : ent c i t = 0
        · have hS := nbTo_no (c := c) (i := i) (k := t) (.inr hz)
          have HS := Lib.hid hS
          rw [hz] at r2
          clear hS hti hee hz
          go_wp2
          go_roundw
          case rel => exact ⟨t + 1, g', c', n', by omega, by go_num, rfl, by show _ = _; rw [HS.out]; exact hn'.out, by rw [HS.out]; exact ho, hb⟩
          case measure => simp [intOf]; omega
        · have hS := nbTo_yes (c := c) hti hz
          have HS := Lib.hid hS
          have hzb : (ent c i t != 0) = true := by simpa using hz
          clear hS hti hee hz
          generalize ent c i t = x at *
          go_wp2_with (at_builtin; refine wpList_append_int_n rfl _ _ rfl w.heap.size g' c' n' (intsOf (nbTo c i t)) (t : Int) (by rw [intsOf_length]; exact hn'.out) ho rfl rfl (by omega) ?_)
          intro g3 c3 w3 ho3 hg3 _
          go_wp2
          go_roundw
          case rel =>
            rw [← intsOf_push, ← HS.out] at ho3
            exact ⟨t + 1, g3, c3, n' + 1, by omega, by go_num, rfl, by show _ = _; rw [HS.out, List.length_append, hn'.out]; rfl, ho3, hb.grown hg3 hb.size (by intro j hj; cases hj; exact ho.base)⟩
          case measure => simp [intOf]; omega
    · obtain rfl : t = c.length := by omega
      have hN : nbTo c i c.length = nbL c i := rfl
      rw [hN] at ho hn'
      go_wp2
      go_ret
      exact GotInts.mk' g' c' (by rw [intsOf_length]; exact hn'.out) ho hb

set_option maxHeartbeats 2000000 in
theorem spec_NeighboursOf_ok (gc oc n cc i : Nat) (c : List (List Int)) (w : World) (hn : c.length = n) (hC : IsC c) (hi : i < c.length) (hgc : gc < w.heap.size) (hr : Rows2 w gc oc c) :
    Calls Try.prog 35 #[(Value.slice (some ⟨gc, oc, none⟩) n cc), .int .i64 i] w (GotInts w (intsOf (nbL c i))) := by
  subst hn
  have hn4 := hC.2.1
  have hcart : Hid (∀ W, Below w.heap.size w W → Calls Try.prog 10 #[(Value.slice (some ⟨gc, oc, none⟩) c.length cc)] W (Reads W (.bool true))) := fun W hW => by
    have := spec_IsCartan gc oc _ cc c W rfl (by omega) (fun j hj => by have := hC.2.2.1 j hj; omega) (hr.below hW hgc)
    rwa [decide_eq_true hC] at this
  have hin : Hid (∀ W, Calls Try.prog 22 #[.int .i64 i, .int .i64 0, .int .i64 ((c.length : Int) - 1)] W (Reads W (.bool true))) := fun W => by
    have := spec_l1In i 0 ((c.length : Int) - 1) W
    rwa [show (decide ((0 : Int) ≤ (i : Int)) && decide ((i : Int) ≤ (c.length : Int) - 1)) = true by rw [Bool.and_eq_true, decide_eq_true_eq, decide_eq_true_eq]; omega] at this
  have ew : IntKind.i64.wrap ((c.length : Int) - 1) = (c.length : Int) - 1 := IntWalk.i64_in _ (by omega)
  obtain ⟨ga, oa, ca, q1, q2, q3, q4⟩ := hr i hi
  have hri := hC.2.2.1 i hi
  rw [hri] at q1
  have hiI2 : (i : Int) < (c.length : Int) := by omega
  go_enter Try.func35, Try.ntmps35
  go_wp2_with fail
  go_loopw [5, 6] (fun s k wr => ∃ t g' c' n' : Nat, t ≤ c.length ∧ k = .int .i64 t ∧ s = (Value.slice (some ⟨g', 0, none⟩) n' c') ∧ Hid ((nbTo c i t).length = n') ∧ Own wr w.heap.size g' c' (intsOf (nbTo c i t)) ∧ Below w.heap.size w wr) (fun _ k _ => c.length - (intOf k).toNat)
  case atStart => exact ⟨0, w.heap.size, 0, 0, Nat.zero_le _, rfl, rfl, rfl, Own.empty (w := w) (Nat.le_refl _), (Below.refl _ _).alloc (Nat.le_refl _) _⟩
  case round =>
    obtain ⟨t, g', c', n', ht, rfl, rfl, hn', ho, hb⟩ := hrel
    have hle := nbTo_le c i t
    rw [hn'.out] at hle
    by_cases hlt : t < c.length
    · have hltI : (t : Int) < (c.length : Int) := by omega
      go_wp2_with fail
      refine (hcart.out _ hb).mono ?_
      rintro e w2 ⟨rfl, m2, rfl⟩
      go_wp2_with fail
      refine (hin.out _).mono ?_
      rintro e w3 ⟨rfl, m3, rfl⟩
      have hb3 : Below w.heap.size w (wr.drewN (m2 + m3)) := below_drewN hb (m2 + m3)
      have ho3 : Own (wr.drewN (m2 + m3)) w.heap.size g' c' (intsOf (nbTo c i t)) := ho.drewN (m2 + m3)
      have r1 := (hb.cell (p := ⟨gc, oc + i, none⟩) hgc).trans q1
      have r2 := q4.below hb q3 t (by rw [hri]; exact hlt)
      have hee : (c.getD i []).getD t 0 = ent c i t := rfl
      rw [hee] at r2
      by_cases hti : t = i
      · have hS := nbTo_no (c := c) (i := i) (k := t) (.inl hti)
        have HS := Lib.hid hS
        have hd : ((t : Int) != (i : Int)) = false := by simp; omega
        clear hS hti hee r1 r2
        go_wp2_with fail
        go_roundw
        case rel => exact ⟨t + 1, g', c', n', by omega, by go_num, rfl, by show _ = _; rw [HS.out]; exact hn'.out, by rw [HS.out]; exact ho3, hb3⟩
        case measure => simp [intOf]; omega
      · have hd : ((t : Int) != (i : Int)) = true := by simp; omega
        by_cases hz : ent c i t = 0
        · have hS := nbTo_no (c := c) (i := i) (k := t) (.inr hz)
          have HS := Lib.hid hS
          rw [hz] at r2
          clear hS hti hee hz
          go_wp2_with fail
          go_roundw
          case rel => exact ⟨t + 1, g', c', n', by omega, by go_num, rfl, by show _ = _; rw [HS.out]; exact hn'.out, by rw [HS.out]; exact ho3, hb3⟩
          case measure => simp [intOf]; omega
        · have hS := nbTo_yes (c := c) hti hz
          have HS := Lib.hid hS
          have hzb : (ent c i t != 0) = true := by simpa using hz
          clear hS hti hee hz
          generalize ent c i t = x at *
          go_wp2_with (at_builtin; refine wpList_append_int_n (w := wr.drewN (m2 + m3)) rfl _ _ rfl w.heap.size g' c' n' (intsOf (nbTo c i t)) (t : Int) (by rw [intsOf_length]; exact hn'.out) ho3 rfl rfl (by omega) ?_)
          intro g4 c4 w4 ho4 hg4 _
          go_wp2
          go_roundw
          case rel =>
            rw [← intsOf_push, ← HS.out] at ho4
            exact ⟨t + 1, g4, c4, n' + 1, by omega, by go_num, rfl, by show _ = _; rw [HS.out, List.length_append, hn'.out]; rfl, ho4, hb3.grown hg4 hb3.size (by intro j hj; cases hj; exact ho.base)⟩
          case measure => simp [intOf]; omega
    · obtain rfl : t = c.length := by omega
      have hN : nbTo c i c.length = nbL c i := rfl
      rw [hN] at ho hn'
      go_wp2_with fail
      go_ret
      exact GotInts.mk' g' c' (by rw [intsOf_length]; exact hn'.out) ho hb
end Go.Proofs.Ytlloeinpcnlgcaa
