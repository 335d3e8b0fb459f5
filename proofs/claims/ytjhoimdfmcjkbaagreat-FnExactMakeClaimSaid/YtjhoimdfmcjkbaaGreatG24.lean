/- BondOf, AlternatingWord of both: contracts. -/
import Derived.Test.YtjhoimdfmcjkbaaGreatG06
import Derived.Test.YtjhoimdfmcjkbaaGreatG19
import Derived.BigQuiet
namespace Go.Proofs.YtjhoimdfmcjkbaaGreat
set_option maxRecDepth 100000
open Go.RowKit

def bondP (p : Int) : Int := if p = 0 then 2 else if p = 1 then 3 else if p = 2 then 4 else if p = 3 then 6 else 0
def bondL (c : List (List Int)) (i j : Nat) : Int := if i = j then 1 else bondP (ent c i j * ent c j i)
theorem bondP_le (p : Int) : 0 ≤ bondP p ∧ bondP p ≤ 6 := by unfold bondP; (repeat' split) <;> omega
theorem bondL_le (c : List (List Int)) (i j : Nat) : 0 ≤ bondL c i j ∧ bondL c i j ≤ 6 := by
  unfold bondL; split
  · omega
  · exact bondP_le _
theorem ent_bd {c : List (List Int)} (hC : IsC c) {i j : Nat} (hi : i < c.length) (hj : j < c.length) : -3 ≤ ent c i j ∧ ent c i j ≤ 2 := by
  have := hC.2.2.2 i hi j hj
  unfold EntOk at this
  split at this <;> omega
theorem ent_mul {x y : Int} (hx : -3 ≤ x ∧ x ≤ 2) (hy : -3 ≤ y ∧ y ≤ 2) : -9223372036854775808 ≤ x * y ∧ x * y ≤ 9223372036854775807 := by
  have hx' : x = -3 ∨ x = -2 ∨ x = -1 ∨ x = 0 ∨ x = 1 ∨ x = 2 := by omega
  rcases hx' with rfl | rfl | rfl | rfl | rfl | rfl <;> omega

set_option maxHeartbeats 1000000 in
theorem impl_BondOf_any (gc oc n cc i j : Nat) (c : List (List Int)) (w : World) (hn : c.length = n) (hC : IsC c) (hi : i < c.length) (hj : j < c.length) (hr : Rows2 w gc oc c) :
    Calls Tryz.prog 101 #[(Value.slice (some ⟨gc, oc, none⟩) n cc), .int .i64 i, .int .i64 j] w (Reads w (.int .i64 (bondL c i j))) := by
  subst hn
  have hcl := hC.2.2.1
  have hn4 := hC.2.1
  have hcall := impl_IsCartan gc oc _ cc c w rfl (by omega) (fun j hj => by have := hcl j hj; omega) hr
  rw [decide_eq_true hC] at hcall
  have hp1 := fun W => impl_isPoint_any gc oc c.length cc (i : Int) W
  have hp2 := fun W => impl_isPoint_any gc oc c.length cc (j : Int) W
  rw [show (decide ((0 : Int) ≤ (i : Int)) && decide ((i : Int) < (c.length : Int))) = true by simp; omega] at hp1
  rw [show (decide ((0 : Int) ≤ (j : Int)) && decide ((j : Int) < (c.length : Int))) = true by simp; omega] at hp2
  have e1 := IntWalk.i64_in _ (ent_mul (ent_bd hC hi hj) (ent_bd hC hj hi))
  have hb : bondL c i j = if i = j then 1 else bondP (ent c i j * ent c j i) := rfl
  have Hcall := Lib.hid hcall; have Hp1 := Lib.hid hp1; have Hp2 := Lib.hid hp2
  obtain ⟨gi, oi, ci, q1, q2, q3, q4⟩ := hr i hi
  obtain ⟨gj, oj, cj, r1, r2, r3, r4⟩ := hr j hj
  have hli := hcl i hi
  have hlj := hcl j hj
  have v1 := q4 j (by omega)
  have v2 := r4 i (by omega)
  rw [show (c.getD i []).getD j 0 = ent c i j from rfl] at v1
  rw [show (c.getD j []).getD i 0 = ent c j i from rfl] at v2
  rw [hli] at q1
  rw [hlj] at r1
  generalize ent c i j = x at *
  generalize ent c j i = y at *
  generalize bondL c i j = z at *
  have Hb := Lib.hid hb
  clear hcall hp1 hp2 hr hC hcl hli hlj q4 r4 hb
  go_enter Tryz.func101, Tryz.ntmps101
  go_wp2_with fail
  refine Hcall.out.mono ?_
  rintro e w1 ⟨rfl, m1, rfl⟩
  go_wp2_with fail
  refine (Hp1.out _).mono ?_
  rintro e w2 ⟨rfl, m2, rfl⟩
  go_wp2_with fail
  refine (Hp2.out _).mono ?_
  rintro e w3 ⟨rfl, m3, rfl⟩
  by_cases hij : i = j
  · subst hij
    go_wp2_with fail
    go_ret
    exact ⟨ret_int (by rw [Hb.out]; simp), (by first | exact ⟨_, rfl⟩ | exact ⟨0, rfl⟩ | exact still2 _ _ _ | exact still3 _ _ _ _)⟩
  · have hijI : ((i : Int) == (j : Int)) = false := by rw [beq_eq_false_iff_ne]; omega
    go_wp2_with fail
    go_quiet (fail)
    by_cases h0 : x * y = 0
    · have b0 : (x * y == 0) = true := by rw [h0]; rfl
      have Hz := Lib.hid (show z = 2 by rw [Hb.out, if_neg hij, h0]; rfl)
      go_wp2_with fail
      go_ret
      exact ⟨ret_int Hz.out.symm, (by first | exact ⟨_, rfl⟩ | exact ⟨0, rfl⟩ | exact still2 _ _ _ | exact still3 _ _ _ _)⟩
    have b0 : (x * y == 0) = false := by rw [beq_eq_false_iff_ne]; exact h0
    by_cases h1 : x * y = 1
    · have b1 : (x * y == 1) = true := by rw [h1]; rfl
      have Hz := Lib.hid (show z = 3 by rw [Hb.out, if_neg hij, h1]; rfl)
      go_wp2_with fail
      go_ret
      exact ⟨ret_int Hz.out.symm, (by first | exact ⟨_, rfl⟩ | exact ⟨0, rfl⟩ | exact still2 _ _ _ | exact still3 _ _ _ _)⟩
    have b1 : (x * y == 1) = false := by rw [beq_eq_false_iff_ne]; exact h1
    by_cases h2 : x * y = 2
    · have b2 : (x * y == 2) = true := by rw [h2]; rfl
      have Hz := Lib.hid (show z = 4 by rw [Hb.out, if_neg hij, h2]; rfl)
      go_wp2_with fail
      go_ret
      exact ⟨ret_int Hz.out.symm, (by first | exact ⟨_, rfl⟩ | exact ⟨0, rfl⟩ | exact still2 _ _ _ | exact still3 _ _ _ _)⟩
    have b2 : (x * y == 2) = false := by rw [beq_eq_false_iff_ne]; exact h2
    by_cases h3 : x * y = 3
    · have b3 : (x * y == 3) = true := by rw [h3]; rfl
      have Hz := Lib.hid (show z = 6 by rw [Hb.out, if_neg hij, h3]; rfl)
      go_wp2_with fail
      go_ret
      exact ⟨ret_int Hz.out.symm, (by first | exact ⟨_, rfl⟩ | exact ⟨0, rfl⟩ | exact still2 _ _ _ | exact still3 _ _ _ _)⟩
    have b3 : (x * y == 3) = false := by rw [beq_eq_false_iff_ne]; exact h3
    have Hz := Lib.hid (show z = 0 by rw [Hb.out, if_neg hij]; unfold bondP; rw [if_neg h0, if_neg h1, if_neg h2, if_neg h3])
    go_wp2_with fail
    go_ret
    exact ⟨ret_int Hz.out.symm, (by first | exact ⟨_, rfl⟩ | exact ⟨0, rfl⟩ | exact still2 _ _ _ | exact still3 _ _ _ _)⟩

set_option maxHeartbeats 1000000 in
theorem spec_BondOf_any (gc oc n cc i j : Nat) (c : List (List Int)) (w : World) (hn : c.length = n) (hC : IsC c) (hi : i < c.length) (hj : j < c.length) (hr : Rows2 w gc oc c) :
    Calls Tryz.prog 92 #[(Value.slice (some ⟨gc, oc, none⟩) n cc), .int .i64 i, .int .i64 j] w (Reads w (.int .i64 (bondL c i j))) := by
  subst hn
  have hcl := hC.2.2.1
  have hn4 := hC.2.1
  have hcall := spec_IsCartan gc oc _ cc c w rfl (by omega) (fun j hj => by have := hcl j hj; omega) hr
  rw [decide_eq_true hC] at hcall
  have hp1 := fun W => spec_l1In (i : Int) 0 ((c.length : Int) - 1) W
  have hp2 := fun W => spec_l1In (j : Int) 0 ((c.length : Int) - 1) W
  rw [show (decide ((0 : Int) ≤ (i : Int)) && decide ((i : Int) ≤ (c.length : Int) - 1)) = true by simp; omega] at hp1
  rw [show (decide ((0 : Int) ≤ (j : Int)) && decide ((j : Int) ≤ (c.length : Int) - 1)) = true by simp; omega] at hp2
  have e1 := IntWalk.i64_in _ (ent_mul (ent_bd hC hi hj) (ent_bd hC hj hi))
  have hb : bondL c i j = if i = j then 1 else bondP (ent c i j * ent c j i) := rfl
  have Hcall := Lib.hid hcall; have Hp1 := Lib.hid hp1; have Hp2 := Lib.hid hp2
  obtain ⟨gi, oi, ci, q1, q2, q3, q4⟩ := hr i hi
  obtain ⟨gj, oj, cj, r1, r2, r3, r4⟩ := hr j hj
  have hli := hcl i hi
  have hlj := hcl j hj
  have v1 := q4 j (by omega)
  have v2 := r4 i (by omega)
  rw [show (c.getD i []).getD j 0 = ent c i j from rfl] at v1
  rw [show (c.getD j []).getD i 0 = ent c j i from rfl] at v2
  rw [hli] at q1
  rw [hlj] at r1
  generalize ent c i j = x at *
  generalize ent c j i = y at *
  generalize bondL c i j = z at *
  have Hb := Lib.hid hb
  clear hcall hp1 hp2 hr hC hcl hli hlj q4 r4 hb
  go_enter Tryz.func92, Tryz.ntmps92
  go_wp2_with fail
  refine Hcall.out.mono ?_
  rintro e w1 ⟨rfl, m1, rfl⟩
  go_wp2_with fail
  refine (Hp1.out _).mono ?_
  rintro e w2 ⟨rfl, m2, rfl⟩
  go_wp2_with fail
  refine (Hp2.out _).mono ?_
  rintro e w3 ⟨rfl, m3, rfl⟩
  by_cases hij : i = j
  · subst hij
    go_wp2_with fail
    go_ret
    exact ⟨ret_int (by rw [Hb.out]; simp), (by first | exact ⟨_, rfl⟩ | exact ⟨0, rfl⟩ | exact still2 _ _ _ | exact still3 _ _ _ _)⟩
  · have hijI : ((i : Int) == (j : Int)) = false := by rw [beq_eq_false_iff_ne]; omega
    go_wp2_with fail
    go_quiet (fail)
    by_cases h0 : x * y = 0
    · have b0 : (x * y == 0) = true := by rw [h0]; rfl
      have Hz := Lib.hid (show z = 2 by rw [Hb.out, if_neg hij, h0]; rfl)
      go_wp2_with fail
      go_ret
      exact ⟨ret_int Hz.out.symm, (by first | exact ⟨_, rfl⟩ | exact ⟨0, rfl⟩ | exact still2 _ _ _ | exact still3 _ _ _ _)⟩
    have b0 : (x * y == 0) = false := by rw [beq_eq_false_iff_ne]; exact h0
    by_cases h1 : x * y = 1
    · have b1 : (x * y == 1) = true := by rw [h1]; rfl
      have Hz := Lib.hid (show z = 3 by rw [Hb.out, if_neg hij, h1]; rfl)
      go_wp2_with fail
      go_ret
      exact ⟨ret_int Hz.out.symm, (by first | exact ⟨_, rfl⟩ | exact ⟨0, rfl⟩ | exact still2 _ _ _ | exact still3 _ _ _ _)⟩
    have b1 : (x * y == 1) = false := by rw [beq_eq_false_iff_ne]; exact h1
    by_cases h2 : x * y = 2
    · have b2 : (x * y == 2) = true := by rw [h2]; rfl
      have Hz := Lib.hid (show z = 4 by rw [Hb.out, if_neg hij, h2]; rfl)
      go_wp2_with fail
      go_ret
      exact ⟨ret_int Hz.out.symm, (by first | exact ⟨_, rfl⟩ | exact ⟨0, rfl⟩ | exact still2 _ _ _ | exact still3 _ _ _ _)⟩
    have b2 : (x * y == 2) = false := by rw [beq_eq_false_iff_ne]; exact h2
    by_cases h3 : x * y = 3
    · have b3 : (x * y == 3) = true := by rw [h3]; rfl
      have Hz := Lib.hid (show z = 6 by rw [Hb.out, if_neg hij, h3]; rfl)
      go_wp2_with fail
      go_ret
      exact ⟨ret_int Hz.out.symm, (by first | exact ⟨_, rfl⟩ | exact ⟨0, rfl⟩ | exact still2 _ _ _ | exact still3 _ _ _ _)⟩
    have b3 : (x * y == 3) = false := by rw [beq_eq_false_iff_ne]; exact h3
    have Hz := Lib.hid (show z = 0 by rw [Hb.out, if_neg hij]; unfold bondP; rw [if_neg h0, if_neg h1, if_neg h2, if_neg h3])
    go_wp2_with fail
    go_ret
    exact ⟨ret_int Hz.out.symm, (by first | exact ⟨_, rfl⟩ | exact ⟨0, rfl⟩ | exact still2 _ _ _ | exact still3 _ _ _ _)⟩

/-- letters in turn -/
def altL (i j : Int) (n : Nat) : List Int := (List.range n).map fun k => if k % 2 = 0 then i else j
theorem altL_length (i j : Int) (n : Nat) : (altL i j n).length = n := by simp [altL]
theorem altL_succ (i j : Int) (n : Nat) : altL i j (n + 1) = altL i j n ++ [if n % 2 = 0 then i else j] := by simp [altL, List.range_succ]

set_option maxHeartbeats 1000000 in
theorem impl_AlternatingWord_any (i j : Int) (m : Nat) (w : World) (hm : m ≤ 15) : Calls Tryz.prog 102 #[.int .i64 i, .int .i64 j, .int .i64 m] w (GotInts w (altL i j m)) := by
  go_enter Tryz.func102, Tryz.ntmps102
  go_wp2
  go_loopw [7, 8] (fun s kv wr => ∃ t g' c' : Nat, t ≤ m ∧ kv = .int .i64 t ∧ s = (Value.slice (some ⟨g', 0, none⟩) t c') ∧ Own wr w.heap.size g' c' (altL i j t) ∧ Below w.heap.size w wr) (fun _ kv _ => m - (intOf kv).toNat)
  case atStart => exact ⟨0, w.heap.size, 0, Nat.zero_le _, rfl, rfl, Own.empty (w := w) (Nat.le_refl _), (Below.refl _ _).alloc (Nat.le_refl _) _⟩
  case round =>
    obtain ⟨t, g', c', ht, rfl, rfl, ho, hb⟩ := hrel
    by_cases hlt : t < m
    · have hI : (t : Int) < m := by omega
      have hI2 : (t : Int) < 15 := by omega
      have hl := altL_length i j t
      by_cases hpar : t % 2 = 0
      · have hparI : ((t : Int).tmod 2 == 0) = true := by rw [Int.tmod_eq_emod_of_nonneg (by omega)]; rw [beq_iff_eq]; omega
        have e : altL i j (t + 1) = altL i j t ++ [i] := by rw [altL_succ, if_pos hpar]
        have E := Lib.hid e; clear e
        go_wp2_with (at_builtin; refine wpList_append_int_n rfl _ _ rfl w.heap.size g' c' t (altL i j t) i hl ho rfl rfl (by omega) ?_)
        intro g3 c3 w3 ho3 hg3 _
        go_wp2_with fail
        go_roundw
        case rel => exact ⟨t + 1, g3, c3, by omega, by go_num, rfl, by rw [E.out]; exact ho3, hb.grown hg3 hb.size (by intro j hj; cases hj; exact ho.base)⟩
        case measure => simp [intOf]; omega
      · have hparI : ((t : Int).tmod 2 == 0) = false := by rw [Int.tmod_eq_emod_of_nonneg (by omega)]; rw [beq_eq_false_iff_ne]; omega
        have e : altL i j (t + 1) = altL i j t ++ [j] := by rw [altL_succ, if_neg hpar]
        have E := Lib.hid e; clear e
        go_wp2_with (at_builtin; refine wpList_append_int_n rfl _ _ rfl w.heap.size g' c' t (altL i j t) j hl ho rfl rfl (by omega) ?_)
        intro g3 c3 w3 ho3 hg3 _
        go_wp2_with fail
        go_roundw
        case rel => exact ⟨t + 1, g3, c3, by omega, by go_num, rfl, by rw [E.out]; exact ho3, hb.grown hg3 hb.size (by intro j hj; cases hj; exact ho.base)⟩
        case measure => simp [intOf]; omega
    · obtain rfl : m = t := by omega
      go_wp2
      go_ret
      exact GotInts.mk' g' c' (altL_length _ _ _) ho hb

set_option maxHeartbeats 1000000 in
theorem spec_AlternatingWord_any (i j : Int) (m : Nat) (w : World) (hm : m ≤ 15) : Calls Tryz.prog 93 #[.int .i64 i, .int .i64 j, .int .i64 m] w (GotInts w (altL i j m)) := by
  go_enter Tryz.func93, Tryz.ntmps93
  go_wp2
  go_loopw [7, 8] (fun s kv wr => ∃ t g' c' : Nat, t ≤ m ∧ kv = .int .i64 t ∧ s = (Value.slice (some ⟨g', 0, none⟩) t c') ∧ Own wr w.heap.size g' c' (altL i j t) ∧ Below w.heap.size w wr) (fun _ kv _ => m - (intOf kv).toNat)
  case atStart => exact ⟨0, w.heap.size, 0, Nat.zero_le _, rfl, rfl, Own.empty (w := w) (Nat.le_refl _), (Below.refl _ _).alloc (Nat.le_refl _) _⟩
  case round =>
    obtain ⟨t, g', c', ht, rfl, rfl, ho, hb⟩ := hrel
    by_cases hlt : t < m
    · have hI : (t : Int) < m := by omega
      have hI2 : (t : Int) < 15 := by omega
      have hl := altL_length i j t
      by_cases hpar : t % 2 = 0
      · have hparI : ((t : Int).tmod 2 == 0) = true := by rw [Int.tmod_eq_emod_of_nonneg (by omega)]; rw [beq_iff_eq]; omega
        have e : altL i j (t + 1) = altL i j t ++ [i] := by rw [altL_succ, if_pos hpar]
        have E := Lib.hid e; clear e
        go_wp2_with (at_builtin; refine wpList_append_int_n rfl _ _ rfl w.heap.size g' c' t (altL i j t) i hl ho rfl rfl (by omega) ?_)
        intro g3 c3 w3 ho3 hg3 _
        go_wp2_with fail
        go_roundw
        case rel => exact ⟨t + 1, g3, c3, by omega, by go_num, rfl, by rw [E.out]; exact ho3, hb.grown hg3 hb.size (by intro j hj; cases hj; exact ho.base)⟩
        case measure => simp [intOf]; omega
      · have hparI : ((t : Int).tmod 2 == 0) = false := by rw [Int.tmod_eq_emod_of_nonneg (by omega)]; rw [beq_eq_false_iff_ne]; omega
        have e : altL i j (t + 1) = altL i j t ++ [j] := by rw [altL_succ, if_neg hpar]
        have E := Lib.hid e; clear e
        go_wp2_with (at_builtin; refine wpList_append_int_n rfl _ _ rfl w.heap.size g' c' t (altL i j t) j hl ho rfl rfl (by omega) ?_)
        intro g3 c3 w3 ho3 hg3 _
        go_wp2_with fail
        go_roundw
        case rel => exact ⟨t + 1, g3, c3, by omega, by go_num, rfl, by rw [E.out]; exact ho3, hb.grown hg3 hb.size (by intro j hj; cases hj; exact ho.base)⟩
        case measure => simp [intOf]; omega
    · obtain rfl : m = t := by omega
      go_wp2
      go_ret
      exact GotInts.mk' g' c' (altL_length _ _ _) ho hb
end Go.Proofs.YtjhoimdfmcjkbaaGreat
