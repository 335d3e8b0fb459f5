/- BondOf, AlternatingWord of both: contracts. slices.Concat of lists of integers that hold one at least: contract. -/
import Derived.Test.YtkjglfafphffiaaGreatT02
import Derived.Test.YtkjglfafphffiaaGreatT03
import Derived.BigQuiet
import Derived.Test.YtkjglfafphffiaaGreatT00
import Derived.Lib.AppendZeros
namespace Go.Proofs.YtkjglfafphffiaaGreat
set_option maxRecDepth 100000
open Go.RowKit
def bondP (p : Int) : Int := if p = 0 then 2 else if p = 1 then 3 else if p = 2 then 4 else if p = 3 then 6 else 0
def bondL (c : List (List Int)) (i j : Nat) : Int := if i = j then 1 else bondP (ent c i j * ent c j i)
theorem bondP_le (p : Int) : 0 ≤ bondP p ∧ bondP p ≤ 6 := by unfold bondP; (repeat' split) <;> omega
theorem bondL_le (c : List (List Int)) (i j : Nat) : 0 ≤ bondL c i j ∧ bondL c i j ≤ 6 := by
  unfold bondL; split
  · omega
  · exact bondP_le _
theorem ent_bd {c : List (List Int)} (hC : IsC c) {i j : Nat} (hi : i < c.length) (hj : j < c.length) : -3 ≤ ent c i j ∧ ent c i j ≤ 2 := by
  have := hC.2.2.2 i hi j hj
  unfold EntOk at this
  split at this <;> omega
theorem ent_mul {x y : Int} (hx : -3 ≤ x ∧ x ≤ 2) (hy : -3 ≤ y ∧ y ≤ 2) : -9223372036854775808 ≤ x * y ∧ x * y ≤ 9223372036854775807 := by
  have hx' : x = -3 ∨ x = -2 ∨ x = -1 ∨ x = 0 ∨ x = 1 ∨ x = 2 := by omega
  rcases hx' with rfl | rfl | rfl | rfl | rfl | rfl <;> omega
set_option maxHeartbeats 1000000 in
theorem impl_BondOf_any (gc oc n cc i j : Nat) (c : List (List Int)) (w : World) (hn : c.length = n) (hC : IsC c) (hi : i < c.length) (hj : j < c.length) (hr : Rows2 w gc oc c) :
    Calls Tryz.prog 110 #[(Value.slice (some ⟨gc, oc, none⟩) n cc), .int .i64 i, .int .i64 j] w (Reads w (.int .i64 (bondL c i j))) := by
  subst hn
  have hcl := hC.2.2.1
  have hn4 := hC.2.1
  have hcall := impl_IsCartan gc oc _ cc c w rfl (by omega) (fun j hj => by have := hcl j hj; omega) hr
  rw [decide_eq_true hC] at hcall
  have hp1 := fun W => impl_isPoint_any gc oc c.length cc (i : Int) W
  have hp2 := fun W => impl_isPoint_any gc oc c.length cc (j : Int) W
  rw [show (decide ((0 : Int) ≤ (i : Int)) && decide ((i : Int) < (c.length : Int))) = true by simp; omega] at hp1
  rw [show (decide ((0 : Int) ≤ (j : Int)) && decide ((j : Int) < (c.length : Int))) = true by simp; omega] at hp2
  have e1 := IntWalk.i64_in _ (ent_mul (ent_bd hC hi hj) (ent_bd hC hj hi))
  have hb : bondL c i j = if i = j then 1 else bondP (ent c i j * ent c j i) := rfl
  have Hcall := Lib.hid hcall; have Hp1 := Lib.hid hp1; have Hp2 := Lib.hid hp2
  obtain ⟨gi, oi, ci, q1, q2, q3, q4⟩ := hr i hi
  obtain ⟨gj, oj, cj, r1, r2, r3, r4⟩ := hr j hj
  have hli := hcl i hi
  have hlj := hcl j hj
  have v1 := q4 j (by omega)
  have v2 := r4 i (by omega)
  rw [show (c.getD i []).getD j 0 = ent c i j from rfl] at v1
  rw [show (c.getD j []).getD i 0 = ent c j i from rfl] at v2
  rw [hli] at q1
  rw [hlj] at r1
  generalize ent c i j = x at *
  generalize ent c j i = y at *
  generalize bondL c i j = z at *
  have Hb := Lib.hid hb
  clear hcall hp1 hp2 hr hC hcl hli hlj q4 r4 hb
  go_enter Tryz.func110, Tryz.ntmps110
  go_wp2_with fail
  refine Hcall.out.mono ?_
  rintro e w1 ⟨rfl, m1, rfl⟩
  go_wp2_with fail
  refine (Hp1.out _).mono ?_
  rintro e w2 ⟨rfl, m2, rfl⟩
  go_wp2_with fail
  refine (Hp2.out _).mono ?_
  rintro e w3 ⟨rfl, m3, rfl⟩
  by_cases hij : i = j
  · subst hij
    go_wp2_with fail
    go_ret
    exact ⟨ret_int (by rw [Hb.out]; simp), (by first | exact ⟨_, rfl⟩ | exact ⟨0, rfl⟩ | exact still2 _ _ _ | exact still3 _ _ _ _)⟩
  · have hijI : ((i : Int) == (j : Int)) = false := by rw [beq_eq_false_iff_ne]; omega
    go_wp2_with fail
    go_quiet (fail)
    by_cases h0 : x * y = 0
    · have b0 : (x * y == 0) = true := by rw [h0]; rfl
      have Hz := Lib.hid (show z = 2 by rw [Hb.out, if_neg hij, h0]; rfl)
      go_wp2_with fail
      go_ret
      exact ⟨ret_int Hz.out.symm, (by first | exact ⟨_, rfl⟩ | exact ⟨0, rfl⟩ | exact still2 _ _ _ | exact still3 _ _ _ _)⟩
    have b0 : (x * y == 0) = false := by rw [beq_eq_false_iff_ne]; exact h0
    by_cases h1 : x * y = 1
    · have b1 : (x * y == 1) = true := by rw [h1]; rfl
      have Hz := Lib.hid (show z = 3 by rw [Hb.out, if_neg hij, h1]; rfl)
      go_wp2_with fail
      go_ret
      exact ⟨ret_int Hz.out.symm, (by first | exact ⟨_, rfl⟩ | exact ⟨0, rfl⟩ | exact still2 _ _ _ | exact still3 _ _ _ _)⟩
    have b1 : (x * y == 1) = false := by rw [beq_eq_false_iff_ne]; exact h1
    by_cases h2 : x * y = 2
    · have b2 : (x * y == 2) = true := by rw [h2]; rfl
      have Hz := Lib.hid (show z = 4 by rw [Hb.out, if_neg hij, h2]; rfl)
      go_wp2_with fail
      go_ret
      exact ⟨ret_int Hz.out.symm, (by first | exact ⟨_, rfl⟩ | exact ⟨0, rfl⟩ | exact still2 _ _ _ | exact still3 _ _ _ _)⟩
    have b2 : (x * y == 2) = false := by rw [beq_eq_false_iff_ne]; exact h2
    by_cases h3 : x * y = 3
    · have b3 : (x * y == 3) = true := by rw [h3]; rfl
      have Hz := Lib.hid (show z = 6 by rw [Hb.out, if_neg hij, h3]; rfl)
      go_wp2_with fail
      go_ret
      exact ⟨ret_int Hz.out.symm, (by first | exact ⟨_, rfl⟩ | exact ⟨0, rfl⟩ | exact still2 _ _ _ | exact still3 _ _ _ _)⟩
    have b3 : (x * y == 3) = false := by rw [beq_eq_false_iff_ne]; exact h3
    have Hz := Lib.hid (show z = 0 by rw [Hb.out, if_neg hij]; unfold bondP; rw [if_neg h0, if_neg h1, if_neg h2, if_neg h3])
    go_wp2_with fail
    go_ret
    exact ⟨ret_int Hz.out.symm, (by first | exact ⟨_, rfl⟩ | exact ⟨0, rfl⟩ | exact still2 _ _ _ | exact still3 _ _ _ _)⟩
set_option maxHeartbeats 1000000 in
theorem spec_BondOf_any (gc oc n cc i j : Nat) (c : List (List Int)) (w : World) (hn : c.length = n) (hC : IsC c) (hi : i < c.length) (hj : j < c.length) (hr : Rows2 w gc oc c) :
    Calls Tryz.prog 76 #[(Value.slice (some ⟨gc, oc, none⟩) n cc), .int .i64 i, .int .i64 j] w (Reads w (.int .i64 (bondL c i j))) := by
  subst hn
  have hcl := hC.2.2.1
  have hn4 := hC.2.1
  have hcall := spec_IsCartan gc oc _ cc c w rfl (by omega) (fun j hj => by have := hcl j hj; omega) hr
  rw [decide_eq_true hC] at hcall
  have hp1 := fun W => spec_l1In (i : Int) 0 ((c.length : Int) - 1) W
  have hp2 := fun W => spec_l1In (j : Int) 0 ((c.length : Int) - 1) W
  rw [show (decide ((0 : Int) ≤ (i : Int)) && decide ((i : Int) ≤ (c.length : Int) - 1)) = true by simp; omega] at hp1
  rw [show (decide ((0 : Int) ≤ (j : Int)) && decide ((j : Int) ≤ (c.length : Int) - 1)) = true by simp; omega] at hp2
  have e1 := IntWalk.i64_in _ (ent_mul (ent_bd hC hi hj) (ent_bd hC hj hi))
  have hb : bondL c i j = if i = j then 1 else bondP (ent c i j * ent c j i) := rfl
  have Hcall := Lib.hid hcall; have Hp1 := Lib.hid hp1; have Hp2 := Lib.hid hp2
  obtain ⟨gi, oi, ci, q1, q2, q3, q4⟩ := hr i hi
  obtain ⟨gj, oj, cj, r1, r2, r3, r4⟩ := hr j hj
  have hli := hcl i hi
  have hlj := hcl j hj
  have v1 := q4 j (by omega)
  have v2 := r4 i (by omega)
  rw [show (c.getD i []).getD j 0 = ent c i j from rfl] at v1
  rw [show (c.getD j []).getD i 0 = ent c j i from rfl] at v2
  rw [hli] at q1
  rw [hlj] at r1
  generalize ent c i j = x at *
  generalize ent c j i = y at *
  generalize bondL c i j = z at *
  have Hb := Lib.hid hb
  clear hcall hp1 hp2 hr hC hcl hli hlj q4 r4 hb
  go_enter Tryz.func76, Tryz.ntmps76
  go_wp2_with fail
  refine Hcall.out.mono ?_
  rintro e w1 ⟨rfl, m1, rfl⟩
  go_wp2_with fail
  refine (Hp1.out _).mono ?_
  rintro e w2 ⟨rfl, m2, rfl⟩
  go_wp2_with fail
  refine (Hp2.out _).mono ?_
  rintro e w3 ⟨rfl, m3, rfl⟩
  by_cases hij : i = j
  · subst hij
    go_wp2_with fail
    go_ret
    exact ⟨ret_int (by rw [Hb.out]; simp), (by first | exact ⟨_, rfl⟩ | exact ⟨0, rfl⟩ | exact still2 _ _ _ | exact still3 _ _ _ _)⟩
  · have hijI : ((i : Int) == (j : Int)) = false := by rw [beq_eq_false_iff_ne]; omega
    go_wp2_with fail
    go_quiet (fail)
    by_cases h0 : x * y = 0
    · have b0 : (x * y == 0) = true := by rw [h0]; rfl
      have Hz := Lib.hid (show z = 2 by rw [Hb.out, if_neg hij, h0]; rfl)
      go_wp2_with fail
      go_ret
      exact ⟨ret_int Hz.out.symm, (by first | exact ⟨_, rfl⟩ | exact ⟨0, rfl⟩ | exact still2 _ _ _ | exact still3 _ _ _ _)⟩
    have b0 : (x * y == 0) = false := by rw [beq_eq_false_iff_ne]; exact h0
    by_cases h1 : x * y = 1
    · have b1 : (x * y == 1) = true := by rw [h1]; rfl
      have Hz := Lib.hid (show z = 3 by rw [Hb.out, if_neg hij, h1]; rfl)
      go_wp2_with fail
      go_ret
      exact ⟨ret_int Hz.out.symm, (by first | exact ⟨_, rfl⟩ | exact ⟨0, rfl⟩ | exact still2 _ _ _ | exact still3 _ _ _ _)⟩
    have b1 : (x * y == 1) = false := by rw [beq_eq_false_iff_ne]; exact h1
    by_cases h2 : x * y = 2
    · have b2 : (x * y == 2) = true := by rw [h2]; rfl
      have Hz := Lib.hid (show z = 4 by rw [Hb.out, if_neg hij, h2]; rfl)
      go_wp2_with fail
      go_ret
      exact ⟨ret_int Hz.out.symm, (by first | exact ⟨_, rfl⟩ | exact ⟨0, rfl⟩ | exact still2 _ _ _ | exact still3 _ _ _ _)⟩
    have b2 : (x * y == 2) = false := by rw [beq_eq_false_iff_ne]; exact h2
    by_cases h3 : x * y = 3
    · have b3 : (x * y == 3) = true := by rw [h3]; rfl
      have Hz := Lib.hid (show z = 6 by rw [Hb.out, if_neg hij, h3]; rfl)
      go_wp2_with fail
      go_ret
      exact ⟨ret_int Hz.out.symm, (by first | exact ⟨_, rfl⟩ | exact ⟨0, rfl⟩ | exact still2 _ _ _ | exact still3 _ _ _ _)⟩
    have b3 : (x * y == 3) = false := by rw [beq_eq_false_iff_ne]; exact h3
    have Hz := Lib.hid (show z = 0 by rw [Hb.out, if_neg hij]; unfold bondP; rw [if_neg h0, if_neg h1, if_neg h2, if_neg h3])
    go_wp2_with fail
    go_ret
    exact ⟨ret_int Hz.out.symm, (by first | exact ⟨_, rfl⟩ | exact ⟨0, rfl⟩ | exact still2 _ _ _ | exact still3 _ _ _ _)⟩
/-- letters in turn -/
def altL (i j : Int) (n : Nat) : List Int := (List.range n).map fun k => if k % 2 = 0 then i else j
theorem altL_length (i j : Int) (n : Nat) : (altL i j n).length = n := by simp [altL]
theorem altL_succ (i j : Int) (n : Nat) : altL i j (n + 1) = altL i j n ++ [if n % 2 = 0 then i else j] := by simp [altL, List.range_succ]
set_option maxHeartbeats 1000000 in
theorem impl_AlternatingWord_any (i j : Int) (m : Nat) (w : World) (hm : m ≤ 15) : Calls Tryz.prog 111 #[.int .i64 i, .int .i64 j, .int .i64 m] w (GotInts w (altL i j m)) := by
  go_enter Tryz.func111, Tryz.ntmps111
  go_wp2
  go_loopw [7, 8] (fun s kv wr => ∃ t g' c' : Nat, t ≤ m ∧ kv = .int .i64 t ∧ s = (Value.slice (some ⟨g', 0, none⟩) t c') ∧ Own wr w.heap.size g' c' (altL i j t) ∧ Below w.heap.size w wr) (fun _ kv _ => m - (intOf kv).toNat)
  case atStart => exact ⟨0, w.heap.size, 0, Nat.zero_le _, rfl, rfl, Own.empty (w := w) (Nat.le_refl _), (Below.refl _ _).alloc (Nat.le_refl _) _⟩
  case round =>
    obtain ⟨t, g', c', ht, rfl, rfl, ho, hb⟩ := hrel
    by_cases hlt : t < m
    · have hI : (t : Int) < m := by omega
      have hI2 : (t : Int) < 15 := by omega
      have hl := altL_length i j t
      by_cases hpar : t % 2 = 0
      · have hparI : ((t : Int).tmod 2 == 0) = true := by rw [Int.tmod_eq_emod_of_nonneg (by omega)]; rw [beq_iff_eq]; omega
        have e : altL i j (t + 1) = altL i j t ++ [i] := by rw [altL_succ, if_pos hpar]
        have E := Lib.hid e; clear e
        go_wp2_with (at_builtin; refine wpList_append_int_n rfl _ _ rfl w.heap.size g' c' t (altL i j t) i hl ho rfl rfl (by omega) ?_)
        intro g3 c3 w3 ho3 hg3 _
        go_wp2_with fail
        go_roundw
        case rel => exact ⟨t + 1, g3, c3, by omega, by go_num, rfl, by rw [E.out]; exact ho3, hb.grown hg3 hb.size (by intro j hj; cases hj; exact ho.base)⟩
        case measure => simp [intOf]; omega
      · have hparI : ((t : Int).tmod 2 == 0) = false := by rw [Int.tmod_eq_emod_of_nonneg (by omega)]; rw [beq_eq_false_iff_ne]; omega
        have e : altL i j (t + 1) = altL i j t ++ [j] := by rw [altL_succ, if_neg hpar]
        have E := Lib.hid e; clear e
        go_wp2_with (at_builtin; refine wpList_append_int_n rfl _ _ rfl w.heap.size g' c' t (altL i j t) j hl ho rfl rfl (by omega) ?_)
        intro g3 c3 w3 ho3 hg3 _
        go_wp2_with fail
        go_roundw
        case rel => exact ⟨t + 1, g3, c3, by omega, by go_num, rfl, by rw [E.out]; exact ho3, hb.grown hg3 hb.size (by intro j hj; cases hj; exact ho.base)⟩
        case measure => simp [intOf]; omega
    · obtain rfl : m = t := by omega
      go_wp2
      go_ret
      exact GotInts.mk' g' c' (altL_length _ _ _) ho hb
set_option maxHeartbeats 1000000 in
theorem spec_AlternatingWord_any (i j : Int) (m : Nat) (w : World) (hm : m ≤ 15) : Calls Tryz.prog 77 #[.int .i64 i, .int .i64 j, .int .i64 m] w (GotInts w (altL i j m)) := by
  go_enter Tryz.func77, Tryz.ntmps77
  go_wp2
  go_loopw [7, 8] (fun s kv wr => ∃ t g' c' : Nat, t ≤ m ∧ kv = .int .i64 t ∧ s = (Value.slice (some ⟨g', 0, none⟩) t c') ∧ Own wr w.heap.size g' c' (altL i j t) ∧ Below w.heap.size w wr) (fun _ kv _ => m - (intOf kv).toNat)
  case atStart => exact ⟨0, w.heap.size, 0, Nat.zero_le _, rfl, rfl, Own.empty (w := w) (Nat.le_refl _), (Below.refl _ _).alloc (Nat.le_refl _) _⟩
  case round =>
    obtain ⟨t, g', c', ht, rfl, rfl, ho, hb⟩ := hrel
    by_cases hlt : t < m
    · have hI : (t : Int) < m := by omega
      have hI2 : (t : Int) < 15 := by omega
      have hl := altL_length i j t
      by_cases hpar : t % 2 = 0
      · have hparI : ((t : Int).tmod 2 == 0) = true := by rw [Int.tmod_eq_emod_of_nonneg (by omega)]; rw [beq_iff_eq]; omega
        have e : altL i j (t + 1) = altL i j t ++ [i] := by rw [altL_succ, if_pos hpar]
        have E := Lib.hid e; clear e
        go_wp2_with (at_builtin; refine wpList_append_int_n rfl _ _ rfl w.heap.size g' c' t (altL i j t) i hl ho rfl rfl (by omega) ?_)
        intro g3 c3 w3 ho3 hg3 _
        go_wp2_with fail
        go_roundw
        case rel => exact ⟨t + 1, g3, c3, by omega, by go_num, rfl, by rw [E.out]; exact ho3, hb.grown hg3 hb.size (by intro j hj; cases hj; exact ho.base)⟩
        case measure => simp [intOf]; omega
      · have hparI : ((t : Int).tmod 2 == 0) = false := by rw [Int.tmod_eq_emod_of_nonneg (by omega)]; rw [beq_eq_false_iff_ne]; omega
        have e : altL i j (t + 1) = altL i j t ++ [j] := by rw [altL_succ, if_neg hpar]
        have E := Lib.hid e; clear e
        go_wp2_with (at_builtin; refine wpList_append_int_n rfl _ _ rfl w.heap.size g' c' t (altL i j t) j hl ho rfl rfl (by omega) ?_)
        intro g3 c3 w3 ho3 hg3 _
        go_wp2_with fail
        go_roundw
        case rel => exact ⟨t + 1, g3, c3, by omega, by go_num, rfl, by rw [E.out]; exact ho3, hb.grown hg3 hb.size (by intro j hj; cases hj; exact ho.base)⟩
        case measure => simp [intOf]; omega
    · obtain rfl : m = t := by omega
      go_wp2
      go_ret
      exact GotInts.mk' g' c' (altL_length _ _ _) ho hb
end Go.Proofs.YtkjglfafphffiaaGreat
namespace Go.Proofs.YtkjglfafphffiaaGreat
set_option maxRecDepth 100000
open Go.RowKit
theorem zeros_own (w : World) (B cap : Nat) (Z : Array Value) (hB : B ≤ w.heap.size) (hZ : Z.size = cap) (hcap : cap ≤ maxLen) : Own (w.drew.alloc (.cells Z 3)) B w.heap.size cap [] :=
  ⟨rfl, .inr ⟨w.heap.size, cap, Z, rfl, hB, heap_alloc_new w.drew _, Nat.zero_le _, hcap, by rw [hZ, Nat.mul_one], by simp⟩⟩
theorem wpList_append_ints_n {w : World} {ops : Array Oper} {rest : List Oper} {o : Oper} {a : Act} {Q : Exit → Act → World → Prop} (hgd : o.guard = none) (s x : Operand)
    (ho : o.op = .call { callee := .builtin .append, args := #[s, x], argTypes := #[25, 25] })
    (B g cap n1 : Nat) (xs : List Int) (hn1 : xs.length = n1) (hown : Own w B g cap xs) (g2 o2 n2 c2 : Nat) (ys : List Int) (hn2 : ys.length = n2) (hc : Cells w g2 o2 ys)
    (hs : a.eval s = (Value.slice (some ⟨g, 0, none⟩) n1 cap)) (hx : a.eval x = (Value.slice (some ⟨g2, o2, none⟩) n2 c2)) (hlen : n1 + n2 ≤ 1099511627776)
    (h : ∀ g' cap' w', Own w' B g' cap' (xs ++ ys) → w.grownBy w' (some g) → (g' = g ∨ g' = w.heap.size) → wpList Tryz.prog ops Q rest (a.put o.dst (Value.slice (some ⟨g', 0, none⟩) (n1 + n2) cap')) w') :
    wpList Tryz.prog ops Q (o :: rest) a w := by
  subst hn1; subst hn2
  exact wpList_append_ints hgd s x ho B g cap xs hown g2 o2 c2 ys hc hs hx hlen h
set_option maxHeartbeats 1000000 in
theorem slices_Grow_nil (n : Nat) (w : World) (h1 : 1 ≤ n) (hn : n ≤ 1048576) :
    Calls Tryz.prog 134 #[.slice none 0 0, .int .i64 n] w (fun e w' => ∃ g cap, e = .returned (Value.slice (some ⟨g, 0, none⟩) 0 cap) ∧ Own w' w.heap.size g cap [] ∧ Below w.heap.size w w') := by
  obtain ⟨i0, hi, hz0, hz1, hz2⟩ := info_parts info3
  have happ := Lib.run_append_nil_zeros (P := Tryz.prog) w 25 3 25 3 i0 (.int .i64 0) .i64 .i64 Tryz.underlying25 Tryz.underlying3 hi hz0 n (by omega) (by omega) (by omega) (by rw [hz2]; omega)
  have hge : n ≤ grownCap w n 0 3 := grownCap_ge w _ 0 _
  have hle : grownCap w n 0 3 ≤ maxLen := grownCap_le_maxLen w _ 0 _ (by unfold maxLen; omega)
  generalize grownCap w n 0 3 = cap at *
  have hZs : (Builtin.zeroCells (Value.int .i64 0).cells n ++ Builtin.zeroCells (Value.int .i64 0).cells (cap - n)).size = cap := by simp [size_zeroCells, Value.cells]; omega
  generalize Builtin.zeroCells (Value.int .i64 0).cells n ++ Builtin.zeroCells (Value.int .i64 0).cells (cap - n) = Z at *
  have hown := zeros_own w w.heap.size cap Z (Nat.le_refl _) hZs hle
  have hb : Below w.heap.size w (w.drew.alloc (.cells Z 3)) := (Below.drew (Below.refl _ _)).alloc (Nat.le_refl _) _
  have Hown := Lib.hid hown; have Hb := Lib.hid hb
  clear hown hb hZs hi hz0 hz1 hz2
  go_enter Tryz.func134, Tryz.ntmps134
  go_wp2_with (at_builtin; refine Lib.wpList_append_run w rfl _ _ _ _ rfl _ _ rfl rfl _ _ happ ?_)
  go_wp2_with fail
  go_ret
  exact ⟨_, _, rfl, Hown.out, Hb.out⟩
def lensTo (rows : List (List Int)) : Nat → Nat
  | 0 => 0
  | k + 1 => lensTo rows k + (rows.getD k []).length
def catTo (rows : List (List Int)) : Nat → List Int
  | 0 => []
  | k + 1 => catTo rows k ++ rows.getD k []
theorem catTo_length (rows : List (List Int)) : ∀ k, (catTo rows k).length = lensTo rows k
  | 0 => rfl
  | k + 1 => by simp only [catTo, lensTo, List.length_append, catTo_length rows k]
theorem lensTo_mono (rows : List (List Int)) {k m : Nat} (h : k ≤ m) : lensTo rows k ≤ lensTo rows m := by
  induction m with
  | zero => obtain rfl : k = 0 := by omega
            exact Nat.le_refl _
  | succ m ih =>
    by_cases e : k = m + 1
    · subst e; exact Nat.le_refl _
    · have := ih (by omega)
      simp only [lensTo]; omega
set_option maxHeartbeats 2000000 in
theorem slices_Concat_any (g o n cp : Nat) (rows : List (List Int)) (w : World) (hn : rows.length = n) (hl : rows.length ≤ 1048576) (h1 : 1 ≤ lensTo rows rows.length) (hm : lensTo rows rows.length ≤ 1048576) (hg : g < w.heap.size) (hr : Rows2 w g o rows) :
    Calls Tryz.prog 112 #[(Value.slice (some ⟨g, o, none⟩) n cp)] w (GotInts w (catTo rows rows.length)) := by
  subst hn
  have Hr := Lib.hid hr; clear hr
  have Hm := Lib.hid (fun k (hk : k ≤ rows.length) => Nat.le_trans (lensTo_mono rows hk) hm)
  go_enter Tryz.func112, Tryz.ntmps112
  go_wp2
  go_loopw [3, 11] (fun sv kv wr => ∃ k q : Nat, k ≤ rows.length ∧ kv = .int .i64 k ∧ sv = .int .i64 (lensTo rows k) ∧ wr = w.drewN q) (fun _ kv _ => rows.length - (intOf kv).toNat)
  case atStart => exact ⟨0, 0, Nat.zero_le _, rfl, rfl, rfl⟩
  case round =>
    obtain ⟨k, q, hk, rfl, rfl, rfl⟩ := hrel
    by_cases hlt : k < rows.length
    · obtain ⟨gj, oj, cj, q1, q2, q3, q4⟩ := Hr.out k hlt
      have hs : lensTo rows (k + 1) = lensTo rows k + (rows.getD k []).length := rfl
      have hmk := Hm.out (k + 1) hlt
      rw [hs] at hmk
      have Hs := Lib.hid hs
      clear hs q4
      generalize (rows.getD k []).length = rl at *
      generalize lensTo rows k = a at *
      go_wp2_with fail
      go_roundw
      case rel => exact ⟨k + 1, q, by omega, by go_num, by rw [Hs.out]; go_num, rfl⟩
      case measure => simp [intOf]; omega
    · obtain rfl : k = rows.length := by omega
      have hcall := slices_Grow_nil (lensTo rows rows.length) (w.drewN q) h1 hm
      have Hcall := Lib.hid hcall
      clear hcall
      go_wp2_with fail
      refine Hcall.out.mono ?_
      rintro e w1 ⟨g1, c1, rfl, ho1, hb1⟩
      have hb0 : Below w.heap.size w w1 := (below_drewN' (B := w.heap.size) w q).trans hb1
      have ho0 : Own w1 w.heap.size g1 c1 [] := ho1
      clear h1 Hcall hb1 ho1
      go_wp2_with fail
      go_loopw [6, 27] (fun ov kv wi => ∃ k g' c' : Nat, k ≤ rows.length ∧ kv = .int .i64 k ∧ ov = (Value.slice (some ⟨g', 0, none⟩) (lensTo rows k) c') ∧ Own wi w.heap.size g' c' (catTo rows k) ∧ Below w.heap.size w wi) (fun _ kv _ => rows.length - (intOf kv).toNat)
      case atStart => exact ⟨0, g1, c1, Nat.zero_le _, rfl, rfl, ho0, hb0⟩
      case round =>
        clear ho0 hb0
        obtain ⟨k, g', c', hk, rfl, rfl, ho, hb⟩ := hrel
        by_cases hlt : k < rows.length
        · obtain ⟨gj, oj, cj, q1, q2, q3, q4⟩ := (Hr.out.below hb hg) k hlt
          have hmk := Hm.out (k + 1) hlt
          have hs : lensTo rows (k + 1) = lensTo rows k + (rows.getD k []).length := rfl
          have hcs : catTo rows (k + 1) = catTo rows k ++ rows.getD k [] := rfl
          have hcl := catTo_length rows k
          rw [hs] at hmk
          have Hs := Lib.hid hs; have Hcs := Lib.hid hcs; have Hcl := Lib.hid hcl
          clear hs hcs hcl
          generalize lensTo rows k = a at *
          generalize catTo rows k = A at *
          generalize hrw : rows.getD k [] = r at *
          generalize hrl : r.length = rl at *
          go_wp2_with (at_builtin; refine wpList_append_ints_n rfl _ _ rfl w.heap.size g' c' a A Hcl.out ho gj oj rl cj r hrl q4 rfl rfl (by omega) ?_)
          intro g3 c3 w3 ho3 hg3 hor3
          rw [← Hcs.out] at ho3
          have hb3 := hb.grown hg3 hb.size (by intro j hj; cases hj; exact ho.base)
          go_wp2_with fail
          go_roundw
          case rel => exact ⟨k + 1, g3, c3, by omega, by go_num, by rw [Hs.out], ho3, hb3⟩
          case measure => simp [intOf]; omega
        · obtain rfl : k = rows.length := by omega
          go_wp2
          go_ret
          exact GotInts.mk' g' c' (catTo_length _ _) ho hb
end Go.Proofs.YtkjglfafphffiaaGreat
