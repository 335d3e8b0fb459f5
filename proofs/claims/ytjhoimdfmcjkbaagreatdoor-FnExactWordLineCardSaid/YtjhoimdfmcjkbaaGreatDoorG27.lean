/- BondOf, AlternatingWord of both: contracts. slices.Concat of lists of integers that hold one at least: contract. Braid moves of both: contracts. Words acting on weights, normal forms: contracts. -/
import Derived.Test.YtjhoimdfmcjkbaaGreatDoorG06
import Derived.Test.YtjhoimdfmcjkbaaGreatDoorG08
import Derived.BigQuiet
import Derived.Test.YtjhoimdfmcjkbaaGreatDoorRw
import Derived.Lib.AppendZeros
import Derived.Test.YtjhoimdfmcjkbaaGreatDoorG04
import Derived.Test.YtjhoimdfmcjkbaaGreatDoorG20
import Derived.Test.YtjhoimdfmcjkbaaGreatDoorG02
import Derived.Deep.RegionHeld3
import Derived.Test.YtjhoimdfmcjkbaaGreatDoorG16
namespace Go.Proofs.YtjhoimdfmcjkbaaGreatDoor
set_option maxRecDepth 100000
open Go.RowKit

def bondP (p : Int) : Int := if p = 0 then 2 else if p = 1 then 3 else if p = 2 then 4 else if p = 3 then 6 else 0
def bondL (c : List (List Int)) (i j : Nat) : Int := if i = j then 1 else bondP (ent c i j * ent c j i)
theorem bondP_le (p : Int) : 0 ≤ bondP p ∧ bondP p ≤ 6 := by unfold bondP; (repeat' split) <;> omega
theorem bondL_le (c : List (List Int)) (i j : Nat) : 0 ≤ bondL c i j ∧ bondL c i j ≤ 6 := by
  unfold bondL; split
  · omega
  · exact bondP_le _
theorem ent_bd {c : List (List Int)} (hC : IsC c) {i j : Nat} (hi : i < c.length) (hj : j < c.length) : -3 ≤ ent c i j ∧ ent c i j ≤ 2 := by
  have := hC.2.2.2 i hi j hj
  unfold EntOk at this
  split at this <;> omega
theorem ent_mul {x y : Int} (hx : -3 ≤ x ∧ x ≤ 2) (hy : -3 ≤ y ∧ y ≤ 2) : -9223372036854775808 ≤ x * y ∧ x * y ≤ 9223372036854775807 := by
  have hx' : x = -3 ∨ x = -2 ∨ x = -1 ∨ x = 0 ∨ x = 1 ∨ x = 2 := by omega
  rcases hx' with rfl | rfl | rfl | rfl | rfl | rfl <;> omega

set_option maxHeartbeats 1000000 in
theorem spec_BondOf_any (gc oc n cc i j : Nat) (c : List (List Int)) (w : World) (hn : c.length = n) (hC : IsC c) (hi : i < c.length) (hj : j < c.length) (hr : Rows2 w gc oc c) :
    Calls Tryz.prog 57 #[(Value.slice (some ⟨gc, oc, none⟩) n cc), .int .i64 i, .int .i64 j] w (Reads w (.int .i64 (bondL c i j))) := by
  subst hn
  have hcl := hC.2.2.1
  have hn4 := hC.2.1
  have hcall := spec_IsCartan gc oc _ cc c w rfl (by omega) (fun j hj => by have := hcl j hj; omega) hr
  rw [decide_eq_true hC] at hcall
  have hp1 := fun W => spec_l1In (i : Int) 0 ((c.length : Int) - 1) W
  have hp2 := fun W => spec_l1In (j : Int) 0 ((c.length : Int) - 1) W
  rw [show (decide ((0 : Int) ≤ (i : Int)) && decide ((i : Int) ≤ (c.length : Int) - 1)) = true by simp; omega] at hp1
  rw [show (decide ((0 : Int) ≤ (j : Int)) && decide ((j : Int) ≤ (c.length : Int) - 1)) = true by simp; omega] at hp2
  have e1 := IntWalk.i64_in _ (ent_mul (ent_bd hC hi hj) (ent_bd hC hj hi))
  have hb : bondL c i j = if i = j then 1 else bondP (ent c i j * ent c j i) := rfl
  have Hcall := Lib.hid hcall; have Hp1 := Lib.hid hp1; have Hp2 := Lib.hid hp2
  obtain ⟨gi, oi, ci, q1, q2, q3, q4⟩ := hr i hi
  obtain ⟨gj, oj, cj, r1, r2, r3, r4⟩ := hr j hj
  have hli := hcl i hi
  have hlj := hcl j hj
  have v1 := q4 j (by omega)
  have v2 := r4 i (by omega)
  rw [show (c.getD i []).getD j 0 = ent c i j from rfl] at v1
  rw [show (c.getD j []).getD i 0 = ent c j i from rfl] at v2
  rw [hli] at q1
  rw [hlj] at r1
  generalize ent c i j = x at *
  generalize ent c j i = y at *
  generalize bondL c i j = z at *
  have Hb := Lib.hid hb
  clear hcall hp1 hp2 hr hC hcl hli hlj q4 r4 hb
  go_enter Tryz.func57, Tryz.ntmps57
  go_wp2_with fail
  refine Hcall.out.mono ?_
  rintro e w1 ⟨rfl, m1, rfl⟩
  go_wp2_with fail
  refine (Hp1.out _).mono ?_
  rintro e w2 ⟨rfl, m2, rfl⟩
  go_wp2_with fail
  refine (Hp2.out _).mono ?_
  rintro e w3 ⟨rfl, m3, rfl⟩
  by_cases hij : i = j
  · subst hij
    go_wp2_with fail
    go_ret
    exact ⟨ret_int (by rw [Hb.out]; simp), (by first | exact ⟨_, rfl⟩ | exact ⟨0, rfl⟩ | exact still2 _ _ _ | exact still3 _ _ _ _)⟩
  · have hijI : ((i : Int) == (j : Int)) = false := by rw [beq_eq_false_iff_ne]; omega
    go_wp2_with fail
    go_quiet (fail)
    by_cases h0 : x * y = 0
    · have b0 : (x * y == 0) = true := by rw [h0]; rfl
      have Hz := Lib.hid (show z = 2 by rw [Hb.out, if_neg hij, h0]; rfl)
      go_wp2_with fail
      go_ret
      exact ⟨ret_int Hz.out.symm, (by first | exact ⟨_, rfl⟩ | exact ⟨0, rfl⟩ | exact still2 _ _ _ | exact still3 _ _ _ _)⟩
    have b0 : (x * y == 0) = false := by rw [beq_eq_false_iff_ne]; exact h0
    by_cases h1 : x * y = 1
    · have b1 : (x * y == 1) = true := by rw [h1]; rfl
      have Hz := Lib.hid (show z = 3 by rw [Hb.out, if_neg hij, h1]; rfl)
      go_wp2_with fail
      go_ret
      exact ⟨ret_int Hz.out.symm, (by first | exact ⟨_, rfl⟩ | exact ⟨0, rfl⟩ | exact still2 _ _ _ | exact still3 _ _ _ _)⟩
    have b1 : (x * y == 1) = false := by rw [beq_eq_false_iff_ne]; exact h1
    by_cases h2 : x * y = 2
    · have b2 : (x * y == 2) = true := by rw [h2]; rfl
      have Hz := Lib.hid (show z = 4 by rw [Hb.out, if_neg hij, h2]; rfl)
      go_wp2_with fail
      go_ret
      exact ⟨ret_int Hz.out.symm, (by first | exact ⟨_, rfl⟩ | exact ⟨0, rfl⟩ | exact still2 _ _ _ | exact still3 _ _ _ _)⟩
    have b2 : (x * y == 2) = false := by rw [beq_eq_false_iff_ne]; exact h2
    by_cases h3 : x * y = 3
    · have b3 : (x * y == 3) = true := by rw [h3]; rfl
      have Hz := Lib.hid (show z = 6 by rw [Hb.out, if_neg hij, h3]; rfl)
      go_wp2_with fail
      go_ret
      exact ⟨ret_int Hz.out.symm, (by first | exact ⟨_, rfl⟩ | exact ⟨0, rfl⟩ | exact still2 _ _ _ | exact still3 _ _ _ _)⟩
    have b3 : (x * y == 3) = false := by rw [beq_eq_false_iff_ne]; exact h3
    have Hz := Lib.hid (show z = 0 by rw [Hb.out, if_neg hij]; unfold bondP; rw [if_neg h0, if_neg h1, if_neg h2, if_neg h3])
    go_wp2_with fail
    go_ret
    exact ⟨ret_int Hz.out.symm, (by first | exact ⟨_, rfl⟩ | exact ⟨0, rfl⟩ | exact still2 _ _ _ | exact still3 _ _ _ _)⟩

/-- letters in turn -/
def altL (i j : Int) (n : Nat) : List Int := (List.range n).map fun k => if k % 2 = 0 then i else j
theorem altL_length (i j : Int) (n : Nat) : (altL i j n).length = n := by simp [altL]
theorem altL_succ (i j : Int) (n : Nat) : altL i j (n + 1) = altL i j n ++ [if n % 2 = 0 then i else j] := by simp [altL, List.range_succ]

set_option maxHeartbeats 1000000 in
theorem spec_AlternatingWord_any (i j : Int) (m : Nat) (w : World) (hm : m ≤ 15) : Calls Tryz.prog 59 #[.int .i64 i, .int .i64 j, .int .i64 m] w (GotInts w (altL i j m)) := by
  go_enter Tryz.func59, Tryz.ntmps59
  go_wp2
  go_loopw [7, 8] (fun s kv wr => ∃ t g' c' : Nat, t ≤ m ∧ kv = .int .i64 t ∧ s = (Value.slice (some ⟨g', 0, none⟩) t c') ∧ Own wr w.heap.size g' c' (altL i j t) ∧ Below w.heap.size w wr) (fun _ kv _ => m - (intOf kv).toNat)
  case atStart => exact ⟨0, w.heap.size, 0, Nat.zero_le _, rfl, rfl, Own.empty (w := w) (Nat.le_refl _), (Below.refl _ _).alloc (Nat.le_refl _) _⟩
  case round =>
    obtain ⟨t, g', c', ht, rfl, rfl, ho, hb⟩ := hrel
    by_cases hlt : t < m
    · have hI : (t : Int) < m := by omega
      have hI2 : (t : Int) < 15 := by omega
      have hl := altL_length i j t
      by_cases hpar : t % 2 = 0
      · have hparI : ((t : Int).tmod 2 == 0) = true := by rw [Int.tmod_eq_emod_of_nonneg (by omega)]; rw [beq_iff_eq]; omega
        have e : altL i j (t + 1) = altL i j t ++ [i] := by rw [altL_succ, if_pos hpar]
        have E := Lib.hid e; clear e
        go_wp2_with (at_builtin; refine wpList_append_int_n rfl _ _ rfl w.heap.size g' c' t (altL i j t) i hl ho rfl rfl (by omega) ?_)
        intro g3 c3 w3 ho3 hg3 _
        go_wp2_with fail
        go_roundw
        case rel => exact ⟨t + 1, g3, c3, by omega, by go_num, rfl, by rw [E.out]; exact ho3, hb.grown hg3 hb.size (by intro j hj; cases hj; exact ho.base)⟩
        case measure => simp [intOf]; omega
      · have hparI : ((t : Int).tmod 2 == 0) = false := by rw [Int.tmod_eq_emod_of_nonneg (by omega)]; rw [beq_eq_false_iff_ne]; omega
        have e : altL i j (t + 1) = altL i j t ++ [j] := by rw [altL_succ, if_neg hpar]
        have E := Lib.hid e; clear e
        go_wp2_with (at_builtin; refine wpList_append_int_n rfl _ _ rfl w.heap.size g' c' t (altL i j t) j hl ho rfl rfl (by omega) ?_)
        intro g3 c3 w3 ho3 hg3 _
        go_wp2_with fail
        go_roundw
        case rel => exact ⟨t + 1, g3, c3, by omega, by go_num, rfl, by rw [E.out]; exact ho3, hb.grown hg3 hb.size (by intro j hj; cases hj; exact ho.base)⟩
        case measure => simp [intOf]; omega
    · obtain rfl : m = t := by omega
      go_wp2
      go_ret
      exact GotInts.mk' g' c' (altL_length _ _ _) ho hb
end Go.Proofs.YtjhoimdfmcjkbaaGreatDoor
namespace Go.Proofs.YtjhoimdfmcjkbaaGreatDoor
set_option maxRecDepth 100000
open Go.RowKit

theorem zeros_own (w : World) (B cap : Nat) (Z : Array Value) (hB : B ≤ w.heap.size) (hZ : Z.size = cap) (hcap : cap ≤ maxLen) : Own (w.drew.alloc (.cells Z 3)) B w.heap.size cap [] :=
  ⟨rfl, .inr ⟨w.heap.size, cap, Z, rfl, hB, heap_alloc_new w.drew _, Nat.zero_le _, hcap, by rw [hZ, Nat.mul_one], by simp⟩⟩
theorem wpList_append_ints_n {w : World} {ops : Array Oper} {rest : List Oper} {o : Oper} {a : Act} {Q : Exit → Act → World → Prop} (hgd : o.guard = none) (s x : Operand)
    (ho : o.op = .call { callee := .builtin .append, args := #[s, x], argTypes := #[23, 23] })
    (B g cap n1 : Nat) (xs : List Int) (hn1 : xs.length = n1) (hown : Own w B g cap xs) (g2 o2 n2 c2 : Nat) (ys : List Int) (hn2 : ys.length = n2) (hc : Cells w g2 o2 ys)
    (hs : a.eval s = (Value.slice (some ⟨g, 0, none⟩) n1 cap)) (hx : a.eval x = (Value.slice (some ⟨g2, o2, none⟩) n2 c2)) (hlen : n1 + n2 ≤ 1099511627776)
    (h : ∀ g' cap' w', Own w' B g' cap' (xs ++ ys) → w.grownBy w' (some g) → (g' = g ∨ g' = w.heap.size) → wpList Tryz.prog ops Q rest (a.put o.dst (Value.slice (some ⟨g', 0, none⟩) (n1 + n2) cap')) w') :
    wpList Tryz.prog ops Q (o :: rest) a w := by
  subst hn1; subst hn2
  exact wpList_append_ints hgd s x ho B g cap xs hown g2 o2 c2 ys hc hs hx hlen h

def lensTo (rows : List (List Int)) : Nat → Nat
  | 0 => 0
  | k + 1 => lensTo rows k + (rows.getD k []).length
def catTo (rows : List (List Int)) : Nat → List Int
  | 0 => []
  | k + 1 => catTo rows k ++ rows.getD k []
theorem catTo_length (rows : List (List Int)) : ∀ k, (catTo rows k).length = lensTo rows k
  | 0 => rfl
  | k + 1 => by simp only [catTo, lensTo, List.length_append, catTo_length rows k]
theorem lensTo_mono (rows : List (List Int)) {k m : Nat} (h : k ≤ m) : lensTo rows k ≤ lensTo rows m := by
  induction m with
  | zero => obtain rfl : k = 0 := by omega
            exact Nat.le_refl _
  | succ m ih =>
    by_cases e : k = m + 1
    · subst e; exact Nat.le_refl _
    · have := ih (by omega)
      simp only [lensTo]; omega

end Go.Proofs.YtjhoimdfmcjkbaaGreatDoor
namespace Go.Proofs.YtjhoimdfmcjkbaaGreatDoor
set_option maxRecDepth 100000
open Go.RowKit

/-- a braid move at a place -/
def braidK (c : List (List Int)) (v : List Int) (k : Nat) : Option (List Int) :=
  let x := v.getD k 0
  let y := v.getD (k + 1) 0
  let m := (bondL c x.toNat y.toNat).toNat
  if k + 1 < v.length ∧ x ≠ y ∧ 2 ≤ m ∧ k + m ≤ v.length ∧ (v.drop k).take m = altL x y m then some (v.take k ++ altL y x m ++ v.drop (k + m)) else none
def braidM (c : List (List Int)) (v : List Int) (a : Int) : Option (List Int) := if 0 ≤ a then braidK c v a.toNat else none
theorem threeCells {w : World} {B : Nat} {a b d : Value} {t : TypeId} (h : w.heap[B]? = some (.cells #[a, b, d] t (0, 0))) : w.cell? ⟨B, 0, none⟩ = some a ∧ w.cell? ⟨B, 1, none⟩ = some b ∧ w.cell? ⟨B, 2, none⟩ = some d := by
  refine ⟨?_, ?_, ?_⟩ <;> simp [World.cell?, h]
/-- nothing, or a new list -/
def MayInts (w : World) (r : Option (List Int)) (e : Ending) (w' : World) : Prop :=
  (r = none ∧ e = .returned (.tuple #[.slice none 0 0, .bool false]) ∧ Below w.heap.size w w') ∨ (∃ y, r = some y ∧ GotIntsB w y true e w')
end Go.Proofs.YtjhoimdfmcjkbaaGreatDoor
namespace Go.Proofs.YtjhoimdfmcjkbaaGreatDoor
set_option maxRecDepth 100000
open Go.RowKit

/-- the first negative place -/
def firstNeg : List Int → Option Nat
  | [] => none
  | x :: l => if x < 0 then some 0 else (firstNeg l).map (· + 1)
def firstNegI (v : List Int) : Int := match firstNeg v with | none => -1 | some i => i
theorem firstNeg_lt {v : List Int} {i : Nat} (h : firstNeg v = some i) : i < v.length ∧ v.getD i 0 < 0 ∧ ∀ j, j < i → 0 ≤ v.getD j 0 := by
  induction v generalizing i with
  | nil => simp [firstNeg] at h
  | cons x l ih =>
    simp only [firstNeg] at h
    split at h
    · simp at h; subst h; refine ⟨by simp, by simpa [List.getD] using by assumption, by omega⟩
    · rename_i hx
      cases hl : firstNeg l with
      | none => rw [hl] at h; simp at h
      | some k =>
        rw [hl] at h; simp at h; subst h
        have := ih hl
        refine ⟨by simp; omega, by simpa [List.getD] using this.2.1, fun j hj => ?_⟩
        cases j with
        | zero => simp [List.getD]; omega
        | succ j => have := this.2.2 j (by omega); simpa [List.getD] using this
theorem firstNeg_none {v : List Int} (h : firstNeg v = none) : ∀ j, j < v.length → 0 ≤ v.getD j 0 := by
  induction v with
  | nil => intro j hj; simp at hj
  | cons x l ih =>
    simp only [firstNeg] at h
    split at h
    · simp at h
    · rename_i hx
      have hl : firstNeg l = none := by cases hl : firstNeg l with
        | none => rfl
        | some k => rw [hl] at h; simp at h
      intro j hj
      cases j with
      | zero => simp [List.getD]; omega
      | succ j => have := ih hl j (by simpa using hj); simpa [List.getD] using this
theorem firstNeg_of {v : List Int} {i : Nat} (hi : i < v.length) (h : v.getD i 0 < 0) (hb : ∀ j, j < i → 0 ≤ v.getD j 0) : firstNeg v = some i := by
  cases hf : firstNeg v with
  | none => have := firstNeg_none hf i hi; omega
  | some k =>
    have hk := firstNeg_lt hf
    rcases Nat.lt_trichotomy i k with h1 | h1 | h1
    · have := hk.2.2 i h1; omega
    · rw [h1]
    · have := hb k h1; omega
theorem firstNeg_nil {v : List Int} (hb : ∀ j, j < v.length → 0 ≤ v.getD j 0) : firstNeg v = none := by
  cases hf : firstNeg v with
  | none => rfl
  | some k => have hk := firstNeg_lt hf; have := hb k hk.1; omega

set_option maxHeartbeats 1000000 in
theorem impl_firstDescent_any (g o n cp : Nat) (v : List Int) (w : World) (hn : v.length = n) (hx : v.length ≤ 1048576) (hc : Cells w g o v) :
    Calls Tryz.prog 67 #[(Value.slice (some ⟨g, o, none⟩) n cp)] w (Reads w (.int .i64 (firstNegI v))) := by
  subst hn
  go_enter Tryz.func67, Tryz.ntmps67
  go_wp2
  go_loopw [7] (fun i wr => ∃ k : Nat, k ≤ v.length ∧ i = .int .i64 k ∧ Hid (∀ j, j < k → 0 ≤ v.getD j 0) ∧ ∃ m, wr = w.drewN m) (fun i _ => v.length - (intOf i).toNat)
  case atStart => exact ⟨0, Nat.zero_le _, rfl, fun j hj => absurd hj (by omega), (by first | exact ⟨_, rfl⟩ | exact ⟨0, rfl⟩ | exact still2 _ _ _ | exact still3 _ _ _ _)⟩
  case round =>
    obtain ⟨k, hk, rfl, hall, m, rfl⟩ := hrel
    by_cases hlt : k < v.length
    · have q1 := hc k hlt
      have HX : Hid (v.getD k 0 < 0 → firstNegI v = k) := fun h => by unfold firstNegI; rw [firstNeg_of hlt h hall.out]
      have HY : Hid (0 ≤ v.getD k 0 → ∀ j, j < k + 1 → 0 ≤ v.getD j 0) := fun h j hj => by
        by_cases e : j = k
        · subst e; exact h
        · exact hall.out j (by omega)
      generalize v.getD k 0 = x at *
      by_cases hneg : x < 0
      · have hf := HX.out hneg
        have Hf := Lib.hid hf; clear hf
        go_wp2
        go_ret
        exact ⟨ret_int Hf.out.symm, (by first | exact ⟨_, rfl⟩ | exact ⟨0, rfl⟩ | exact still2 _ _ _ | exact still3 _ _ _ _)⟩
      · go_wp2
        go_roundw
        case rel => exact ⟨k + 1, by omega, by go_num, HY.out (by omega), (by first | exact ⟨_, rfl⟩ | exact ⟨0, rfl⟩ | exact still2 _ _ _ | exact still3 _ _ _ _)⟩
        case measure => simp [intOf]; omega
    · obtain rfl : k = v.length := by omega
      have hf : firstNegI v = -1 := by unfold firstNegI; rw [firstNeg_nil hall.out]
      have Hf := Lib.hid hf; clear hf
      go_wp2
      go_ret
      exact ⟨ret_int Hf.out.symm, (by first | exact ⟨_, rfl⟩ | exact ⟨0, rfl⟩ | exact still2 _ _ _ | exact still3 _ _ _ _)⟩

/-- a word applied, the last letter first -/
def actW (c : List (List Int)) : List Int → List Int → List Int
  | [], v => v
  | i :: l, v => refl c i.toNat (actW c l v)
theorem actW_length (c : List (List Int)) (l v : List Int) : (actW c l v).length = v.length := by
  induction l with
  | nil => rfl
  | cons i l ih => simp [actW, refl_length, ih]
theorem actW_drop (c : List (List Int)) (l v : List Int) (k : Nat) (hk : k < l.length) : actW c (l.drop k) v = refl c (l.getD k 0).toNat (actW c (l.drop (k + 1)) v) := by
  have e : l.drop k = l[k] :: l.drop (k + 1) := List.drop_eq_getElem_cons hk
  rw [e]; simp [actW, List.getD, hk]

set_option maxHeartbeats 2000000 in
theorem impl_acted_any (gc oc n cc g1 o1 n1 c1 g2 o2 n2 c2 : Nat) (c : List (List Int)) (l v : List Int) (w : World) (hn : c.length = n) (hn1 : l.length = n1) (hn2 : v.length = n2) (hC : IsC c) (hv : v.length = c.length) (hl : l.length ≤ 1048576)
    (hin : ∀ k, k < l.length → 0 ≤ l.getD k 0 ∧ l.getD k 0 < c.length) (hgc : gc < w.heap.size) (hg1 : g1 < w.heap.size) (hg2 : g2 < w.heap.size) (hr : Rows2 w gc oc c) (hc1 : Cells w g1 o1 l) (hc2 : Cells w g2 o2 v) :
    Calls Tryz.prog 69 #[(Value.slice (some ⟨gc, oc, none⟩) n cc), (Value.slice (some ⟨g1, o1, none⟩) n1 c1), (Value.slice (some ⟨g2, o2, none⟩) n2 c2)] w (GotInts w (actW c l v)) := by
  subst hn; subst hn1; subst hn2
  have hn4 := hC.2.1
  have ew : IntKind.i64.wrap ((l.length : Int) - 1) = (l.length : Int) - 1 := IntWalk.i64_in _ (by omega)
  have hv4 : v.length ≤ 4 := by omega
  have Hv := Lib.hid hv; clear hv
  go_enter Tryz.func69, Tryz.ntmps69
  go_wp2_with (at_builtin; refine wpList_clone rfl _ _ rfl g2 o2 _ c2 v rfl hg2 hc2 rfl rfl (by omega) ?_)
  intro gv cv w1 ho1 hb1
  go_wp2
  clear ew
  go_loopw [8] (fun i wr => ∃ (k : Nat) (j : Int), k ≤ l.length ∧ i = .int .i64 j ∧ j = (k : Int) - 1 ∧ Own wr w.heap.size gv cv (actW c (l.drop k) v) ∧ Below w.heap.size w wr) (fun i _ => (intOf i + 1).toNat)
  case atStart => exact ⟨l.length, _, Nat.le_refl _, rfl, rfl, by rw [List.drop_length]; exact ho1, hb1⟩
  case round =>
    obtain ⟨k, j, hk, rfl, hj, ho, hb⟩ := hrel
    by_cases hlt : 0 < k
    · obtain ⟨t, rfl⟩ : ∃ t, k = t + 1 := ⟨k - 1, by omega⟩
      obtain rfl : j = (t : Int) := by omega
      have htl : t < l.length := by omega
      have q1 := hc1.below hb hg1 t htl
      have hit := hin t htl
      have hd := actW_drop c l v t htl
      obtain ⟨iN, hiN⟩ : ∃ iN : Nat, l.getD t 0 = iN := ⟨(l.getD t 0).toNat, by omega⟩
      rw [hiN] at q1 hit hd
      rw [Int.toNat_natCast] at hd
      have hic : iN < c.length := by omega
      have hal : (actW c (l.drop (t + 1)) v).length = v.length := actW_length _ _ _
      have hcall := impl_reflected_any w gc oc _ cc gv cv iN v.length c (actW c (l.drop (t + 1)) v) wr rfl hal (by rw [hal]; exact Hv.out) hn4 hC.2.2.1 hic hgc hr hb ho
      have Hcall := Lib.hid hcall; have Hd := Lib.hid hd
      clear hcall hd hiN hal hit
      clear hj
      go_wp2_with fail
      refine Hcall.out.mono ?_
      rintro e w2 ⟨rfl, ho2, hg2⟩
      go_wp2_with fail
      go_roundw
      case rel =>
        rw [← Hd.out] at ho2
        exact ⟨t, (t : Int) - 1, by omega, by go_num, rfl, ho2, hb.grown hg2 hb.size (by intro j hj; cases hj; exact ho.base)⟩
      case measure => simp [intOf]
    · obtain rfl : k = 0 := by omega
      obtain rfl : j = -1 := by omega
      clear hj
      go_wp2
      go_ret
      exact GotInts.mk' gv cv (actW_length _ _ _) ho hb
end Go.Proofs.YtjhoimdfmcjkbaaGreatDoor
