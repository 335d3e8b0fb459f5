/- The reference's levels of elements: contract. The size that the type's name tells is the number of elements, where it is at most 200: the kernel's enumeration. Plain law. The kernel's enumeration of sizes, part 1. The kernel's enumeration of sizes, part 2. The kernel's enumeration of sizes, part 3. The kernel's enumeration of sizes, part 4. The kernel's enumeration of sizes, part 5. Every finite type: the size told by its name is at least 1, and, if it is at most 200, the number of its elements; its columns are independent. Plain law. Where the program's elements by length stand. Plain law. (Split off BallI.) Which lengths there are: in a finite group none beyond the longest element's, in an infinite one all. Plain law. A matrix whose group is not finite has a row of numbers that no column makes positive. Plain law. Orbits of weights: dominant weights by raising, what both searches find. Plain law. The elements of a finite group, in order; the reference's search for them. Plain law. Elements of any group of at most 200 elements, or none; how many there are of each length. Plain law. Where a list stands first in a list of lists. Plain law. The table of products with generators from the front. Plain law. TrimPoly, MulPoly, ProductCounts: contracts. -/
import Derived.Test.YtdedkfbiookofaaGreatDoorK19
import Derived.Test.YtdedkfbiookofaaGreatDoorK08
import Derived.Test.YtdedkfbiookofaaGreatDoorK07
import Derived.Test.YtdedkfbiookofaaGreatDoorK10
import Derived.Test.YtdedkfbiookofaaGreatDoorK04
import Derived.Test.YtdedkfbiookofaaGreatDoorK00
namespace Go.Proofs.YtdedkfbiookofaaGreatDoor
set_option maxRecDepth 100000
open Go.RowKit Game
/-- a list of lists of rows, of the call's own -/
abbrev LevRef := Nat × Nat × List RowRef
section
variable {w w' : World} {B g cap : Nat} {Ls : List LevRef}
end
/-- how many elements up to this length -/
def tot (c : List (List Int)) : Nat → Nat
  | 0 => 1
  | n + 1 => tot c n + (levS c (n + 1)).length
/-- the last length that is told of -/
def depthG (c : List (List Int)) : Nat → Nat → Nat
  | 0, n => n
  | f + 1, n => if levS c (n + 1) = [] ∨ 200 < tot c (n + 1) then n else depthG c f (n + 1)
def levsTo (c : List (List Int)) (m : Nat) : List (List (List Int)) := (List.range (m + 1)).map (levS c)
theorem levsTo_succ (c : List (List Int)) (m : Nat) : levsTo c (m + 1) = levsTo c m ++ [levS c (m + 1)] := by unfold levsTo; rw [List.range_succ, List.map_append]; rfl
theorem tot_le (c : List (List Int)) (n : Nat) : (levS c n).length ≤ tot c n := by
  cases n with
  | zero => simp [levS, tot]
  | succ n => simp only [tot]; omega
theorem letters_push {W : List Int} {m i : Nat} (h : ∀ k, k < W.length → 0 ≤ W.getD k 0 ∧ W.getD k 0 < m) (hi : i < m) : ∀ k, k < (W ++ [(i : Int)]).length → 0 ≤ (W ++ [(i : Int)]).getD k 0 ∧ (W ++ [(i : Int)]).getD k 0 < m := by
  intro k hk
  simp at hk
  by_cases e : k < W.length
  · have := h k e
    simp only [List.getD, List.getElem?_append_left e]
    exact this
  · obtain rfl : k = W.length := by omega
    simp [List.getD]; omega
end Go.Proofs.YtdedkfbiookofaaGreatDoor
namespace Go.Proofs.YtdedkfbiookofaaGreatDoor
set_option maxRecDepth 100000
open Go.RowKit Game
def in30 (V : List (List Int)) : Bool := V.all fun v => v.all fun x => decide (-30 ≤ x) && decide (x ≤ 30)
/-- counts the elements' images, shell by shell; 0 if a number is too great -/
def shN (c : List (List Int)) : Nat → List (List Int) → Nat → Nat
  | 0, _, _ => 0
  | f + 1, sh, t => match sh with
    | [] => t
    | x :: r => if in30 (x :: r) = true then shN c f (shTo c (x :: r) (x :: r).length) (t + (x :: r).length) else 0
def szC (c : List (List Int)) (z : Int) : Bool := decide (1 ≤ z) && (decide (200 < z) || decide ((shN c (if z ≤ 48 then 11 else 28) [onesL c.length] 0 : Int) = z))
def szB (c : List (List Int)) : Bool := szC c (prodT (nameL c))
def colL (c : List (List Int)) (j : Nat) (v : List Int) : List (List Int) := (List.range c.length).map fun k => (c.getD k []).set j (v.getD k 0)
def dC (c : List (List Int)) : Int := det c.length c
def colOf (c : List (List Int)) (i : Nat) : List Int := (List.range c.length).map fun k => ent c k i
/-- the kernel's: columns are independent, and the determinant is positive -/
def crB (c : List (List Int)) : Bool := decide (0 < dC c) && (List.range c.length).all fun j => (List.range c.length).all fun i => decide (i = j) || decide (det c.length (colL c j (colOf c i)) = 0)
def szK (c : List (List Int)) : Bool := crB c && szB c
def chkD (P : List (List Int) → Bool) (a b e d : Int × Int) : Bool := L6.all fun f => bad3 a d f || L6.all fun g => bad3 b d g || (bad3 e f g || (decide (det 4 (mat4 a b d e f g) ≤ 0) || P (mat4 a b d e f g)))
def chkE (P : List (List Int) → Bool) (a b e : Int × Int) : Bool := bad3 a b e || L6.all fun d => chkD P a b e d
theorem chkE_eq (P : List (List Int) → Bool) (a b : Int × Int) : chk4At P a b = L6.all fun e => chkE P a b e := rfl
end Go.Proofs.YtdedkfbiookofaaGreatDoor
namespace Go.Proofs.YtdedkfbiookofaaGreatDoor
set_option maxRecDepth 100000
open Go.RowKit Game
theorem szK_1 : szK [[2]] = true := by kernel_rfl
theorem szK_2 : chk2 szK = true := by kernel_rfl
theorem szK_3 : chk3 szK = true := by kernel_rfl
theorem szK_4_01 : chk4At szK (0, 0) (-1, -1) = true := by kernel_rfl
theorem szK_4_02 : chk4At szK (0, 0) (-1, -2) = true := by kernel_rfl
theorem szK_4_03 : chk4At szK (0, 0) (-2, -1) = true := by kernel_rfl
theorem szK_4_04 : chk4At szK (0, 0) (-1, -3) = true := by kernel_rfl
theorem szK_4_05 : chk4At szK (0, 0) (-3, -1) = true := by kernel_rfl
theorem szK_4_10 : chk4At szK (-1, -1) (0, 0) = true := by kernel_rfl
theorem szK_4_11 : chk4At szK (-1, -1) (-1, -1) = true := by kernel_rfl
theorem szK_4_12 : chk4At szK (-1, -1) (-1, -2) = true := by kernel_rfl
theorem szK_4_13 : chk4At szK (-1, -1) (-2, -1) = true := by kernel_rfl
theorem szK_4_14 : chk4At szK (-1, -1) (-1, -3) = true := by kernel_rfl
theorem szK_4_15 : chk4At szK (-1, -1) (-3, -1) = true := by kernel_rfl
end Go.Proofs.YtdedkfbiookofaaGreatDoor
namespace Go.Proofs.YtdedkfbiookofaaGreatDoor
set_option maxRecDepth 100000
open Go.RowKit Game
theorem szK_4_20 : chk4At szK (-1, -2) (0, 0) = true := by kernel_rfl
theorem szK_4_21 : chk4At szK (-1, -2) (-1, -1) = true := by kernel_rfl
theorem szK_4_22 : chk4At szK (-1, -2) (-1, -2) = true := by kernel_rfl
theorem szK_4_23 : chk4At szK (-1, -2) (-2, -1) = true := by kernel_rfl
theorem szK_4_24 : chk4At szK (-1, -2) (-1, -3) = true := by kernel_rfl
theorem szK_4_25 : chk4At szK (-1, -2) (-3, -1) = true := by kernel_rfl
theorem szK_4_30 : chk4At szK (-2, -1) (0, 0) = true := by kernel_rfl
theorem szK_4_31 : chk4At szK (-2, -1) (-1, -1) = true := by kernel_rfl
theorem szK_4_32 : chk4At szK (-2, -1) (-1, -2) = true := by kernel_rfl
theorem szK_4_33 : chk4At szK (-2, -1) (-2, -1) = true := by kernel_rfl
theorem szK_4_34 : chk4At szK (-2, -1) (-1, -3) = true := by kernel_rfl
theorem szK_4_35 : chk4At szK (-2, -1) (-3, -1) = true := by kernel_rfl
end Go.Proofs.YtdedkfbiookofaaGreatDoor
namespace Go.Proofs.YtdedkfbiookofaaGreatDoor
set_option maxRecDepth 100000
open Go.RowKit Game
theorem szK_4_40 : chk4At szK (-1, -3) (0, 0) = true := by kernel_rfl
theorem szK_4_41 : chk4At szK (-1, -3) (-1, -1) = true := by kernel_rfl
theorem szK_4_42 : chk4At szK (-1, -3) (-1, -2) = true := by kernel_rfl
theorem szK_4_43 : chk4At szK (-1, -3) (-2, -1) = true := by kernel_rfl
theorem szK_4_44 : chk4At szK (-1, -3) (-1, -3) = true := by kernel_rfl
theorem szK_4_45 : chk4At szK (-1, -3) (-3, -1) = true := by kernel_rfl
theorem szK_4_50 : chk4At szK (-3, -1) (0, 0) = true := by kernel_rfl
theorem szK_4_51 : chk4At szK (-3, -1) (-1, -1) = true := by kernel_rfl
theorem szK_4_52 : chk4At szK (-3, -1) (-1, -2) = true := by kernel_rfl
theorem szK_4_53 : chk4At szK (-3, -1) (-2, -1) = true := by kernel_rfl
theorem szK_4_54 : chk4At szK (-3, -1) (-1, -3) = true := by kernel_rfl
theorem szK_4_55 : chk4At szK (-3, -1) (-3, -1) = true := by kernel_rfl
end Go.Proofs.YtdedkfbiookofaaGreatDoor
namespace Go.Proofs.YtdedkfbiookofaaGreatDoor
set_option maxRecDepth 100000
open Go.RowKit Game
theorem szK_D_0 : chkD szK (0, 0) (0, 0) (0, 0) (0, 0) = true := by kernel_rfl
theorem szK_D_1 : chkD szK (0, 0) (0, 0) (0, 0) (-1, -1) = true := by kernel_rfl
theorem szK_D_2 : chkD szK (0, 0) (0, 0) (0, 0) (-1, -2) = true := by kernel_rfl
theorem szK_D_3 : chkD szK (0, 0) (0, 0) (0, 0) (-2, -1) = true := by kernel_rfl
theorem szK_D_4 : chkD szK (0, 0) (0, 0) (0, 0) (-1, -3) = true := by kernel_rfl
theorem szK_D_5 : chkD szK (0, 0) (0, 0) (0, 0) (-3, -1) = true := by kernel_rfl
end Go.Proofs.YtdedkfbiookofaaGreatDoor
namespace Go.Proofs.YtdedkfbiookofaaGreatDoor
set_option maxRecDepth 100000
open Go.RowKit Game
theorem szK_E_1 : chkE szK (0, 0) (0, 0) (-1, -1) = true := by kernel_rfl
theorem szK_E_2 : chkE szK (0, 0) (0, 0) (-1, -2) = true := by kernel_rfl
theorem szK_E_3 : chkE szK (0, 0) (0, 0) (-2, -1) = true := by kernel_rfl
theorem szK_E_4 : chkE szK (0, 0) (0, 0) (-1, -3) = true := by kernel_rfl
theorem szK_E_5 : chkE szK (0, 0) (0, 0) (-3, -1) = true := by kernel_rfl
end Go.Proofs.YtdedkfbiookofaaGreatDoor
namespace Go.Proofs.YtdedkfbiookofaaGreatDoor
set_option maxRecDepth 100000
open Go.RowKit Game
theorem szK_E_0 : chkE szK (0, 0) (0, 0) (0, 0) = true := by
  unfold chkE
  simp only [L6, List.all_cons, List.all_nil, Bool.and_true, szK_D_0, szK_D_1, szK_D_2, szK_D_3, szK_D_4, szK_D_5, Bool.or_true]
theorem szK_4_00 : chk4At szK (0, 0) (0, 0) = true := by
  rw [chkE_eq]
  simp only [L6, List.all_cons, List.all_nil, Bool.and_true, szK_E_0, szK_E_1, szK_E_2, szK_E_3, szK_E_4, szK_E_5]
theorem szK_4 : chk4 szK = true := by
  rw [chk4_eq]
  simp only [L6, List.all_cons, List.all_nil, Bool.and_true, szK_4_00, szK_4_01, szK_4_02, szK_4_03, szK_4_04, szK_4_05, szK_4_10, szK_4_11, szK_4_12, szK_4_13, szK_4_14, szK_4_15, szK_4_20, szK_4_21, szK_4_22, szK_4_23, szK_4_24, szK_4_25, szK_4_30, szK_4_31, szK_4_32, szK_4_33, szK_4_34, szK_4_35, szK_4_40, szK_4_41, szK_4_42, szK_4_43, szK_4_44, szK_4_45, szK_4_50, szK_4_51, szK_4_52, szK_4_53, szK_4_54, szK_4_55]
theorem szK_fin {c : List (List Int)} (hC : IsC c) (hf : finB c = true) : szK c = true := fin_all szK szK_1 szK_2 szK_3 szK_4 hC hf
end Go.Proofs.YtdedkfbiookofaaGreatDoor
namespace Go.Proofs.YtdedkfbiookofaaGreatDoor
set_option maxRecDepth 100000
open Go.RowKit Game
def ballOk (c : List (List Int)) (M : Nat) : Bool := decide (depthG c M 0 = M ∨ levS c (depthG c M 0 + 1) = [])
theorem levs_flat_succ (c : List (List Int)) (m : Nat) : (levsTo c (m + 1)).flatten = (levsTo c m).flatten ++ levS c (m + 1) := by rw [levsTo_succ]; simp
theorem tot_flat (c : List (List Int)) : ∀ m, (levsTo c m).flatten.length = tot c m
  | 0 => rfl
  | m + 1 => by rw [levs_flat_succ, List.length_append, tot_flat c m]; rfl
/-- where the loop stands: t levels are done -/
structure BallSt (c : List (List Int)) (M t : Nat) : Prop where
  le : t ≤ M
  small : tot c t ≤ 200
  on : levS c t ≠ [] → depthG c (M - t) t = depthG c M 0
  off : levS c t = [] → depthG c M 0 + 1 = t
theorem BallSt.zero (c : List (List Int)) (M : Nat) : BallSt c M 0 := ⟨Nat.zero_le _, by simp [tot], fun _ => rfl, fun h => by simp [levS] at h⟩
theorem BallSt.done {c : List (List Int)} {M t : Nat} (h : BallSt c M t) (hd : ¬ t + 1 ≤ M ∨ levS c t = []) : (levsTo c t).flatten = (levsTo c (depthG c M 0)).flatten ∧ ballOk c M = true := by
  by_cases hz : levS c t = []
  · have h1 := h.off hz
    rw [← h1] at hz ⊢
    refine ⟨by rw [levs_flat_succ, hz, List.append_nil], ?_⟩
    unfold ballOk
    simp [hz]
  · have h1 := h.on hz
    have h2 : M - t = 0 := by have := h.le; rcases hd with h | h; · omega
                              exact absurd h hz
    rw [h2] at h1
    have h3 : depthG c 0 t = t := rfl
    rw [h3] at h1
    rw [← h1]
    refine ⟨rfl, ?_⟩
    unfold ballOk
    rw [← h1]
    have := h.le
    simp; left; omega
theorem BallSt.step {c : List (List Int)} {M t : Nat} (h : BallSt c M t) (ht : t + 1 ≤ M) (hz : levS c t ≠ []) (hs : tot c (t + 1) ≤ 200) : BallSt c M (t + 1) := by
  have h1 := h.on hz
  have e : M - t = (M - (t + 1)) + 1 := by omega
  rw [e] at h1
  simp only [depthG] at h1
  refine ⟨ht, hs, fun hn => ?_, fun hn => ?_⟩
  · rwa [if_neg (by intro h; rcases h with h | h; · exact hn h
                    omega)] at h1
  · rw [if_pos (.inl hn)] at h1; omega
theorem BallSt.over {c : List (List Int)} {M t : Nat} (h : BallSt c M t) (ht : t + 1 ≤ M) (hz : levS c t ≠ []) (hs : 200 < tot c (t + 1)) : t = depthG c M 0 ∧ ballOk c M = false := by
  have h1 := h.on hz
  have e : M - t = (M - (t + 1)) + 1 := by omega
  rw [e] at h1
  simp only [depthG] at h1
  rw [if_pos (.inr hs)] at h1
  refine ⟨h1, ?_⟩
  unfold ballOk
  rw [← h1]
  apply decide_eq_false
  rintro (g | g)
  · omega
  · have := h.small
    simp only [tot, g] at hs
    simp at hs; omega
end Go.Proofs.YtdedkfbiookofaaGreatDoor
namespace Go.Proofs.YtdedkfbiookofaaGreatDoor
set_option maxRecDepth 100000
open Go.RowKit
namespace Game
set_option linter.unusedSimpArgs false
variable {c : List (List Int)}
def neg (v : Vec) : Vec := fun k => - v k
theorem neg_neg (v : Vec) : neg (neg v) = v := by funext k; simp [neg]
theorem s_neg (A : Mat) (i : Nat) (v : Vec) : s A i (neg v) = neg (s A i v) := by
  funext k; simp only [Game.s, neg, Int.neg_mul]; omega
theorem act_neg (A : Mat) : ∀ (w : List Nat) (v : Vec), act A w (neg v) = neg (act A w v)
  | [], _ => rfl
  | i :: w, v => by simp only [Game.act]; rw [act_neg A w v, s_neg]
theorem rev_play {A : Mat} {n : Nat} (hA : Car A n) : ∀ (l : List Nat) (v : Vec), Legal A n l v → Legal A n l.reverse (neg (run A l v)) ∧ run A l.reverse (neg (run A l v)) = neg v
  | [], _, _ => ⟨trivial, rfl⟩
  | i :: l, v, h => by
    obtain ⟨hi, hv, hl⟩ := h
    obtain ⟨h1, h2⟩ := rev_play hA l (s A i v) hl
    simp only [Game.run, List.reverse_cons]
    refine ⟨Legal.append h1 ?_, ?_⟩
    · rw [h2]
      refine ⟨hi, ?_, trivial⟩
      simp only [neg, Game.s, hA.two i hi]; omega
    · rw [run_append, h2]
      simp only [Game.run]
      rw [s_neg, s_s hA hi]
theorem toV_neg (n : Nat) : toV (negL n) = neg (toV (onesL n)) := by
  funext k
  simp only [toV, neg, negL, onesL]
  by_cases h : k < n
  · simp [List.getD, h]
  · simp [List.getD, h]
theorem long_elt (hC : IsC c) {long : List Int} (hnorm : normG c 30 (negL c.length) = some long) (hact : actW c long (onesL c.length) = negL c.length) : ∃ Wl, long = intsOf Wl ∧ Elt c long.length Wl ∧ act (ent c) Wl (toV (onesL c.length)) = neg (toV (onesL c.length)) := by
  have hin := normG_in hnorm
  rw [negL_length] at hin
  have hl30 := normG_len hnorm
  have he : long = intsOf (long.map Int.toNat) := by
    unfold intsOf
    rw [List.map_map]
    apply List.ext_getElem (by simp)
    intro i h1 h2
    have := hin i h1
    simp [List.getD, h1] at this ⊢
    omega
  have hlt : ∀ i ∈ long.map Int.toNat, i < c.length := by
    intro i hi
    obtain ⟨x, hx, rfl⟩ := List.mem_map.1 hi
    obtain ⟨k, hk, rfl⟩ := List.mem_iff_getElem.1 hx
    have := hin k hk
    simp [List.getD, hk] at this
    omega
  generalize hW : long.map Int.toNat = Wl at *
  have hlen : Wl.length = long.length := by rw [he, intsOf_length]
  obtain ⟨W, hNf⟩ := nf_of hC hlt (by omega)
  have h1 := hNf.norm
  rw [← he, hact, hnorm] at h1
  have h2 : long = intsOf W := Option.some.inj h1
  have h3 : Wl = W := intsOf_inj (by rw [← he]; exact h2)
  subst h3
  refine ⟨Wl, he, ⟨hNf, hlen⟩, ?_⟩
  rw [← toV_image hC hlt (by omega), ← he, hact, toV_neg]
theorem elt_le (hC : IsC c) {long : List Int} (hnorm : normG c 30 (negL c.length) = some long) (hact : actW c long (onesL c.length) = negL c.length) {n : Nat} {W : List Nat} (hW : Elt c n W) : n ≤ long.length := by
  have hA := car_of hC
  obtain ⟨Wl, he, hE, hneg⟩ := long_elt hC hnorm hact
  have e1 : act (ent c) (W ++ Wl) (toV (onesL c.length)) = neg (act (ent c) W (toV (onesL c.length))) := by rw [act_append, hneg, act_neg]
  have hlt : ∀ i ∈ W ++ Wl, i < c.length := by
    intro i hi
    rcases List.mem_append.1 hi with h | h
    · exact hW.nf.lt i h
    · exact hE.nf.lt i h
  obtain ⟨l', hp, -⟩ := word_play hA (ones_dom c.length) (W ++ Wl) hlt
  rw [e1] at hp
  obtain ⟨h1, h2⟩ := rev_play hA l' _ hp.1
  rw [hp.2] at h1 h2
  rw [neg_neg] at h2
  have hp2 := hW.nf.plays
  rw [← h2] at hp2
  have hp3 := Plays.append h1 hp2
  have hp4 := hE.nf.plays
  rw [hneg] at hp4
  have := (Plays.unique hA (ones_dom _) hp4 hp3).1
  rw [List.length_append, hE.len, hW.len] at this
  omega
theorem lev_ne (hC : IsC c) {n : Nat} (hn : n ≤ 29) : levS c n ≠ [] ↔ ∃ W, Elt c n W := by
  have h := (levS_ok hC n hn).2
  constructor
  · intro hne
    obtain ⟨x, hx⟩ := List.exists_mem_of_ne_nil _ hne
    obtain ⟨W, hW, -⟩ := (h x).1 hx
    exact ⟨W, hW⟩
  · rintro ⟨W, hW⟩ e
    have := (h (intsOf W)).2 ⟨W, hW, rfl⟩
    rw [e] at this; simp at this
end Game
end Go.Proofs.YtdedkfbiookofaaGreatDoor
namespace Go.Proofs.YtdedkfbiookofaaGreatDoor
set_option maxRecDepth 100000
open Go.RowKit
namespace Game
set_option linter.unusedSimpArgs false
variable {c : List (List Int)}
end Game
end Go.Proofs.YtdedkfbiookofaaGreatDoor
namespace Go.Proofs.YtdedkfbiookofaaGreatDoor
set_option maxRecDepth 100000
open Go.RowKit
namespace Game
set_option linter.unusedSimpArgs false
variable {c : List (List Int)}
theorem elt24 (hC : IsC c) (hf : finB c = true) {n : Nat} {W : List Nat} (hW : Elt c n W) : n ≤ 24 := by
  obtain ⟨long, opp, hL, h24⟩ := longOf_fin24 hC hf
  exact Nat.le_trans (elt_le hC hL.norm hL.act hW) h24
theorem nodup_le {Q L : List (List Int)} (hQ : Q.Nodup) (hL : L.Nodup) (h : ∀ x ∈ Q, x ∈ L) : Q.length ≤ L.length := by
  have hp : Q.Perm (L.filter fun x => decide (x ∈ Q)) := by
    refine (List.perm_ext_iff_of_nodup hQ (hL.filter _)).2 fun x => ?_
    simp only [List.mem_filter, decide_eq_true_eq]
    exact ⟨fun hx => ⟨h x hx, hx⟩, fun hx => hx.2⟩
  rw [hp.length_eq]
  exact List.length_filter_le _ _
section
variable {v : List Int} {down : Bool} {Q : List (List Int)} {k i : Nat}
end
end Game
end Go.Proofs.YtdedkfbiookofaaGreatDoor
namespace Go.Proofs.YtdedkfbiookofaaGreatDoor
set_option maxRecDepth 100000
open Go.RowKit Game
set_option linter.unusedSimpArgs false
theorem in30_of {V : List (List Int)} (h : in30 V = true) {v : List Int} (hv : v ∈ V) (i : Nat) : -30 ≤ v.getD i 0 ∧ v.getD i 0 ≤ 30 := by
  unfold in30 at h
  have h1 := List.all_eq_true.1 h v hv
  by_cases hi : i < v.length
  · have h2 := List.all_eq_true.1 h1 v[i] (List.getElem_mem _)
    rw [Bool.and_eq_true] at h2
    have h3 := of_decide_eq_true h2.1
    have h4 := of_decide_eq_true h2.2
    simp [List.getD, hi]; omega
  · simp [List.getD, Nat.not_lt.1 hi]
theorem shN_ok {c : List (List Int)} (hC : IsC c) : ∀ (f n t r : Nat) (sh : List (List Int)), Shell c n sh → n + f ≤ 29 → t + (levS c n).length = tot c n → shN c f sh t = r → r ≠ 0 →
    ∃ m, n ≤ m ∧ m < n + f ∧ levS c m = [] ∧ (∀ k, n ≤ k → k < m → levS c k ≠ []) ∧ tot c m = r ∧ ∀ k W, n ≤ k → k < m → Elt c k W → ∀ i, -30 ≤ (imgL c W).getD i 0 ∧ (imgL c W).getD i 0 ≤ 30
  | 0, _, _, _, _, _, _, _, hr, h0 => absurd hr.symm h0
  | f + 1, n, t, r, [], hS, hf, ht, hr, h0 => by
    have hl := hS.len hC (by omega)
    have hz : levS c n = [] := List.length_eq_zero_iff.1 hl.symm
    rw [hz] at ht
    have hr' : t = r := hr
    exact ⟨n, Nat.le_refl _, by omega, hz, fun k h1 h2 => by omega, by rw [← ht, ← hr']; rfl, fun k W h1 h2 => by omega⟩
  | f + 1, n, t, r, x :: s, hS, hf, ht, hr, h0 => by
    have hl := hS.len hC (by omega)
    have hr' : (if in30 (x :: s) = true then shN c f (shTo c (x :: s) (x :: s).length) (t + (x :: s).length) else 0) = r := hr
    by_cases h30 : in30 (x :: s) = true
    · rw [if_pos h30] at hr'
      have hnx := hS.next hC (by omega)
      obtain ⟨m, h1, h2, h3, h4, h5, h6⟩ := shN_ok hC f (n + 1) (t + (x :: s).length) r _ hnx (by omega) (by rw [hl, ht]; rfl) hr' h0
      refine ⟨m, by omega, by omega, h3, fun k k1 k2 => ?_, h5, fun k W k1 k2 hW => ?_⟩
      · by_cases e : k = n
        · subst e
          intro e2
          rw [e2] at hl
          simp at hl
        · exact h4 k (by omega) k2
      · by_cases e : k = n
        · subst e
          exact in30_of h30 ((hS.2 _).2 ⟨W, hW, rfl⟩)
        · exact h6 k W (by omega) k2 hW
    · rw [if_neg h30] at hr'
      exact absurd hr'.symm h0
/-- all elements' normal forms, in order -/
def elemL (c : List (List Int)) : List (List Int) := (levsTo c (depthG c 60 0)).flatten
theorem lev_stop {c : List (List Int)} {m : Nat} (h : levS c m = []) : ∀ k, levS c (m + k) = []
  | 0 => h
  | k + 1 => by
    have ih := lev_stop h k
    show nextTo c (m + k + 1) (levS c (m + k)) (levS c (m + k)).length = []
    rw [ih]; rfl
theorem tot_mono (c : List (List Int)) (n : Nat) : ∀ k, tot c n ≤ tot c (n + k)
  | 0 => Nat.le_refl _
  | k + 1 => by have := tot_mono c n k; show _ ≤ tot c (n + k) + _; omega
theorem depth_at {c : List (List Int)} {m : Nat} (hz : levS c m = []) (hne : ∀ k, k < m → levS c k ≠ []) (ht : tot c m ≤ 200) : ∀ f n, n < m → m - 1 - n ≤ f → depthG c f n + 1 = m
  | 0, n, h1, h2 => by show n + 1 = m; omega
  | f + 1, n, h1, h2 => by
    simp only [depthG]
    by_cases e : n + 1 = m
    · rw [if_pos (.inl (by rw [e]; exact hz))]; exact e
    · have hm := tot_mono c (n + 1) (m - (n + 1))
      rw [show n + 1 + (m - (n + 1)) = m by omega] at hm
      rw [if_neg (by intro h; rcases h with h | h; · exact hne (n + 1) (by omega) h
                     omega)]
      exact depth_at hz hne ht f (n + 1) (by omega) (by omega)
theorem flat_asc {c : List (List Int)} (hC : IsC c) : ∀ m, m ≤ 29 → Asc (levsTo c m).flatten ∧ ∀ x ∈ (levsTo c m).flatten, x.length ≤ m
  | 0, _ => by
    have e : (levsTo c 0).flatten = [[]] := rfl
    rw [e]
    exact ⟨by simp [Asc], by simp⟩
  | m + 1, hm => by
    obtain ⟨h1, h2⟩ := flat_asc hC m (by omega)
    have h3 := levS_ok hC (m + 1) hm
    have hl : ∀ x ∈ levS c (m + 1), x.length = m + 1 := fun x hx => by
      obtain ⟨W, hW, rfl⟩ := (h3.2 x).1 hx
      rw [intsOf_length]; exact hW.len
    rw [levs_flat_succ]
    refine ⟨List.pairwise_append.2 ⟨h1, h3.1, fun a ha b hb => ?_⟩, fun x hx => ?_⟩
    · have e1 := h2 a ha
      have e2 := hl b hb
      unfold wordCmp
      rw [if_pos (by omega)]; omega
    · rcases List.mem_append.1 hx with h | h
      · have := h2 x h; omega
      · have := hl x h; omega
theorem mem_flat {c : List (List Int)} {x : List Int} : ∀ m, x ∈ (levsTo c m).flatten ↔ ∃ k, k ≤ m ∧ x ∈ levS c k
  | 0 => by
    have e : (levsTo c 0).flatten = levS c 0 := by simp [levsTo]
    rw [e]
    refine ⟨fun h => ⟨0, Nat.le_refl _, h⟩, ?_⟩
    rintro ⟨k, h1, h2⟩
    obtain rfl : k = 0 := by omega
    exact h2
  | m + 1 => by
    rw [levs_flat_succ, List.mem_append, mem_flat m]
    constructor
    · rintro (⟨k, h1, h2⟩ | h)
      · exact ⟨k, by omega, h2⟩
      · exact ⟨m + 1, Nat.le_refl _, h⟩
    · rintro ⟨k, h1, h2⟩
      by_cases e : k = m + 1
      · subst e; exact .inr h2
      · exact .inl ⟨k, by omega, h2⟩
/-- a finite group of at most 200 elements -/
structure Grp (c : List (List Int)) : Prop where
  hC : IsC c
  fin : finB c = true
  mem : ∀ x, x ∈ elemL c ↔ ∃ n W, Elt c n W ∧ x = intsOf W
  asc : Asc (elemL c)
  len : ((elemL c).length : Int) = szO c
  few : (elemL c).length ≤ 200
  whole : ballOk c 60 = true
  short : szO c ≤ 48 → ∀ n W, Elt c n W → n ≤ 9
  bd : ∀ n W, Elt c n W → ∀ i, -30 ≤ (imgL c W).getD i 0 ∧ (imgL c W).getD i 0 ≤ 30
theorem grp_of {c : List (List Int)} (hf : finB c = true) (hz : szB c = true) (h200 : szO c ≤ 200) : Grp c := by
  have hC := fin_isC hf
  have hs : szO c = prodT (nameL c) := if_pos hf
  unfold szB szC at hz
  rw [← hs, Bool.and_eq_true, Bool.or_eq_true] at hz
  obtain ⟨hz1, hz2⟩ := hz
  have hz1 := of_decide_eq_true hz1
  have hz2 : (shN c (if szO c ≤ 48 then 11 else 28) [onesL c.length] 0 : Int) = szO c := by
    rcases hz2 with h | h
    · have := of_decide_eq_true h; omega
    · exact of_decide_eq_true h
  have hF : (if szO c ≤ 48 then 11 else 28) ≤ 28 ∧ (szO c ≤ 48 → (if szO c ≤ 48 then 11 else 28) = 11) := by
    refine ⟨by split <;> omega, fun h => by rw [if_pos h]⟩
  generalize (if szO c ≤ 48 then 11 else 28) = F at *
  obtain ⟨m, -, hm, hm0, hne, htot, hbd⟩ := shN_ok hC F 0 0 (shN c F [onesL c.length] 0) _ (Shell.zero hC) (by omega) (by simp [levS, tot]) rfl (by omega)
  have hm1 : 0 < m := by
    rcases Nat.eq_zero_or_pos m with h | h
    · rw [h] at hm0; simp [levS] at hm0
    · exact h
  have htl : (tot c m : Int) = szO c := by rw [htot]; exact hz2
  have hd := depth_at hm0 (fun k hk => hne k (Nat.zero_le _) hk) (by omega) 60 0 hm1 (by omega)
  have hE : ∀ n W, Elt c n W → n < m := fun n W hW => by
    have h24 := elt24 hC hf hW
    have hin := ((levS_ok hC n (by omega)).2 (intsOf W)).2 ⟨W, hW, rfl⟩
    rcases Nat.lt_or_ge n m with h | h
    · exact h
    · have := lev_stop hm0 (n - m)
      rw [show m + (n - m) = n by omega] at this
      rw [this] at hin
      simp at hin
  have hlen : (elemL c).length = tot c m := by
    unfold elemL
    rw [tot_flat]
    have e : tot c m = tot c (depthG c 60 0) + (levS c (depthG c 60 0 + 1)).length := by rw [← hd]; rfl
    rw [e, hd, hm0]; rfl
  refine ⟨hC, hf, fun x => ?_, (flat_asc hC _ (by omega)).1, by rw [hlen]; exact htl, by omega, ?_, fun h48 n W hW => by have := hE n W hW; have := hF.2 h48; omega, fun n W hW => hbd n W (Nat.zero_le _) (hE n W hW) hW⟩
  · unfold elemL
    rw [mem_flat]
    constructor
    · rintro ⟨k, hk, hx⟩
      obtain ⟨W, hW, rfl⟩ := ((levS_ok hC k (by omega)).2 x).1 hx
      exact ⟨k, W, hW, rfl⟩
    · rintro ⟨n, W, hW, rfl⟩
      have := hE n W hW
      exact ⟨n, by omega, ((levS_ok hC n (by omega)).2 _).2 ⟨W, hW, rfl⟩⟩
  · unfold ballOk
    exact decide_eq_true (.inr (by rw [hd]; exact hm0))
def reach (c : List (List Int)) (Q : List (List Int)) (j t : Nat) : Prop :=
  (Q.getD j []).length < (nfI c (Q.getD j [] ++ [(t : Int)])).length → nfI c (Q.getD j [] ++ [(t : Int)]) ∈ Q
structure AllSt (c : List (List Int)) (Q : List (List Int)) (k i : Nat) : Prop where
  asc : Asc Q
  mem : ∀ x ∈ Q, ∃ n W, Elt c n W ∧ x = intsOf W
  nil : [] ∈ Q
  done : ∀ j, j < k → ∀ t, t < c.length → reach c Q j t
  row : ∀ t, t < i → reach c Q k t
theorem AllSt.start {c : List (List Int)} (hC : IsC c) : AllSt c [[]] 0 0 :=
  ⟨by simp [Asc], fun x hx => ⟨0, [], Elt.zero hC, by simp at hx; rw [hx]; rfl⟩, by simp, fun j hj => by omega, fun t ht => by omega⟩
theorem AllSt.skip {c Q : List (List Int)} {k i : Nat} (h : AllSt c Q k i) (hr : reach c Q k i) : AllSt c Q k (i + 1) :=
  ⟨h.asc, h.mem, h.nil, h.done, fun t ht => by
    by_cases e : t = i
    · subst e; exact hr
    · exact h.row t (by omega)⟩
theorem AllSt.next {c Q : List (List Int)} {k : Nat} (h : AllSt c Q k c.length) : AllSt c Q (k + 1) 0 :=
  ⟨h.asc, h.mem, h.nil, fun j hj => by
    by_cases e : j = k
    · subst e; exact h.row
    · exact h.done j (by omega), fun t ht => by omega⟩
theorem putL_keep {x : List Int} : ∀ {Q : List (List Int)} {k : Nat}, Asc Q → k < Q.length → wordCmp (Q.getD k []) x < 0 → ∀ j, j ≤ k → (putL Q x).getD j [] = Q.getD j []
  | [], k, _, hk, _, _, _ => by simp at hk
  | y :: Q, k, hA, hk, hx, j, hj => by
    have hA' := List.pairwise_cons.1 hA
    have hy : wordCmp y x < 0 := by
      match k, hk, hx with
      | 0, _, hx => exact hx
      | k + 1, hk, hx =>
        have hk' : k < Q.length := by simpa using hk
        have h1 := hA'.1 (Q.getD k []) (by simp [List.getD, hk'])
        exact wordCmp_trans h1 hx
    have han := wordCmp_anti y x
    have hne : ¬ x = y := by rintro rfl; rw [wordCmp_self] at hy; omega
    simp only [putL]
    rw [if_neg hne, if_neg (by omega)]
    match j, k, hj, hk, hx with
    | 0, _, _, _, _ => rfl
    | j + 1, k + 1, hj, hk, hx => exact putL_keep hA'.2 (by simpa using hk) hx j (by omega)
theorem putL_len : ∀ (l : List (List Int)) (w : List Int), l.length ≤ (putL l w).length
  | [], w => by simp
  | x :: l, w => by
    have ih := putL_len l w
    simp only [putL]
    split
    · exact Nat.le_refl _
    · split
      · simp
      · simp; omega
theorem word_push {c : List (List Int)} (hC : IsC c) (hf : finB c = true) {n : Nat} {W : List Nat} (hW : Elt c n W) {i : Nat} (hi : i < c.length) :
    ∃ X, NfOf c (W ++ [i]) X ∧ nfI c (intsOf W ++ [(i : Int)]) = intsOf X ∧ Elt c X.length X ∧ X.length ≤ n + 1 := by
  have h24 := elt24 hC hf hW
  have hlt : ∀ j ∈ W ++ [i], j < c.length := by
    intro j hj
    rcases List.mem_append.1 hj with h | h
    · exact hW.nf.lt j h
    · simp at h; subst h; exact hi
  obtain ⟨X, hX⟩ := nf_of hC hlt (by have := hW.len; simp; omega)
  have e : intsOf W ++ [(i : Int)] = intsOf (W ++ [i]) := by rw [intsOf_append]; rfl
  exact ⟨X, hX, by rw [e, nfI_of hX], ⟨hX.self, rfl⟩, by have := hX.len; have := hW.len; simp at *; omega⟩
theorem AllSt.add {c Q : List (List Int)} {k i : Nat} (h : AllSt c Q k i) (hG : Grp c) (hk : k < Q.length) (hi : i < c.length) (hl : (Q.getD k []).length < (nfI c (Q.getD k [] ++ [(i : Int)])).length) :
    AllSt c (putL Q (nfI c (Q.getD k [] ++ [(i : Int)]))) k (i + 1) := by
  obtain ⟨n, W, hW, hWe⟩ := h.mem (Q.getD k []) (by simp [List.getD, hk])
  obtain ⟨X, hX, hXe, hEX, -⟩ := word_push hG.hC hG.fin hW hi
  have hcmp : wordCmp (Q.getD k []) (nfI c (Q.getD k [] ++ [(i : Int)])) < 0 := by unfold wordCmp; rw [if_pos hl]; omega
  have hkeep := putL_keep h.asc hk hcmp
  have hmono : ∀ j t, j ≤ k → reach c Q j t → reach c (putL Q (nfI c (Q.getD k [] ++ [(i : Int)]))) j t := fun j t hj hr hlt => by
    rw [hkeep j hj] at hlt ⊢
    exact mem_putL.2 (.inr (hr hlt))
  refine ⟨putL_asc h.asc, fun x hx => ?_, mem_putL.2 (.inr h.nil), fun j hj t ht => hmono j t (by omega) (h.done j hj t ht), fun t ht => ?_⟩
  · rcases mem_putL.1 hx with e | e
    · exact ⟨_, X, hEX, by rw [e, hWe]; exact hXe⟩
    · exact h.mem x e
  · by_cases e : t = i
    · subst e
      intro _
      rw [hkeep k (Nat.le_refl _)]
      exact mem_putL.2 (.inl rfl)
    · exact hmono k t (Nat.le_refl _) (h.row t (by omega))
theorem AllSt.sub {c Q : List (List Int)} {k i : Nat} (h : AllSt c Q k i) (hG : Grp c) : Q.length ≤ 200 := by
  have := nodup_le h.asc.nodup hG.asc.nodup (fun x hx => (hG.mem x).2 (h.mem x hx))
  have := hG.few
  omega
theorem AllSt.all {c Q : List (List Int)} (h : AllSt c Q Q.length 0) (hG : Grp c) : Q = elemL c := by
  have key : ∀ n W, Elt c n W → intsOf W ∈ Q := by
    intro n
    induction n with
    | zero =>
      intro W hW
      have e : W = [] := List.length_eq_zero_iff.1 hW.len
      rw [e]; exact h.nil
    | succ n ih =>
      intro X hX
      have h24 := elt24 hG.hC hG.fin hX
      obtain ⟨W, i, hW, hi, hnf⟩ := right_back hG.hC hX (by omega)
      obtain ⟨j, hj, hje⟩ := List.mem_iff_getElem.1 (ih W hW)
      have e : Q.getD j [] = intsOf W := by simp [List.getD, hj, hje]
      have e2 : nfI c (intsOf W ++ [(i : Int)]) = intsOf X := by
        have e3 : intsOf W ++ [(i : Int)] = intsOf (W ++ [i]) := by rw [intsOf_append]; rfl
        rw [e3, nfI_of hnf]
      have hd := h.done j hj i hi
      unfold reach at hd
      rw [e, e2, intsOf_length, intsOf_length, hW.len, hX.len] at hd
      exact hd (by omega)
  refine Asc.uniq h.asc hG.asc fun x => ?_
  rw [hG.mem]
  exact ⟨h.mem x, fun ⟨n, W, hW, e⟩ => by rw [e]; exact key n W hW⟩
end Go.Proofs.YtdedkfbiookofaaGreatDoor
namespace Go.Proofs.YtdedkfbiookofaaGreatDoor
set_option maxRecDepth 100000
open Go.RowKit Game
theorem sizeA_fin {c : List (List Int)} (hf : finB c = true) : szB c = true := (Bool.and_eq_true_iff.1 (szK_fin (fin_isC hf) hf)).2
theorem sizeA_pos {c : List (List Int)} (hf : finB c = true) : 1 ≤ szO c := by
  have h := sizeA_fin hf
  have hs : szO c = prodT (nameL c) := if_pos hf
  unfold szB szC at h
  rw [hs]
  exact of_decide_eq_true (Bool.and_eq_true_iff.1 h).1
/-- a finite group of at most 200 elements -/
def grpB (c : List (List Int)) : Bool := finB c && decide (szO c ≤ 200)
def elA (c : List (List Int)) : List (List Int) := if grpB c = true then elemL c else []
theorem grpB_fin {c : List (List Int)} (h : grpB c = true) : finB c = true := (Bool.and_eq_true_iff.1 h).1
theorem grp_B {c : List (List Int)} (h : grpB c = true) : Grp c := grp_of (grpB_fin h) (sizeA_fin (grpB_fin h)) (of_decide_eq_true (Bool.and_eq_true_iff.1 h).2)
theorem grp_iff (c : List (List Int)) : grpB c = true ↔ 1 ≤ szO c ∧ szO c ≤ 200 := by
  constructor
  · intro h; exact ⟨sizeA_pos (grpB_fin h), of_decide_eq_true (Bool.and_eq_true_iff.1 h).2⟩
  · intro ⟨h1, h2⟩
    have hf : finB c = true := by
      by_cases hf : finB c = true
      · exact hf
      · have : szO c = 0 := if_neg hf
        omega
    unfold grpB
    rw [hf, decide_eq_true h2]; rfl
theorem elem_len {c : List (List Int)} (hG : Grp c) : ∀ x ∈ elemL c, x.length ≤ 24 := fun x hx => by
  obtain ⟨n, W, hW, rfl⟩ := (hG.mem x).1 hx
  rw [intsOf_length, hW.len]
  exact elt24 hG.hC hG.fin hW
end Go.Proofs.YtdedkfbiookofaaGreatDoor
namespace Go.Proofs.YtdedkfbiookofaaGreatDoor
set_option maxRecDepth 100000
open Go.RowKit
/-- where a list stands first; -1 where it does not -/
def idxFrom : List (List Int) → List Int → Nat → Int
  | [], _, _ => -1
  | x :: l, v, k => if x = v then (k : Int) else idxFrom l v (k + 1)
def idxL (L : List (List Int)) (v : List Int) : Int := idxFrom L v 0
theorem idxFrom_spec (v : List Int) : ∀ (L : List (List Int)) (k : Nat), (idxFrom L v k = -1 ∧ v ∉ L) ∨ ∃ j, j < L.length ∧ idxFrom L v k = ((k + j : Nat) : Int) ∧ L.getD j [] = v ∧ ∀ i, i < j → L.getD i [] ≠ v
  | [], k => .inl ⟨rfl, by simp⟩
  | x :: L, k => by
    unfold idxFrom
    by_cases h : x = v
    · rw [if_pos h]
      exact .inr ⟨0, by simp, by simp, by simpa using h, fun i hi => absurd hi (by omega)⟩
    · rw [if_neg h]
      rcases idxFrom_spec v L (k + 1) with ⟨h1, h2⟩ | ⟨j, hj, h1, h2, h3⟩
      · exact .inl ⟨h1, by simp [Ne.symm h, h2]⟩
      · refine .inr ⟨j + 1, by simpa using hj, by rw [h1]; congr 1; omega, by simpa using h2, fun i hi => ?_⟩
        cases i with
        | zero => simpa using h
        | succ i => simpa using h3 i (by omega)
section
variable {L : List (List Int)} {v u : List Int} {k : Nat}
theorem idx_found (hk : k < L.length) (h : inTo L v k) (he : L.getD k [] = v) : idxL L v = (k : Int) := by
  rcases idxFrom_spec v L 0 with ⟨-, h2⟩ | ⟨j, hj, h1, h2, h3⟩
  · exact absurd (by rw [← he]; simp [List.getD, hk]) h2
  · have : j = k := by
      rcases Nat.lt_trichotomy j k with g | g | g
      · exact absurd h2 (h j g)
      · exact g
      · exact absurd he (h3 k g)
    subst this
    unfold idxL
    rw [h1, Nat.zero_add]
theorem idx_none (h : inTo L v L.length) : idxL L v = -1 := by
  rcases idxFrom_spec v L 0 with ⟨h1, -⟩ | ⟨j, hj, h1, h2, h3⟩
  · exact h1
  · exact absurd h2 (h j hj)
theorem idx_ge : -1 ≤ idxL L v := by
  rcases idxFrom_spec v L 0 with ⟨h1, -⟩ | ⟨j, hj, h1, h2, h3⟩ <;> unfold idxL <;> omega
theorem idx_lt : idxL L v < (L.length : Int) := by
  rcases idxFrom_spec v L 0 with ⟨h1, -⟩ | ⟨j, hj, h1, h2, h3⟩ <;> unfold idxL <;> omega
theorem idx_nonneg : 0 ≤ idxL L v ↔ v ∈ L := by
  rcases idxFrom_spec v L 0 with ⟨h1, h2⟩ | ⟨j, hj, h1, h2, h3⟩
  · constructor
    · intro h; unfold idxL at h; omega
    · intro h; exact absurd h h2
  · constructor
    · intro _; rw [← h2]; simp [List.getD, hj]
    · intro _; unfold idxL; omega
end
end Go.Proofs.YtdedkfbiookofaaGreatDoor
namespace Go.Proofs.YtdedkfbiookofaaGreatDoor
set_option maxRecDepth 100000
open Go.RowKit Game
def lrow (c L : List (List Int)) (x : List Int) (t : Nat) : List Int := (List.range t).map fun i : Nat => idxL L (nfI c ([(i : Int)] ++ x))
theorem lrow_succ (c L : List (List Int)) (x : List Int) (t : Nat) : lrow c L x (t + 1) = lrow c L x t ++ [idxL L (nfI c ([(t : Int)] ++ x))] := by simp [lrow, List.range_succ]
theorem lrow_length (c L : List (List Int)) (x : List Int) (t : Nat) : (lrow c L x t).length = t := by simp [lrow]
def ltab (c L : List (List Int)) (k : Nat) : List (List Int) := (L.take k).map fun x => lrow c L x c.length
theorem ltab_succ {c L : List (List Int)} {k : Nat} (hk : k < L.length) : ltab c L (k + 1) = ltab c L k ++ [lrow c L (L.getD k []) c.length] := by
  unfold ltab
  rw [List.take_succ_eq_append_getElem hk, List.map_append]
  simp [List.getD, hk]
theorem ltab_length {c L : List (List Int)} {k : Nat} (hk : k ≤ L.length) : (ltab c L k).length = k := by simp [ltab]; omega
/-- LeftTable -/
def leftT (c : List (List Int)) : List (List Int) := ltab c (elA c) (elA c).length
theorem elem_lets {c : List (List Int)} (hG : Grp c) {x : List Int} (hx : x ∈ elemL c) : Lets c 24 x := by
  obtain ⟨n, W, hW, rfl⟩ := (hG.mem x).1 hx
  refine ⟨hG.hC, by rw [intsOf_length, hW.len]; exact elt24 hG.hC hG.fin hW, fun k hk => ?_⟩
  rw [intsOf_length] at hk
  have h := hW.nf.lt W[k] (List.getElem_mem _)
  simp [intsOf, List.getD, hk]
  omega
theorem left_lets {c : List (List Int)} (hG : Grp c) {x : List Int} (hx : x ∈ elemL c) {i : Nat} (hi : i < c.length) : Lets c 30 ([(i : Int)] ++ x) :=
  ((Lets.one hG.hC (by omega) (by omega)).app (elem_lets hG hx)).mono (by omega)
theorem left_mem {c : List (List Int)} (hG : Grp c) {x : List Int} (hx : x ∈ elemL c) {i : Nat} (hi : i < c.length) : nfI c ([(i : Int)] ++ x) ∈ elemL c := by
  have hL := left_lets hG hx hi
  obtain ⟨W, hW, he⟩ := nfI_ex hL
  rw [he]
  exact (hG.mem _).2 ⟨_, W, ⟨hW.self, rfl⟩, rfl⟩
theorem idx_i64 {L : List (List Int)} (h : L.length ≤ 1048576) (v : List Int) : -1 ≤ idxL L v ∧ idxL L v < 1048576 := by
  have h1 := idx_ge (L := L) (v := v)
  have h2 := idx_lt (L := L) (v := v)
  omega
end Go.Proofs.YtdedkfbiookofaaGreatDoor
namespace Go.Proofs.YtdedkfbiookofaaGreatDoor
set_option maxRecDepth 100000
open Go.RowKit
/-- how many numbers are left when zeros at the end are removed, of the first k -/
def trimN (xs : List Int) : Nat → Nat
  | 0 => 0
  | k + 1 => if xs.getD k 0 = 0 then trimN xs k else k + 1
def trim (xs : List Int) : List Int := xs.take (trimN xs xs.length)
theorem trimN_le (xs : List Int) (k : Nat) : trimN xs k ≤ k := by
  induction k with
  | zero => exact Nat.le_refl _
  | succ k ih => simp only [trimN]; split <;> omega
theorem trimN_zero {xs : List Int} {k : Nat} (hk : k < xs.length) (h : xs[k] = 0) : trimN xs (k + 1) = trimN xs k := by
  simp [trimN, List.getD, hk, h]
theorem trimN_stay {xs : List Int} {k : Nat} (hk : k < xs.length) (h : ¬ xs[k] = 0) : trimN xs (k + 1) = k + 1 := by
  simp [trimN, List.getD, hk, h]
theorem trim_length (xs : List Int) : (trim xs).length = trimN xs xs.length := by
  unfold trim; rw [List.length_take]; have := trimN_le xs xs.length; omega
set_option maxHeartbeats 400000 in
theorem impl_TrimPoly_any (g o n c : Nat) (xs : List Int) (w : World) (hn : xs.length = n) (hx : xs.length ≤ 1099511627776) (hcap : n ≤ c) (hg : g < w.heap.size) (hc : Cells w g o xs) :
    Calls Tryz.prog 108 #[(Value.slice (some ⟨g, o, none⟩) n c)] w (GotInts w (trim xs)) := by
  subst hn
  go_enter Tryz.func108, Tryz.ntmps108
  go_wp2
  go_loopw [3] (fun i wr => ∃ k : Nat, k ≤ xs.length ∧ i = .int .i64 k ∧ trimN xs xs.length = trimN xs k ∧ ∃ m, wr = w.drewN m) (fun i _ => (intOf i).toNat)
  case atStart => exact ⟨xs.length, Nat.le_refl _, rfl, rfl, 0, rfl⟩
  case round =>
    obtain ⟨k, hk, rfl, he, m, rfl⟩ := hrel
    have He := Lib.hid he; clear he
    by_cases h0 : 0 < k
    · have d1 : decide ((0 : Int) < (k : Int)) = true := by simp; omega
      have l0 : k - 1 < xs.length := by omega
      have c0 := hc (k - 1) l0
      have i1 : ((k : Int) - 1).toNat = k - 1 := by omega
      have i2 : 1 ≤ k := h0
      by_cases hz : xs[k - 1] = 0
      · have d2 : (xs[k - 1] == 0) = true := by simpa using hz
        have hs := trimN_zero l0 hz
        have Hz := Lib.hid hz; clear hz
        have Hs := Lib.hid hs; clear hs
        go_wp2
        go_roundw
        case rel => exact ⟨k - 1, by omega, by go_num, by rw [He.out, ← Hs.out, Nat.sub_add_cancel i2], m, rfl⟩
        case measure => simp [intOf]; omega
      · have d2 : (xs[k - 1] == 0) = false := by simpa using hz
        have hs := trimN_stay l0 hz
        rw [Nat.sub_add_cancel i2] at hs
        have Hz := Lib.hid hz; clear hz
        have Hs := Lib.hid hs; clear hs
        have hlen : (xs.take k).length = k := by rw [List.length_take]; omega
        have Hlen := Lib.hid hlen; clear hlen
        go_wp2_with (at_builtin; refine wpList_clone rfl _ _ rfl g o k c (xs.take k) Hlen.out hg (hc.take k) rfl rfl (by rw [Hlen.out]; omega) ?_)
        intro g1 c1 w1 ho hb
        go_wp2
        go_ret
        have e : trim xs = xs.take k := by unfold trim; rw [He.out, Hs.out]
        rw [e]
        exact GotInts.mk' g1 c1 Hlen.out ho ((below_drewN' w m).trans hb)
    · obtain rfl : k = 0 := by omega
      go_wp2_with (at_builtin; refine wpList_clone rfl _ _ rfl g o 0 c [] rfl hg (hc.take 0) rfl rfl (by simp) ?_)
      intro g1 c1 w1 ho hb
      go_wp2
      go_ret
      have e : trim xs = [] := by unfold trim; rw [He.out]; rfl
      rw [e]
      exact GotInts.mk' g1 c1 rfl ho ((below_drewN' w m).trans hb)
set_option maxHeartbeats 400000 in
theorem spec_TrimPoly_any (g o n c : Nat) (xs : List Int) (w : World) (hn : xs.length = n) (hx : xs.length ≤ 1099511627776) (hcap : n ≤ c) (hg : g < w.heap.size) (hc : Cells w g o xs) :
    Calls Tryz.prog 57 #[(Value.slice (some ⟨g, o, none⟩) n c)] w (GotInts w (trim xs)) := by
  subst hn
  go_enter Tryz.func57, Tryz.ntmps57
  go_wp2
  go_loopw [3] (fun i wr => ∃ k : Nat, k ≤ xs.length ∧ i = .int .i64 k ∧ trimN xs xs.length = trimN xs k ∧ ∃ m, wr = w.drewN m) (fun i _ => (intOf i).toNat)
  case atStart => exact ⟨xs.length, Nat.le_refl _, rfl, rfl, 0, rfl⟩
  case round =>
    obtain ⟨k, hk, rfl, he, m, rfl⟩ := hrel
    have He := Lib.hid he; clear he
    by_cases h0 : 0 < k
    · have d1 : decide ((0 : Int) < (k : Int)) = true := by simp; omega
      have l0 : k - 1 < xs.length := by omega
      have c0 := hc (k - 1) l0
      have i1 : ((k : Int) - 1).toNat = k - 1 := by omega
      have i2 : 1 ≤ k := h0
      by_cases hz : xs[k - 1] = 0
      · have d2 : (xs[k - 1] == 0) = true := by simpa using hz
        have hs := trimN_zero l0 hz
        have Hz := Lib.hid hz; clear hz
        have Hs := Lib.hid hs; clear hs
        go_wp2
        go_roundw
        case rel => exact ⟨k - 1, by omega, by go_num, by rw [He.out, ← Hs.out, Nat.sub_add_cancel i2], m, rfl⟩
        case measure => simp [intOf]; omega
      · have d2 : (xs[k - 1] == 0) = false := by simpa using hz
        have hs := trimN_stay l0 hz
        rw [Nat.sub_add_cancel i2] at hs
        have Hz := Lib.hid hz; clear hz
        have Hs := Lib.hid hs; clear hs
        have hlen : (xs.take k).length = k := by rw [List.length_take]; omega
        have Hlen := Lib.hid hlen; clear hlen
        go_wp2_with (at_builtin; refine wpList_clone rfl _ _ rfl g o k c (xs.take k) Hlen.out hg (hc.take k) rfl rfl (by rw [Hlen.out]; omega) ?_)
        intro g1 c1 w1 ho hb
        go_wp2
        go_ret
        have e : trim xs = xs.take k := by unfold trim; rw [He.out, Hs.out]
        rw [e]
        exact GotInts.mk' g1 c1 Hlen.out ho ((below_drewN' w m).trans hb)
    · obtain rfl : k = 0 := by omega
      go_wp2_with (at_builtin; refine wpList_clone rfl _ _ rfl g o 0 c [] rfl hg (hc.take 0) rfl rfl (by simp) ?_)
      intro g1 c1 w1 ho hb
      go_wp2
      go_ret
      have e : trim xs = [] := by unfold trim; rw [He.out]; rfl
      rw [e]
      exact GotInts.mk' g1 c1 rfl ho ((below_drewN' w m).trans hb)
end Go.Proofs.YtdedkfbiookofaaGreatDoor
