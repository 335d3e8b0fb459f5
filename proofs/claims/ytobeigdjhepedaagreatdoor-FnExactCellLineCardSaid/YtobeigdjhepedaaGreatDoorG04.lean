/- Arguments opened at a parameter: integers, rows, weights with counts, one integer. Orders of points in which one matrix is another one: plain law. Connected parts, by breadth: plain law, by enumeration of zero patterns. Determinants of small matrices, sets of points, finite types: plain law. append of a row to rows of the call's own. Sets of bits, picked matrices: contracts. -/
import Derived.Test.YtobeigdjhepedaaGreatDoorG03
import Derived.Test.YtobeigdjhepedaaGreatDoorG02
import Derived.Test.YtobeigdjhepedaaGreatDoorG01
import Derived.Lib.RabinKarpLaws
namespace Go.Proofs.YtobeigdjhepedaaGreatDoor
set_option maxRecDepth 100000
set_option maxRecDepth 20000
open Go.Joins Go.ChangeShapes Go.WideShapes Go.RowKit Go.Deep
section
variable {H : Type} {enc : TypeId × Value → H} {w : World} {base b0 : Nat} {r : Reach} {v : Value} {d : DataW H} {p : List MemPlace}
theorem argInts_at (hv : Value.okWide Tryz.prog w r b0 28 v) (h : DataW.Trod enc Tryz.prog w base (fun _ => true) true 28 v d p) :
    ∃ a c, ∃ xs : List Int, v = .slice a xs.length c ∧ Hid (ArgInts w a xs) ∧ xs.length ≤ maxLen := by
  obtain ⟨a, l, c, rfl⟩ := okWide_slice Tryz.underlying28 hv
  obtain ⟨fuel, hf⟩ := h
  obtain ⟨a', c', xs, he, h1, h2, -⟩ := argInts_open hf
  exact ⟨a', c', xs, he, h1, h2⟩
theorem argRows_at (hv : Value.okWide Tryz.prog w r b0 22 v) (h : DataW.Trod enc Tryz.prog w base (fun _ => true) true 22 v d p) :
    ∃ a c, ∃ xs : List (List Int), v = .slice a xs.length c ∧ Hid (ArgRows w a xs) ∧ xs.length ≤ maxLen ∧ Hid (∀ j, j < xs.length → (xs.getD j []).length ≤ maxLen) := by
  obtain ⟨a, l, c, rfl⟩ := okWide_slice Tryz.underlying22 hv
  obtain ⟨fuel, hf⟩ := h
  obtain ⟨a', c', xs, he, h1, h2, h3, -⟩ := argRows_open hf
  exact ⟨a', c', xs, he, h1, h2, h3⟩
theorem argInt_at (hv : Value.okWide Tryz.prog w r b0 3 v) (h : DataW.Trod enc Tryz.prog w base (fun _ => true) true 3 v d p) :
    ∃ x : Int, v = .int .i64 x ∧ (Lit.int .i64 x).wf = true := by
  obtain ⟨n, rfl⟩ := okWide_int Tryz.underlying3 hv
  obtain ⟨fuel, hf⟩ := h
  obtain ⟨k, hk, hx⟩ := DataW.trod_int Tryz.underlying3 hf
  simp [Value.cells] at hk
  subst hk
  exact ⟨n, rfl, hx.2⟩
end
end Go.Proofs.YtobeigdjhepedaaGreatDoor
namespace Go.Proofs.YtobeigdjhepedaaGreatDoor
set_option maxRecDepth 100000

def ordStep (n : Nat) (o : List Nat) : List (List Nat) := ((List.range n).filter fun x => !(o.contains x)).map fun x => o ++ [x]
/-- all orders of k of n points -/
def ordsN (n : Nat) : Nat → List (List Nat)
  | 0 => [[]]
  | k + 1 => (ordsN n k).flatMap (ordStep n)
/-- the next point fits -/
def fit (a b : List (List Int)) (o : List Nat) (i : Nat) : Bool := (List.range o.length).all fun j => (ent a i (o.getD j 0) == ent b o.length j) && (ent a (o.getD j 0) i == ent b j o.length)
/-- all orders that begin so and make one matrix the other one -/
def mtF (a b : List (List Int)) : Nat → List Nat → List (List Nat)
  | 0, o => [o]
  | f + 1, o => (List.range a.length).flatMap fun i => if o.contains i || !(fit a b o i) then [] else mtF a b f (o ++ [i])
/-- as far as it goes, one matrix is the other one -/
def agr (a b : List (List Int)) (o : List Nat) : Bool := (List.range o.length).all fun k => (List.range o.length).all fun j => ent a (o.getD k 0) (o.getD j 0) == ent b k j
theorem ordsN_mem {n : Nat} : ∀ {k : Nat} {o : List Nat}, o ∈ ordsN n k → o.length = k ∧ o.Nodup ∧ ∀ x ∈ o, x < n
  | 0, o, h => by
    simp [ordsN] at h
    subst h
    exact ⟨rfl, List.Pairwise.nil, by simp⟩
  | k + 1, o, h => by
    simp only [ordsN, List.mem_flatMap, ordStep, List.mem_map, List.mem_filter, List.mem_range] at h
    obtain ⟨p, hp, x, ⟨hx, hx2⟩, rfl⟩ := h
    obtain ⟨h1, h2, h3⟩ := ordsN_mem hp
    refine ⟨by simp [h1], ?_, fun y hy => ?_⟩
    · rw [List.nodup_append]
      refine ⟨h2, by simp, fun a ha b hb => ?_⟩
      simp at hb hx2
      subst hb
      intro e
      subst e
      exact hx2 ha
    · rcases List.mem_append.1 hy with hy | hy
      · exact h3 y hy
      · simp at hy; subst hy; exact hx
theorem getD_app_lt (o : List Nat) (x : Nat) {j : Nat} (h : j < o.length) : (o ++ [x]).getD j 0 = o.getD j 0 := by
  simp [List.getD, List.getElem?_append_left h]
theorem getD_app_eq (o : List Nat) (x : Nat) : (o ++ [x]).getD o.length 0 = x := by simp [List.getD]
theorem agr_push (a b : List (List Int)) (o : List Nat) (x : Nat) (hd : ent a x x = ent b o.length o.length) : agr a b (o ++ [x]) = (agr a b o && fit a b o x) := by
  rw [Bool.eq_iff_iff]
  unfold agr fit
  simp only [List.all_eq_true, List.mem_range, Bool.and_eq_true, beq_iff_eq, List.length_append, List.length_cons, List.length_nil]
  constructor
  · intro h
    refine ⟨fun k hk j hj => ?_, fun j hj => ⟨?_, ?_⟩⟩
    · have := h k (by omega) j (by omega)
      rwa [getD_app_lt o x hk, getD_app_lt o x hj] at this
    · have := h o.length (by omega) j (by omega)
      rwa [getD_app_eq, getD_app_lt o x hj] at this
    · have := h j (by omega) o.length (by omega)
      rwa [getD_app_eq, getD_app_lt o x hj] at this
  · rintro ⟨h1, h2⟩ k hk j hj
    by_cases ek : k = o.length
    · by_cases ej : j = o.length
      · rw [ek, ej, getD_app_eq]; exact hd
      · rw [ek, getD_app_eq, getD_app_lt o x (by omega)]; exact (h2 j (by omega)).1
    · by_cases ej : j = o.length
      · rw [ej, getD_app_eq, getD_app_lt o x (by omega)]; exact (h2 k (by omega)).2
      · rw [getD_app_lt o x (by omega), getD_app_lt o x (by omega)]; exact h1 k (by omega) j (by omega)
theorem flat_filter {α β : Type} (l : List α) (p : α → Bool) (f : α → List β) : (l.filter p).flatMap f = l.flatMap fun x => if p x then f x else [] := by
  induction l with
  | nil => rfl
  | cons x l ih =>
    rw [List.filter_cons, List.flatMap_cons]
    split
    · rw [List.flatMap_cons, ih]
    · rw [ih]; rfl
theorem mtF_step (a b : List (List Int)) (f : Nat) (o : List Nat) : mtF a b (f + 1) o = ((ordStep a.length o).filter fun q => fit a b o (q.getD o.length 0)).flatMap (mtF a b f) := by
  have e : mtF a b (f + 1) o = (List.range a.length).flatMap fun i => if o.contains i || !(fit a b o i) then [] else mtF a b f (o ++ [i]) := rfl
  rw [e, flat_filter]
  unfold ordStep
  rw [List.flatMap_map, flat_filter]
  congr 1
  funext i
  rw [getD_app_eq]
  cases h1 : o.contains i <;> cases h2 : fit a b o i <;> simp
/-- the orders so far that agree, level by level -/
theorem mtF_all (a b : List (List Int)) (hd : ∀ i j, i < a.length → j < b.length → ent a i i = ent b j j) : ∀ (f k : Nat), k + f ≤ b.length → ((ordsN a.length k).filter (agr a b)).flatMap (mtF a b f) = (ordsN a.length (k + f)).filter (agr a b)
  | 0, k, _ => by
    have : ∀ l : List (List Nat), l.flatMap (mtF a b 0) = l := by
      intro l
      induction l with
      | nil => rfl
      | cons x l ih => rw [List.flatMap_cons, ih]; rfl
    rw [this, Nat.add_zero]
  | f + 1, k, hk => by
    have ih := mtF_all a b hd f (k + 1) (by omega)
    rw [show k + (f + 1) = k + 1 + f by omega, ← ih]
    have e : ∀ l : List (List Nat), (∀ o ∈ l, o.length = k ∧ ∀ x ∈ o, x < a.length) → (l.filter (agr a b)).flatMap (mtF a b (f + 1)) = ((l.flatMap (ordStep a.length)).filter (agr a b)).flatMap (mtF a b f) := by
      intro l
      induction l with
      | nil => intro _; rfl
      | cons o l ihl =>
        intro hl
        have h1 := ihl fun p hp => hl p (by simp [hp])
        obtain ⟨ho, -⟩ := hl o (by simp)
        have hst : (ordStep a.length o).filter (agr a b) = if agr a b o = true then (ordStep a.length o).filter fun q => fit a b o (q.getD o.length 0) else [] := by
          have hq : ∀ q ∈ ordStep a.length o, agr a b q = (agr a b o && fit a b o (q.getD o.length 0)) := by
            intro q hq
            simp only [ordStep, List.mem_map, List.mem_filter, List.mem_range] at hq
            obtain ⟨x, ⟨hx, -⟩, rfl⟩ := hq
            rw [getD_app_eq]
            exact agr_push a b o x (hd x o.length hx (by omega))
          by_cases hg : agr a b o = true
          · rw [if_pos hg]
            refine List.filter_congr fun q hq2 => ?_
            rw [hq q hq2, hg, Bool.true_and]
          · rw [if_neg hg]
            refine List.filter_eq_nil_iff.2 fun q hq2 => ?_
            rw [hq q hq2]
            simp [hg]
        rw [List.flatMap_cons, List.filter_append, List.flatMap_append, hst, ← h1, List.filter_cons]
        by_cases hg : agr a b o = true
        · rw [if_pos hg, if_pos hg, List.flatMap_cons, mtF_step]
        · rw [if_neg hg, if_neg hg]; rfl
    exact e _ fun o ho => ⟨(ordsN_mem ho).1, (ordsN_mem ho).2.2⟩
theorem mtF_orders (a b : List (List Int)) (hl : a.length = b.length) (hd : ∀ i j, i < a.length → j < b.length → ent a i i = ent b j j) : mtF a b b.length [] = (ordsN a.length a.length).filter (agr a b) := by
  have h := mtF_all a b hd b.length 0 (by omega)
  have e : (ordsN a.length 0).filter (agr a b) = [[]] := rfl
  rw [e, Nat.zero_add] at h
  have e2 : ([[]] : List (List Nat)).flatMap (mtF a b b.length) = mtF a b b.length [] := by simp
  rw [e2] at h
  rw [h, hl]
theorem ords24 {n : Nat} (hn : n ≤ 4) : (ordsN n n).length ≤ 24 := by
  have : n = 0 ∨ n = 1 ∨ n = 2 ∨ n = 3 ∨ n = 4 := by omega
  rcases this with rfl | rfl | rfl | rfl | rfl <;> decide
end Go.Proofs.YtobeigdjhepedaaGreatDoor
namespace Go.Proofs.YtobeigdjhepedaaGreatDoor
set_option maxRecDepth 100000

def intsOf (l : List Nat) : List Int := l.map fun i : Nat => (i : Int)
theorem intsOf_length (l : List Nat) : (intsOf l).length = l.length := by simp [intsOf]
theorem intsOf_push (l : List Nat) (k : Nat) : intsOf (l ++ [k]) = intsOf l ++ [(k : Int)] := by simp [intsOf]
theorem intsOf_getD (l : List Nat) (k : Nat) (hk : k < l.length) : (intsOf l).getD k 0 = ((l.getD k 0 : Nat) : Int) := by simp [intsOf, List.getD, hk]

def nbL (c : List (List Int)) (i : Nat) : List Nat := (List.range c.length).filter fun j => j != i && (ent c i j != 0)
def nbTab (c : List (List Int)) : List (List Nat) := (List.range c.length).map (nbL c)
abbrev Bst := List Bool × List Nat
def visitOne (s : Bst) (j : Nat) : Bst := if s.1.getD j false then s else (s.1.set j true, s.2 ++ [j])
def visitAll (s : Bst) (l : List Nat) : Bst := l.foldl visitOne s
/-- the search, where it ends within so many rounds -/
def bfsG (tab : List (List Nat)) : Nat → Nat → Bst → Option Bst
  | 0, k, s => if k < s.2.length then none else some s
  | f + 1, k, s => if k < s.2.length then bfsG tab f (k + 1) (visitAll s (tab.getD (s.2.getD k 0) [])) else some s
def trueAt (seen : List Bool) : List Nat := (List.range seen.length).filter fun k => seen.getD k false
/-- the part of a point, with what is seen at the end -/
def partG (tab : List (List Nat)) (seen : List Bool) (i : Nat) : Option Bst := bfsG tab 5 0 (seen.set i true, [i])
/-- a list sorted by insertion -/
def insN (x : Nat) : List Nat → List Nat
  | [] => [x]
  | y :: l => if x < y then x :: y :: l else y :: insN x l
def sortN (l : List Nat) : List Nat := l.foldl (fun a x => insN x a) []
def partsIG (tab : List (List Nat)) : Nat → Option (List Bool × List (List Nat))
  | 0 => some (List.replicate tab.length false, [])
  | i + 1 => match partsIG tab i with
    | none => none
    | some (seen, out) => if seen.getD i false then some (seen, out) else match partG tab seen i with
      | none => none
      | some (seen', q) => some (seen', out ++ [sortN q])
def partS (tab : List (List Nat)) (i : Nat) : Option (List Nat) := (partG tab (List.replicate tab.length false) i).map fun s => trueAt s.1
def partsSG (tab : List (List Nat)) : Nat → Option (List (List Nat))
  | 0 => some []
  | i + 1 => match partsSG tab i, partS tab i with
    | some out, some p => some (if p.getD 0 0 == i then out ++ [p] else out)
    | _, _ => none
def ascB : List Nat → Bool
  | x :: y :: l => decide (x < y) && ascB (y :: l)
  | _ => true
def goodP (n : Nat) (p : List Nat) : Bool := ascB p && (decide (1 ≤ p.length) && (decide (p.length ≤ 4) && p.all fun x => decide (x < n)))
def chkP (c : List (List Int)) : Bool :=
  match partsIG (nbTab c) c.length, partsSG (nbTab c) c.length with
  | some (_, a), some b => ((a == b) && a.all (goodP c.length)) && (List.range c.length).all fun i => match partS (nbTab c) i with | some p => decide (1 ≤ p.length) && decide (p.length ≤ 4) | none => false
  | _, _ => false
def zo (c : List (List Int)) : List (List Int) := c.map fun r => r.map fun x => if x = 0 then 0 else 1
theorem zo_length (c : List (List Int)) : (zo c).length = c.length := by simp [zo]
theorem ent_zo (c : List (List Int)) (i j : Nat) : ent (zo c) i j = if ent c i j = 0 then 0 else 1 := by
  have key : ∀ o : Option (List Int), ((o.map fun r => r.map fun x : Int => if x = 0 then (0 : Int) else 1).getD [])[j]?.getD 0 = (fun x : Int => if x = 0 then (0 : Int) else 1) ((o.getD [])[j]?.getD 0) := by
    intro o
    cases o with
    | none => simp
    | some r =>
      simp only [Option.map_some, Option.getD_some, List.getElem?_map]
      have k2 : ∀ o : Option Int, (o.map fun x : Int => if x = 0 then (0 : Int) else 1).getD 0 = (fun x : Int => if x = 0 then (0 : Int) else 1) (o.getD 0) := by
        intro o
        cases o <;> simp
      exact k2 _
  unfold ent zo
  simp only [List.getD, List.getElem?_map]
  exact key _
theorem nbTab_zo (c : List (List Int)) : nbTab (zo c) = nbTab c := by
  unfold nbTab
  rw [zo_length]
  apply List.map_congr_left
  intro i _
  unfold nbL
  rw [zo_length]
  apply List.filter_congr
  intro j _
  rw [ent_zo]
  by_cases h : ent c i j = 0
  · simp [h]
  · simp [h]
def zm2 (a : Int) : List (List Int) := [[1, a], [a, 1]]
def zm3 (a b e : Int) : List (List Int) := [[1, a, b], [a, 1, e], [b, e, 1]]
def zm4 (a b d e f g : Int) : List (List Int) := [[1, a, b, d], [a, 1, e, f], [b, e, 1, g], [d, f, g, 1]]
def Z2 : List Int := [0, 1]
theorem chkP1 : chkP [[1]] = true := by kernel_rfl
theorem chkP2 : (Z2.all fun a => chkP (zm2 a)) = true := by kernel_rfl
theorem chkP3 : (Z2.all fun a => Z2.all fun b => Z2.all fun e => chkP (zm3 a b e)) = true := by kernel_rfl
theorem chkP4 : (Z2.all fun a => Z2.all fun b => Z2.all fun d => Z2.all fun e => Z2.all fun f => Z2.all fun g => chkP (zm4 a b d e f g)) = true := by kernel_rfl

theorem lst1 {α : Type} {l : List α} (h : l.length = 1) : ∃ a, l = [a] := by
  match l, h with
  | [a], _ => exact ⟨a, rfl⟩
theorem lst2 {α : Type} {l : List α} (h : l.length = 2) : ∃ a b, l = [a, b] := by
  match l, h with
  | [a, b], _ => exact ⟨a, b, rfl⟩
theorem lst3 {α : Type} {l : List α} (h : l.length = 3) : ∃ a b c, l = [a, b, c] := by
  match l, h with
  | [a, b, c], _ => exact ⟨a, b, c, rfl⟩
theorem lst4 {α : Type} {l : List α} (h : l.length = 4) : ∃ a b c d, l = [a, b, c, d] := by
  match l, h with
  | [a, b, c, d], _ => exact ⟨a, b, c, d, rfl⟩
theorem chkP_zo (c : List (List Int)) (h : chkP (zo c) = true) : chkP c = true := by
  unfold chkP at h ⊢
  rw [nbTab_zo, zo_length] at h
  exact h
theorem z_in (x : Int) : (if x = 0 then (0 : Int) else 1) ∈ Z2 := by split <;> simp [Z2]
theorem dg {c : List (List Int)} (hC : IsC c) {i : Nat} (hi : i < c.length) : ent c i i = 2 := by
  have := hC.2.2.2 i hi i hi
  unfold EntOk at this
  rwa [if_pos rfl] at this
theorem zsym {c : List (List Int)} (hC : IsC c) {i j : Nat} (hi : i < c.length) (hj : j < c.length) (hne : i ≠ j) : (if ent c i j = 0 then (0 : Int) else 1) = if ent c j i = 0 then 0 else 1 := by
  have := hC.2.2.2 i hi j hj
  unfold EntOk at this
  rw [if_neg hne] at this
  have h := this.2.2
  by_cases e : ent c i j = 0
  · have : ent c j i = 0 := by simpa [e] using h.symm
    simp [e, this]
  · have : ¬ ent c j i = 0 := by intro e2; apply e; simpa [e2] using h
    simp [e, this]
theorem chkP_all {c : List (List Int)} (hC : IsC c) : chkP c = true := by
  apply chkP_zo
  have : c.length = 1 ∨ c.length = 2 ∨ c.length = 3 ∨ c.length = 4 := by have := hC.1; have := hC.2.1; omega
  rcases this with hn | hn | hn | hn
  · obtain ⟨r0, rfl⟩ := lst1 hn
    obtain ⟨x00, rfl⟩ := lst1 (hC.2.2.1 0 (by simp))
    have d0 : x00 = 2 := dg hC (i := 0) (by simp)
    subst d0
    exact chkP1
  · obtain ⟨r0, r1, rfl⟩ := lst2 hn
    obtain ⟨x00, x01, rfl⟩ := lst2 (hC.2.2.1 0 (by simp))
    obtain ⟨x10, x11, rfl⟩ := lst2 (hC.2.2.1 1 (by simp))
    have d0 : x00 = 2 := dg hC (i := 0) (by simp)
    have d1 : x11 = 2 := dg hC (i := 1) (by simp)
    subst d0; subst d1
    have s10 : (if x10 = 0 then (0 : Int) else 1) = if x01 = 0 then 0 else 1 := zsym hC (i := 1) (j := 0) (by simp) (by simp) (by decide)
    have e : zo [[2, x01], [x10, 2]] = zm2 (if x01 = 0 then 0 else 1) := by simp [zo, zm2, s10]
    rw [e]
    exact List.all_eq_true.1 chkP2 _ (z_in x01)
  · obtain ⟨r0, r1, r2, rfl⟩ := lst3 hn
    obtain ⟨x00, x01, x02, rfl⟩ := lst3 (hC.2.2.1 0 (by simp))
    obtain ⟨x10, x11, x12, rfl⟩ := lst3 (hC.2.2.1 1 (by simp))
    obtain ⟨x20, x21, x22, rfl⟩ := lst3 (hC.2.2.1 2 (by simp))
    have d0 : x00 = 2 := dg hC (i := 0) (by simp)
    have d1 : x11 = 2 := dg hC (i := 1) (by simp)
    have d2 : x22 = 2 := dg hC (i := 2) (by simp)
    subst d0; subst d1; subst d2
    have s10 : (if x10 = 0 then (0 : Int) else 1) = if x01 = 0 then 0 else 1 := zsym hC (i := 1) (j := 0) (by simp) (by simp) (by decide)
    have s20 : (if x20 = 0 then (0 : Int) else 1) = if x02 = 0 then 0 else 1 := zsym hC (i := 2) (j := 0) (by simp) (by simp) (by decide)
    have s21 : (if x21 = 0 then (0 : Int) else 1) = if x12 = 0 then 0 else 1 := zsym hC (i := 2) (j := 1) (by simp) (by simp) (by decide)
    have e : zo [[2, x01, x02], [x10, 2, x12], [x20, x21, 2]] = zm3 (if x01 = 0 then 0 else 1) (if x02 = 0 then 0 else 1) (if x12 = 0 then 0 else 1) := by simp [zo, zm3, s10, s20, s21]
    rw [e]
    exact List.all_eq_true.1 (List.all_eq_true.1 (List.all_eq_true.1 chkP3 _ (z_in x01)) _ (z_in x02)) _ (z_in x12)
  · obtain ⟨r0, r1, r2, r3, rfl⟩ := lst4 hn
    obtain ⟨x00, x01, x02, x03, rfl⟩ := lst4 (hC.2.2.1 0 (by simp))
    obtain ⟨x10, x11, x12, x13, rfl⟩ := lst4 (hC.2.2.1 1 (by simp))
    obtain ⟨x20, x21, x22, x23, rfl⟩ := lst4 (hC.2.2.1 2 (by simp))
    obtain ⟨x30, x31, x32, x33, rfl⟩ := lst4 (hC.2.2.1 3 (by simp))
    have d0 : x00 = 2 := dg hC (i := 0) (by simp)
    have d1 : x11 = 2 := dg hC (i := 1) (by simp)
    have d2 : x22 = 2 := dg hC (i := 2) (by simp)
    have d3 : x33 = 2 := dg hC (i := 3) (by simp)
    subst d0; subst d1; subst d2; subst d3
    have s10 : (if x10 = 0 then (0 : Int) else 1) = if x01 = 0 then 0 else 1 := zsym hC (i := 1) (j := 0) (by simp) (by simp) (by decide)
    have s20 : (if x20 = 0 then (0 : Int) else 1) = if x02 = 0 then 0 else 1 := zsym hC (i := 2) (j := 0) (by simp) (by simp) (by decide)
    have s30 : (if x30 = 0 then (0 : Int) else 1) = if x03 = 0 then 0 else 1 := zsym hC (i := 3) (j := 0) (by simp) (by simp) (by decide)
    have s21 : (if x21 = 0 then (0 : Int) else 1) = if x12 = 0 then 0 else 1 := zsym hC (i := 2) (j := 1) (by simp) (by simp) (by decide)
    have s31 : (if x31 = 0 then (0 : Int) else 1) = if x13 = 0 then 0 else 1 := zsym hC (i := 3) (j := 1) (by simp) (by simp) (by decide)
    have s32 : (if x32 = 0 then (0 : Int) else 1) = if x23 = 0 then 0 else 1 := zsym hC (i := 3) (j := 2) (by simp) (by simp) (by decide)
    have e : zo [[2, x01, x02, x03], [x10, 2, x12, x13], [x20, x21, 2, x23], [x30, x31, x32, 2]] = zm4 (if x01 = 0 then 0 else 1) (if x02 = 0 then 0 else 1) (if x03 = 0 then 0 else 1) (if x12 = 0 then 0 else 1) (if x13 = 0 then 0 else 1) (if x23 = 0 then 0 else 1) := by simp [zo, zm4, s10, s20, s30, s21, s31, s32]
    rw [e]
    exact List.all_eq_true.1 (List.all_eq_true.1 (List.all_eq_true.1 (List.all_eq_true.1 (List.all_eq_true.1 (List.all_eq_true.1 chkP4 _ (z_in x01)) _ (z_in x02)) _ (z_in x03)) _ (z_in x12)) _ (z_in x13)) _ (z_in x23)

/-- the parts, of the program's search and of the reference's -/
theorem parts_of {c : List (List Int)} (hC : IsC c) : ∃ seen P, partsIG (nbTab c) c.length = some (seen, P) ∧ partsSG (nbTab c) c.length = some P ∧ (∀ p ∈ P, goodP c.length p = true) ∧ ∀ i, i < c.length → ∃ p, partS (nbTab c) i = some p ∧ 1 ≤ p.length ∧ p.length ≤ 4 := by
  have h := chkP_all hC
  unfold chkP at h
  split at h
  · rename_i seen a b h1 h2
    rw [Bool.and_eq_true, Bool.and_eq_true] at h
    have e : a = b := by simpa using h.1.1
    subst e
    refine ⟨seen, a, h1, h2, fun p hp => List.all_eq_true.1 h.1.2 p hp, fun i hi => ?_⟩
    have h3 := List.all_eq_true.1 h.2 i (List.mem_range.2 hi)
    split at h3
    · rename_i p hp
      rw [Bool.and_eq_true, decide_eq_true_eq, decide_eq_true_eq] at h3
      exact ⟨p, hp, h3⟩
    · simp at h3
  · simp at h
end Go.Proofs.YtobeigdjhepedaaGreatDoor
namespace Go.Proofs.YtobeigdjhepedaaGreatDoor
set_option maxRecDepth 100000

def sumTo : Nat → (Nat → Int) → Int
  | 0, _ => 0
  | k + 1, g => sumTo k g + g k
def sgn (j : Nat) : Int := if j % 2 = 0 then 1 else -1
def cutAt (row : List Int) (j : Nat) : List Int := row.take j ++ row.drop (j + 1)
def minorOf (m : List (List Int)) (j : Nat) : List (List Int) := (m.drop 1).map fun row => cutAt row j
def det : Nat → List (List Int) → Int
  | 0, _ => 1
  | n + 1, m => sumTo (n + 1) fun j => sgn j * ent m 0 j * det n (minorOf m j)
/-- a square matrix of small numbers -/
def Sq (n : Nat) (m : List (List Int)) : Prop := m.length = n ∧ (∀ i, i < n → (m.getD i []).length = n) ∧ ∀ i j, -3 ≤ ent m i j ∧ ent m i j ≤ 3
def detB : Nat → Int
  | 0 => 1
  | n + 1 => (n + 1) * (3 * detB n)

theorem sumTo_bound (g : Nat → Int) (b : Int) (k : Nat) (h : ∀ j, j < k → -b ≤ g j ∧ g j ≤ b) : -(k * b) ≤ sumTo k g ∧ sumTo k g ≤ k * b := by
  induction k with
  | zero => simp [sumTo]
  | succ k ih =>
    have h1 := ih (fun j hj => h j (by omega))
    have h2 := h k (by omega)
    simp only [sumTo]
    have e : ((k + 1 : Nat) : Int) * b = k * b + b := by rw [Int.natCast_add, Int.add_mul]; simp
    rw [e]; omega
theorem cutAt_length {row : List Int} {j : Nat} (hj : j < row.length) : (cutAt row j).length = row.length - 1 := by
  simp [cutAt]; omega
theorem cutAt_getD (row : List Int) (j k : Nat) : (cutAt row j).getD k 0 = if k < j ∧ k < row.length then row.getD k 0 else row.getD (j + 1 + (k - min j row.length)) 0 := by
  unfold cutAt
  by_cases h : k < j ∧ k < row.length
  · rw [if_pos h]
    simp only [List.getD]
    rw [List.getElem?_append_left (by simp; omega), List.getElem?_take, if_pos h.1]
  · rw [if_neg h]
    simp only [List.getD]
    rw [List.getElem?_append_right (by simp; omega), List.getElem?_drop]
    simp only [List.length_take]
theorem minorOf_sq {n : Nat} {m : List (List Int)} {j : Nat} (h : Sq (n + 1) m) (hj : j < n + 1) : Sq n (minorOf m j) := by
  obtain ⟨h1, h2, h3⟩ := h
  have hg : ∀ i, (minorOf m j).getD i [] = cutAt (m.getD (i + 1) []) j := by
    intro i
    unfold minorOf
    simp only [List.getD, List.getElem?_map, List.getElem?_drop]
    rw [Nat.add_comm 1 i]
    cases m[i + 1]? with
    | none => simp [cutAt]
    | some r => simp
  refine ⟨by simp [minorOf, h1], fun i hi => ?_, fun i k => ?_⟩
  · rw [hg, cutAt_length (by rw [h2 _ (by omega)]; exact hj), h2 _ (by omega)]; omega
  · unfold ent
    rw [hg, cutAt_getD]
    split
    · exact h3 _ _
    · exact h3 _ _
theorem det_bound : ∀ (n : Nat) (m : List (List Int)), Sq n m → -(detB n) ≤ det n m ∧ det n m ≤ detB n := by
  intro n
  induction n with
  | zero => intro m _; simp [det, detB]
  | succ n ih =>
    intro m hm
    have hterm : ∀ j, j < n + 1 → -(3 * detB n) ≤ sgn j * ent m 0 j * det n (minorOf m j) ∧ sgn j * ent m 0 j * det n (minorOf m j) ≤ 3 * detB n := by
      intro j hj
      have h1 := ih _ (minorOf_sq hm hj)
      have h2 := hm.2.2 0 j
      generalize det n (minorOf m j) = d at *
      generalize ent m 0 j = x at *
      generalize detB n = D at *
      have hx : x = -3 ∨ x = -2 ∨ x = -1 ∨ x = 0 ∨ x = 1 ∨ x = 2 ∨ x = 3 := by omega
      unfold sgn
      split <;> rcases hx with rfl | rfl | rfl | rfl | rfl | rfl | rfl <;> omega
    have := sumTo_bound _ _ (n + 1) hterm
    simpa [det, detB] using this
end Go.Proofs.YtobeigdjhepedaaGreatDoor
namespace Go.Proofs.YtobeigdjhepedaaGreatDoor
set_option maxRecDepth 100000
open Go.RowKit

theorem rowCell (r : RowRef) : (rowVal r).oneCell' = true := rfl
theorem OwnV.new {w : World} {B : Nat} {E : TypeId} (v : Value) (_hv : v.oneCell' = true) (hB : B ≤ w.heap.size) : OwnV (w.alloc (.cells #[v] E)) B E w.heap.size 1 [v] :=
  World.ownsRow_lit w #[v] 1 hB (by decide) rfl

theorem run_append_row {w : World} {B g cap : Nat} {vs : List Value} (hown : OwnV w B 28 g cap vs) (v : Value) (hv : v.oneCell' = true) (hlen : vs.length + 1 ≤ 1048576) (ty : TypeId) :
    ∃ g' cap' w', (Builtin.append_ #[22, 22] ty #[(Value.slice (some ⟨g, 0, none⟩) vs.length cap), (Value.slice (some ⟨w.heap.size, 0, none⟩) 1 1)]).run Tryz.prog (w.alloc (.cells #[v] 28)) = .ok (Value.slice (some ⟨g', 0, none⟩) (vs.length + 1) cap') w' ∧
      OwnV w' B 28 g' cap' (vs ++ [v]) ∧ w.grownBy w' (some g) ∧ (g' = g ∨ w.heap.size < g') := by
  obtain ⟨i0, hi, hz0, hz1, hz2⟩ := info_parts infoRow
  have hBg := hown.base
  have hlt := hown.lt
  have hown' : OwnV (w.alloc (.cells #[v] 28)) B 28 g cap vs := hown.alloc _
  have hcell : (w.alloc (.cells #[v] 28)).cell? ⟨w.heap.size, 0, none⟩ = some v := (OwnV.new (B := w.heap.size) v hv (Nat.le_refl _)).cell 0 (by simp)
  have hnews : ∀ j u, ([v] : List Value)[j]? = some u → (w.alloc (.cells #[v] 28)).cell? ((⟨w.heap.size, 0, none⟩ : Addr).add j) = some u := by
    intro j u hu
    have hj : j = 0 := by have := (List.getElem?_eq_some_iff.1 hu).1; simp at this; exact this
    subst hj
    simp at hu; subst hu
    rw [Addr.add_lit]; exact hcell
  have h1 : ∀ u ∈ ([v] : List Value), u.oneCell' = true := by simp [hv]
  have hl : ([v] : List Value).length = 1 * i0.size := by simp [hz1]
  obtain ⟨v', w', hr, ho, hg, -⟩ := run_append_own (P := Tryz.prog) (w.alloc (.cells #[v] 28)) B 22 ty 28 i0 (.slice none 0 0) 1 24 Tryz.underlying22 hi hz0 hz1 hz2 rfl (by decide) _ vs.length _ hown' ⟨w.heap.size, 0, none⟩ 1 1
    [v] (by simp) hnews h1 (by unfold maxLen; omega) (by omega) (by simp; omega)
  have hgr : w.grownBy w' (some g) := ⟨hg.os, hg.tape, hg.output, Nat.le_trans (by simp) hg.size, fun k hk hne => (hg.block k (by simp; omega) hne).trans (Below.heap_alloc _ _ _ hk)⟩
  have fin : ∀ g' cap', v' = (Value.slice (some ⟨g', 0, none⟩) (vs.length + 1) cap') → (g' = g ∨ w.heap.size < g') → ∃ g' cap' w', (Builtin.append_ #[22, 22] ty #[(Value.slice (some ⟨g, 0, none⟩) vs.length cap), (Value.slice (some ⟨w.heap.size, 0, none⟩) 1 1)]).run Tryz.prog (w.alloc (.cells #[v] 28)) = .ok (Value.slice (some ⟨g', 0, none⟩) (vs.length + 1) cap') w' ∧
      OwnV w' B 28 g' cap' (vs ++ [v]) ∧ w.grownBy w' (some g) ∧ (g' = g ∨ w.heap.size < g') := by
    intro g' cap' hv' hor
    subst hv'
    refine ⟨g', cap', w', hr, ?_, hgr, hor⟩
    unfold OwnV
    rw [List.length_append]
    exact ho
  by_cases hroom : vs.length + 1 ≤ cap
  · rcases hown'.2 with ⟨h', _⟩ | ⟨g1, cap1, cur, hv', hb, hh, hn, hm, hs, htk⟩
    · simp at h'
    simp only [Value.slice.injEq, Option.some.injEq, Addr.mk.injEq, and_true, true_and] at hv'
    obtain ⟨rfl, rfl⟩ := hv'
    have hr2 := run_append_room (P := Tryz.prog) (w.alloc (.cells #[v] 28)) 22 ty 28 i0 Tryz.underlying22 hi g vs.length cap cur hh ⟨w.heap.size, 0, none⟩ 1 1 [v] hl hnews h1 hroom (by rw [hz1] at *; simp; omega)
    rw [hr2] at hr
    simp only [Result.ok.injEq] at hr
    exact fin g cap hr.1.symm (.inl rfl)
  · have hr2 := run_append_grow (P := Tryz.prog) (w.alloc (.cells #[v] 28)) 22 ty 28 i0 (.slice none 0 0) Tryz.underlying22 hi hz0 ⟨g, 0, none⟩ vs.length cap vs (by simp [hz1]) (World.ownsRow.cells hown' rfl) ⟨w.heap.size, 0, none⟩ 1 1 _ hl hnews (by omega) (by omega) (growslice_fits (by omega) (by rw [hz2]; omega))
    rw [hr2] at hr
    simp only [Result.ok.injEq] at hr
    exact fin _ _ hr.1.symm (.inr (by simp))

theorem OwnRows.push {w w' : World} {B g cap g' cap' : Nat} {rs : List RowRef} {r : RowRef} (h : OwnRows w B g cap rs) (hr : Own w B r.1 r.2.1 r.2.2) (hne : ∀ s ∈ rs, s.1 ≠ r.1)
    (ho : OwnV w' B 28 g' cap' (rs.map rowVal ++ [rowVal r])) (hg : w.grownBy w' (some g)) : OwnRows w' B g' cap' (rs ++ [r]) := by
  refine ⟨by rw [List.map_append]; exact ho, ?_⟩
  have hg1 : ∀ s ∈ rs, some s.1 ≠ some g := fun s hs e => h.1.ne (h.2.1 s hs).toV (by decide) (Option.some.inj e).symm
  have hg2 : some r.1 ≠ some g := fun e => h.1.ne hr.toV (by decide) (Option.some.inj e).symm
  exact (Inner.append (w := w') (r := r) ⟨fun s hs => (h.2.1 s hs).grown hg (hg1 s hs), h.2.2⟩ (hr.grown hg hg2) hne)

/-- 'append(out, row)' -/
theorem wpList_append_row {w : World} {ops : Array Oper} {rest : List Oper} {o : Oper} {a : Act} {Q : Exit → Act → World → Prop} (hgd : o.guard = none) (s x : Operand)
    (ho : o.op = .call { callee := .builtin .append, args := #[s, x], argTypes := #[22, 22] })
    (B g cap n H : Nat) (rs : List RowRef) (r : RowRef) (W : World) (hn : rs.length = n) (hW : W = w.alloc (.cells #[rowVal r] 28)) (hH : w.heap.size = H) (hown : OwnRows w B g cap rs) (hr : Own w B r.1 r.2.1 r.2.2) (hne : ∀ s ∈ rs, s.1 ≠ r.1)
    (hs : a.eval s = (Value.slice (some ⟨g, 0, none⟩) n cap)) (hx : a.eval x = (Value.slice (some ⟨H, 0, none⟩) 1 1)) (hlen : n + 1 ≤ 1048576)
    (h : ∀ g' cap' w', OwnRows w' B g' cap' (rs ++ [r]) → w.grownBy w' (some g) → (g' = g ∨ w.heap.size < g') → wpList Tryz.prog ops Q rest (a.put o.dst (Value.slice (some ⟨g', 0, none⟩) (n + 1) cap')) w') :
    wpList Tryz.prog ops Q (o :: rest) a W := by
  subst hn; subst hW; subst hH
  have hl : (rs.map rowVal).length = rs.length := by simp
  obtain ⟨g', cap', w', hrun, h2, h3, h4⟩ := run_append_row hown.1 (rowVal r) rfl (by rw [hl]; exact hlen) o.type
  rw [hl] at hrun
  refine wpList_plain hgd fun K hK => ?_
  unfold Oper.wp execOp
  simp only [ho, resolve, invoke, builtin, Sem.run_bind, Sem.run_pure, Result.andThen_ok, List.map_toArray, List.map_cons, List.map_nil, hs, hx, hrun]
  exact hK _ _ (h g' cap' w' (hown.push hr hne h2 h3) h3 h4)
theorem OwnRows.empty {w : World} {B : Nat} (hB : B ≤ w.heap.size) : OwnRows (w.alloc (.cells #[] 28)) B w.heap.size 0 [] :=
  ⟨World.ownsRow_lit w #[] 0 hB (by decide) rfl, ⟨by simp, by simp⟩⟩
end Go.Proofs.YtobeigdjhepedaaGreatDoor
namespace Go.Proofs.YtobeigdjhepedaaGreatDoor
set_option maxRecDepth 100000
open Go.RowKit

def setNat (m t : Nat) : List Nat := (List.range t).filter fun i => decide (m / 2 ^ i % 2 = 1)
def setTo (m t : Nat) : List Int := (setNat m t).map fun i : Nat => (i : Int)
def setL (m : Nat) : List Int := setTo m 4
theorem setNat_succ (m t : Nat) : setNat m (t + 1) = if m / 2 ^ t % 2 = 1 then setNat m t ++ [t] else setNat m t := by
  unfold setNat
  rw [List.range_succ, List.filter_append]
  split
  · rename_i h; simp [h]
  · rename_i h; simp [h]
theorem setTo_one {m t : Nat} (h : m / 2 ^ t % 2 = 1) : setTo m (t + 1) = setTo m t ++ [(t : Int)] := by
  unfold setTo; rw [setNat_succ, if_pos h]; simp
theorem setTo_zero {m t : Nat} (h : ¬ m / 2 ^ t % 2 = 1) : setTo m (t + 1) = setTo m t := by
  unfold setTo; rw [setNat_succ, if_neg h]
theorem setTo_len (m t : Nat) : (setTo m t).length ≤ t := by
  unfold setTo setNat
  rw [List.length_map]
  exact Nat.le_trans (List.length_filter_le _ _) (by simp)
theorem setTo_stop {m t : Nat} (h : m / 2 ^ t = 0) : ∀ k, setTo m (t + k) = setTo m t := by
  intro k
  induction k with
  | zero => rfl
  | succ k ih =>
    rw [← Nat.add_assoc, setTo_zero, ih]
    have : m / 2 ^ (t + k) = 0 := by
      rw [Nat.pow_add, ← Nat.div_div_eq_div_mul, h]; simp
    rw [this]; decide
theorem and1 {q : Nat} (hq : q ≤ 32) : bits BinOp.and IntKind.i64 (q : Int) 1 = ((q % 2 : Nat) : Int) := by
  rw [and_one _ (by omega)]
theorem and1_at (m t : Nat) (hm : m ≤ 15) : bits BinOp.and IntKind.i64 ((m : Int) / 2 ^ t) 1 = ((m / 2 ^ t % 2 : Nat) : Int) := by
  have e : ((m : Int) / 2 ^ t) = ((m / 2 ^ t : Nat) : Int) := by simp
  have h : m / 2 ^ t ≤ m := Nat.div_le_self _ _
  rw [e, and1 (by omega)]

set_option maxHeartbeats 1000000 in
theorem impl_setOf_any (m : Nat) (w : World) (hm : m ≤ 15) : Calls Tryz.prog 153 #[.int .i64 m] w (GotInts w (setL m)) := by
  go_enter Tryz.func153, Tryz.ntmps153
  go_wp2
  go_loopw [3, 4] (fun s i wr => ∃ t g' c' n' : Nat, t ≤ 4 ∧ i = .int .i64 t ∧ s = (Value.slice (some ⟨g', 0, none⟩) n' c') ∧ Hid ((setTo m t).length = n') ∧ Own wr w.heap.size g' c' (setTo m t) ∧ Below w.heap.size w wr) (fun _ i _ => 4 - (intOf i).toNat)
  case atStart => exact ⟨0, w.heap.size, 0, 0, by omega, rfl, rfl, rfl, Own.empty (w := w) (Nat.le_refl _), (Below.refl _ _).alloc (Nat.le_refl _) _⟩
  case round =>
    obtain ⟨t, g', c', n', ht, rfl, rfl, hn, ho, hb⟩ := hrel
    have hand := and1_at m t hm
    have hle := setTo_len m t
    rw [hn.out] at hle
    have eI : ((m : Int) / 2 ^ t) = ((m / 2 ^ t : Nat) : Int) := by simp
    by_cases hpos : 0 < m / 2 ^ t
    · have ht4 : t < 4 := by
        rcases Nat.lt_or_ge t 4 with h | h
        · exact h
        · obtain rfl : t = 4 := by omega
          have : m / 2 ^ 4 = 0 := by omega
          omega
      have Ht4 := Lib.hid ht4
      have hposI : (0 : Int) < (m : Int) / 2 ^ t := by rw [eI]; omega
      by_cases hbit : m / 2 ^ t % 2 = 1
      · rw [hbit] at hand
        have hS := setTo_one hbit
        have HS := Lib.hid hS
        clear hS eI hpos hbit
        go_wp2_with (at_builtin; refine wpList_append_int_n rfl _ _ rfl w.heap.size g' c' n' (setTo m t) (t : Int) hn.out ho rfl rfl (by omega) ?_)
        intro g2 c2 w2 ho2 hg2 _
        go_wp2
        go_roundw
        case rel =>
          rw [← HS.out] at ho2
          exact ⟨t + 1, g2, c2, n' + 1, by omega, by go_num, rfl, by show _ = _; rw [HS.out, List.length_append, hn.out]; rfl, ho2, hb.grown hg2 hb.size (by intro j hj; cases hj; exact ho.base)⟩
        case measure => simp [intOf]; omega
      · have hb0 : m / 2 ^ t % 2 = 0 := by omega
        rw [hb0] at hand
        have hS := setTo_zero hbit
        have HS := Lib.hid hS
        clear hS eI hpos hbit hb0
        go_wp2
        go_roundw
        case rel => exact ⟨t + 1, g', c', n', by have := Ht4.out; omega, by go_num, rfl, by show _ = _; rw [HS.out]; exact hn.out, by rw [HS.out]; exact ho, hb⟩
        case measure => have := Ht4.out; simp [intOf]; omega
    · have hz : m / 2 ^ t = 0 := Nat.eq_zero_of_not_pos hpos
      have hzI : (m : Int) / 2 ^ t = 0 := by rw [eI, hz]; rfl
      have hS : setL m = setTo m t := by
        have := setTo_stop hz (4 - t)
        have h4 : t + (4 - t) = 4 := by omega
        rw [h4] at this
        exact this
      have HS := Lib.hid hS
      clear hS eI hpos hz hand
      go_wp2
      go_ret
      have hSS := HS.out
      rw [hSS]
      exact GotInts.mk' g' c' hn.out ho hb

def pickRow (c : List (List Int)) (i : Int) (s : List Int) : List Int := s.map fun j => ent c i.toNat j.toNat
def pickL (c : List (List Int)) (s : List Int) : List (List Int) := s.map fun i => pickRow c i s
theorem contents_push (rs : List RowRef) (r : RowRef) : contents (rs ++ [r]) = contents rs ++ [r.2.2] := by simp [contents]
theorem take_map_succ {α : Type} (f : Int → α) (s : List Int) (t : Nat) (ht : t < s.length) : (s.take (t + 1)).map f = (s.take t).map f ++ [f (s.getD t 0)] := by
  rw [List.take_succ_eq_append_getElem ht, List.map_append]; simp [List.getD, ht]

set_option maxHeartbeats 2000000 in
theorem impl_picked_any (gc oc n cc g o m cs : Nat) (c : List (List Int)) (s : List Int) (w : World) (hn : c.length = n) (hm : s.length = m) (hs4 : s.length ≤ 4) (hrl : ∀ j, j < c.length → (c.getD j []).length = c.length)
    (hs : ∀ t, t < s.length → 0 ≤ s.getD t 0 ∧ s.getD t 0 < c.length) (hgc : gc < w.heap.size) (hg : g < w.heap.size) (hr : Rows2 w gc oc c) (hc : Cells w g o s) :
    Calls Tryz.prog 133 #[(Value.slice (some ⟨gc, oc, none⟩) n cc), (Value.slice (some ⟨g, o, none⟩) m cs)] w (GotRows w (pickL c s)) := by
  subst hn; subst hm
  go_enter Tryz.func133, Tryz.ntmps133
  go_wp2
  go_loopw [5, 14] (fun x i wr => ∃ (t g' c' : Nat) (rs : List RowRef), t ≤ s.length ∧ i = .int .i64 t ∧ x = (Value.slice (some ⟨g', 0, none⟩) t c') ∧ Hid (rs.length = t) ∧ Hid (contents rs = (s.take t).map fun i => pickRow c i s) ∧ OwnRows wr w.heap.size g' c' rs ∧ Below w.heap.size w wr) (fun _ i _ => s.length - (intOf i).toNat)
  case atStart => exact ⟨0, w.heap.size, 0, [], Nat.zero_le _, rfl, rfl, rfl, rfl, OwnRows.empty (Nat.le_refl _), (Below.refl _ _).alloc (Nat.le_refl _) _⟩
  case round =>
    obtain ⟨t, g', c', rs, ht, rfl, rfl, hrs, hcont, ho, hb⟩ := hrel
    by_cases hlt : t < s.length
    · have p1 := hc.below hb hg t hlt
      have hst := hs t hlt
      have htk := take_map_succ (fun i => pickRow c i s) s t hlt
      obtain ⟨iN, hiN⟩ : ∃ iN : Nat, s.getD t 0 = iN := ⟨(s.getD t 0).toNat, by omega⟩
      rw [hiN] at p1 hst htk
      have hic : iN < c.length := by omega
      have Htk := Lib.hid htk; clear htk hst hiN
      obtain ⟨wo, rfl⟩ : ∃ wo : World, wo = wr := ⟨_, rfl⟩
      go_wp2
      go_loopw [8, 21] (fun x i wr => ∃ k gr cr : Nat, k ≤ s.length ∧ i = .int .i64 k ∧ x = (Value.slice (some ⟨gr, 0, none⟩) k cr) ∧ Own wr wo.heap.size gr cr (pickRow c iN (s.take k)) ∧ Below wo.heap.size wo wr) (fun _ i _ => s.length - (intOf i).toNat)
      case atStart => exact ⟨0, wo.heap.size, 0, Nat.zero_le _, rfl, rfl, Own.empty (Nat.le_refl _), (Below.refl _ _).alloc (Nat.le_refl _) _⟩
      case round =>
        obtain ⟨k, gr, cr, hk, rfl, rfl, hor, hb2⟩ := hrel
        have hbb : Below w.heap.size w wr := hb.trans (hb2.mono hb.size)
        by_cases hltk : k < s.length
        · have p2 := hc.below hbb hg k hltk
          have hsk := hs k hltk
          have htk2 := take_map_succ (fun j => ent c iN j.toNat) s k hltk
          obtain ⟨jN, hjN⟩ : ∃ jN : Nat, s.getD k 0 = jN := ⟨(s.getD k 0).toNat, by omega⟩
          rw [hjN] at p2 hsk htk2
          rw [Int.toNat_natCast] at htk2
          have hjc : jN < c.length := by omega
          have Htk2 := Lib.hid htk2; clear htk2 hsk hjN p1
          obtain ⟨ga, oa, ca, q1, q2, q3, q4⟩ := hr.below hbb hgc iN hic
          have hri := hrl iN hic
          have e2 := q4 jN (by rw [hri]; exact hjc)
          rw [hri] at q1
          have hee : (c.getD iN []).getD jN 0 = ent c iN jN := rfl
          rw [hee] at e2
          have hpl : (pickRow c iN (s.take k)).length = k := by simp [pickRow]; omega
          have Hpl := Lib.hid hpl; clear hpl hri hee
          generalize ent c iN jN = y at *
          go_wp2_with (at_builtin; refine wpList_append_int_n rfl _ _ rfl wo.heap.size gr cr k (pickRow c iN (s.take k)) y Hpl.out hor rfl rfl (by omega) ?_)
          intro g3 c3 w3 ho3 hg3 _
          go_wp2
          go_roundw
          case rel =>
            refine ⟨k + 1, g3, c3, by omega, by go_num, rfl, ?_, hb2.grown hg3 hb2.size (by intro j hj; cases hj; exact hor.base)⟩
            have := Htk2.out
            have e : pickRow c iN (s.take (k + 1)) = pickRow c iN (s.take k) ++ [y] := this
            rw [e]; exact ho3
          case measure => simp [intOf]; omega
        · obtain rfl : k = s.length := by omega
          rw [List.take_of_length_le (Nat.le_refl _)] at hor
          have hpl : (pickRow c iN s).length = s.length := by simp [pickRow]
          have ho2 := ho.below (hb2.mono (Nat.le_refl _))
          have hne : ∀ r ∈ rs, r.1 ≠ gr := fun r hr => by have h1 := (ho.2.1 r hr).lt; have h2 := hor.base; omega
          have hor2 := hor.mono hb.size
          have hrow : rowVal (gr, cr, pickRow c iN s) = (Value.slice (some ⟨gr, 0, none⟩) s.length cr) := by unfold rowVal; rw [hpl]
          clear p1 hpl
          go_wp2_with (at_builtin; refine wpList_append_row rfl _ _ rfl w.heap.size g' c' t wr.heap.size rs (gr, cr, pickRow c iN s) _ hrs.out (by rw [hrow]) rfl ho2 hor2 hne rfl rfl (by omega) ?_)
          intro g4 c4 w4 ho4 hg4 _
          go_wp2
          go_roundw
          case rel =>
            refine ⟨t + 1, g4, c4, rs ++ [(gr, cr, pickRow c iN s)], by omega, by go_num, rfl, by show _ = _; rw [List.length_append, hrs.out]; rfl, ?_, ho4, hbb.grown hg4 hbb.size (by intro j hj; cases hj; exact ho.base)⟩
            show _ = _
            rw [contents_push, hcont.out, Htk.out]
          case measure => simp [intOf]; omega
    · obtain rfl : t = s.length := by omega
      have hc2 := hcont.out
      rw [List.take_of_length_le (Nat.le_refl _)] at hc2
      have Hc2 := Lib.hid hc2
      clear hc2
      go_wp2
      go_ret
      refine ⟨g', c', rs, ?_, Hc2.out, ho, hb⟩
      simp [pickL]
end Go.Proofs.YtobeigdjhepedaaGreatDoor
