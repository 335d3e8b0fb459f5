/- Polynomials of Kazhdan and Lusztig by tables, arrows, cells: of both, as functions. Plain law. Lengths of polynomials of Kazhdan and Lusztig on the way; what the kernel has found. Plain law. -/
import Derived.Test.YtobeigdjhepedaaGreatDoorG32
namespace Go.Proofs.YtobeigdjhepedaaGreatDoor
set_option maxRecDepth 100000
open Go.RowKit Game

def addP (a b : List Int) : List Int := trim ((List.range (max a.length b.length)).map fun i => if i < b.length then wrap64 (a.getD i 0 + b.getD i 0) else a.getD i 0)
def subP' (a b : List Int) : List Int := trim ((List.range (max a.length b.length)).map fun i => if i < b.length then wrap64 (a.getD i 0 - b.getD i 0) else a.getD i 0)
def negP (b : List Int) : List Int := b.map fun x => wrap64 (-x)
def shI (p : List Int) (k : Nat) : List Int := if trim p = [] then [] else List.replicate k 0 ++ trim p
def shS (p : List Int) (k : Nat) : List Int := if p.length = 0 then trim p else trim (List.replicate k 0 ++ p)
theorem trim_le (xs : List Int) : (trim xs).length ≤ xs.length := by rw [trim_length]; exact trimN_le _ _
theorem addP_le (a b : List Int) : (addP a b).length ≤ max a.length b.length := Nat.le_trans (trim_le _) (by simp)
theorem subP_le (a b : List Int) : (subP' a b).length ≤ max a.length b.length := Nat.le_trans (trim_le _) (by simp)
theorem negP_length (b : List Int) : (negP b).length = b.length := by simp [negP]
theorem shI_le (p : List Int) (k : Nat) : (shI p k).length ≤ k + p.length := by
  unfold shI
  split
  · simp
  · rw [List.length_append, List.length_replicate]; have := trim_le p; omega
theorem shS_le (p : List Int) (k : Nat) : (shS p k).length ≤ k + p.length := by
  unfold shS
  split
  · have := trim_le p; omega
  · refine Nat.le_trans (trim_le _) ?_
    rw [List.length_append, List.length_replicate]; exact Nat.le_refl _
/-! ### tables -/
def lenA (L : List (List Int)) (x : Nat) : Nat := (L.getD x []).length
def tabA (T : List (List Int)) (x s : Nat) : Nat := ((T.getD x []).getD s 0).toNat
def pol (P : List (List (List Int))) (u v : Nat) : List Int := (P.getD u []).getD v []
def shorter (L T : List (List Int)) (s x : Nat) : Bool := decide (lenA L (tabA T x s) < lenA L x)
def muI (L : List (List Int)) (p : List Int) (z v : Nat) : Int :=
  if lenA L v ≤ lenA L z ∨ (lenA L v - lenA L z) % 2 = 0 ∨ p.length ≤ (lenA L v - lenA L z - 1) / 2 then 0 else p.getD ((lenA L v - lenA L z - 1) / 2) 0
def zStep (L T : List (List Int)) (P : List (List (List Int))) (u v w s : Nat) (p : List Int) (z : Nat) : List Int :=
  if muI L (pol P z w) z w = 0 ∨ shorter L T s z = false then p else subP' p (mul [muI L (pol P z w) z w] (shI (pol P u z) ((lenA L v - lenA L z) / 2)))
def headA (L : List (List Int)) (v : Nat) : Nat := ((L.getD v []).getD 0 0).toNat
def madeS0 (L T : List (List Int)) (P : List (List (List Int))) (u v : Nat) : List Int :=
  if shorter L T (headA L v) u = true then addP (pol P (tabA T u (headA L v)) (tabA T v (headA L v))) (shI (pol P u (tabA T v (headA L v))) 1)
  else addP (shI (pol P (tabA T u (headA L v)) (tabA T v (headA L v))) 1) (pol P u (tabA T v (headA L v)))
def madeTo (L T : List (List Int)) (P : List (List (List Int))) (u v t : Nat) : List Int :=
  (List.range t).foldl (zStep L T P u v (tabA T v (headA L v)) (headA L v)) (madeS0 L T P u v)
def madeI (L T : List (List Int)) (P : List (List (List Int))) (u v : Nat) : List Int :=
  if u = v then [1] else if lenA L v ≤ lenA L u then [] else madeTo L T P u v L.length
theorem madeTo_succ (L T : List (List Int)) (P : List (List (List Int))) (u v t : Nat) : madeTo L T P u v (t + 1) = zStep L T P u v (tabA T v (headA L v)) (headA L v) (madeTo L T P u v t) t := by
  unfold madeTo; rw [List.range_succ, List.foldl_append]; rfl
def setP (P : List (List (List Int))) (u v : Nat) (p : List Int) : List (List (List Int)) := P.set u ((P.getD u []).set v p)
def tabU (L T : List (List Int)) (P : List (List (List Int))) (v t : Nat) : List (List (List Int)) := (List.range t).foldl (fun P u => setP P u v (madeI L T P u v)) P
def tabV (L T : List (List Int)) (t : Nat) : List (List (List Int)) := (List.range t).foldl (fun P v => tabU L T P v L.length) (List.replicate L.length (List.replicate L.length []))
def tabI (L T : List (List Int)) : List (List (List Int)) := tabV L T L.length
theorem tabU_succ (L T : List (List Int)) (P : List (List (List Int))) (v t : Nat) : tabU L T P v (t + 1) = setP (tabU L T P v t) t v (madeI L T (tabU L T P v t) t v) := by
  unfold tabU; rw [List.range_succ, List.foldl_append]; rfl
theorem tabV_succ (L T : List (List Int)) (t : Nat) : tabV L T (t + 1) = tabU L T (tabV L T t) t L.length := by
  unfold tabV; rw [List.range_succ, List.foldl_append]; rfl
def muS (p : List Int) (d : Int) : Int := if d % 2 = 0 ∨ (p.length : Int) ≤ (d - 1) / 2 ∨ d < 0 then 0 else p.getD ((d - 1) / 2).toNat 0
def zStepS (L T : List (List Int)) (R : List (List (List Int))) (u n k s : Nat) (p : List Int) (z : Nat) : List Int :=
  if muS (pol R k z) ((lenA L k : Int) - lenA L z) ≠ 0 ∧ shorter L T s z = true then addP p (negP (shS (mul (pol R z u) [muS (pol R k z) ((lenA L k : Int) - lenA L z)]) ((lenA L n - lenA L z) / 2))) else p
def nextS0 (L T : List (List Int)) (R : List (List (List Int))) (n u : Nat) : List Int :=
  if lenA L (tabA T u (headA L n)) < lenA L u then addP (pol R (tabA T n (headA L n)) (tabA T u (headA L n))) (shS (pol R (tabA T n (headA L n)) u) 1)
  else addP (shS (pol R (tabA T n (headA L n)) (tabA T u (headA L n))) 1) (pol R (tabA T n (headA L n)) u)
def nextZ (L T : List (List Int)) (R : List (List (List Int))) (n u t : Nat) : List Int := (List.range t).foldl (zStepS L T R u n (tabA T n (headA L n)) (headA L n)) (nextS0 L T R n u)
theorem nextZ_succ (L T : List (List Int)) (R : List (List (List Int))) (n u t : Nat) : nextZ L T R n u (t + 1) = zStepS L T R u n (tabA T n (headA L n)) (headA L n) (nextZ L T R n u t) t := by
  unfold nextZ; rw [List.range_succ, List.foldl_append]; rfl
def nextTo' (L T : List (List Int)) (R : List (List (List Int))) (n t : Nat) : List (List Int) := (List.range t).map fun u => nextZ L T R n u (tabA T n (headA L n))
theorem nextTo_succ' (L T : List (List Int)) (R : List (List (List Int))) (n t : Nat) : nextTo' L T R n (t + 1) = nextTo' L T R n t ++ [nextZ L T R n t (tabA T n (headA L n))] := by simp [nextTo', List.range_succ]
def firstTo (t : Nat) : List (List Int) := (List.range t).map fun u => if u = 0 then [1] else []
theorem firstTo_succ (t : Nat) : firstTo (t + 1) = firstTo t ++ [if t = 0 then [1] else []] := by simp [firstTo, List.range_succ]
def rowsTo (L T : List (List Int)) (t : Nat) : List (List (List Int)) := (List.range t).foldl (fun R n => R ++ [nextTo' L T R (n + 1) L.length]) [firstTo L.length]
theorem rowsTo_succ (L T : List (List Int)) (t : Nat) : rowsTo L T (t + 1) = rowsTo L T t ++ [nextTo' L T (rowsTo L T t) (t + 1) L.length] := by unfold rowsTo; rw [List.range_succ, List.foldl_append]; rfl
theorem rowsTo_length (L T : List (List Int)) : ∀ t, (rowsTo L T t).length = t + 1
  | 0 => rfl
  | t + 1 => by rw [rowsTo_succ, List.length_append, rowsTo_length L T t]; rfl
def rowsS (L T : List (List Int)) : List (List (List Int)) := rowsTo L T (L.length - 1)
/-! ### arrows -/
abbrev Arr := Nat × Nat × Int
def arrIm (L : List (List Int)) (P : List (List (List Int))) (i j : Nat) : Int := wrap64 (muI L (pol P i j) i j + muI L (pol P j i) j i)
def arrI1 (n : Nat) (L T : List (List Int)) (P : List (List (List Int))) (i j : Nat) : List Arr :=
  if arrIm L P i j = 0 then [] else if (List.range n).any (fun s => shorter L T s j && !shorter L T s i) then [(i, j, arrIm L P i j)] else []
def arrITo (n : Nat) (L T : List (List Int)) (P : List (List (List Int))) (i t : Nat) : List Arr := (List.range t).flatMap (arrI1 n L T P i)
def arrIRow (n : Nat) (L T : List (List Int)) (P : List (List (List Int))) (t : Nat) : List Arr := (List.range t).flatMap fun i => arrITo n L T P i L.length
def arrI (n : Nat) (L T : List (List Int)) (P : List (List (List Int))) : List Arr := arrIRow n L T P L.length
theorem arrITo_succ (n : Nat) (L T : List (List Int)) (P : List (List (List Int))) (i t : Nat) : arrITo n L T P i (t + 1) = arrITo n L T P i t ++ arrI1 n L T P i t := by simp [arrITo, List.range_succ, List.flatMap_append]
theorem arrIRow_succ (n : Nat) (L T : List (List Int)) (P : List (List (List Int))) (t : Nat) : arrIRow n L T P (t + 1) = arrIRow n L T P t ++ arrITo n L T P t L.length := by simp [arrIRow, List.range_succ, List.flatMap_append]
def musS (L : List (List Int)) (R : List (List (List Int))) (i k : Nat) : Int :=
  if lenA L k < lenA L i then muS (pol R i k) ((lenA L i : Int) - lenA L k) else muS (pol R k i) ((lenA L k : Int) - lenA L i)
def desK (c : List (List Int)) (v : List Int) : List Int := ((List.range c.length).filter fun i => decide ((actW c v (onesL c.length)).getD i 0 < 0)).map fun i : Nat => (i : Int)
def insB (a b : List Int) : Bool := a.all fun x => b.contains x
def arrS1 (c L : List (List Int)) (R : List (List (List Int))) (i k : Nat) : List Arr :=
  if musS L R i k ≠ 0 ∧ insB (desK c (L.getD k [])) (desK c (L.getD i [])) = false then [(i, k, musS L R i k)] else []
def arrSTo (c L : List (List Int)) (R : List (List (List Int))) (i t : Nat) : List Arr := (List.range t).flatMap (arrS1 c L R i)
def arrSRow (c L : List (List Int)) (R : List (List (List Int))) (t : Nat) : List Arr := (List.range t).flatMap fun i => arrSTo c L R i L.length
def arrS (c L : List (List Int)) (R : List (List (List Int))) : List Arr := arrSRow c L R L.length
theorem arrSTo_succ (c L : List (List Int)) (R : List (List (List Int))) (i t : Nat) : arrSTo c L R i (t + 1) = arrSTo c L R i t ++ arrS1 c L R i t := by simp [arrSTo, List.range_succ, List.flatMap_append]
theorem arrSRow_succ (c L : List (List Int)) (R : List (List (List Int))) (t : Nat) : arrSRow c L R (t + 1) = arrSRow c L R t ++ arrSTo c L R t L.length := by simp [arrSRow, List.range_succ, List.flatMap_append]
/-! ### what is reached, cells -/
def bfsStep (q : Nat) (st : List Bool × List Nat) (a : Arr) : List Bool × List Nat := if a.1 = q ∧ st.1.getD a.2.1 false = false then (st.1.set a.2.1 true, st.2 ++ [a.2.1]) else st
def bfsGo (A : List Arr) : Nat → Nat → List Bool × List Nat → List Bool × List Nat
  | 0, _, st => st
  | f + 1, k, st => if k < st.2.length then bfsGo A f (k + 1) (A.foldl (bfsStep (st.2.getD k 0)) st) else st
def bfs (A : List Arr) (N x : Nat) : List Bool := (bfsGo A (N + 1) 0 ((List.replicate N false).set x true, [x])).1
def cellL (M : List (List Bool)) (N i : Nat) : List Nat := (List.range N).filter fun k => (M.getD i []).getD k false && (M.getD k []).getD i false
def cellSTo (M : List (List Bool)) (N t : Nat) : List (List Nat) := (List.range t).foldl (fun out i => if (cellL M N i).headD N = i then out ++ [cellL M N i] else out) []
def cellIStep (M : List (List Bool)) (N : Nat) (st : List Bool × List (List Nat)) (i : Nat) : List Bool × List (List Nat) :=
  if st.1.getD i false = true then st else ((cellL M N i).foldl (fun sn j => sn.set j true) st.1, st.2 ++ [cellL M N i])
def cellITo (M : List (List Bool)) (N t : Nat) : List Bool × List (List Nat) := (List.range t).foldl (cellIStep M N) (List.replicate N false, [])
theorem cellSTo_succ (M : List (List Bool)) (N t : Nat) : cellSTo M N (t + 1) = if (cellL M N t).headD N = t then cellSTo M N t ++ [cellL M N t] else cellSTo M N t := by unfold cellSTo; rw [List.range_succ, List.foldl_append]; rfl
theorem cellITo_succ (M : List (List Bool)) (N t : Nat) : cellITo M N (t + 1) = cellIStep M N (cellITo M N t) t := by unfold cellITo; rw [List.range_succ, List.foldl_append]; rfl
def matB (A : List Arr) (N : Nat) : List (List Bool) := (List.range N).map (bfs A N)
/-- the kernel's -/
def klFacts (n : Nat) (L T : List (List Int)) : Bool := (List.range L.length).all fun v => decide (v = 0) || (decide (0 < lenA L v) && (decide (headA L v < n) && (decide (tabA T v (headA L v) < v) && (List.range v).all fun z => decide (lenA L z ≤ lenA L v))))
def trP (N : Nat) (R : List (List (List Int))) : List (List (List Int)) := (List.range N).map fun u => (List.range N).map fun v => pol R v u
def klAll (c L T : List (List Int)) : Bool :=
  klFacts c.length L T && (decide (tabI L T = trP L.length (rowsS L T)) && (decide (arrI c.length L T (tabI L T) = arrS c L (rowsS L T)) && decide (cellSTo (matB (arrI c.length L T (tabI L T)) L.length) L.length L.length = (cellITo (matB (arrI c.length L T (tabI L T)) L.length) L.length L.length).2)))
def klC (c : List (List Int)) : Bool := klAll c (elemL c) (ltab c (elemL c) (elemL c).length)
def kl24 (c : List (List Int)) : Bool := decide (24 < prodT (nameL c)) || klC c
end Go.Proofs.YtobeigdjhepedaaGreatDoor
namespace Go.Proofs.YtobeigdjhepedaaGreatDoor
set_option maxRecDepth 100000
open Go.RowKit Game

/-- what a table of elements must be for the polynomials -/
structure KlOk (n N : Nat) (L T : List (List Int)) : Prop where
  len : L.length = N
  tlen : T.length = N
  few : N ≤ 24
  rank : n ≤ 4
  short : ∀ x, lenA L x ≤ 24
  head : ∀ v, v < N → v ≠ 0 → 0 < lenA L v ∧ headA L v < n ∧ tabA T v (headA L v) < v ∧ ∀ z, z < v → lenA L z ≤ lenA L v
  letter : ∀ v, v < N → v ≠ 0 → (L.getD v []).getD 0 0 = (headA L v : Int)
  row : ∀ x, x < N → (T.getD x []).length = n
  tab : ∀ x s, x < N → s < n → (T.getD x []).getD s 0 = (tabA T x s : Int) ∧ tabA T x s < N

theorem kl_head {n : Nat} {L T : List (List Int)} (h : klFacts n L T = true) : ∀ v, v < L.length → v ≠ 0 → 0 < lenA L v ∧ headA L v < n ∧ tabA T v (headA L v) < v ∧ ∀ z, z < v → lenA L z ≤ lenA L v := by
  intro v hv h0
  unfold klFacts at h
  rw [List.all_eq_true] at h
  have := h v (List.mem_range.2 hv)
  rw [Bool.or_eq_true, Bool.and_eq_true, Bool.and_eq_true, Bool.and_eq_true, List.all_eq_true] at this
  rcases this with h1 | ⟨h1, h2, h3, h4⟩
  · exact absurd (of_decide_eq_true h1) h0
  · exact ⟨of_decide_eq_true h1, of_decide_eq_true h2, of_decide_eq_true h3, fun z hz => of_decide_eq_true (h4 z (List.mem_range.2 hz))⟩

variable {n N : Nat} {L T : List (List Int)}
theorem mul_len61 (a b : List Int) : (mul a b).length ≤ 61 := mul_length_le a b
theorem zStepS_le (H : KlOk n N L T) {R : List (List (List Int))} {u m k s z q : Nat} {p : List Int} (hp : p.length ≤ 100 + q) : (zStepS L T R u m k s p z).length ≤ 100 + q := by
  unfold zStepS
  split
  · have h1 := addP_le p (negP (shS (mul (pol R z u) [muS (pol R k z) ((lenA L k : Int) - lenA L z)]) ((lenA L m - lenA L z) / 2)))
    rw [negP_length] at h1
    have h2 := shS_le (mul (pol R z u) [muS (pol R k z) ((lenA L k : Int) - lenA L z)]) ((lenA L m - lenA L z) / 2)
    have h3 := mul_len61 (pol R z u) [muS (pol R k z) ((lenA L k : Int) - lenA L z)]
    have h4 := H.short m
    omega
  · exact hp
theorem nextZ_le (H : KlOk n N L T) {R : List (List (List Int))} {m u : Nat} (hR : ∀ i x, i < m → (pol R i x).length ≤ 100 + i) (hm : m < N) (h0 : m ≠ 0) : ∀ t, (nextZ L T R m u t).length ≤ 100 + m
  | 0 => by
    obtain ⟨-, -, hk, -⟩ := H.head m hm h0
    show (nextS0 L T R m u).length ≤ _
    unfold nextS0
    have h1 := hR _ (tabA T u (headA L m)) hk
    have h2 := hR _ u hk
    split
    · have h3 := addP_le (pol R (tabA T m (headA L m)) (tabA T u (headA L m))) (shS (pol R (tabA T m (headA L m)) u) 1)
      have h4 := shS_le (pol R (tabA T m (headA L m)) u) 1
      omega
    · have h3 := addP_le (shS (pol R (tabA T m (headA L m)) (tabA T u (headA L m))) 1) (pol R (tabA T m (headA L m)) u)
      have h4 := shS_le (pol R (tabA T m (headA L m)) (tabA T u (headA L m))) 1
      omega
  | t + 1 => by rw [nextZ_succ]; exact zStepS_le H (nextZ_le H hR hm h0 t)
theorem pol_app_lt {R : List (List (List Int))} {x : List (List Int)} {i u : Nat} (h : i < R.length) : pol (R ++ [x]) i u = pol R i u := by
  unfold pol; simp [List.getD, List.getElem?_append_left h]
theorem pol_app_at {R : List (List (List Int))} {x : List (List Int)} {u : Nat} : pol (R ++ [x]) R.length u = x.getD u [] := by
  unfold pol; simp [List.getD]
theorem pol_out {R : List (List (List Int))} {i u : Nat} (h : R.length ≤ i) : pol R i u = [] := by
  unfold pol; simp [List.getD, List.getElem?_eq_none h]
theorem klRows_len (H : KlOk n N L T) : ∀ t, t < N → ∀ i u, (pol (rowsTo L T t) i u).length ≤ 100 + i
  | 0, _, i, u => by
    cases i with
    | zero =>
      show ((firstTo L.length).getD u []).length ≤ _
      unfold firstTo
      by_cases hu : u < L.length
      · simp only [List.getD, List.getElem?_map, List.getElem?_range hu]
        simp only [Option.map_some, Option.getD_some]
        split <;> simp
      · simp [List.getD, Nat.not_lt.1 hu]
    | succ i => rw [pol_out (by show 1 ≤ i + 1; omega)]; simp
  | t + 1, ht, i, u => by
    rw [rowsTo_succ]
    have ih := klRows_len H t (by omega)
    have hl := rowsTo_length L T t
    rcases Nat.lt_trichotomy i (rowsTo L T t).length with h | h | h
    · rw [pol_app_lt h]; exact ih i u
    · subst h
      rw [pol_app_at, hl]
      unfold nextTo'
      by_cases hu : u < L.length
      · simp only [List.getD, List.getElem?_map, List.getElem?_range hu]
        exact nextZ_le H (fun i x _ => ih i x) (by omega) (by omega) _
      · simp [List.getD, Nat.not_lt.1 hu]
    · rw [pol_out (by rw [List.length_append]; exact h)]; simp
/-! ### the program's -/
/-- what is known of a table that is filled column by column -/
def Known (P : List (List (List Int))) (N v u : Nat) : Prop := ∀ i j, i < N → (j < v ∨ j = v ∧ i < u) → (pol P i j).length ≤ 100 + j
theorem zStep_le {P : List (List (List Int))} {u v w s z q : Nat} {p : List Int} (hp : p.length ≤ 100 + q) : (zStep L T P u v w s p z).length ≤ 100 + q := by
  unfold zStep
  split
  · exact hp
  · have h1 := subP_le p (mul [muI L (pol P z w) z w] (shI (pol P u z) ((lenA L v - lenA L z) / 2)))
    have h3 := mul_len61 [muI L (pol P z w) z w] (shI (pol P u z) ((lenA L v - lenA L z) / 2))
    omega
theorem madeTo_le (H : KlOk n N L T) {P : List (List (List Int))} {u v : Nat} (hP : Known P N v 0) (hu : u < N) (hv : v < N) (h0 : v ≠ 0) : ∀ t, (madeTo L T P u v t).length ≤ 100 + v
  | 0 => by
    obtain ⟨-, hs, hk, -⟩ := H.head v hv h0
    show (madeS0 L T P u v).length ≤ _
    unfold madeS0
    have h1 := hP (tabA T u (headA L v)) (tabA T v (headA L v)) (H.tab u _ hu hs).2 (.inl hk)
    have h2 := hP u (tabA T v (headA L v)) hu (.inl hk)
    split
    · have h3 := addP_le (pol P (tabA T u (headA L v)) (tabA T v (headA L v))) (shI (pol P u (tabA T v (headA L v))) 1)
      have h4 := shI_le (pol P u (tabA T v (headA L v))) 1
      omega
    · have h3 := addP_le (shI (pol P (tabA T u (headA L v)) (tabA T v (headA L v))) 1) (pol P u (tabA T v (headA L v)))
      have h4 := shI_le (pol P (tabA T u (headA L v)) (tabA T v (headA L v))) 1
      omega
  | t + 1 => by rw [madeTo_succ]; exact zStep_le (madeTo_le H hP hu hv h0 t)
theorem madeI_le (H : KlOk n N L T) {P : List (List (List Int))} {u v : Nat} (hP : Known P N v 0) (hu : u < N) (hv : v < N) : (madeI L T P u v).length ≤ 100 + v := by
  unfold madeI
  split
  · simp only [List.length_cons, List.length_nil]; omega
  · split
    · simp
    · rename_i h1 h2
      by_cases h0 : v = 0
      · subst h0
        have h3 : lenA L u = 0 ∨ 0 < lenA L u := Nat.eq_zero_or_pos _
        obtain ⟨-, -, -, h4⟩ := H.head u hu h1
        exact absurd (h4 0 (by omega)) (by omega)
      · exact madeTo_le H hP hu hv h0 _
theorem setP_at {P : List (List (List Int))} {u v : Nat} {p : List Int} (hu : u < P.length) (hv : v < (P.getD u []).length) : pol (setP P u v p) u v = p := by
  unfold pol setP
  simp only [List.getD, List.getElem?_set_self hu, Option.getD_some]
  simp only [List.getD] at hv
  rw [List.getElem?_set_self hv]; rfl
theorem setP_ne {P : List (List (List Int))} {u v i j : Nat} {p : List Int} (h : i ≠ u ∨ j ≠ v) : pol (setP P u v p) i j = pol P i j := by
  unfold pol setP
  by_cases hi : i = u
  · subst hi
    have hj : j ≠ v := by rcases h with h | h; exact absurd rfl h; exact h
    by_cases hl : i < P.length
    · simp only [List.getD, List.getElem?_set_self hl, Option.getD_some]
      rw [List.getElem?_set_ne (Ne.symm hj)]
    · rw [List.set_eq_of_length_le (by omega)]
  · simp only [List.getD]
    rw [List.getElem?_set_ne (Ne.symm hi)]
theorem setP_length (P : List (List (List Int))) (u v : Nat) (p : List Int) : (setP P u v p).length = P.length := by simp [setP]
theorem setP_row (P : List (List (List Int))) (u v i : Nat) (p : List Int) : ((setP P u v p).getD i []).length = (P.getD i []).length := by
  unfold setP
  by_cases hi : i = u
  · subst hi
    by_cases hl : i < P.length
    · simp only [List.getD, List.getElem?_set_self hl, Option.getD_some, List.length_set]
    · rw [List.set_eq_of_length_le (by omega)]
  · simp only [List.getD]
    rw [List.getElem?_set_ne (Ne.symm hi)]
theorem Known.next {P : List (List (List Int))} {v u : Nat} {p : List Int} (h : Known P N v u) (hp : p.length ≤ 100 + v) (hl : P.length = N) (hr : (P.getD u []).length = N) (hu : u < N) (hv : v < N) : Known (setP P u v p) N v (u + 1) := by
  intro i j hi hj
  by_cases e : i = u ∧ j = v
  · obtain ⟨rfl, rfl⟩ := e
    rw [setP_at (by omega) (by omega)]; exact hp
  · rw [setP_ne (by omega)]
    exact h i j hi (by omega)
end Go.Proofs.YtobeigdjhepedaaGreatDoor
