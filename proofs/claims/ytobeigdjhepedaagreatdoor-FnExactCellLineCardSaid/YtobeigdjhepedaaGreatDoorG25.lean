/- The reference's levels of elements: contract. The size that the type's name tells is the number of elements, where it is at most 200: the kernel's enumeration. Plain law. The kernel's enumeration of sizes, part 1. The kernel's enumeration of sizes, part 2. The kernel's enumeration of sizes, part 3. The kernel's enumeration of sizes, part 4. The kernel's enumeration of sizes, part 5. Every finite type: the size told by its name is at least 1, and, if it is at most 200, the number of its elements; its columns are independent. Plain law. Where the program's elements by length stand. Plain law. (Split off BallI.) -/
import Derived.Test.YtobeigdjhepedaaGreatDoorG24
import Derived.Test.YtobeigdjhepedaaGreatDoorG20
namespace Go.Proofs.YtobeigdjhepedaaGreatDoor
set_option maxRecDepth 100000
open Go.RowKit Game

theorem infoLev : (Tryz.prog.info? 22).map (fun i => (i.zero, i.size, i.bytes)) = some (some (.slice none 0 0), 1, 24) := by kernel_rfl

theorem run_append_lev {w : World} {B g cap : Nat} {vs : List Value} (hown : OwnV w B 22 g cap vs) (v : Value) (hv : v.oneCell' = true) (hlen : vs.length + 1 ≤ 1048576) (ty : TypeId) :
    ∃ g' cap' w', (Builtin.append_ #[71, 71] ty #[(Value.slice (some ⟨g, 0, none⟩) vs.length cap), (Value.slice (some ⟨w.heap.size, 0, none⟩) 1 1)]).run Tryz.prog (w.alloc (.cells #[v] 22)) = .ok (Value.slice (some ⟨g', 0, none⟩) (vs.length + 1) cap') w' ∧
      OwnV w' B 22 g' cap' (vs ++ [v]) ∧ w.grownBy w' (some g) ∧ (g' = g ∨ w.heap.size < g') := by
  obtain ⟨i0, hi, hz0, hz1, hz2⟩ := info_parts infoLev
  have hBg := hown.base
  have hlt := hown.lt
  have hown' : OwnV (w.alloc (.cells #[v] 22)) B 22 g cap vs := hown.alloc _
  have hcell : (w.alloc (.cells #[v] 22)).cell? ⟨w.heap.size, 0, none⟩ = some v := (OwnV.new (B := w.heap.size) v hv (Nat.le_refl _)).cell 0 (by simp)
  have hnews : ∀ j u, ([v] : List Value)[j]? = some u → (w.alloc (.cells #[v] 22)).cell? ((⟨w.heap.size, 0, none⟩ : Addr).add j) = some u := by
    intro j u hu
    have hj : j = 0 := by have := (List.getElem?_eq_some_iff.1 hu).1; simp at this; exact this
    subst hj
    simp at hu; subst hu
    rw [Addr.add_lit]; exact hcell
  have h1 : ∀ u ∈ ([v] : List Value), u.oneCell' = true := by simp [hv]
  have hl : ([v] : List Value).length = 1 * i0.size := by simp [hz1]
  obtain ⟨v', w', hr, ho, hg, -⟩ := run_append_own (P := Tryz.prog) (w.alloc (.cells #[v] 22)) B 71 ty 22 i0 (.slice none 0 0) 1 24 Tryz.underlying71 hi hz0 hz1 hz2 rfl (by decide) _ vs.length _ hown' ⟨w.heap.size, 0, none⟩ 1 1
    [v] (by simp) hnews h1 (by unfold maxLen; omega) (by omega) (by simp; omega)
  have hgr : w.grownBy w' (some g) := ⟨hg.os, hg.tape, hg.output, Nat.le_trans (by simp) hg.size, fun k hk hne => (hg.block k (by simp; omega) hne).trans (Below.heap_alloc _ _ _ hk)⟩
  have fin : ∀ g' cap', v' = (Value.slice (some ⟨g', 0, none⟩) (vs.length + 1) cap') → (g' = g ∨ w.heap.size < g') → ∃ g' cap' w', (Builtin.append_ #[71, 71] ty #[(Value.slice (some ⟨g, 0, none⟩) vs.length cap), (Value.slice (some ⟨w.heap.size, 0, none⟩) 1 1)]).run Tryz.prog (w.alloc (.cells #[v] 22)) = .ok (Value.slice (some ⟨g', 0, none⟩) (vs.length + 1) cap') w' ∧
      OwnV w' B 22 g' cap' (vs ++ [v]) ∧ w.grownBy w' (some g) ∧ (g' = g ∨ w.heap.size < g') := by
    intro g' cap' hv' hor
    subst hv'
    refine ⟨g', cap', w', hr, ?_, hgr, hor⟩
    unfold OwnV
    rw [List.length_append]
    exact ho
  by_cases hroom : vs.length + 1 ≤ cap
  · rcases hown'.2 with ⟨h', _⟩ | ⟨g1, cap1, cur, hv', hb, hh, hn, hm, hs, htk⟩
    · simp at h'
    simp only [Value.slice.injEq, Option.some.injEq, Addr.mk.injEq, and_true, true_and] at hv'
    obtain ⟨rfl, rfl⟩ := hv'
    have hr2 := run_append_room (P := Tryz.prog) (w.alloc (.cells #[v] 22)) 71 ty 22 i0 Tryz.underlying71 hi g vs.length cap cur hh ⟨w.heap.size, 0, none⟩ 1 1 [v] hl hnews h1 hroom (by rw [hz1] at *; simp; omega)
    rw [hr2] at hr
    simp only [Result.ok.injEq] at hr
    exact fin g cap hr.1.symm (.inl rfl)
  · have hr2 := run_append_grow (P := Tryz.prog) (w.alloc (.cells #[v] 22)) 71 ty 22 i0 (.slice none 0 0) Tryz.underlying71 hi hz0 ⟨g, 0, none⟩ vs.length cap vs (by simp [hz1]) (World.ownsRow.cells hown' rfl) ⟨w.heap.size, 0, none⟩ 1 1 _ hl hnews (by omega) (by omega) (growslice_fits (by omega) (by rw [hz2]; omega))
    rw [hr2] at hr
    simp only [Result.ok.injEq] at hr
    exact fin _ _ hr.1.symm (.inr (by simp))

/-- a list of lists of rows, of the call's own -/
abbrev LevRef := Nat × Nat × List RowRef
def levVal (L : LevRef) : Value := (Value.slice (some ⟨L.1, 0, none⟩) L.2.2.length L.2.1)
def OwnLevs (w : World) (B g cap : Nat) (Ls : List LevRef) : Prop := OwnV w B 22 g cap (Ls.map levVal) ∧ ∀ L ∈ Ls, OwnRows w B L.1 L.2.1 L.2.2
def levCont (Ls : List LevRef) : List (List (List Int)) := Ls.map fun L => contents L.2.2
section
variable {w w' : World} {B g cap : Nat} {Ls : List LevRef}
theorem OwnLevs.lt (h : OwnLevs w B g cap Ls) : g < w.heap.size := h.1.lt
theorem OwnLevs.below (h : OwnLevs w B g cap Ls) (hb : Below w.heap.size w w') : OwnLevs w' B g cap Ls := ⟨h.1.below hb h.1.lt, fun L hL => (h.2 L hL).below hb⟩
theorem OwnLevs.mono {B' : Nat} (h : OwnLevs w B g cap Ls) (hB : B' ≤ B) : OwnLevs w B' g cap Ls := ⟨h.1.mono hB, fun L hL => (h.2 L hL).mono hB⟩
theorem OwnRows.grownT {g' cap' : Nat} {rs : List RowRef} {vs : List Value} {E : TypeId} (h : OwnRows w B g cap rs) (ho : OwnV w B E g' cap' vs) (h1 : E ≠ 28) (h2 : E ≠ 3) (hg : w.grownBy w' (some g')) : OwnRows w' B g cap rs :=
  ⟨h.1.grown hg (fun e => ho.ne h.1 h1 (Option.some.inj e).symm), fun r hr => (h.2.1 r hr).grown hg (fun e => ho.ne (h.2.1 r hr).toV h2 (Option.some.inj e).symm), h.2.2⟩
theorem wpList_append_lev {ops : Array Oper} {rest : List Oper} {o : Oper} {a : Act} {Q : Exit → Act → World → Prop} (hgd : o.guard = none) (s x : Operand)
    (ho : o.op = .call { callee := .builtin .append, args := #[s, x], argTypes := #[71, 71] })
    (B g cap n H : Nat) (Ls : List LevRef) (L : LevRef) (W : World) (hn : Ls.length = n) (hW : W = w.alloc (.cells #[levVal L] 22)) (hH : w.heap.size = H) (hown : OwnLevs w B g cap Ls) (hr : OwnRows w B L.1 L.2.1 L.2.2)
    (hs : a.eval s = (Value.slice (some ⟨g, 0, none⟩) n cap)) (hx : a.eval x = (Value.slice (some ⟨H, 0, none⟩) 1 1)) (hlen : n + 1 ≤ 1048576)
    (h : ∀ g' cap' w', OwnLevs w' B g' cap' (Ls ++ [L]) → w.grownBy w' (some g) → (g' = g ∨ w.heap.size < g') → wpList Tryz.prog ops Q rest (a.put o.dst (Value.slice (some ⟨g', 0, none⟩) (n + 1) cap')) w') :
    wpList Tryz.prog ops Q (o :: rest) a W := by
  subst hn; subst hW; subst hH
  have hl : (Ls.map levVal).length = Ls.length := by simp
  obtain ⟨g', cap', w', hrun, h2, h3, h4⟩ := run_append_lev hown.1 (levVal L) rfl (by rw [hl]; exact hlen) o.type
  rw [hl] at hrun
  refine wpList_plain hgd fun K hK => ?_
  unfold Oper.wp execOp
  simp only [ho, resolve, invoke, builtin, Sem.run_bind, Sem.run_pure, Result.andThen_ok, List.map_toArray, List.map_cons, List.map_nil, hs, hx, hrun]
  refine hK _ _ (h g' cap' w' ⟨by rw [List.map_append]; exact h2, fun M hM => ?_⟩ h3 h4)
  rcases List.mem_append.1 hM with hm | hm
  · exact (hown.2 M hm).grownT hown.1 (by decide) (by decide) h3
  · rw [List.mem_singleton] at hm; subst hm
    exact hr.grownT hown.1 (by decide) (by decide) h3
end

/-- how many elements up to this length -/
def tot (c : List (List Int)) : Nat → Nat
  | 0 => 1
  | n + 1 => tot c n + (levS c (n + 1)).length
/-- the last length that is told of -/
def depthG (c : List (List Int)) : Nat → Nat → Nat
  | 0, n => n
  | f + 1, n => if levS c (n + 1) = [] ∨ 200 < tot c (n + 1) then n else depthG c f (n + 1)
def levsTo (c : List (List Int)) (m : Nat) : List (List (List Int)) := (List.range (m + 1)).map (levS c)
theorem levsTo_succ (c : List (List Int)) (m : Nat) : levsTo c (m + 1) = levsTo c m ++ [levS c (m + 1)] := by unfold levsTo; rw [List.range_succ, List.map_append]; rfl
theorem levsTo_length (c : List (List Int)) (m : Nat) : (levsTo c m).length = m + 1 := by simp [levsTo]
theorem levsTo_getD (c : List (List Int)) (m k : Nat) (hk : k ≤ m) : (levsTo c m).getD k [] = levS c k := by simp [levsTo, List.getD, show k < m + 1 by omega]
theorem stepL_len (c : List (List Int)) (n : Nat) (W : List Int) (nx : List (List Int)) (i : Nat) : (stepL c n W nx i).length ≤ nx.length + 1 := by
  have hp : ∀ (l : List (List Int)) (w : List Int), (putL l w).length ≤ l.length + 1 := by
    intro l w
    induction l with
    | nil => simp [putL]
    | cons x l ih => simp only [putL]; split; · simp
                     split; · simp
                     simp; omega
  unfold stepL; split
  · exact hp _ _
  · omega
theorem rowTo_len (c : List (List Int)) (n : Nat) (W : List Int) (nx : List (List Int)) : ∀ k, (rowTo c n W nx k).length ≤ nx.length + k
  | 0 => by simp [rowTo]
  | k + 1 => by rw [rowTo_succ]; have := stepL_len c n W (rowTo c n W nx k) k; have := rowTo_len c n W nx k; omega
theorem nextTo_len (c : List (List Int)) (hc : c.length ≤ 4) (n : Nat) (prev : List (List Int)) : ∀ k, k ≤ prev.length → (nextTo c n prev k).length ≤ 4 * k
  | 0, _ => by simp [nextTo]
  | k + 1, hk => by
    rw [nextTo_succ _ _ _ _ (by omega)]
    have h1 := rowTo_len c n (prev.getD k []) (nextTo c n prev k) c.length
    have h2 := nextTo_len c hc n prev k (by omega)
    omega
theorem tot_le (c : List (List Int)) (n : Nat) : (levS c n).length ≤ tot c n := by
  cases n with
  | zero => simp [levS, tot]
  | succ n => simp only [tot]; omega
/-- what a word of a level is, and its products from behind -/
theorem lev_row {c : List (List Int)} (hC : IsC c) {n t : Nat} (hn : n ≤ 28) (ht : t < (levS c n).length) :
    ((levS c n).getD t []).length = n ∧ (∀ k, k < ((levS c n).getD t []).length → 0 ≤ ((levS c n).getD t []).getD k 0 ∧ ((levS c n).getD t []).getD k 0 < c.length) ∧
    ∀ i, i < c.length → normG c 30 (actW c ((levS c n).getD t [] ++ [(i : Int)]) (onesL c.length)) = some (nfI c ((levS c n).getD t [] ++ [(i : Int)])) ∧ (nfI c ((levS c n).getD t [] ++ [(i : Int)])).length ≤ n + 1 := by
  obtain ⟨W, hW, hWe⟩ := ((levS_ok hC n (by omega)).2 ((levS c n).getD t [])).1 (by simp [List.getD, ht])
  rw [hWe]
  refine ⟨by rw [intsOf_length]; exact hW.len, fun k hk => ?_, fun i hi => ?_⟩
  · rw [intsOf_length] at hk
    rw [intsOf_getD _ _ hk]
    have := hW.nf.lt (W.getD k 0) (by simp [List.getD, hk])
    omega
  · have hlt : ∀ j ∈ W ++ [i], j < c.length := by
      intro j hj
      rcases List.mem_append.1 hj with h | h
      · exact hW.nf.lt j h
      · simp at h; subst h; exact hi
    obtain ⟨X, hX⟩ := nf_of hC hlt (by have := hW.len; simp; omega)
    have e : intsOf W ++ [(i : Int)] = intsOf (W ++ [i]) := by rw [intsOf_append]; rfl
    rw [e, nfI_of hX, intsOf_length]
    exact ⟨hX.norm, by have := hX.len; have := hW.len; simp at *; omega⟩
theorem rows_len {c : List (List Int)} {n k i : Nat} {W : List Int} {prev : List (List Int)} (hk : k ≤ prev.length) : ∀ x ∈ rowTo c n W (nextTo c n prev k) i, x.length = n := by
  intro x hx
  rcases (mem_rowTo i).1 hx with h | ⟨_, _, _, h⟩
  · obtain ⟨_, _, _, _, _, h⟩ := (mem_nextTo k hk).1 h
    exact h
  · exact h
theorem getD_len {l : List (List Int)} {n : Nat} (h : ∀ x ∈ l, x.length = n) (hn : n ≤ 1048576) : ∀ j, j < l.length → (l.getD j []).length ≤ 1048576 := by
  intro j hj
  have : l.getD j [] ∈ l := by simp [List.getD, hj]
  rw [h _ this]; exact hn
theorem letters_push {W : List Int} {m i : Nat} (h : ∀ k, k < W.length → 0 ≤ W.getD k 0 ∧ W.getD k 0 < m) (hi : i < m) : ∀ k, k < (W ++ [(i : Int)]).length → 0 ≤ (W ++ [(i : Int)]).getD k 0 ∧ (W ++ [(i : Int)]).getD k 0 < m := by
  intro k hk
  simp at hk
  by_cases e : k < W.length
  · have := h k e
    simp only [List.getD, List.getElem?_append_left e]
    exact this
  · obtain rfl : k = W.length := by omega
    simp [List.getD]; omega

def GotLevs (w : World) (L : List (List (List Int))) (e : Ending) (w' : World) : Prop :=
  ∃ g cap Ls, e = .returned (Value.slice (some ⟨g, 0, none⟩) L.length cap) ∧ levCont Ls = L ∧ OwnLevs w' w.heap.size g cap Ls ∧ Below w.heap.size w w'
theorem GotLevs.mk' {w w' : World} {L : List (List (List Int))} {n : Nat} (g cap : Nat) (Ls : List LevRef) (hl : Ls.length = n) (hc : levCont Ls = L) (ho : OwnLevs w' w.heap.size g cap Ls) (hb : Below w.heap.size w w') :
    GotLevs w L (.returned (Value.slice (some ⟨g, 0, none⟩) n cap)) w' := by
  subst hl; subst hc
  exact ⟨g, cap, Ls, by simp [levCont], rfl, ho, hb⟩

theorem start_levs (w : World) : OwnLevs (((w.alloc (.cells #[] 3)).alloc (.cells #[(Value.slice (some ⟨w.heap.size, 0, none⟩) 0 0)] 28)).alloc (.cells #[(Value.slice (some ⟨(w.heap.size + 1), 0, none⟩) 1 1)] 22)) w.heap.size (w.heap.size + 2) 1 [(w.heap.size + 1, 1, [(w.heap.size, 0, [])])] := by
  have h1 : Own (w.alloc (.cells #[] 3)) w.heap.size w.heap.size 0 [] := Own.empty (w := w) (Nat.le_refl _)
  have h2 : OwnV ((w.alloc (.cells #[] 3)).alloc (.cells #[(Value.slice (some ⟨w.heap.size, 0, none⟩) 0 0)] 28)) w.heap.size 28 (w.heap.size + 1) 1 [(Value.slice (some ⟨w.heap.size, 0, none⟩) 0 0)] := by
    have := OwnV.new (w := w.alloc (.cells #[] 3)) (B := w.heap.size) (E := 28) (Value.slice (some ⟨w.heap.size, 0, none⟩) 0 0) rfl (by simp)
    simpa using this
  have h3 : OwnV (((w.alloc (.cells #[] 3)).alloc (.cells #[(Value.slice (some ⟨w.heap.size, 0, none⟩) 0 0)] 28)).alloc (.cells #[(Value.slice (some ⟨(w.heap.size + 1), 0, none⟩) 1 1)] 22)) w.heap.size 22 (w.heap.size + 2) 1 [(Value.slice (some ⟨(w.heap.size + 1), 0, none⟩) 1 1)] := by
    have := OwnV.new (w := (w.alloc (.cells #[] 3)).alloc (.cells #[(Value.slice (some ⟨w.heap.size, 0, none⟩) 0 0)] 28)) (B := w.heap.size) (E := 22) (Value.slice (some ⟨(w.heap.size + 1), 0, none⟩) 1 1) rfl (by simp; omega)
    simpa using this
  refine ⟨h3, fun L hL => ?_⟩
  rw [List.mem_singleton] at hL
  subst hL
  exact ⟨h2.alloc _, ⟨fun r hr => by rw [List.mem_singleton] at hr; subst hr; exact (h1.alloc _).alloc _, by simp⟩⟩
theorem depth_stop {c : List (List Int)} {most t : Nat} (ht15 : t ≤ 15) (htm : t ≤ most) (h : ¬ (t + 1 ≤ most ∧ t + 1 ≤ 15)) (hd : depthG c (min most 15 - t) t = depthG c (min most 15) 0) : t = depthG c (min most 15) 0 := by
  have e : min most 15 - t = 0 := by omega
  rw [e] at hd
  exact hd
theorem depth_end {c : List (List Int)} {most t : Nat} (h : t + 1 ≤ most ∧ t + 1 ≤ 15) (hz : levS c (t + 1) = [] ∨ 200 < tot c (t + 1)) (hd : depthG c (min most 15 - t) t = depthG c (min most 15) 0) : t = depthG c (min most 15) 0 := by
  have e : min most 15 - t = (min most 15 - (t + 1)) + 1 := by omega
  rw [e] at hd
  simp only [depthG] at hd
  rwa [if_pos hz] at hd
theorem depth_go {c : List (List Int)} {most t : Nat} (h : t + 1 ≤ most ∧ t + 1 ≤ 15) (hz : ¬ (levS c (t + 1) = [] ∨ 200 < tot c (t + 1))) (hd : depthG c (min most 15 - t) t = depthG c (min most 15) 0) : depthG c (min most 15 - (t + 1)) (t + 1) = depthG c (min most 15) 0 := by
  have e : min most 15 - t = (min most 15 - (t + 1)) + 1 := by omega
  rw [e] at hd
  simp only [depthG] at hd
  rwa [if_neg hz] at hd

end Go.Proofs.YtobeigdjhepedaaGreatDoor
namespace Go.Proofs.YtobeigdjhepedaaGreatDoor
set_option maxRecDepth 100000
open Go.RowKit Game

def in30 (V : List (List Int)) : Bool := V.all fun v => v.all fun x => decide (-30 ≤ x) && decide (x ≤ 30)
/-- counts the elements' images, shell by shell; 0 if a number is too great -/
def shN (c : List (List Int)) : Nat → List (List Int) → Nat → Nat
  | 0, _, _ => 0
  | f + 1, sh, t => match sh with
    | [] => t
    | x :: r => if in30 (x :: r) = true then shN c f (shTo c (x :: r) (x :: r).length) (t + (x :: r).length) else 0
def szC (c : List (List Int)) (z : Int) : Bool := decide (1 ≤ z) && (decide (200 < z) || decide ((shN c (if z ≤ 48 then 11 else 28) [onesL c.length] 0 : Int) = z))
def szB (c : List (List Int)) : Bool := szC c (prodT (nameL c))
def colL (c : List (List Int)) (j : Nat) (v : List Int) : List (List Int) := (List.range c.length).map fun k => (c.getD k []).set j (v.getD k 0)
def dC (c : List (List Int)) : Int := det c.length c
def colOf (c : List (List Int)) (i : Nat) : List Int := (List.range c.length).map fun k => ent c k i
/-- the kernel's: columns are independent, and the determinant is positive -/
def crB (c : List (List Int)) : Bool := decide (0 < dC c) && (List.range c.length).all fun j => (List.range c.length).all fun i => decide (i = j) || decide (det c.length (colL c j (colOf c i)) = 0)
def szK (c : List (List Int)) : Bool := crB c && szB c
def chkD (P : List (List Int) → Bool) (a b e d : Int × Int) : Bool := L6.all fun f => bad3 a d f || L6.all fun g => bad3 b d g || (bad3 e f g || (decide (det 4 (mat4 a b d e f g) ≤ 0) || P (mat4 a b d e f g)))
def chkE (P : List (List Int) → Bool) (a b e : Int × Int) : Bool := bad3 a b e || L6.all fun d => chkD P a b e d
theorem chkE_eq (P : List (List Int) → Bool) (a b : Int × Int) : chk4At P a b = L6.all fun e => chkE P a b e := rfl
end Go.Proofs.YtobeigdjhepedaaGreatDoor
namespace Go.Proofs.YtobeigdjhepedaaGreatDoor
set_option maxRecDepth 100000
open Go.RowKit Game

theorem szK_1 : szK [[2]] = true := by kernel_rfl
theorem szK_2 : chk2 szK = true := by kernel_rfl
theorem szK_3 : chk3 szK = true := by kernel_rfl
theorem szK_4_01 : chk4At szK (0, 0) (-1, -1) = true := by kernel_rfl
theorem szK_4_02 : chk4At szK (0, 0) (-1, -2) = true := by kernel_rfl
theorem szK_4_03 : chk4At szK (0, 0) (-2, -1) = true := by kernel_rfl
theorem szK_4_04 : chk4At szK (0, 0) (-1, -3) = true := by kernel_rfl
theorem szK_4_05 : chk4At szK (0, 0) (-3, -1) = true := by kernel_rfl
theorem szK_4_10 : chk4At szK (-1, -1) (0, 0) = true := by kernel_rfl
theorem szK_4_11 : chk4At szK (-1, -1) (-1, -1) = true := by kernel_rfl
theorem szK_4_12 : chk4At szK (-1, -1) (-1, -2) = true := by kernel_rfl
theorem szK_4_13 : chk4At szK (-1, -1) (-2, -1) = true := by kernel_rfl
theorem szK_4_14 : chk4At szK (-1, -1) (-1, -3) = true := by kernel_rfl
theorem szK_4_15 : chk4At szK (-1, -1) (-3, -1) = true := by kernel_rfl
end Go.Proofs.YtobeigdjhepedaaGreatDoor
namespace Go.Proofs.YtobeigdjhepedaaGreatDoor
set_option maxRecDepth 100000
open Go.RowKit Game

theorem szK_4_20 : chk4At szK (-1, -2) (0, 0) = true := by kernel_rfl
theorem szK_4_21 : chk4At szK (-1, -2) (-1, -1) = true := by kernel_rfl
theorem szK_4_22 : chk4At szK (-1, -2) (-1, -2) = true := by kernel_rfl
theorem szK_4_23 : chk4At szK (-1, -2) (-2, -1) = true := by kernel_rfl
theorem szK_4_24 : chk4At szK (-1, -2) (-1, -3) = true := by kernel_rfl
theorem szK_4_25 : chk4At szK (-1, -2) (-3, -1) = true := by kernel_rfl
theorem szK_4_30 : chk4At szK (-2, -1) (0, 0) = true := by kernel_rfl
theorem szK_4_31 : chk4At szK (-2, -1) (-1, -1) = true := by kernel_rfl
theorem szK_4_32 : chk4At szK (-2, -1) (-1, -2) = true := by kernel_rfl
theorem szK_4_33 : chk4At szK (-2, -1) (-2, -1) = true := by kernel_rfl
theorem szK_4_34 : chk4At szK (-2, -1) (-1, -3) = true := by kernel_rfl
theorem szK_4_35 : chk4At szK (-2, -1) (-3, -1) = true := by kernel_rfl
end Go.Proofs.YtobeigdjhepedaaGreatDoor
namespace Go.Proofs.YtobeigdjhepedaaGreatDoor
set_option maxRecDepth 100000
open Go.RowKit Game

theorem szK_4_40 : chk4At szK (-1, -3) (0, 0) = true := by kernel_rfl
theorem szK_4_41 : chk4At szK (-1, -3) (-1, -1) = true := by kernel_rfl
theorem szK_4_42 : chk4At szK (-1, -3) (-1, -2) = true := by kernel_rfl
theorem szK_4_43 : chk4At szK (-1, -3) (-2, -1) = true := by kernel_rfl
theorem szK_4_44 : chk4At szK (-1, -3) (-1, -3) = true := by kernel_rfl
theorem szK_4_45 : chk4At szK (-1, -3) (-3, -1) = true := by kernel_rfl
theorem szK_4_50 : chk4At szK (-3, -1) (0, 0) = true := by kernel_rfl
theorem szK_4_51 : chk4At szK (-3, -1) (-1, -1) = true := by kernel_rfl
theorem szK_4_52 : chk4At szK (-3, -1) (-1, -2) = true := by kernel_rfl
theorem szK_4_53 : chk4At szK (-3, -1) (-2, -1) = true := by kernel_rfl
theorem szK_4_54 : chk4At szK (-3, -1) (-1, -3) = true := by kernel_rfl
theorem szK_4_55 : chk4At szK (-3, -1) (-3, -1) = true := by kernel_rfl
end Go.Proofs.YtobeigdjhepedaaGreatDoor
namespace Go.Proofs.YtobeigdjhepedaaGreatDoor
set_option maxRecDepth 100000
open Go.RowKit Game

theorem szK_D_0 : chkD szK (0, 0) (0, 0) (0, 0) (0, 0) = true := by kernel_rfl
theorem szK_D_1 : chkD szK (0, 0) (0, 0) (0, 0) (-1, -1) = true := by kernel_rfl
theorem szK_D_2 : chkD szK (0, 0) (0, 0) (0, 0) (-1, -2) = true := by kernel_rfl
theorem szK_D_3 : chkD szK (0, 0) (0, 0) (0, 0) (-2, -1) = true := by kernel_rfl
theorem szK_D_4 : chkD szK (0, 0) (0, 0) (0, 0) (-1, -3) = true := by kernel_rfl
theorem szK_D_5 : chkD szK (0, 0) (0, 0) (0, 0) (-3, -1) = true := by kernel_rfl
end Go.Proofs.YtobeigdjhepedaaGreatDoor
namespace Go.Proofs.YtobeigdjhepedaaGreatDoor
set_option maxRecDepth 100000
open Go.RowKit Game

theorem szK_E_1 : chkE szK (0, 0) (0, 0) (-1, -1) = true := by kernel_rfl
theorem szK_E_2 : chkE szK (0, 0) (0, 0) (-1, -2) = true := by kernel_rfl
theorem szK_E_3 : chkE szK (0, 0) (0, 0) (-2, -1) = true := by kernel_rfl
theorem szK_E_4 : chkE szK (0, 0) (0, 0) (-1, -3) = true := by kernel_rfl
theorem szK_E_5 : chkE szK (0, 0) (0, 0) (-3, -1) = true := by kernel_rfl
end Go.Proofs.YtobeigdjhepedaaGreatDoor
namespace Go.Proofs.YtobeigdjhepedaaGreatDoor
set_option maxRecDepth 100000
open Go.RowKit Game

theorem szK_E_0 : chkE szK (0, 0) (0, 0) (0, 0) = true := by
  unfold chkE
  simp only [L6, List.all_cons, List.all_nil, Bool.and_true, szK_D_0, szK_D_1, szK_D_2, szK_D_3, szK_D_4, szK_D_5, Bool.or_true]
theorem szK_4_00 : chk4At szK (0, 0) (0, 0) = true := by
  rw [chkE_eq]
  simp only [L6, List.all_cons, List.all_nil, Bool.and_true, szK_E_0, szK_E_1, szK_E_2, szK_E_3, szK_E_4, szK_E_5]
theorem szK_4 : chk4 szK = true := by
  rw [chk4_eq]
  simp only [L6, List.all_cons, List.all_nil, Bool.and_true, szK_4_00, szK_4_01, szK_4_02, szK_4_03, szK_4_04, szK_4_05, szK_4_10, szK_4_11, szK_4_12, szK_4_13, szK_4_14, szK_4_15, szK_4_20, szK_4_21, szK_4_22, szK_4_23, szK_4_24, szK_4_25, szK_4_30, szK_4_31, szK_4_32, szK_4_33, szK_4_34, szK_4_35, szK_4_40, szK_4_41, szK_4_42, szK_4_43, szK_4_44, szK_4_45, szK_4_50, szK_4_51, szK_4_52, szK_4_53, szK_4_54, szK_4_55]
theorem szK_fin {c : List (List Int)} (hC : IsC c) (hf : finB c = true) : szK c = true := fin_all szK szK_1 szK_2 szK_3 szK_4 hC hf
end Go.Proofs.YtobeigdjhepedaaGreatDoor
namespace Go.Proofs.YtobeigdjhepedaaGreatDoor
set_option maxRecDepth 100000
open Go.RowKit Game

def ballOk (c : List (List Int)) (M : Nat) : Bool := decide (depthG c M 0 = M ∨ levS c (depthG c M 0 + 1) = [])
theorem levs_flat_succ (c : List (List Int)) (m : Nat) : (levsTo c (m + 1)).flatten = (levsTo c m).flatten ++ levS c (m + 1) := by rw [levsTo_succ]; simp
theorem tot_flat (c : List (List Int)) : ∀ m, (levsTo c m).flatten.length = tot c m
  | 0 => rfl
  | m + 1 => by rw [levs_flat_succ, List.length_append, tot_flat c m]; rfl
/-- where the loop stands: t levels are done -/
structure BallSt (c : List (List Int)) (M t : Nat) : Prop where
  le : t ≤ M
  small : tot c t ≤ 200
  on : levS c t ≠ [] → depthG c (M - t) t = depthG c M 0
  off : levS c t = [] → depthG c M 0 + 1 = t
theorem BallSt.zero (c : List (List Int)) (M : Nat) : BallSt c M 0 := ⟨Nat.zero_le _, by simp [tot], fun _ => rfl, fun h => by simp [levS] at h⟩
theorem BallSt.done {c : List (List Int)} {M t : Nat} (h : BallSt c M t) (hd : ¬ t + 1 ≤ M ∨ levS c t = []) : (levsTo c t).flatten = (levsTo c (depthG c M 0)).flatten ∧ ballOk c M = true := by
  by_cases hz : levS c t = []
  · have h1 := h.off hz
    rw [← h1] at hz ⊢
    refine ⟨by rw [levs_flat_succ, hz, List.append_nil], ?_⟩
    unfold ballOk
    simp [hz]
  · have h1 := h.on hz
    have h2 : M - t = 0 := by have := h.le; rcases hd with h | h; · omega
                              exact absurd h hz
    rw [h2] at h1
    have h3 : depthG c 0 t = t := rfl
    rw [h3] at h1
    rw [← h1]
    refine ⟨rfl, ?_⟩
    unfold ballOk
    rw [← h1]
    have := h.le
    simp; left; omega
theorem BallSt.step {c : List (List Int)} {M t : Nat} (h : BallSt c M t) (ht : t + 1 ≤ M) (hz : levS c t ≠ []) (hs : tot c (t + 1) ≤ 200) : BallSt c M (t + 1) := by
  have h1 := h.on hz
  have e : M - t = (M - (t + 1)) + 1 := by omega
  rw [e] at h1
  simp only [depthG] at h1
  refine ⟨ht, hs, fun hn => ?_, fun hn => ?_⟩
  · rwa [if_neg (by intro h; rcases h with h | h; · exact hn h
                    omega)] at h1
  · rw [if_pos (.inl hn)] at h1; omega
theorem BallSt.over {c : List (List Int)} {M t : Nat} (h : BallSt c M t) (ht : t + 1 ≤ M) (hz : levS c t ≠ []) (hs : 200 < tot c (t + 1)) : t = depthG c M 0 ∧ ballOk c M = false := by
  have h1 := h.on hz
  have e : M - t = (M - (t + 1)) + 1 := by omega
  rw [e] at h1
  simp only [depthG] at h1
  rw [if_pos (.inr hs)] at h1
  refine ⟨h1, ?_⟩
  unfold ballOk
  rw [← h1]
  apply decide_eq_false
  rintro (g | g)
  · omega
  · have := h.small
    simp only [tot, g] at hs
    simp at hs; omega

end Go.Proofs.YtobeigdjhepedaaGreatDoor
