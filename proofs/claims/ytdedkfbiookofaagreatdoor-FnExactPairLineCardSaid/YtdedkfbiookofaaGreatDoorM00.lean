/- Words of my own for slices of integers: what a slice reads as, what a call has made, and what stays. The laws' own helpers: toIntS, eqIntS, markIntS, heldIntS. More words: append of one integer at a named length; a call that gives a value. -/
import Derived.Test.YtdedkfbiookofaaGreatDoorProg
import Derived.WalkKit
import Derived.WalkSmall
import Derived.RegionTactic
import Derived.BigQuiet
import Derived.Deep.QuietTactic
import Derived.Lib.Hide
import Derived.Outline
namespace Go.Proofs.YtdedkfbiookofaaGreatDoor
set_option maxRecDepth 100000
open Go.RowKit
theorem info3 : (Tryz.prog.info? 3).map (fun i => (i.zero, i.size, i.bytes)) = some (some (.int .i64 0), 1, 8) := by kernel_rfl
/-- the cells from an address on hold these integers -/
def Cells (w : World) (g o : Nat) (xs : List Int) : Prop := ∀ j, j < xs.length → w.cell? ⟨g, o + j, none⟩ = some (.int .i64 (xs.getD j 0))
/-- the slice at the head of block g was made by the call (from block B on) and holds these integers -/
def Own (w : World) (B g cap : Nat) (xs : List Int) : Prop :=
  w.ownsRow B 3 1 (Value.slice (some ⟨g, 0, none⟩) xs.length cap) xs.length (xs.map (Value.int .i64))
theorem Own.base {w : World} {B g cap : Nat} {xs : List Int} (h : Own w B g cap xs) : B ≤ g := (World.ownsRow.lt h g rfl).1
theorem Own.lt {w : World} {B g cap : Nat} {xs : List Int} (h : Own w B g cap xs) : g < w.heap.size := (World.ownsRow.lt h g rfl).2
theorem Own.capLe {w : World} {B g cap : Nat} {xs : List Int} (h : Own w B g cap xs) : xs.length ≤ cap := by
  rcases h.2 with ⟨h', _⟩ | ⟨g', cap', cur, h', _, _, hn, _⟩
  · simp at h'
  · simp only [Value.slice.injEq] at h'; omega
theorem Own.cell {w : World} {B g cap : Nat} {xs : List Int} (h : Own w B g cap xs) (j : Nat) (hj : j < xs.length) : w.cell? ⟨g, j, none⟩ = some (.int .i64 (xs.getD j 0)) := by
  rw [World.ownsRow.cellAt h j (by omega)]
  simp [List.getD, hj]
theorem Own.cells {w : World} {B g cap : Nat} {xs : List Int} (h : Own w B g cap xs) : Cells w g 0 xs := fun j hj => by
  rw [Nat.zero_add]; exact h.cell j hj
theorem Own.frozen {w : World} {B g cap : Nat} {xs : List Int} (h : Own w B g cap xs) (j : Nat) : w.frozen? ⟨g, j, none⟩ = false := World.ownsRow.frozenAt h j
theorem Own.mono {w : World} {B B' g cap : Nat} {xs : List Int} (h : Own w B g cap xs) (hB : B' ≤ B) : Own w B' g cap xs := by
  refine ⟨h.1, ?_⟩
  rcases h.2 with ⟨h', _⟩ | ⟨g', cap', cur, h', hb, r⟩
  · simp at h'
  · exact .inr ⟨g', cap', cur, h', by omega, r⟩
theorem Own.grown {w w' : World} {row : Option Nat} {B g cap : Nat} {xs : List Int} (h : Own w B g cap xs) (hg : w.grownBy w' row) (hne : some g ≠ row) : Own w' B g cap xs :=
  World.ownsRow.kept h hg (.inr hne)
theorem Own.below {w w' : World} {B B' g cap : Nat} {xs : List Int} (h : Own w B g cap xs) (hb : Below B' w w') (hg : g < B') : Own w' B g cap xs := by
  refine ⟨h.1, ?_⟩
  rcases h.2 with ⟨h', _⟩ | ⟨g', cap', cur, h', hbb, hh, r⟩
  · simp at h'
  · refine .inr ⟨g', cap', cur, h', hbb, ?_, r⟩
    simp only [Value.slice.injEq, Option.some.injEq, Addr.mk.injEq] at h'
    obtain ⟨⟨rfl, _⟩, _⟩ := h'
    rw [hb.block _ hg]; exact hh
theorem Own.drewN {w : World} {B g cap : Nat} {xs : List Int} (h : Own w B g cap xs) (n : Nat) : Own (w.drewN n) B g cap xs := h
theorem Own.drew {w : World} {B g cap : Nat} {xs : List Int} (h : Own w B g cap xs) : Own w.drew B g cap xs := h
theorem Own.alloc {w : World} {B g cap : Nat} {xs : List Int} (h : Own w B g cap xs) (o : Obj) : Own (w.alloc o) B g cap xs := World.ownsRow.alloc h o
theorem Own.set {w : World} {B g cap : Nat} {xs : List Int} (h : Own w B g cap xs) (j : Nat) (n : Int) :
    Own (w.setCell ⟨g, j, none⟩ (.int .i64 n)) B g cap (xs.set j n) ∧ w.grownBy (w.setCell ⟨g, j, none⟩ (.int .i64 n)) (some g) := by
  have := World.ownsRow.stored h j (.int .i64 n)
  refine ⟨?_, this.2⟩
  unfold Own
  rw [List.length_set, List.map_set]
  exact this.1
theorem Own.set2 {w : World} {B g cap : Nat} {xs : List Int} (h : Own w B g cap xs) (i j : Nat) (a b : Int) :
    Own ((w.setCell ⟨g, i, none⟩ (.int .i64 a)).setCell ⟨g, j, none⟩ (.int .i64 b)) B g cap ((xs.set i a).set j b) ∧ w.grownBy ((w.setCell ⟨g, i, none⟩ (.int .i64 a)).setCell ⟨g, j, none⟩ (.int .i64 b)) (some g) :=
  have h2 := (h.set i a).1.set j b
  have h1 := (h.set i a).2
  ⟨h2.1, ⟨h2.2.os.trans h1.os, h2.2.tape.trans h1.tape, h2.2.output.trans h1.output, Nat.le_trans h1.size h2.2.size, fun k hk hne => (h2.2.block k (Nat.lt_of_lt_of_le hk h1.size) hne).trans (h1.block k hk hne)⟩⟩
theorem grown_drew {a b : World} {row : Option Nat} (h : a.grownBy b row) : a.grownBy b.drew row := ⟨h.os, h.tape, h.output, h.size, h.block⟩
theorem grown_drewN {a b : World} {row : Option Nat} (h : a.grownBy b row) (n : Nat) : a.grownBy (b.drewN n) row := ⟨h.os, h.tape, h.output, h.size, h.block⟩
theorem Cells.below {w w' : World} {B g o : Nat} {xs : List Int} (h : Cells w g o xs) (hb : Below B w w') (hg : g < B) : Cells w' g o xs :=
  fun j hj => (hb.cell (p := ⟨g, o + j, none⟩) hg).trans (h j hj)
theorem Cells.grown {w w' : World} {row : Option Nat} {g o : Nat} {xs : List Int} (h : Cells w g o xs) (hg : w.grownBy w' row) (hne : some g ≠ row) : Cells w' g o xs :=
  fun j hj => hg.cell (a := ⟨g, o + j, none⟩) (h j hj) hne
theorem Cells.take {w : World} {g o : Nat} {xs : List Int} (h : Cells w g o xs) (n : Nat) : Cells w g o (xs.take n) := fun j hj => by
  have hj' : j < xs.length := by rw [List.length_take] at hj; omega
  have hn : j < n := by rw [List.length_take] at hj; omega
  rw [h j hj']; simp [List.getD, hn]
theorem Cells.drop {w : World} {g o : Nat} {xs : List Int} (h : Cells w g o xs) (n : Nat) : Cells w g (o + n) (xs.drop n) := fun j hj => by
  have hj' : n + j < xs.length := by rw [List.length_drop] at hj; omega
  rw [Nat.add_assoc, h (n + j) hj']; simp [List.getD, List.getElem?_drop]
/-- what came in as a slice of integers: nothing is known of its address where it is empty -/
def ArgInts (w : World) (a : Option Addr) (xs : List Int) : Prop := xs = [] ∨ ∃ g o, a = some ⟨g, o, none⟩ ∧ g < w.heap.size ∧ Cells w g o xs
theorem ArgInts.below {w w' : World} {a : Option Addr} {xs : List Int} (h : ArgInts w a xs) (hb : Below w.heap.size w w') : ArgInts w' a xs := by
  rcases h with h | ⟨g, o, ha, hg, hc⟩
  · exact .inl h
  · exact .inr ⟨g, o, ha, Nat.lt_of_lt_of_le hg hb.size, hc.below hb hg⟩
/-- out of what the frame tells of a slice of integers that came in -/
theorem argInts_of {w : World} {a : Option Addr} {len cap : Nat} {zs : List Int}
    (h : (a = none ∧ len = 0 ∧ cap = 0 ∧ zs = []) ∨ ∃ x : Addr, a = some x ∧ len ≤ cap ∧ cap ≤ maxLen ∧ zs.length = cap ∧ (∀ i, i < zs.length → w.cell? (x.add i) = some (.int .i64 (zs.getD i 0))) ∧ ∀ n ∈ zs, (Lit.int .i64 n).wf = true) :
    ArgInts w a (zs.take len) ∧ (zs.take len).length = len ∧ ∀ n ∈ zs.take len, (Lit.int .i64 n).wf = true := by
  rcases h with ⟨rfl, rfl, rfl, rfl⟩ | ⟨x, rfl, hl, hm, hz, hc, hw⟩
  · exact ⟨.inl rfl, rfl, by simp⟩
  · refine ⟨?_, by rw [List.length_take]; omega, fun n hn => hw n (List.mem_of_mem_take hn)⟩
    by_cases h0 : len = 0
    · subst h0; exact .inl rfl
    · have h1 := hc 0 (by omega)
      obtain ⟨b, o, s⟩ := x
      cases s with
      | none =>
        refine .inr ⟨b, o, rfl, World.block_lt_of_cell? w _ h1, ?_⟩
        have : Cells w b o zs := fun j hj => by have := hc j hj; rwa [Addr.add_lit] at this
        exact this.take len
      | some s => simp [World.cell?, Addr.add] at h1; split at h1 <;> simp_all
/-- the call only reads -/
def Reads (w : World) (v : Value) (e : Ending) (w' : World) : Prop := e = .returned v ∧ ∃ n, w' = w.drewN n
/-- the call hands back a new slice of integers -/
def GotInts (w : World) (xs : List Int) (e : Ending) (w' : World) : Prop :=
  ∃ g cap, e = .returned (Value.slice (some ⟨g, 0, none⟩) xs.length cap) ∧ Own w' w.heap.size g cap xs ∧ Below w.heap.size w w'
theorem GotInts.mk' {w w' : World} {xs : List Int} {n : Nat} (g cap : Nat) (hn : xs.length = n) (ho : Own w' w.heap.size g cap xs) (hb : Below w.heap.size w w') :
    GotInts w xs (.returned (Value.slice (some ⟨g, 0, none⟩) n cap)) w' := by subst hn; exact ⟨g, cap, rfl, ho, hb⟩
/-- .. and a bool -/
def GotIntsB (w : World) (xs : List Int) (b : Bool) (e : Ending) (w' : World) : Prop :=
  ∃ g cap, e = .returned (.tuple #[(Value.slice (some ⟨g, 0, none⟩) xs.length cap), .bool b]) ∧ Own w' w.heap.size g cap xs ∧ Below w.heap.size w w'
theorem GotIntsB.mk' {w w' : World} {xs : List Int} {b : Bool} {n : Nat} (g cap : Nat) (hn : xs.length = n) (ho : Own w' w.heap.size g cap xs) (hb : Below w.heap.size w w') :
    GotIntsB w xs b (.returned (.tuple #[(Value.slice (some ⟨g, 0, none⟩) n cap), .bool b])) w' := by subst hn; exact ⟨g, cap, rfl, ho, hb⟩
theorem still2 (w : World) (n m : Nat) : ∃ k, (w.drewN n).drewN m = w.drewN k := ⟨_, World.drewN_drewN _ _ _⟩
theorem still3 (w : World) (n m l : Nat) : ∃ k, ((w.drewN n).drewN m).drewN l = w.drewN k := ⟨n + (m + l), by rw [World.drewN_drewN, World.drewN_drewN]⟩
theorem below_drewN' {B : Nat} (w : World) (n : Nat) : Below B w (w.drewN n) := below_drewN (Below.refl B w) n
theorem ret_bool {a b : Bool} (h : a = b) : Ending.returned (Value.bool a) = .returned (.bool b) := by rw [h]
theorem ret_int {a b : Int} (h : a = b) : Ending.returned (Value.int .i64 a) = .returned (.int .i64 b) := by rw [h]
theorem run_append_ints {w : World} {B g cap : Nat} {xs : List Int} (hown : Own w B g cap xs) {g2 o2 c2 : Nat} {ys : List Int} (hc : Cells w g2 o2 ys) (hlen : xs.length + ys.length ≤ 1099511627776) (ty : TypeId) :
    ∃ g' cap' w', (Builtin.append_ #[25, 25] ty #[(Value.slice (some ⟨g, 0, none⟩) xs.length cap), (Value.slice (some ⟨g2, o2, none⟩) ys.length c2)]).run Tryz.prog w = .ok (Value.slice (some ⟨g', 0, none⟩) (xs.length + ys.length) cap') w' ∧
      Own w' B g' cap' (xs ++ ys) ∧ w.grownBy w' (some g) ∧ (g' = g ∨ g' = w.heap.size) := by
  obtain ⟨i0, hi, hz0, hz1, hz2⟩ := info_parts info3
  have hlt := hown.lt
  have hBg := hown.base
  have hnews : ∀ j u, (ys.map (Value.int .i64))[j]? = some u → w.cell? ((⟨g2, o2, none⟩ : Addr).add j) = some u := by
    intro j u hu
    have hj : j < ys.length := by have := (List.getElem?_eq_some_iff.1 hu).1; simpa using this
    rw [Addr.add_lit, hc j hj]
    rw [← hu]
    simp [List.getD, hj]
  have hl : (ys.map (Value.int .i64)).length = ys.length * i0.size := by simp [hz1]
  obtain ⟨v', w', hr, ho, hg, -⟩ := run_append_own (P := Tryz.prog) w B 25 ty 3 i0 (.int .i64 0) 1 8 Tryz.underlying25 hi hz0 hz1 hz2 rfl (by decide) _ xs.length _ hown ⟨g2, o2, none⟩ ys.length c2
    (ys.map (Value.int .i64)) (by simp) hnews (ints_oneCell _ _) (by unfold maxLen; omega) (by omega) (by omega)
  have fin : ∀ g' cap', v' = (Value.slice (some ⟨g', 0, none⟩) (xs.length + ys.length) cap') → (g' = g ∨ g' = w.heap.size) → ∃ g' cap' w', (Builtin.append_ #[25, 25] ty #[(Value.slice (some ⟨g, 0, none⟩) xs.length cap), (Value.slice (some ⟨g2, o2, none⟩) ys.length c2)]).run Tryz.prog w = .ok (Value.slice (some ⟨g', 0, none⟩) (xs.length + ys.length) cap') w' ∧
      Own w' B g' cap' (xs ++ ys) ∧ w.grownBy w' (some g) ∧ (g' = g ∨ g' = w.heap.size) := by
    intro g' cap' hv hor
    subst hv
    refine ⟨g', cap', w', hr, ?_, hg, hor⟩
    unfold Own
    rw [List.length_append, List.map_append]
    exact ho
  by_cases hroom : xs.length + ys.length ≤ cap
  · rcases hown.2 with ⟨h', _⟩ | ⟨g1, cap1, cur, hv, hb, hh, hn, hm, hs, htk⟩
    · simp at h'
    simp only [Value.slice.injEq, Option.some.injEq, Addr.mk.injEq, and_true, true_and] at hv
    obtain ⟨rfl, rfl⟩ := hv
    have hr2 := run_append_room (P := Tryz.prog) w 25 ty 3 i0 Tryz.underlying25 hi g xs.length cap cur hh ⟨g2, o2, none⟩ ys.length c2 (ys.map (Value.int .i64)) hl hnews (ints_oneCell _ _) hroom (by rw [hz1] at *; simp; omega)
    rw [hr2] at hr
    simp only [Result.ok.injEq] at hr
    exact fin g cap hr.1.symm (.inl rfl)
  · have hr2 := run_append_grow (P := Tryz.prog) w 25 ty 3 i0 (.int .i64 0) Tryz.underlying25 hi hz0 ⟨g, 0, none⟩ xs.length cap (xs.map (Value.int .i64)) (by simp [hz1]) (World.ownsRow.cells hown rfl) ⟨g2, o2, none⟩ ys.length c2 _ hl hnews (by omega) (by omega) (growslice_fits (by omega) (by rw [hz2]; omega))
    rw [hr2] at hr
    simp only [Result.ok.injEq] at hr
    exact fin _ _ hr.1.symm (.inr rfl)
theorem wpList_append_ints {w : World} {ops : Array Oper} {rest : List Oper} {o : Oper} {a : Act} {Q : Exit → Act → World → Prop} (hgd : o.guard = none) (s x : Operand)
    (ho : o.op = .call { callee := .builtin .append, args := #[s, x], argTypes := #[25, 25] })
    (B g cap : Nat) (xs : List Int) (hown : Own w B g cap xs) (g2 o2 c2 : Nat) (ys : List Int) (hc : Cells w g2 o2 ys)
    (hs : a.eval s = (Value.slice (some ⟨g, 0, none⟩) xs.length cap)) (hx : a.eval x = (Value.slice (some ⟨g2, o2, none⟩) ys.length c2)) (hlen : xs.length + ys.length ≤ 1099511627776)
    (h : ∀ g' cap' w', Own w' B g' cap' (xs ++ ys) → w.grownBy w' (some g) → (g' = g ∨ g' = w.heap.size) → wpList Tryz.prog ops Q rest (a.put o.dst (Value.slice (some ⟨g', 0, none⟩) (xs.length + ys.length) cap')) w') :
    wpList Tryz.prog ops Q (o :: rest) a w := by
  obtain ⟨g', cap', w', hr, h2, h3, h4⟩ := run_append_ints hown hc (c2 := c2) hlen o.type
  refine wpList_plain hgd fun K hK => ?_
  unfold Oper.wp execOp
  simp only [ho, resolve, invoke, builtin, Sem.run_bind, Sem.run_pure, Result.andThen_ok, List.map_toArray, List.map_cons, List.map_nil, hs, hx, hr]
  exact hK _ _ (h g' cap' w' h2 h3 h4)
/-- 'make([]int, n)' -/
theorem wpList_make_ints {w : World} {ops : Array Oper} {rest : List Oper} {o : Oper} {a : Act} {Q : Exit → Act → World → Prop} (hgd : o.guard = none) (l c : Operand)
    (hop : o.op = Op.makeSlice 25 l c) (B n : Nat) (C : Int) (hC : C = (n : Int)) (hl : a.eval l = .int .i64 C) (hc : a.eval c = .int .i64 C) (hn : n ≤ 1099511627776) (hB : B ≤ w.heap.size)
    (h : ∀ w', Own w' B w.heap.size n (List.replicate n 0) → w.grownBy w' none → wpList Tryz.prog ops Q rest (a.put o.dst (Value.slice (some ⟨w.heap.size, 0, none⟩) n n)) w') :
    wpList Tryz.prog ops Q (o :: rest) a w := by
  obtain ⟨i0, hi, hz0, hz1, hz2⟩ := info_parts info3
  refine wpList_make_full _ hgd l c 25 hop B 3 i0 (.int .i64 0) 1 Tryz.underlying25 hi hz0 hz1 _ _ _ _ n hl hc hC hC (by rw [hz2]; omega) (by unfold maxLen; omega) hB ?_
  intro w' hown hgr
  refine h w' ?_ hgr
  unfold Own
  rw [List.length_replicate, List.map_replicate]
  have e : (madeCells (Value.int IntKind.i64 0).cells (n * 1)).toList = List.replicate n (Value.int .i64 0) := by
    rw [Nat.mul_one]; exact toList_madeCells_one _ _
  rw [← e]; exact hown
theorem below_of_grown {w w' : World} (h : w.grownBy w' none) : Below w.heap.size w w' := (Below.refl _ _).grown h (Nat.le_refl _) (by intro k hk; cases hk)
theorem Own.new {w : World} {B : Nat} (n : Int) (hB : B ≤ w.heap.size) : Own (w.alloc (.cells #[.int .i64 n] 3)) B w.heap.size 1 [n] :=
  World.ownsRow_lit w #[.int .i64 n] 1 hB (by decide) rfl
theorem Own.empty {w : World} {B : Nat} (hB : B ≤ w.heap.size) : Own (w.alloc (.cells #[] 3)) B w.heap.size 0 [] :=
  World.ownsRow_lit w #[] 0 hB (by decide) rfl
/-- 'append(out, x)' of one integer: x lies in a new block of its own, out is the call's own. -/
theorem wpList_append_int {w : World} {ops : Array Oper} {rest : List Oper} {o : Oper} {a : Act} {Q : Exit → Act → World → Prop} (hgd : o.guard = none) (s x : Operand)
    (ho : o.op = .call { callee := .builtin .append, args := #[s, x], argTypes := #[25, 25] })
    (B g cap : Nat) (xs : List Int) (z : Int) (hown : Own w B g cap xs) (hs : a.eval s = (Value.slice (some ⟨g, 0, none⟩) xs.length cap)) (hx : a.eval x = (Value.slice (some ⟨w.heap.size, 0, none⟩) 1 1)) (hlen : xs.length + 1 ≤ 1099511627776)
    (h : ∀ g' cap' w', Own w' B g' cap' (xs ++ [z]) → w.grownBy w' (some g) → (g' = g ∨ w.heap.size < g') → wpList Tryz.prog ops Q rest (a.put o.dst (Value.slice (some ⟨g', 0, none⟩) (xs.length + 1) cap')) w') :
    wpList Tryz.prog ops Q (o :: rest) a (w.alloc (.cells #[.int .i64 z] 3)) := by
  refine wpList_append_ints hgd s x ho B g cap xs (hown.alloc _) w.heap.size 0 1 [z] (Own.new (B := w.heap.size) z (Nat.le_refl _)).cells hs hx hlen fun g' cap' w' h1 h2 h3 => ?_
  have hgr : w.grownBy w' (some g) := ⟨h2.os, h2.tape, h2.output, Nat.le_trans (by simp) h2.size, fun k hk hne => (h2.block k (by simp; omega) hne).trans (Below.heap_alloc _ _ _ hk)⟩
  exact h g' cap' w' h1 hgr (h3.imp id (by simp; omega))
/-- 'append([]int{}, l...)' -/
theorem wpList_clone {w : World} {ops : Array Oper} {rest : List Oper} {o : Oper} {a : Act} {Q : Exit → Act → World → Prop} (hgd : o.guard = none) (s x : Operand)
    (ho : o.op = .call { callee := .builtin .append, args := #[s, x], argTypes := #[25, 25] })
    (g2 o2 n2 c2 : Nat) (ys : List Int) (hn : ys.length = n2) (hg : g2 < w.heap.size) (hc : Cells w g2 o2 ys)
    (hs : a.eval s = (Value.slice (some ⟨w.heap.size, 0, none⟩) 0 0)) (hx : a.eval x = (Value.slice (some ⟨g2, o2, none⟩) n2 c2)) (hlen : ys.length ≤ 1099511627776)
    (h : ∀ g' cap' w', Own w' w.heap.size g' cap' ys → Below w.heap.size w w' → wpList Tryz.prog ops Q rest (a.put o.dst (Value.slice (some ⟨g', 0, none⟩) n2 cap')) w') :
    wpList Tryz.prog ops Q (o :: rest) a (w.alloc (.cells #[] 3)) := by
  subst hn
  refine wpList_append_ints hgd s x ho w.heap.size w.heap.size 0 [] (Own.empty (Nat.le_refl _)) g2 o2 c2 ys (hc.below ((Below.refl _ _).alloc (Nat.le_refl _) _) hg) hs hx (by simp; omega) fun g' cap' w' h1 h2 h3 => ?_
  have := h g' cap' w' h1 (((Below.refl _ _).alloc (Nat.le_refl _) _).grown h2 (by simp) (by intro k hk; cases hk; exact Nat.le_refl _))
  simpa using this
end Go.Proofs.YtdedkfbiookofaaGreatDoor
namespace Go.Proofs.YtdedkfbiookofaaGreatDoor
set_option maxRecDepth 100000
open Go.RowKit
theorem take_succ_eq {xs ys : List Int} {k : Nat} (hl : xs.length = ys.length) (hk : k < xs.length) (h : xs.take k = ys.take k) (he : xs.getD k 0 = ys.getD k 0) : xs.take (k + 1) = ys.take (k + 1) := by
  have hk2 : k < ys.length := by omega
  rw [List.take_succ_eq_append_getElem hk, List.take_succ_eq_append_getElem hk2, h]
  simp [List.getD, hk, hk2] at he
  rw [he]
set_option maxHeartbeats 400000 in
theorem eqIntS_any (g1 o1 c1 g2 o2 c2 : Nat) (xs ys : List Int) (w : World) (hx : xs.length ≤ 1099511627776) (hy : ys.length ≤ 1099511627776)
    (hcx : Cells w g1 o1 xs) (hcy : Cells w g2 o2 ys) :
    Calls Tryz.prog 41 #[(Value.slice (some ⟨g1, o1, none⟩) xs.length c1), (Value.slice (some ⟨g2, o2, none⟩) ys.length c2)] w (Reads w (.bool (decide (xs = ys)))) := by
  by_cases hl : xs.length = ys.length
  · go_enter Tryz.func41, Tryz.ntmps41
    go_wp2
    go_loopw [5] (fun i wr => ∃ k : Nat, k ≤ xs.length ∧ i = .int .i64 k ∧ xs.take k = ys.take k ∧ ∃ n, wr = w.drewN n) (fun i _ => xs.length - (intOf i).toNat)
    case atStart => exact ⟨0, Nat.zero_le _, rfl, rfl, 0, rfl⟩
    case round =>
      obtain ⟨k, hk, rfl, he, n, rfl⟩ := hrel
      have He := Lib.hid he; clear he
      have Hl := Lib.hid hl; clear hl
      by_cases hlt : k < xs.length
      · have h1 := hcx k hlt
        have h2 := hcy k (by rw [← Hl.out]; omega)
        have hl2 : k < ys.length := by rw [← Hl.out]; omega
        go_wp2
        go_quiet (fail)
        go_wp2
        · have ht : (xs[k] != ys[k]) = true := by assumption
          go_ret
          have hne : xs ≠ ys := fun e => by subst e; simp at ht
          exact ⟨ret_bool (by simp [hne]), (by first | exact ⟨_, rfl⟩ | exact ⟨0, rfl⟩ | exact still2 _ _ _ | exact still3 _ _ _ _)⟩
        · have ht : (xs[k] != ys[k]) = false := by assumption
          go_roundw
          case rel => exact ⟨k + 1, by omega, by go_num, take_succ_eq Hl.out hlt He.out (by simpa [List.getD, hlt, hl2] using ht), (by first | exact ⟨_, rfl⟩ | exact ⟨0, rfl⟩ | exact still2 _ _ _ | exact still3 _ _ _ _)⟩
          case measure => simp [intOf]; omega
      · go_wp2
        go_ret
        refine ⟨ret_bool ?_, n, rfl⟩
        have h3 := He.out
        rw [List.take_of_length_le (by omega), List.take_of_length_le (by have := Hl.out; omega)] at h3
        simp [h3]
  · have hb : ((xs.length : Int) != (ys.length : Int)) = true := by rw [bne_iff_ne]; omega
    go_enter Tryz.func41, Tryz.ntmps41
    go_wp2
    go_ret
    exact ⟨ret_bool (by simp; intro e; exact hl (by rw [e])), 0, rfl⟩
theorem fill_set (xs : List Int) (j : Nat) (hj : j < xs.length) :
    (xs.take j ++ List.replicate (xs.length - j) 0).set j xs[j] = xs.take (j + 1) ++ List.replicate (xs.length - (j + 1)) 0 := by
  have e : xs.length - j = (xs.length - (j + 1)) + 1 := by omega
  rw [List.set_append_right _ _ (by rw [List.length_take]; omega), e, List.replicate_succ, List.take_succ_eq_append_getElem hj]
  have e2 : j - (xs.take j).length = 0 := by rw [List.length_take]; omega
  rw [e2, List.set_cons_zero, List.append_assoc]
  rfl
theorem World.grownBy.trans' {a b c : World} {row : Option Nat} (h : a.grownBy b row) (k : b.grownBy c row) : a.grownBy c row :=
  ⟨k.os.trans h.os, k.tape.trans h.tape, k.output.trans h.output, Nat.le_trans h.size k.size, fun i hi hne => (k.block i (Nat.lt_of_lt_of_le hi h.size) hne).trans (h.block i hi hne)⟩
set_option maxHeartbeats 400000 in
theorem toIntS_any (a : Option Addr) (cap : Nat) (xs : List Int) (w : World) (hx : xs.length ≤ 1099511627776) (ha : ArgInts w a xs) :
    Calls Tryz.prog 38 #[.slice a xs.length cap] w (GotInts w xs) := by
  go_enter Tryz.func38, Tryz.ntmps38
  go_wp2_with (at_make; refine wpList_make_ints rfl _ _ rfl w.heap.size xs.length _ rfl rfl rfl hx (Nat.le_refl _) ?_)
  intro w1 hown0 hgr
  have hb0 := below_of_grown hgr
  go_wp2
  go_loopw [4] (fun i wr => ∃ j : Nat, j ≤ xs.length ∧ i = .int .i64 j ∧ Own wr w.heap.size w.heap.size xs.length (xs.take j ++ List.replicate (xs.length - j) 0) ∧ Below w.heap.size w wr) (fun i _ => xs.length - (intOf i).toNat)
  case atStart => exact ⟨0, Nat.zero_le _, rfl, by simpa using hown0, hb0⟩
  case round =>
    obtain ⟨j, hj, rfl, ho, hb⟩ := hrel
    by_cases hlt : j < xs.length
    · rcases ha with rfl | ⟨g, o, rfl, hg, hc⟩
      · simp at hlt
      have hl : (xs.take j ++ List.replicate (xs.length - j) 0).length = xs.length := by simp; omega
      have h0 := hc.below hb hg j hlt
      have h1 := ho.cell j (by rw [hl]; exact hlt)
      have h2 := ho.frozen j
      have Hl := Lib.hid hl; clear hl
      go_wp2
      go_roundw
      case rel =>
        have hs := ho.set j xs[j]
        rw [fill_set xs j hlt] at hs
        exact ⟨j + 1, by omega, by go_num, hs.1, hb.grown hs.2 (by exact hb.size) (by intro k hk; cases hk; exact Nat.le_refl _)⟩
      case measure => simp [intOf]; omega
    · obtain rfl : j = xs.length := by omega
      go_wp2
      go_ret
      exact ⟨w.heap.size, xs.length, rfl, by simpa using ho, hb⟩
theorem eqIntS_same (g1 o1 n1 c1 g2 o2 n2 c2 : Nat) (xs : List Int) (w : World) (h1 : xs.length = n1) (h2 : xs.length = n2) (hx : xs.length ≤ 1099511627776)
    (hcx : Cells w g1 o1 xs) (hcy : Cells w g2 o2 xs) : Calls Tryz.prog 41 #[(Value.slice (some ⟨g1, o1, none⟩) n1 c1), (Value.slice (some ⟨g2, o2, none⟩) n2 c2)] w (Reads w (.bool true)) := by
  subst h1; subst h2
  have := eqIntS_any g1 o1 c1 g2 o2 c2 xs xs w hx hx hcx hcy
  rwa [decide_eq_true rfl] at this
end Go.Proofs.YtdedkfbiookofaaGreatDoor
namespace Go.Proofs.YtdedkfbiookofaaGreatDoor
set_option maxRecDepth 100000
open Go.RowKit
/-- the call gives a value and leaves what was there -/
def Gives (w : World) (v : Value) (e : Ending) (w' : World) : Prop := e = .returned v ∧ Below w.heap.size w w'
theorem wpList_append_int_n {w : World} {ops : Array Oper} {rest : List Oper} {o : Oper} {a : Act} {Q : Exit → Act → World → Prop} (hgd : o.guard = none) (s x : Operand)
    (ho : o.op = .call { callee := .builtin .append, args := #[s, x], argTypes := #[25, 25] })
    (B g cap n : Nat) (xs : List Int) (z : Int) (hn : xs.length = n) (hown : Own w B g cap xs) (hs : a.eval s = (Value.slice (some ⟨g, 0, none⟩) n cap)) (hx : a.eval x = (Value.slice (some ⟨w.heap.size, 0, none⟩) 1 1)) (hlen : n + 1 ≤ 1099511627776)
    (h : ∀ g' cap' w', Own w' B g' cap' (xs ++ [z]) → w.grownBy w' (some g) → (g' = g ∨ w.heap.size < g') → wpList Tryz.prog ops Q rest (a.put o.dst (Value.slice (some ⟨g', 0, none⟩) (n + 1) cap')) w') :
    wpList Tryz.prog ops Q (o :: rest) a (w.alloc (.cells #[.int .i64 z] 3)) := by
  subst hn
  exact wpList_append_int hgd s x ho B g cap xs z hown hs hx hlen h
end Go.Proofs.YtdedkfbiookofaaGreatDoor
