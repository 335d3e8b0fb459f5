/- Base Rw Rh Arg -/
import Derived.Test.YtkjglfafphffiaaGreatDoorProg
import Derived.WalkKit
import Derived.WalkSmall
import Derived.RegionTactic
import Derived.BigQuiet
import Derived.Deep.QuietTactic
import Derived.Lib.Hide
import Derived.Outline
import Derived.Deep.Matrix
import Derived.Lib.SmallJoins
namespace Go.Proofs.YtkjglfafphffiaaGreatDoor
set_option maxRecDepth 100000
open Go.RowKit
theorem info3 : (Tryz.prog.info? 3).map (fun i => (i.zero, i.size, i.bytes)) = some (some (.int .i64 0), 1, 8) := by kernel_rfl
def Cells (w : World) (g o : Nat) (xs : List Int) : Prop := ∀ j, j < xs.length → w.cell? ⟨g, o + j, none⟩ = some (.int .i64 (xs.getD j 0))
def Own (w : World) (B g cap : Nat) (xs : List Int) : Prop :=
  w.ownsRow B 3 1 (Value.slice (some ⟨g, 0, none⟩) xs.length cap) xs.length (xs.map (Value.int .i64))
theorem Own.base {w : World} {B g cap : Nat} {xs : List Int} (h : Own w B g cap xs) : B ≤ g := (World.ownsRow.lt h g rfl).1
theorem Own.lt {w : World} {B g cap : Nat} {xs : List Int} (h : Own w B g cap xs) : g < w.heap.size := (World.ownsRow.lt h g rfl).2
theorem Own.capLe {w : World} {B g cap : Nat} {xs : List Int} (h : Own w B g cap xs) : xs.length ≤ cap := by
  rcases h.2 with ⟨h', _⟩ | ⟨g', cap', cur, h', _, _, hn, _⟩
  · simp at h'
  · simp only [Value.slice.injEq] at h'; omega
theorem Own.cell {w : World} {B g cap : Nat} {xs : List Int} (h : Own w B g cap xs) (j : Nat) (hj : j < xs.length) : w.cell? ⟨g, j, none⟩ = some (.int .i64 (xs.getD j 0)) := by
  rw [World.ownsRow.cellAt h j (by omega)]
  simp [List.getD, hj]
theorem Own.cells {w : World} {B g cap : Nat} {xs : List Int} (h : Own w B g cap xs) : Cells w g 0 xs := fun j hj => by
  rw [Nat.zero_add]; exact h.cell j hj
theorem Own.frozen {w : World} {B g cap : Nat} {xs : List Int} (h : Own w B g cap xs) (j : Nat) : w.frozen? ⟨g, j, none⟩ = false := World.ownsRow.frozenAt h j
theorem Own.mono {w : World} {B B' g cap : Nat} {xs : List Int} (h : Own w B g cap xs) (hB : B' ≤ B) : Own w B' g cap xs := by
  refine ⟨h.1, ?_⟩
  rcases h.2 with ⟨h', _⟩ | ⟨g', cap', cur, h', hb, r⟩
  · simp at h'
  · exact .inr ⟨g', cap', cur, h', by omega, r⟩
theorem Own.grown {w w' : World} {row : Option Nat} {B g cap : Nat} {xs : List Int} (h : Own w B g cap xs) (hg : w.grownBy w' row) (hne : some g ≠ row) : Own w' B g cap xs :=
  World.ownsRow.kept h hg (.inr hne)
theorem Own.below {w w' : World} {B B' g cap : Nat} {xs : List Int} (h : Own w B g cap xs) (hb : Below B' w w') (hg : g < B') : Own w' B g cap xs := by
  refine ⟨h.1, ?_⟩
  rcases h.2 with ⟨h', _⟩ | ⟨g', cap', cur, h', hbb, hh, r⟩
  · simp at h'
  · refine .inr ⟨g', cap', cur, h', hbb, ?_, r⟩
    simp only [Value.slice.injEq, Option.some.injEq, Addr.mk.injEq] at h'
    obtain ⟨⟨rfl, _⟩, _⟩ := h'
    rw [hb.block _ hg]; exact hh
theorem Own.drewN {w : World} {B g cap : Nat} {xs : List Int} (h : Own w B g cap xs) (n : Nat) : Own (w.drewN n) B g cap xs := h
theorem Own.drew {w : World} {B g cap : Nat} {xs : List Int} (h : Own w B g cap xs) : Own w.drew B g cap xs := h
theorem Own.alloc {w : World} {B g cap : Nat} {xs : List Int} (h : Own w B g cap xs) (o : Obj) : Own (w.alloc o) B g cap xs := World.ownsRow.alloc h o
theorem Own.set {w : World} {B g cap : Nat} {xs : List Int} (h : Own w B g cap xs) (j : Nat) (n : Int) :
    Own (w.setCell ⟨g, j, none⟩ (.int .i64 n)) B g cap (xs.set j n) ∧ w.grownBy (w.setCell ⟨g, j, none⟩ (.int .i64 n)) (some g) := by
  have := World.ownsRow.stored h j (.int .i64 n)
  refine ⟨?_, this.2⟩
  unfold Own
  rw [List.length_set, List.map_set]
  exact this.1
theorem Own.set2 {w : World} {B g cap : Nat} {xs : List Int} (h : Own w B g cap xs) (i j : Nat) (a b : Int) :
    Own ((w.setCell ⟨g, i, none⟩ (.int .i64 a)).setCell ⟨g, j, none⟩ (.int .i64 b)) B g cap ((xs.set i a).set j b) ∧ w.grownBy ((w.setCell ⟨g, i, none⟩ (.int .i64 a)).setCell ⟨g, j, none⟩ (.int .i64 b)) (some g) :=
  have h2 := (h.set i a).1.set j b
  have h1 := (h.set i a).2
  ⟨h2.1, ⟨h2.2.os.trans h1.os, h2.2.tape.trans h1.tape, h2.2.output.trans h1.output, Nat.le_trans h1.size h2.2.size, fun k hk hne => (h2.2.block k (Nat.lt_of_lt_of_le hk h1.size) hne).trans (h1.block k hk hne)⟩⟩
theorem grown_drew {a b : World} {row : Option Nat} (h : a.grownBy b row) : a.grownBy b.drew row := ⟨h.os, h.tape, h.output, h.size, h.block⟩
theorem Cells.below {w w' : World} {B g o : Nat} {xs : List Int} (h : Cells w g o xs) (hb : Below B w w') (hg : g < B) : Cells w' g o xs :=
  fun j hj => (hb.cell (p := ⟨g, o + j, none⟩) hg).trans (h j hj)
theorem Cells.grown {w w' : World} {row : Option Nat} {g o : Nat} {xs : List Int} (h : Cells w g o xs) (hg : w.grownBy w' row) (hne : some g ≠ row) : Cells w' g o xs :=
  fun j hj => hg.cell (a := ⟨g, o + j, none⟩) (h j hj) hne
theorem Cells.take {w : World} {g o : Nat} {xs : List Int} (h : Cells w g o xs) (n : Nat) : Cells w g o (xs.take n) := fun j hj => by
  have hj' : j < xs.length := by rw [List.length_take] at hj; omega
  have hn : j < n := by rw [List.length_take] at hj; omega
  rw [h j hj']; simp [List.getD, hn]
theorem Cells.drop {w : World} {g o : Nat} {xs : List Int} (h : Cells w g o xs) (n : Nat) : Cells w g (o + n) (xs.drop n) := fun j hj => by
  have hj' : n + j < xs.length := by rw [List.length_drop] at hj; omega
  rw [Nat.add_assoc, h (n + j) hj']; simp [List.getD, List.getElem?_drop]
def Reads (w : World) (v : Value) (e : Ending) (w' : World) : Prop := e = .returned v ∧ ∃ n, w' = w.drewN n
def GotInts (w : World) (xs : List Int) (e : Ending) (w' : World) : Prop :=
  ∃ g cap, e = .returned (Value.slice (some ⟨g, 0, none⟩) xs.length cap) ∧ Own w' w.heap.size g cap xs ∧ Below w.heap.size w w'
theorem GotInts.mk' {w w' : World} {xs : List Int} {n : Nat} (g cap : Nat) (hn : xs.length = n) (ho : Own w' w.heap.size g cap xs) (hb : Below w.heap.size w w') :
    GotInts w xs (.returned (Value.slice (some ⟨g, 0, none⟩) n cap)) w' := by subst hn; exact ⟨g, cap, rfl, ho, hb⟩
def GotIntsB (w : World) (xs : List Int) (b : Bool) (e : Ending) (w' : World) : Prop :=
  ∃ g cap, e = .returned (.tuple #[(Value.slice (some ⟨g, 0, none⟩) xs.length cap), .bool b]) ∧ Own w' w.heap.size g cap xs ∧ Below w.heap.size w w'
theorem GotIntsB.mk' {w w' : World} {xs : List Int} {b : Bool} {n : Nat} (g cap : Nat) (hn : xs.length = n) (ho : Own w' w.heap.size g cap xs) (hb : Below w.heap.size w w') :
    GotIntsB w xs b (.returned (.tuple #[(Value.slice (some ⟨g, 0, none⟩) n cap), .bool b])) w' := by subst hn; exact ⟨g, cap, rfl, ho, hb⟩
theorem still2 (w : World) (n m : Nat) : ∃ k, (w.drewN n).drewN m = w.drewN k := ⟨_, World.drewN_drewN _ _ _⟩
theorem still3 (w : World) (n m l : Nat) : ∃ k, ((w.drewN n).drewN m).drewN l = w.drewN k := ⟨n + (m + l), by rw [World.drewN_drewN, World.drewN_drewN]⟩
theorem below_same {B : Nat} {w a b : World} (h : Below B w a) (h1 : b.heap = a.heap) (h2 : b.os = a.os) (h3 : b.tape = a.tape) (h4 : b.output = a.output) : Below B w b :=
  ⟨h2.trans h.os, h3.trans h.tape, h4.trans h.output, by rw [h1]; exact h.size, fun k hk => by rw [h1]; exact h.block k hk⟩
theorem below_drewN' {B : Nat} (w : World) (n : Nat) : Below B w (w.drewN n) := below_drewN (Below.refl B w) n
theorem blwx {B : Nat} {w w' : World} (h : Below B w w' := by repeat (first | with_reducible exact Below.refl _ _ | with_reducible assumption | with_reducible refine below_drewN ?_ _ | with_reducible refine Below.drew ?_ | (with_reducible refine Below.alloc ?_ ?_ _; rotate_left; · first | (simp; done) | (simp; omega) | exact Below.size (by assumption) | (have hsz := Below.size (by assumption : Below _ _ _); simp at hsz ⊢; omega)) | (with_reducible refine Below.setCell ?_ ?_ _; rotate_left; · first | (simp; done) | (simp; omega)))) : Below B w w' := h
theorem ret_bool {a b : Bool} (h : a = b) : Ending.returned (Value.bool a) = .returned (.bool b) := by rw [h]
theorem ret_int {a b : Int} (h : a = b) : Ending.returned (Value.int .i64 a) = .returned (.int .i64 b) := by rw [h]
theorem run_append_ints {w : World} {B g cap : Nat} {xs : List Int} (hown : Own w B g cap xs) {g2 o2 c2 : Nat} {ys : List Int} (hc : Cells w g2 o2 ys) (hlen : xs.length + ys.length ≤ 1099511627776) (ty : TypeId) :
    ∃ g' cap' w', (Builtin.append_ #[25, 25] ty #[(Value.slice (some ⟨g, 0, none⟩) xs.length cap), (Value.slice (some ⟨g2, o2, none⟩) ys.length c2)]).run Tryz.prog w = .ok (Value.slice (some ⟨g', 0, none⟩) (xs.length + ys.length) cap') w' ∧
      Own w' B g' cap' (xs ++ ys) ∧ w.grownBy w' (some g) ∧ (g' = g ∨ g' = w.heap.size) := by
  obtain ⟨i0, hi, hz0, hz1, hz2⟩ := info_parts info3
  have hlt := hown.lt
  have hBg := hown.base
  have hnews : ∀ j u, (ys.map (Value.int .i64))[j]? = some u → w.cell? ((⟨g2, o2, none⟩ : Addr).add j) = some u := by
    intro j u hu
    have hj : j < ys.length := by have := (List.getElem?_eq_some_iff.1 hu).1; simpa using this
    rw [Addr.add_lit, hc j hj]
    rw [← hu]
    simp [List.getD, hj]
  have hl : (ys.map (Value.int .i64)).length = ys.length * i0.size := by simp [hz1]
  obtain ⟨v', w', hr, ho, hg, -⟩ := run_append_own (P := Tryz.prog) w B 25 ty 3 i0 (.int .i64 0) 1 8 Tryz.underlying25 hi hz0 hz1 hz2 rfl (by decide) _ xs.length _ hown ⟨g2, o2, none⟩ ys.length c2
    (ys.map (Value.int .i64)) (by simp) hnews (ints_oneCell _ _) (by unfold maxLen; omega) (by omega) (by omega)
  have fin : ∀ g' cap', v' = (Value.slice (some ⟨g', 0, none⟩) (xs.length + ys.length) cap') → (g' = g ∨ g' = w.heap.size) → ∃ g' cap' w', (Builtin.append_ #[25, 25] ty #[(Value.slice (some ⟨g, 0, none⟩) xs.length cap), (Value.slice (some ⟨g2, o2, none⟩) ys.length c2)]).run Tryz.prog w = .ok (Value.slice (some ⟨g', 0, none⟩) (xs.length + ys.length) cap') w' ∧
      Own w' B g' cap' (xs ++ ys) ∧ w.grownBy w' (some g) ∧ (g' = g ∨ g' = w.heap.size) := by
    intro g' cap' hv hor
    subst hv
    refine ⟨g', cap', w', hr, ?_, hg, hor⟩
    unfold Own
    rw [List.length_append, List.map_append]
    exact ho
  by_cases hroom : xs.length + ys.length ≤ cap
  · rcases hown.2 with ⟨h', _⟩ | ⟨g1, cap1, cur, hv, hb, hh, hn, hm, hs, htk⟩
    · simp at h'
    simp only [Value.slice.injEq, Option.some.injEq, Addr.mk.injEq, and_true, true_and] at hv
    obtain ⟨rfl, rfl⟩ := hv
    have hr2 := run_append_room (P := Tryz.prog) w 25 ty 3 i0 Tryz.underlying25 hi g xs.length cap cur hh ⟨g2, o2, none⟩ ys.length c2 (ys.map (Value.int .i64)) hl hnews (ints_oneCell _ _) hroom (by rw [hz1] at *; simp; omega)
    rw [hr2] at hr
    simp only [Result.ok.injEq] at hr
    exact fin g cap hr.1.symm (.inl rfl)
  · have hr2 := run_append_grow (P := Tryz.prog) w 25 ty 3 i0 (.int .i64 0) Tryz.underlying25 hi hz0 ⟨g, 0, none⟩ xs.length cap (xs.map (Value.int .i64)) (by simp [hz1]) (World.ownsRow.cells hown rfl) ⟨g2, o2, none⟩ ys.length c2 _ hl hnews (by omega) (by omega) (growslice_fits (by omega) (by rw [hz2]; omega))
    rw [hr2] at hr
    simp only [Result.ok.injEq] at hr
    exact fin _ _ hr.1.symm (.inr rfl)
theorem wpList_append_ints {w : World} {ops : Array Oper} {rest : List Oper} {o : Oper} {a : Act} {Q : Exit → Act → World → Prop} (hgd : o.guard = none) (s x : Operand)
    (ho : o.op = .call { callee := .builtin .append, args := #[s, x], argTypes := #[25, 25] })
    (B g cap : Nat) (xs : List Int) (hown : Own w B g cap xs) (g2 o2 c2 : Nat) (ys : List Int) (hc : Cells w g2 o2 ys)
    (hs : a.eval s = (Value.slice (some ⟨g, 0, none⟩) xs.length cap)) (hx : a.eval x = (Value.slice (some ⟨g2, o2, none⟩) ys.length c2)) (hlen : xs.length + ys.length ≤ 1099511627776)
    (h : ∀ g' cap' w', Own w' B g' cap' (xs ++ ys) → w.grownBy w' (some g) → (g' = g ∨ g' = w.heap.size) → wpList Tryz.prog ops Q rest (a.put o.dst (Value.slice (some ⟨g', 0, none⟩) (xs.length + ys.length) cap')) w') :
    wpList Tryz.prog ops Q (o :: rest) a w := by
  obtain ⟨g', cap', w', hr, h2, h3, h4⟩ := run_append_ints hown hc (c2 := c2) hlen o.type
  refine wpList_plain hgd fun K hK => ?_
  unfold Oper.wp execOp
  simp only [ho, resolve, invoke, builtin, Sem.run_bind, Sem.run_pure, Result.andThen_ok, List.map_toArray, List.map_cons, List.map_nil, hs, hx, hr]
  exact hK _ _ (h g' cap' w' h2 h3 h4)
theorem wpList_make_ints {w : World} {ops : Array Oper} {rest : List Oper} {o : Oper} {a : Act} {Q : Exit → Act → World → Prop} (hgd : o.guard = none) (l c : Operand)
    (hop : o.op = Op.makeSlice 25 l c) (B n : Nat) (C : Int) (hC : C = (n : Int)) (hl : a.eval l = .int .i64 C) (hc : a.eval c = .int .i64 C) (hn : n ≤ 1099511627776) (hB : B ≤ w.heap.size)
    (h : ∀ w', Own w' B w.heap.size n (List.replicate n 0) → w.grownBy w' none → wpList Tryz.prog ops Q rest (a.put o.dst (Value.slice (some ⟨w.heap.size, 0, none⟩) n n)) w') :
    wpList Tryz.prog ops Q (o :: rest) a w := by
  obtain ⟨i0, hi, hz0, hz1, hz2⟩ := info_parts info3
  refine wpList_make_full _ hgd l c 25 hop B 3 i0 (.int .i64 0) 1 Tryz.underlying25 hi hz0 hz1 _ _ _ _ n hl hc hC hC (by rw [hz2]; omega) (by unfold maxLen; omega) hB ?_
  intro w' hown hgr
  refine h w' ?_ hgr
  unfold Own
  rw [List.length_replicate, List.map_replicate]
  have e : (madeCells (Value.int IntKind.i64 0).cells (n * 1)).toList = List.replicate n (Value.int .i64 0) := by
    rw [Nat.mul_one]; exact toList_madeCells_one _ _
  rw [← e]; exact hown
theorem Own.new {w : World} {B : Nat} (n : Int) (hB : B ≤ w.heap.size) : Own (w.alloc (.cells #[.int .i64 n] 3)) B w.heap.size 1 [n] :=
  World.ownsRow_lit w #[.int .i64 n] 1 hB (by decide) rfl
theorem Own.empty {w : World} {B : Nat} (hB : B ≤ w.heap.size) : Own (w.alloc (.cells #[] 3)) B w.heap.size 0 [] :=
  World.ownsRow_lit w #[] 0 hB (by decide) rfl
theorem wpList_append_int {w : World} {ops : Array Oper} {rest : List Oper} {o : Oper} {a : Act} {Q : Exit → Act → World → Prop} (hgd : o.guard = none) (s x : Operand)
    (ho : o.op = .call { callee := .builtin .append, args := #[s, x], argTypes := #[25, 25] })
    (B g cap : Nat) (xs : List Int) (z : Int) (hown : Own w B g cap xs) (hs : a.eval s = (Value.slice (some ⟨g, 0, none⟩) xs.length cap)) (hx : a.eval x = (Value.slice (some ⟨w.heap.size, 0, none⟩) 1 1)) (hlen : xs.length + 1 ≤ 1099511627776)
    (h : ∀ g' cap' w', Own w' B g' cap' (xs ++ [z]) → w.grownBy w' (some g) → (g' = g ∨ w.heap.size < g') → wpList Tryz.prog ops Q rest (a.put o.dst (Value.slice (some ⟨g', 0, none⟩) (xs.length + 1) cap')) w') :
    wpList Tryz.prog ops Q (o :: rest) a (w.alloc (.cells #[.int .i64 z] 3)) := by
  refine wpList_append_ints hgd s x ho B g cap xs (hown.alloc _) w.heap.size 0 1 [z] (Own.new (B := w.heap.size) z (Nat.le_refl _)).cells hs hx hlen fun g' cap' w' h1 h2 h3 => ?_
  have hgr : w.grownBy w' (some g) := ⟨h2.os, h2.tape, h2.output, Nat.le_trans (by simp) h2.size, fun k hk hne => (h2.block k (by simp; omega) hne).trans (Below.heap_alloc _ _ _ hk)⟩
  exact h g' cap' w' h1 hgr (h3.imp id (by simp; omega))
theorem wpList_clone {w : World} {ops : Array Oper} {rest : List Oper} {o : Oper} {a : Act} {Q : Exit → Act → World → Prop} (hgd : o.guard = none) (s x : Operand)
    (ho : o.op = .call { callee := .builtin .append, args := #[s, x], argTypes := #[25, 25] })
    (g2 o2 n2 c2 : Nat) (ys : List Int) (hn : ys.length = n2) (hg : g2 < w.heap.size) (hc : Cells w g2 o2 ys)
    (hs : a.eval s = (Value.slice (some ⟨w.heap.size, 0, none⟩) 0 0)) (hx : a.eval x = (Value.slice (some ⟨g2, o2, none⟩) n2 c2)) (hlen : ys.length ≤ 1099511627776)
    (h : ∀ g' cap' w', Own w' w.heap.size g' cap' ys → Below w.heap.size w w' → wpList Tryz.prog ops Q rest (a.put o.dst (Value.slice (some ⟨g', 0, none⟩) n2 cap')) w') :
    wpList Tryz.prog ops Q (o :: rest) a (w.alloc (.cells #[] 3)) := by
  subst hn
  refine wpList_append_ints hgd s x ho w.heap.size w.heap.size 0 [] (Own.empty (Nat.le_refl _)) g2 o2 c2 ys (hc.below ((Below.refl _ _).alloc (Nat.le_refl _) _) hg) hs hx (by simp; omega) fun g' cap' w' h1 h2 h3 => ?_
  have := h g' cap' w' h1 (((Below.refl _ _).alloc (Nat.le_refl _) _).grown h2 (by simp) (by intro k hk; cases hk; exact Nat.le_refl _))
  simpa using this
end Go.Proofs.YtkjglfafphffiaaGreatDoor
namespace Go.Proofs.YtkjglfafphffiaaGreatDoor
set_option maxRecDepth 100000
open Go.RowKit
theorem take_succ_eq {xs ys : List Int} {k : Nat} (hl : xs.length = ys.length) (hk : k < xs.length) (h : xs.take k = ys.take k) (he : xs.getD k 0 = ys.getD k 0) : xs.take (k + 1) = ys.take (k + 1) := by
  have hk2 : k < ys.length := by omega
  rw [List.take_succ_eq_append_getElem hk, List.take_succ_eq_append_getElem hk2, h]
  simp [List.getD, hk, hk2] at he
  rw [he]
theorem World.grownBy.trans' {a b c : World} {row : Option Nat} (h : a.grownBy b row) (k : b.grownBy c row) : a.grownBy c row :=
  ⟨k.os.trans h.os, k.tape.trans h.tape, k.output.trans h.output, Nat.le_trans h.size k.size, fun i hi hne => (k.block i (Nat.lt_of_lt_of_le hi h.size) hne).trans (h.block i hi hne)⟩
end Go.Proofs.YtkjglfafphffiaaGreatDoor
namespace Go.Proofs.YtkjglfafphffiaaGreatDoor
set_option maxRecDepth 100000
open Go.RowKit
def Gives (w : World) (v : Value) (e : Ending) (w' : World) : Prop := e = .returned v ∧ Below w.heap.size w w'
theorem wpList_append_int_n {w : World} {ops : Array Oper} {rest : List Oper} {o : Oper} {a : Act} {Q : Exit → Act → World → Prop} (hgd : o.guard = none) (s x : Operand)
    (ho : o.op = .call { callee := .builtin .append, args := #[s, x], argTypes := #[25, 25] })
    (B g cap n : Nat) (xs : List Int) (z : Int) (hn : xs.length = n) (hown : Own w B g cap xs) (hs : a.eval s = (Value.slice (some ⟨g, 0, none⟩) n cap)) (hx : a.eval x = (Value.slice (some ⟨w.heap.size, 0, none⟩) 1 1)) (hlen : n + 1 ≤ 1099511627776)
    (h : ∀ g' cap' w', Own w' B g' cap' (xs ++ [z]) → w.grownBy w' (some g) → (g' = g ∨ w.heap.size < g') → wpList Tryz.prog ops Q rest (a.put o.dst (Value.slice (some ⟨g', 0, none⟩) (n + 1) cap')) w') :
    wpList Tryz.prog ops Q (o :: rest) a (w.alloc (.cells #[.int .i64 z] 3)) := by
  subst hn
  exact wpList_append_int hgd s x ho B g cap xs z hown hs hx hlen h
end Go.Proofs.YtkjglfafphffiaaGreatDoor
namespace Go.Proofs.YtkjglfafphffiaaGreatDoor
set_option maxRecDepth 100000
open Go.RowKit
theorem infoRow : (Tryz.prog.info? 25).map (fun i => (i.zero, i.size, i.bytes)) = some (some (.slice none 0 0), 1, 24) := by kernel_rfl
def OwnV (w : World) (B : Nat) (E : TypeId) (g cap : Nat) (vs : List Value) : Prop := w.ownsRow B E 1 (Value.slice (some ⟨g, 0, none⟩) vs.length cap) vs.length vs
section
variable {w w' : World} {B g cap : Nat} {E : TypeId} {vs : List Value}
theorem OwnV.base (h : OwnV w B E g cap vs) : B ≤ g := (World.ownsRow.lt h g rfl).1
theorem OwnV.lt (h : OwnV w B E g cap vs) : g < w.heap.size := (World.ownsRow.lt h g rfl).2
theorem OwnV.row (h : OwnV w B E g cap vs) : ∃ cur, w.heap[g]? = some (.cells cur E (0, 0)) ∧ vs.length ≤ cap ∧ cap ≤ maxLen := by
  rcases h.2 with ⟨h', _⟩ | ⟨g', cap', cur, h', _, hh, hn, hm, _⟩
  · simp at h'
  · simp only [Value.slice.injEq, Option.some.injEq, Addr.mk.injEq] at h'
    obtain ⟨⟨rfl, _⟩, _, rfl⟩ := h'
    exact ⟨cur, hh, hn, hm⟩
theorem OwnV.capLe (h : OwnV w B E g cap vs) : vs.length ≤ cap := by obtain ⟨_, _, h, _⟩ := h.row; exact h
theorem OwnV.cell (h : OwnV w B E g cap vs) (j : Nat) (hj : j < vs.length) : w.cell? ⟨g, j, none⟩ = some vs[j] := by
  rw [World.ownsRow.cellAt h j (by omega)]; simp [hj]
theorem OwnV.frozen (h : OwnV w B E g cap vs) (j : Nat) : w.frozen? ⟨g, j, none⟩ = false := World.ownsRow.frozenAt h j
theorem OwnV.mono {B' : Nat} (h : OwnV w B E g cap vs) (hB : B' ≤ B) : OwnV w B' E g cap vs := by
  refine ⟨h.1, ?_⟩
  rcases h.2 with ⟨h', _⟩ | ⟨g', cap', cur, h', hb, r⟩
  · simp at h'
  · exact .inr ⟨g', cap', cur, h', by omega, r⟩
theorem OwnV.grown {row : Option Nat} (h : OwnV w B E g cap vs) (hg : w.grownBy w' row) (hne : some g ≠ row) : OwnV w' B E g cap vs := World.ownsRow.kept h hg (.inr hne)
theorem OwnV.below {B' : Nat} (h : OwnV w B E g cap vs) (hb : Below B' w w') (hg : g < B') : OwnV w' B E g cap vs := by
  refine ⟨h.1, ?_⟩
  rcases h.2 with ⟨h', _⟩ | ⟨g', cap', cur, h', hbb, hh, r⟩
  · simp at h'
  · refine .inr ⟨g', cap', cur, h', hbb, ?_, r⟩
    simp only [Value.slice.injEq, Option.some.injEq, Addr.mk.injEq] at h'
    obtain ⟨⟨rfl, _⟩, _⟩ := h'
    rw [hb.block _ hg]; exact hh
theorem OwnV.alloc (h : OwnV w B E g cap vs) (o : Obj) : OwnV (w.alloc o) B E g cap vs := World.ownsRow.alloc h o
theorem OwnV.set (h : OwnV w B E g cap vs) (j : Nat) (v : Value) : OwnV (w.setCell ⟨g, j, none⟩ v) B E g cap (vs.set j v) ∧ w.grownBy (w.setCell ⟨g, j, none⟩ v) (some g) := by
  have := World.ownsRow.stored h j v
  refine ⟨?_, this.2⟩
  unfold OwnV
  rw [List.length_set]
  exact this.1
theorem OwnV.ne {B' g' cap' : Nat} {E' : TypeId} {vs' : List Value} (h : OwnV w B E g cap vs) (h' : OwnV w B' E' g' cap' vs') (hE : E ≠ E') : g ≠ g' := by
  rintro rfl
  obtain ⟨c1, e1, _⟩ := h.row
  obtain ⟨c2, e2, _⟩ := h'.row
  rw [e1] at e2
  simp at e2
  exact hE e2.2
theorem Own.toV {xs : List Int} (h : Own w B g cap xs) : OwnV w B 3 g cap (xs.map (Value.int .i64)) := by
  unfold OwnV; rw [List.length_map]; exact h
end
abbrev RowRef := Nat × Nat × List Int
def rowVal (r : RowRef) : Value := (Value.slice (some ⟨r.1, 0, none⟩) r.2.2.length r.2.1)
def Inner (w : World) (B : Nat) (rs : List RowRef) : Prop := (∀ r ∈ rs, Own w B r.1 r.2.1 r.2.2) ∧ (rs.map (·.1)).Nodup
def OwnRows (w : World) (B g cap : Nat) (rs : List RowRef) : Prop := OwnV w B 25 g cap (rs.map rowVal) ∧ Inner w B rs
def contents (rs : List RowRef) : List (List Int) := rs.map (·.2.2)
def Rows2 (w : World) (g o : Nat) (rows : List (List Int)) : Prop :=
  ∀ j, j < rows.length → ∃ gj oj cj, w.cell? ⟨g, o + j, none⟩ = some (Value.slice (some ⟨gj, oj, none⟩) ((rows.getD j []).length) cj) ∧ (rows.getD j []).length ≤ cj ∧ gj < w.heap.size ∧ Cells w gj oj (rows.getD j [])
theorem Rows2.below {w w' : World} {g o : Nat} {rows : List (List Int)} (h : Rows2 w g o rows) (hb : Below w.heap.size w w') (hg : g < w.heap.size) : Rows2 w' g o rows := fun j hj => by
  obtain ⟨gj, oj, cj, h1, h2, h3, h4⟩ := h j hj
  exact ⟨gj, oj, cj, (hb.cell (p := ⟨g, o + j, none⟩) hg).trans h1, h2, Nat.lt_of_lt_of_le h3 hb.size, h4.below hb h3⟩
theorem Rows2.drewN {w : World} {g o : Nat} {rows : List (List Int)} (h : Rows2 w g o rows) (n : Nat) : Rows2 (w.drewN n) g o rows := h
theorem Inner.below {w w' : World} {B : Nat} {rs : List RowRef} (h : Inner w B rs) (hb : Below w.heap.size w w') : Inner w' B rs :=
  ⟨fun r hr => (h.1 r hr).below hb (h.1 r hr).lt, h.2⟩
theorem OwnRows.below {w w' : World} {B g cap : Nat} {rs : List RowRef} (h : OwnRows w B g cap rs) (hb : Below w.heap.size w w') : OwnRows w' B g cap rs :=
  ⟨h.1.below hb h.1.lt, h.2.below hb⟩
theorem OwnRows.drewN {w : World} {B g cap : Nat} {rs : List RowRef} (h : OwnRows w B g cap rs) (n : Nat) : OwnRows (w.drewN n) B g cap rs := h
theorem Inner.mono {w : World} {B B' : Nat} {rs : List RowRef} (h : Inner w B rs) (hB : B' ≤ B) : Inner w B' rs := ⟨fun r hr => (h.1 r hr).mono hB, h.2⟩
theorem OwnRows.mono {w : World} {B B' g cap : Nat} {rs : List RowRef} (h : OwnRows w B g cap rs) (hB : B' ≤ B) : OwnRows w B' g cap rs := ⟨h.1.mono hB, h.2.mono hB⟩
theorem OwnRows.base {w : World} {B g cap : Nat} {rs : List RowRef} (h : OwnRows w B g cap rs) : B ≤ g := h.1.base
theorem OwnRows.lt {w : World} {B g cap : Nat} {rs : List RowRef} (h : OwnRows w B g cap rs) : g < w.heap.size := h.1.lt
theorem OwnRows.capLe {w : World} {B g cap : Nat} {rs : List RowRef} (h : OwnRows w B g cap rs) : rs.length ≤ cap := by have := h.1.capLe; rwa [List.length_map] at this
theorem Inner.append {w : World} {B : Nat} {rs : List RowRef} {r : RowRef} (h : Inner w B rs) (hr : Own w B r.1 r.2.1 r.2.2) (hn : ∀ s ∈ rs, s.1 ≠ r.1) : Inner w B (rs ++ [r]) := by
  refine ⟨fun s hs => ?_, ?_⟩
  · rcases List.mem_append.1 hs with h1 | h1
    · exact h.1 s h1
    · rw [List.mem_singleton] at h1; subst h1; exact hr
  · rw [List.map_append, List.nodup_append]
    refine ⟨h.2, by simp, fun a ha b hb => ?_⟩
    obtain ⟨s, hs, rfl⟩ := List.mem_map.1 ha
    simp only [List.map_cons, List.map_nil, List.mem_singleton] at hb
    subst hb
    exact hn s hs
theorem OwnRows.rows2 {w : World} {B g cap : Nat} {rs : List RowRef} (h : OwnRows w B g cap rs) : Rows2 w g 0 (contents rs) := by
  intro j hj
  have hj' : j < rs.length := by simpa [contents] using hj
  have hm : rs[j] ∈ rs := List.getElem_mem hj'
  have e : (contents rs).getD j [] = rs[j].2.2 := by simp [contents, List.getD, hj']
  have ho := h.2.1 _ hm
  rw [e]
  refine ⟨rs[j].1, 0, rs[j].2.1, ?_, ho.capLe, ho.lt, ho.cells⟩
  rw [Nat.zero_add, h.1.cell j (by simpa using hj')]
  simp [rowVal]
def GotRows (w : World) (rows : List (List Int)) (e : Ending) (w' : World) : Prop :=
  ∃ g cap rs, e = .returned (Value.slice (some ⟨g, 0, none⟩) rows.length cap) ∧ contents rs = rows ∧ OwnRows w' w.heap.size g cap rs ∧ Below w.heap.size w w'
end Go.Proofs.YtkjglfafphffiaaGreatDoor
namespace Go.Proofs.YtkjglfafphffiaaGreatDoor
set_option maxRecDepth 100000
open Go.RowKit
def sumLen (rows : List (List Int)) (k : Nat) : Nat := (rows.take k).foldl (fun s r => s + r.length) 0
theorem sumLen_succ (rows : List (List Int)) (k : Nat) (hk : k < rows.length) : sumLen rows (k + 1) = sumLen rows k + (rows.getD k []).length := by
  unfold sumLen
  rw [List.take_succ_eq_append_getElem hk, List.foldl_append]
  simp [List.getD, hk]
theorem contents_length (rs : List RowRef) : (contents rs).length = rs.length := by simp [contents]
end Go.Proofs.YtkjglfafphffiaaGreatDoor
namespace Go.Proofs.YtkjglfafphffiaaGreatDoor
set_option maxRecDepth 100000
open Go.Joins Go.ChangeShapes Go.WideShapes Go.RowKit Go.Deep
section
variable {H : Type} {enc : TypeId × Value → H} {w : World} {base : Nat}
end
theorem cell_of_cells {w : World} {b : Nat} {cs : Array Value} {t : TypeId} (h : w.heap[b]? = some (.cells cs t (0, 0))) (i : Nat) : w.cell? ⟨b, i, none⟩ = cs[i]? := by simp [World.cell?, h]
theorem free_of_cells {w : World} {b : Nat} {cs : Array Value} {t : TypeId} (h : w.heap[b]? = some (.cells cs t (0, 0))) (i : Nat) : w.frozen? ⟨b, i, none⟩ = false := by simp [World.frozen?, h]
theorem keepCell {W W' : World} {b o : Nat} {v : Value} (hb : Below W.heap.size W W') (h : W.cell? ⟨b, o, none⟩ = some v) : W'.cell? ⟨b, o, none⟩ = some v :=
  (hb.cell (p := ⟨b, o, none⟩) (World.block_lt_of_cell? W _ h)).trans h
end Go.Proofs.YtkjglfafphffiaaGreatDoor
