/- Words of my own for slices of slices of integers. -/
import Derived.Test.YtihfbbpkgmkbcaaBase
namespace Go.Proofs.Ytihfbbpkgmkbcaa
set_option maxRecDepth 100000
open Go.RowKit

theorem infoRow : (Try.prog.info? 35).map (fun i => (i.zero, i.size, i.bytes)) = some (some (.slice none 0 0), 1, 24) := by kernel_rfl

/-- a slice of one-cell values, at the head of block g, of the call's own -/
def OwnV (w : World) (B : Nat) (E : TypeId) (g cap : Nat) (vs : List Value) : Prop := w.ownsRow B E 1 (Value.slice (some ⟨g, 0, none⟩) vs.length cap) vs.length vs
section
variable {w w' : World} {B g cap : Nat} {E : TypeId} {vs : List Value}
theorem OwnV.base (h : OwnV w B E g cap vs) : B ≤ g := (World.ownsRow.lt h g rfl).1
theorem OwnV.lt (h : OwnV w B E g cap vs) : g < w.heap.size := (World.ownsRow.lt h g rfl).2
theorem OwnV.row (h : OwnV w B E g cap vs) : ∃ cur, w.heap[g]? = some (.cells cur E (0, 0)) ∧ vs.length ≤ cap ∧ cap ≤ maxLen := by
  rcases h.2 with ⟨h', _⟩ | ⟨g', cap', cur, h', _, hh, hn, hm, _⟩
  · simp at h'
  · simp only [Value.slice.injEq, Option.some.injEq, Addr.mk.injEq] at h'
    obtain ⟨⟨rfl, _⟩, _, rfl⟩ := h'
    exact ⟨cur, hh, hn, hm⟩
theorem OwnV.capLe (h : OwnV w B E g cap vs) : vs.length ≤ cap := by obtain ⟨_, _, h, _⟩ := h.row; exact h
theorem OwnV.cell (h : OwnV w B E g cap vs) (j : Nat) (hj : j < vs.length) : w.cell? ⟨g, j, none⟩ = some vs[j] := by
  rw [World.ownsRow.cellAt h j (by omega)]; simp [hj]
theorem OwnV.frozen (h : OwnV w B E g cap vs) (j : Nat) : w.frozen? ⟨g, j, none⟩ = false := World.ownsRow.frozenAt h j
theorem OwnV.mono {B' : Nat} (h : OwnV w B E g cap vs) (hB : B' ≤ B) : OwnV w B' E g cap vs := by
  refine ⟨h.1, ?_⟩
  rcases h.2 with ⟨h', _⟩ | ⟨g', cap', cur, h', hb, r⟩
  · simp at h'
  · exact .inr ⟨g', cap', cur, h', by omega, r⟩
theorem OwnV.grown {row : Option Nat} (h : OwnV w B E g cap vs) (hg : w.grownBy w' row) (hne : some g ≠ row) : OwnV w' B E g cap vs := World.ownsRow.kept h hg (.inr hne)
theorem OwnV.below {B' : Nat} (h : OwnV w B E g cap vs) (hb : Below B' w w') (hg : g < B') : OwnV w' B E g cap vs := by
  refine ⟨h.1, ?_⟩
  rcases h.2 with ⟨h', _⟩ | ⟨g', cap', cur, h', hbb, hh, r⟩
  · simp at h'
  · refine .inr ⟨g', cap', cur, h', hbb, ?_, r⟩
    simp only [Value.slice.injEq, Option.some.injEq, Addr.mk.injEq] at h'
    obtain ⟨⟨rfl, _⟩, _⟩ := h'
    rw [hb.block _ hg]; exact hh
theorem OwnV.drewN (h : OwnV w B E g cap vs) (n : Nat) : OwnV (w.drewN n) B E g cap vs := h
theorem OwnV.alloc (h : OwnV w B E g cap vs) (o : Obj) : OwnV (w.alloc o) B E g cap vs := World.ownsRow.alloc h o
theorem OwnV.set (h : OwnV w B E g cap vs) (j : Nat) (v : Value) : OwnV (w.setCell ⟨g, j, none⟩ v) B E g cap (vs.set j v) ∧ w.grownBy (w.setCell ⟨g, j, none⟩ v) (some g) := by
  have := World.ownsRow.stored h j v
  refine ⟨?_, this.2⟩
  unfold OwnV
  rw [List.length_set]
  exact this.1
theorem OwnV.ne {B' g' cap' : Nat} {E' : TypeId} {vs' : List Value} (h : OwnV w B E g cap vs) (h' : OwnV w B' E' g' cap' vs') (hE : E ≠ E') : g ≠ g' := by
  rintro rfl
  obtain ⟨c1, e1, _⟩ := h.row
  obtain ⟨c2, e2, _⟩ := h'.row
  rw [e1] at e2
  simp at e2
  exact hE e2.2
theorem Own.toV {xs : List Int} (h : Own w B g cap xs) : OwnV w B 3 g cap (xs.map (Value.int .i64)) := by
  unfold OwnV; rw [List.length_map]; exact h
end

/-- a row: its block, its capacity, its numbers -/
abbrev RowRef := Nat × Nat × List Int
def rowVal (r : RowRef) : Value := (Value.slice (some ⟨r.1, 0, none⟩) r.2.2.length r.2.1)
/-- rows of the call's own, each in a block of its own -/
def Inner (w : World) (B : Nat) (rs : List RowRef) : Prop := (∀ r ∈ rs, Own w B r.1 r.2.1 r.2.2) ∧ (rs.map (·.1)).Nodup
def OwnRows (w : World) (B g cap : Nat) (rs : List RowRef) : Prop := OwnV w B 35 g cap (rs.map rowVal) ∧ Inner w B rs
/-- what the rows hold -/
def contents (rs : List RowRef) : List (List Int) := rs.map (·.2.2)

/-- cells that hold slices of integers -/
def Rows2 (w : World) (g o : Nat) (rows : List (List Int)) : Prop :=
  ∀ j, j < rows.length → ∃ gj oj cj, w.cell? ⟨g, o + j, none⟩ = some (Value.slice (some ⟨gj, oj, none⟩) ((rows.getD j []).length) cj) ∧ (rows.getD j []).length ≤ cj ∧ gj < w.heap.size ∧ Cells w gj oj (rows.getD j [])

theorem Rows2.below {w w' : World} {g o : Nat} {rows : List (List Int)} (h : Rows2 w g o rows) (hb : Below w.heap.size w w') (hg : g < w.heap.size) : Rows2 w' g o rows := fun j hj => by
  obtain ⟨gj, oj, cj, h1, h2, h3, h4⟩ := h j hj
  exact ⟨gj, oj, cj, (hb.cell (p := ⟨g, o + j, none⟩) hg).trans h1, h2, Nat.lt_of_lt_of_le h3 hb.size, h4.below hb h3⟩
theorem Rows2.drewN {w : World} {g o : Nat} {rows : List (List Int)} (h : Rows2 w g o rows) (n : Nat) : Rows2 (w.drewN n) g o rows := h

theorem Inner.below {w w' : World} {B : Nat} {rs : List RowRef} (h : Inner w B rs) (hb : Below w.heap.size w w') : Inner w' B rs :=
  ⟨fun r hr => (h.1 r hr).below hb (h.1 r hr).lt, h.2⟩
theorem OwnRows.below {w w' : World} {B g cap : Nat} {rs : List RowRef} (h : OwnRows w B g cap rs) (hb : Below w.heap.size w w') : OwnRows w' B g cap rs :=
  ⟨h.1.below hb h.1.lt, h.2.below hb⟩
theorem OwnRows.drewN {w : World} {B g cap : Nat} {rs : List RowRef} (h : OwnRows w B g cap rs) (n : Nat) : OwnRows (w.drewN n) B g cap rs := h
theorem Inner.mono {w : World} {B B' : Nat} {rs : List RowRef} (h : Inner w B rs) (hB : B' ≤ B) : Inner w B' rs := ⟨fun r hr => (h.1 r hr).mono hB, h.2⟩
theorem OwnRows.mono {w : World} {B B' g cap : Nat} {rs : List RowRef} (h : OwnRows w B g cap rs) (hB : B' ≤ B) : OwnRows w B' g cap rs := ⟨h.1.mono hB, h.2.mono hB⟩
theorem OwnRows.base {w : World} {B g cap : Nat} {rs : List RowRef} (h : OwnRows w B g cap rs) : B ≤ g := h.1.base
theorem OwnRows.lt {w : World} {B g cap : Nat} {rs : List RowRef} (h : OwnRows w B g cap rs) : g < w.heap.size := h.1.lt
theorem OwnRows.capLe {w : World} {B g cap : Nat} {rs : List RowRef} (h : OwnRows w B g cap rs) : rs.length ≤ cap := by have := h.1.capLe; rwa [List.length_map] at this
theorem Inner.append {w : World} {B : Nat} {rs : List RowRef} {r : RowRef} (h : Inner w B rs) (hr : Own w B r.1 r.2.1 r.2.2) (hn : ∀ s ∈ rs, s.1 ≠ r.1) : Inner w B (rs ++ [r]) := by
  refine ⟨fun s hs => ?_, ?_⟩
  · rcases List.mem_append.1 hs with h1 | h1
    · exact h.1 s h1
    · rw [List.mem_singleton] at h1; subst h1; exact hr
  · rw [List.map_append, List.nodup_append]
    refine ⟨h.2, by simp, fun a ha b hb => ?_⟩
    obtain ⟨s, hs, rfl⟩ := List.mem_map.1 ha
    simp only [List.map_cons, List.map_nil, List.mem_singleton] at hb
    subst hb
    exact hn s hs
theorem OwnRows.rows2 {w : World} {B g cap : Nat} {rs : List RowRef} (h : OwnRows w B g cap rs) : Rows2 w g 0 (contents rs) := by
  intro j hj
  have hj' : j < rs.length := by simpa [contents] using hj
  have hm : rs[j] ∈ rs := List.getElem_mem hj'
  have e : (contents rs).getD j [] = rs[j].2.2 := by simp [contents, List.getD, hj']
  have ho := h.2.1 _ hm
  rw [e]
  refine ⟨rs[j].1, 0, rs[j].2.1, ?_, ho.capLe, ho.lt, ho.cells⟩
  rw [Nat.zero_add, h.1.cell j (by simpa using hj')]
  simp [rowVal]

/-- the call hands back a new slice of new rows -/
def GotRows (w : World) (rows : List (List Int)) (e : Ending) (w' : World) : Prop :=
  ∃ g cap rs, e = .returned (Value.slice (some ⟨g, 0, none⟩) rows.length cap) ∧ contents rs = rows ∧ OwnRows w' w.heap.size g cap rs ∧ Below w.heap.size w w'

/-- what came in as a slice of slices of integers -/
def ArgRows (w : World) (a : Option Addr) (rows : List (List Int)) : Prop :=
  rows = [] ∨ ∃ g o, a = some ⟨g, o, none⟩ ∧ g < w.heap.size ∧ ∀ j, j < rows.length → ∃ aj cj, w.cell? ⟨g, o + j, none⟩ = some (.slice aj (rows.getD j []).length cj) ∧ ArgInts w aj (rows.getD j [])
theorem ArgRows.below {w w' : World} {a : Option Addr} {rows : List (List Int)} (h : ArgRows w a rows) (hb : Below w.heap.size w w') : ArgRows w' a rows := by
  rcases h with h | ⟨g, o, ha, hg, hc⟩
  · exact .inl h
  · refine .inr ⟨g, o, ha, Nat.lt_of_lt_of_le hg hb.size, fun j hj => ?_⟩
    obtain ⟨aj, cj, h1, h2⟩ := hc j hj
    exact ⟨aj, cj, (hb.cell (p := ⟨g, o + j, none⟩) hg).trans h1, h2.below hb⟩

/-- 'make([][]int, n)' -/
theorem wpList_make_rows {w : World} {ops : Array Oper} {rest : List Oper} {o : Oper} {a : Act} {Q : Exit → Act → World → Prop} (hgd : o.guard = none) (l c : Operand)
    (hop : o.op = Op.makeSlice 22 l c) (B n : Nat) (C : Int) (hC : C = (n : Int)) (hl : a.eval l = .int .i64 C) (hc : a.eval c = .int .i64 C) (hn : n ≤ 1099511627776) (hB : B ≤ w.heap.size)
    (h : ∀ w', OwnV w' B 35 w.heap.size n (List.replicate n (.slice none 0 0)) → w.grownBy w' none → wpList Try.prog ops Q rest (a.put o.dst (Value.slice (some ⟨w.heap.size, 0, none⟩) n n)) w') :
    wpList Try.prog ops Q (o :: rest) a w := by
  obtain ⟨i0, hi, hz0, hz1, hz2⟩ := info_parts infoRow
  refine wpList_make_full _ hgd l c 22 hop B 35 i0 (.slice none 0 0) 1 Try.underlying22 hi hz0 hz1 _ _ _ _ n hl hc hC hC (by rw [hz2]; omega) (by unfold maxLen; omega) hB ?_
  intro w' hown hgr
  refine h w' ?_ hgr
  unfold OwnV
  rw [List.length_replicate]
  have e : (madeCells (Value.slice none 0 0).cells (n * 1)).toList = List.replicate n (.slice none 0 0) := by
    rw [Nat.mul_one]; exact toList_madeCells_one _ _
  rw [← e]; exact hown
end Go.Proofs.Ytihfbbpkgmkbcaa
