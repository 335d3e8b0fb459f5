/- Growing lists of rows whose rows lie anywhere (also in what came in): words; append of a row. -/
import Derived.Test.YtjhoimdfmcjkbaaGreatG09
import Derived.Test.YtjhoimdfmcjkbaaGreatG19
namespace Go.Proofs.YtjhoimdfmcjkbaaGreat
set_option maxRecDepth 100000
open Go.RowKit

theorem run_append_rowC {w : World} {B g cap : Nat} {vs : List Value} (hown : OwnV w B 23 g cap vs) (v : Value) (hv : v.oneCell' = true) (hlen : vs.length + 1 ≤ 1048576) (ty : TypeId) :
    ∃ g' cap' w', (Builtin.append_ #[22, 22] ty #[(Value.slice (some ⟨g, 0, none⟩) vs.length cap), (Value.slice (some ⟨w.heap.size, 0, none⟩) 1 1)]).run Tryz.prog (w.alloc (.cells #[v] 23)) = .ok (Value.slice (some ⟨g', 0, none⟩) (vs.length + 1) cap') w' ∧
      OwnV w' B 23 g' cap' (vs ++ [v]) ∧ w.grownBy w' (some g) ∧ (g' = g ∨ w.heap.size < g') ∧ (∀ j, j < vs.length → w'.cell? ⟨g, j, none⟩ = some (vs.getD j undef)) := by
  obtain ⟨i0, hi, hz0, hz1, hz2⟩ := info_parts infoRow
  have hBg := hown.base
  have hlt := hown.lt
  have hown' : OwnV (w.alloc (.cells #[v] 23)) B 23 g cap vs := hown.alloc _
  have hcell : (w.alloc (.cells #[v] 23)).cell? ⟨w.heap.size, 0, none⟩ = some v := (OwnV.new (B := w.heap.size) v hv (Nat.le_refl _)).cell 0 (by simp)
  have hnews : ∀ j u, ([v] : List Value)[j]? = some u → (w.alloc (.cells #[v] 23)).cell? ((⟨w.heap.size, 0, none⟩ : Addr).add j) = some u := by
    intro j u hu
    have hj : j = 0 := by have := (List.getElem?_eq_some_iff.1 hu).1; simp at this; exact this
    subst hj
    simp at hu; subst hu
    rw [Addr.add_lit]; exact hcell
  have h1 : ∀ u ∈ ([v] : List Value), u.oneCell' = true := by simp [hv]
  have hl : ([v] : List Value).length = 1 * i0.size := by simp [hz1]
  obtain ⟨v', w', hr, ho, hg, -⟩ := run_append_own (P := Tryz.prog) (w.alloc (.cells #[v] 23)) B 22 ty 23 i0 (.slice none 0 0) 1 24 Tryz.underlying22 hi hz0 hz1 hz2 rfl (by decide) _ vs.length _ hown' ⟨w.heap.size, 0, none⟩ 1 1
    [v] (by simp) hnews h1 (by unfold maxLen; omega) (by omega) (by simp; omega)
  have hgr : w.grownBy w' (some g) := ⟨hg.os, hg.tape, hg.output, Nat.le_trans (by simp) hg.size, fun k hk hne => (hg.block k (by simp; omega) hne).trans (Below.heap_alloc _ _ _ hk)⟩
  have fin : ∀ g' cap', v' = (Value.slice (some ⟨g', 0, none⟩) (vs.length + 1) cap') → (g' = g ∨ w.heap.size < g') → (∀ j, j < vs.length → w'.cell? ⟨g, j, none⟩ = some (vs.getD j undef)) → ∃ g' cap' w', (Builtin.append_ #[22, 22] ty #[(Value.slice (some ⟨g, 0, none⟩) vs.length cap), (Value.slice (some ⟨w.heap.size, 0, none⟩) 1 1)]).run Tryz.prog (w.alloc (.cells #[v] 23)) = .ok (Value.slice (some ⟨g', 0, none⟩) (vs.length + 1) cap') w' ∧
      OwnV w' B 23 g' cap' (vs ++ [v]) ∧ w.grownBy w' (some g) ∧ (g' = g ∨ w.heap.size < g') ∧ (∀ j, j < vs.length → w'.cell? ⟨g, j, none⟩ = some (vs.getD j undef)) := by
    intro g' cap' hv' hor hcs
    subst hv'
    refine ⟨g', cap', w', hr, ?_, hgr, hor, hcs⟩
    unfold OwnV
    rw [List.length_append]
    exact ho
  by_cases hroom : vs.length + 1 ≤ cap
  · rcases hown'.2 with ⟨h', _⟩ | ⟨g1, cap1, cur, hv', hb, hh, hn, hm, hs, htk⟩
    · simp at h'
    simp only [Value.slice.injEq, Option.some.injEq, Addr.mk.injEq, and_true, true_and] at hv'
    obtain ⟨rfl, rfl⟩ := hv'
    have hr2 := run_append_room (P := Tryz.prog) (w.alloc (.cells #[v] 23)) 22 ty 23 i0 Tryz.underlying22 hi g vs.length cap cur hh ⟨w.heap.size, 0, none⟩ 1 1 [v] hl hnews h1 hroom (by rw [hz1] at *; simp; omega)
    rw [hr2] at hr
    simp only [Result.ok.injEq] at hr
    refine fin g cap hr.1.symm (.inl rfl) fun j hj => ?_
    have hv2 := hr.1
    rw [← hv2] at ho
    have ho' : OwnV w' B 23 g cap (vs ++ [v]) := by unfold OwnV; rw [List.length_append]; exact ho
    rw [ho'.cell j (by simp; omega)]
    simp [List.getD, hj, List.getElem_append_left]
  · have hr2 := run_append_grow (P := Tryz.prog) (w.alloc (.cells #[v] 23)) 22 ty 23 i0 (.slice none 0 0) Tryz.underlying22 hi hz0 ⟨g, 0, none⟩ vs.length cap vs (by simp [hz1]) (World.ownsRow.cells hown' rfl) ⟨w.heap.size, 0, none⟩ 1 1 _ hl hnews (by omega) (by omega) (growslice_fits (by omega) (by rw [hz2]; omega))
    rw [hr2] at hr
    simp only [Result.ok.injEq] at hr
    refine fin _ _ hr.1.symm (.inr (by simp)) fun j hj => ?_
    rw [← hr.2]
    have hb1 : Below w.heap.size w ((w.alloc (.cells #[v] 23)).drew.alloc (.cells (vs.toArray ++ [v].toArray ++ Builtin.zeroCells (Value.slice none 0 0).cells (grownCap (w.alloc (.cells #[v] 23)) (vs.length + 1) cap 23 - (vs.length + 1))) 23)) := by
      have h1 := (Below.refl w.heap.size w).alloc (Nat.le_refl _) (.cells #[v] 23)
      exact (Below.drew h1).alloc h1.size _
    have := (hb1.cell (p := ⟨g, j, none⟩) hlt).trans (hown.cell j hj)
    rw [show vs.getD j undef = vs[j] by simp [List.getD, hj]]
    exact this


/-- the rows of a list of slices; none lies in one of these blocks -/
def RowsIn (w : World) (A : List Nat) (vs : List Value) (rows : List (List Int)) : Prop :=
  vs.length = rows.length ∧ ∀ j, j < rows.length → ∃ g o c, vs[j]? = some (Value.slice (some ⟨g, o, none⟩) ((rows.getD j []).length) c) ∧ (rows.getD j []).length ≤ c ∧ g < w.heap.size ∧ g ∉ A ∧ Cells w g o (rows.getD j [])
def Que (w : World) (B g cap : Nat) (A : List Nat) (rows : List (List Int)) : Prop := ∃ vs, OwnV w B 23 g cap vs ∧ RowsIn w A vs rows ∧ g ∈ A
section
variable {w w' : World} {A A' : List Nat} {vs : List Value} {rows : List (List Int)} {B g cap : Nat}
theorem RowsIn.below (h : RowsIn w A vs rows) (hb : Below w.heap.size w w') : RowsIn w' A vs rows :=
  ⟨h.1, fun j hj => by obtain ⟨g, o, c, h1, h2, h3, h4, h5⟩ := h.2 j hj; exact ⟨g, o, c, h1, h2, Nat.lt_of_lt_of_le h3 hb.size, h4, h5.below hb h3⟩⟩
theorem RowsIn.grown {k : Nat} (h : RowsIn w A vs rows) (hg : w.grownBy w' (some k)) (hk : k ∈ A) : RowsIn w' A vs rows :=
  ⟨h.1, fun j hj => by
    obtain ⟨g, o, c, h1, h2, h3, h4, h5⟩ := h.2 j hj
    exact ⟨g, o, c, h1, h2, Nat.lt_of_lt_of_le h3 hg.size, h4, h5.grown hg (fun e => h4 (by rw [Option.some.inj e]; exact hk))⟩⟩
theorem RowsIn.avoid (h : RowsIn w A vs rows) (hA : ∀ x ∈ A', x ∈ A ∨ w.heap.size ≤ x) : RowsIn w A' vs rows :=
  ⟨h.1, fun j hj => by
    obtain ⟨g, o, c, h1, h2, h3, h4, h5⟩ := h.2 j hj
    exact ⟨g, o, c, h1, h2, h3, fun hm => by rcases hA g hm with q | q; exact h4 q; omega, h5⟩⟩
theorem RowsIn.push {o c : Nat} {y : List Int} (h : RowsIn w A vs rows) (hg : g < w.heap.size) (hA : g ∉ A) (hc : y.length ≤ c) (hy : Cells w g o y) : RowsIn w A (vs ++ [(Value.slice (some ⟨g, o, none⟩) y.length c)]) (rows ++ [y]) := by
  refine ⟨by simp [h.1], fun j hj => ?_⟩
  by_cases e : j < rows.length
  · obtain ⟨g', o', c', h1, h2, h3, h4, h5⟩ := h.2 j e
    have er : (rows ++ [y]).getD j [] = rows.getD j [] := by simp [List.getD, List.getElem?_append_left e]
    rw [er]
    exact ⟨g', o', c', by rw [List.getElem?_append_left (by rw [h.1]; exact e)]; exact h1, h2, h3, h4, h5⟩
  · have : j = rows.length := by simp at hj; omega
    subst this
    have er : (rows ++ [y]).getD rows.length [] = y := by simp [List.getD]
    rw [er]
    exact ⟨g, o, c, by rw [← h.1]; simp, hc, hg, hA, hy⟩
theorem Que.base (h : Que w B g cap A rows) : B ≤ g := by obtain ⟨vs, h, -⟩ := h; exact h.base
theorem Que.lt (h : Que w B g cap A rows) : g < w.heap.size := by obtain ⟨vs, h, -⟩ := h; exact h.lt
theorem Que.capLe (h : Que w B g cap A rows) : rows.length ≤ cap := by obtain ⟨vs, h, h2, -⟩ := h; rw [← h2.1]; exact h.capLe
theorem Que.below (h : Que w B g cap A rows) (hb : Below w.heap.size w w') : Que w' B g cap A rows := by
  obtain ⟨vs, h1, h2, h3⟩ := h; exact ⟨vs, h1.below hb h1.lt, h2.below hb, h3⟩
theorem Que.still (h : Que w B g cap A rows) (hs : ∃ k, w' = w.drewN k) : Que w' B g cap A rows := by obtain ⟨k, rfl⟩ := hs; exact h
theorem Que.grown {k : Nat} (h : Que w B g cap A rows) (hg : w.grownBy w' (some k)) (hk : k ∈ A) (hne : g ≠ k) : Que w' B g cap A rows := by
  obtain ⟨vs, h1, h2, h3⟩ := h; exact ⟨vs, h1.grown hg (fun e => hne (Option.some.inj e)), h2.grown hg hk, h3⟩
theorem Que.avoid (h : Que w B g cap A rows) (hA : ∀ x ∈ A', x ∈ A ∨ w.heap.size ≤ x) (hg : g ∈ A') : Que w B g cap A' rows := by
  obtain ⟨vs, h1, h2, h3⟩ := h; exact ⟨vs, h1, h2.avoid hA, hg⟩
theorem Que.at (h : Que w B g cap A rows) {k : Nat} (hk : k < rows.length) : ∃ gj oj cj, w.cell? ⟨g, k, none⟩ = some (Value.slice (some ⟨gj, oj, none⟩) ((rows.getD k []).length) cj) ∧ (rows.getD k []).length ≤ cj ∧ gj < w.heap.size ∧ gj ∉ A ∧ Cells w gj oj (rows.getD k []) := by
  obtain ⟨vs, h1, h2, h3⟩ := h
  obtain ⟨gj, oj, cj, q1, q2, q3, q4, q5⟩ := h2.2 k hk
  have hkv : k < vs.length := by rw [h2.1]; exact hk
  refine ⟨gj, oj, cj, ?_, q2, q3, q4, q5⟩
  rw [h1.cell k hkv, ← q1, List.getElem?_eq_getElem hkv]
theorem Que.rows2 (h : Que w B g cap A rows) : Rows2 w g 0 rows := fun j hj => by
  obtain ⟨gj, oj, cj, q1, q2, q3, -, q5⟩ := h.at hj
  exact ⟨gj, oj, cj, by rw [Nat.zero_add]; exact q1, q2, q3, q5⟩
theorem Que.one {x : Nat} {o c : Nat} {y : List Int} (hB : B ≤ w.heap.size) (hx : x < w.heap.size) (hc : y.length ≤ c) (hy : Cells w x o y) (hA : x ∉ A) (hm : w.heap.size ∈ A) :
    Que (w.alloc (.cells #[(Value.slice (some ⟨x, o, none⟩) y.length c)] 23)) B w.heap.size 1 A [y] :=
  ⟨[(Value.slice (some ⟨x, o, none⟩) y.length c)], OwnV.new _ rfl hB, ⟨rfl, fun j hj => by
    have : j = 0 := by simp at hj; exact hj
    subst this
    exact ⟨x, o, c, rfl, hc, by simp; omega, hA, hy.below ((Below.refl _ _).alloc (Nat.le_refl _) _) hx⟩⟩, hm⟩

/-- append of a row: the run -/
theorem run_append_que (h : Que w B g cap A rows) {gy oy cy : Nat} {y : List Int} (hy1 : gy < w.heap.size) (hy2 : gy ∉ A) (hy3 : y.length ≤ cy) (hy4 : Cells w gy oy y) (hlen : rows.length + 1 ≤ 1048576) (ty : TypeId) :
    ∃ g' cap' w', (Builtin.append_ #[22, 22] ty #[(Value.slice (some ⟨g, 0, none⟩) rows.length cap), (Value.slice (some ⟨w.heap.size, 0, none⟩) 1 1)]).run Tryz.prog (w.alloc (.cells #[(Value.slice (some ⟨gy, oy, none⟩) y.length cy)] 23)) = .ok (Value.slice (some ⟨g', 0, none⟩) (rows.length + 1) cap') w' ∧
      Que w' B g' cap' (g' :: A) (rows ++ [y]) ∧ w.grownBy w' (some g) ∧ (g' = g ∨ w.heap.size < g') ∧ (∀ j, j < rows.length → w'.cell? ⟨g, j, none⟩ = w.cell? ⟨g, j, none⟩) := by
  obtain ⟨vs, h1, h2, h3⟩ := h
  obtain ⟨g', cap', w', hrun, q1, q2, q3, q4⟩ := run_append_rowC h1 (Value.slice (some ⟨gy, oy, none⟩) y.length cy) rfl (by rw [h2.1]; exact hlen) ty
  rw [h2.1] at hrun
  refine ⟨g', cap', w', hrun, ⟨_, q1, ?_, by simp⟩, q2, q3, fun j hj => by
    have hj' : j < vs.length := by rw [h2.1]; exact hj
    rw [q4 j hj', h1.cell j hj']; simp [List.getD, hj']⟩
  have r1 := (h2.push hy1 hy2 hy3 hy4).grown q2 h3
  exact ⟨r1.1, fun j hj => by
    obtain ⟨a, b, d, e1, e2, e3, e4, e5⟩ := r1.2 j hj
    refine ⟨a, b, d, e1, e2, e3, fun hm => ?_, e5⟩
    rcases List.mem_cons.1 hm with e | e
    · subst e
      rcases q3 with q | q
      · exact e4 (by rw [q]; exact h3)
      · have : a < w.heap.size := by
          obtain ⟨a', b', d', f1, f2, f3, f4, f5⟩ := (h2.push hy1 hy2 hy3 hy4).2 j hj
          rw [f1] at e1
          have e2 := Option.some.inj e1
          simp only [Value.slice.injEq, Option.some.injEq, Addr.mk.injEq] at e2
          have e3 := e2.1.1
          omega
        omega
    · exact e4 e⟩
/-- 'append(list, row)' -/
theorem wpList_append_que {ops : Array Oper} {rest : List Oper} {o : Oper} {a : Act} {Q : Exit → Act → World → Prop} (hgd : o.guard = none) (s x : Operand)
    (ho : o.op = .call { callee := .builtin .append, args := #[s, x], argTypes := #[22, 22] })
    (B g cap n H gy oy ly cy : Nat) (A : List Nat) (rows : List (List Int)) (y : List Int) (W : World) (hn : rows.length = n) (hly : y.length = ly) (hW : W = w.alloc (.cells #[(Value.slice (some ⟨gy, oy, none⟩) ly cy)] 23)) (hH : w.heap.size = H) (hown : Que w B g cap A rows)
    (hy1 : gy < w.heap.size) (hy2 : gy ∉ A) (hy3 : ly ≤ cy) (hy4 : Cells w gy oy y) (hs : a.eval s = (Value.slice (some ⟨g, 0, none⟩) n cap)) (hx : a.eval x = (Value.slice (some ⟨H, 0, none⟩) 1 1)) (hlen : n + 1 ≤ 1048576)
    (h : ∀ g' cap' w', Que w' B g' cap' (g' :: A) (rows ++ [y]) → w.grownBy w' (some g) → (g' = g ∨ w.heap.size < g') → wpList Tryz.prog ops Q rest (a.put o.dst (Value.slice (some ⟨g', 0, none⟩) (n + 1) cap')) w') :
    wpList Tryz.prog ops Q (o :: rest) a W := by
  subst hn; subst hW; subst hH; subst hly
  obtain ⟨g', cap', w', hrun, h2, h3, h4, h5⟩ := run_append_que hown hy1 hy2 hy3 hy4 hlen o.type
  refine wpList_plain hgd fun K hK => ?_
  unfold Oper.wp execOp
  simp only [ho, resolve, invoke, builtin, Sem.run_bind, Sem.run_pure, Result.andThen_ok, List.map_toArray, List.map_cons, List.map_nil, hs, hx, hrun]
  exact hK _ _ (h g' cap' w' h2 h3 h4)
/-- .. as a step of a drawn region; the cells of the old list stay -/
theorem step_append_que {ops : Array Oper} {o : Oper} {a : Act} {K : Act → World → Prop} {Q : Exit → Act → World → Prop} {E : Prop} (hgd : o.guard = none) (s x : Operand)
    (ho : o.op = .call { callee := .builtin .append, args := #[s, x], argTypes := #[22, 22] })
    (B g cap n H gy oy ly cy : Nat) (A : List Nat) (rows : List (List Int)) (y : List Int) (W : World) (hn : rows.length = n) (hly : y.length = ly) (hW : W = w.alloc (.cells #[(Value.slice (some ⟨gy, oy, none⟩) ly cy)] 23)) (hH : w.heap.size = H) (hown : Que w B g cap A rows)
    (hy1 : gy < w.heap.size) (hy2 : gy ∉ A) (hy3 : ly ≤ cy) (hy4 : Cells w gy oy y) (hs : a.eval s = (Value.slice (some ⟨g, 0, none⟩) n cap)) (hx : a.eval x = (Value.slice (some ⟨H, 0, none⟩) 1 1)) (hlen : n + 1 ≤ 1048576)
    (h : ∀ g' cap' w', Que w' B g' cap' (g' :: A) (rows ++ [y]) → w.grownBy w' (some g) → (g' = g ∨ w.heap.size < g') → (∀ j, j < rows.length → w'.cell? ⟨g, j, none⟩ = w.cell? ⟨g, j, none⟩) → K (a.put o.dst (Value.slice (some ⟨g', 0, none⟩) (n + 1) cap')) w') :
    if Region.wanted o (yielded ops a.tmps) = true then Oper.wp Tryz.prog o a W K Q else E := by
  subst hn; subst hW; subst hH; subst hly
  have hw : Region.wanted o (yielded ops a.tmps) = true := by simp [Region.wanted, hgd]
  rw [if_pos hw]
  obtain ⟨g', cap', w', hrun, h2, h3, h4, h5⟩ := run_append_que hown hy1 hy2 hy3 hy4 hlen o.type
  unfold Oper.wp execOp
  simp only [ho, resolve, invoke, builtin, Sem.run_bind, Sem.run_pure, Result.andThen_ok, List.map_toArray, List.map_cons, List.map_nil, hs, hx, hrun]
  exact h g' cap' w' h2 h3 h4 h5
end
end Go.Proofs.YtjhoimdfmcjkbaaGreat
