/- Arguments opened at a parameter: integers, rows, weights with counts, one integer. append of a row to rows of the call's own. Worlds that only drew; an insertion into a list of rows under way. -/
import Derived.Test.YtmjneokgnnbekaaG07
import Derived.Test.YtmjneokgnnbekaaG02
import Derived.Test.YtmjneokgnnbekaaG04
namespace Go.Proofs.Ytmjneokgnnbekaa
set_option maxRecDepth 100000
set_option maxRecDepth 20000
open Go.Joins Go.ChangeShapes Go.WideShapes Go.RowKit Go.Deep
section
variable {H : Type} {enc : TypeId × Value → H} {w : World} {base b0 : Nat} {r : Reach} {v : Value} {d : DataW H} {p : List MemPlace}
theorem argInts_at (hv : Value.okWide Try.prog w r b0 23 v) (h : DataW.Trod enc Try.prog w base (fun _ => true) true 23 v d p) :
    ∃ a c, ∃ xs : List Int, v = .slice a xs.length c ∧ Hid (ArgInts w a xs) ∧ xs.length ≤ maxLen := by
  obtain ⟨a, l, c, rfl⟩ := okWide_slice Try.underlying23 hv
  obtain ⟨fuel, hf⟩ := h
  obtain ⟨a', c', xs, he, h1, h2, -⟩ := argInts_open hf
  exact ⟨a', c', xs, he, h1, h2⟩
theorem argRows_at (hv : Value.okWide Try.prog w r b0 22 v) (h : DataW.Trod enc Try.prog w base (fun _ => true) true 22 v d p) :
    ∃ a c, ∃ xs : List (List Int), v = .slice a xs.length c ∧ Hid (ArgRows w a xs) ∧ xs.length ≤ maxLen ∧ Hid (∀ j, j < xs.length → (xs.getD j []).length ≤ maxLen) := by
  obtain ⟨a, l, c, rfl⟩ := okWide_slice Try.underlying22 hv
  obtain ⟨fuel, hf⟩ := h
  obtain ⟨a', c', xs, he, h1, h2, h3, -⟩ := argRows_open hf
  exact ⟨a', c', xs, he, h1, h2, h3⟩
theorem argWts_at (hv : Value.okWide Try.prog w r b0 32 v) (h : DataW.Trod enc Try.prog w base (fun _ => true) true 32 v d p) :
    ∃ a c, ∃ xs : List Wt, v = .slice a xs.length c ∧ Hid (ArgWts w a xs) ∧ xs.length ≤ maxLen ∧ Hid (∀ j, j < xs.length → (wOf xs j).length ≤ maxLen) := by
  obtain ⟨a, l, c, rfl⟩ := okWide_slice Try.underlying32 hv
  obtain ⟨fuel, hf⟩ := h
  obtain ⟨a', c', xs, he, h1, h2, h3⟩ := argWts_open hf
  exact ⟨a', c', xs, he, h1, h2, h3⟩
theorem argInt_at (hv : Value.okWide Try.prog w r b0 3 v) (h : DataW.Trod enc Try.prog w base (fun _ => true) true 3 v d p) :
    ∃ x : Int, v = .int .i64 x ∧ (Lit.int .i64 x).wf = true := by
  obtain ⟨n, rfl⟩ := okWide_int Try.underlying3 hv
  obtain ⟨fuel, hf⟩ := h
  obtain ⟨k, hk, hx⟩ := DataW.trod_int Try.underlying3 hf
  simp [Value.cells] at hk
  subst hk
  exact ⟨n, rfl, hx.2⟩
end
end Go.Proofs.Ytmjneokgnnbekaa
namespace Go.Proofs.Ytmjneokgnnbekaa
set_option maxRecDepth 100000
open Go.RowKit

theorem rowCell (r : RowRef) : (rowVal r).oneCell' = true := rfl
theorem OwnV.new {w : World} {B : Nat} {E : TypeId} (v : Value) (_hv : v.oneCell' = true) (hB : B ≤ w.heap.size) : OwnV (w.alloc (.cells #[v] E)) B E w.heap.size 1 [v] :=
  World.ownsRow_lit w #[v] 1 hB (by decide) rfl

theorem run_append_row {w : World} {B g cap : Nat} {vs : List Value} (hown : OwnV w B 23 g cap vs) (v : Value) (hv : v.oneCell' = true) (hlen : vs.length + 1 ≤ 1048576) (ty : TypeId) :
    ∃ g' cap' w', (Builtin.append_ #[22, 22] ty #[(Value.slice (some ⟨g, 0, none⟩) vs.length cap), (Value.slice (some ⟨w.heap.size, 0, none⟩) 1 1)]).run Try.prog (w.alloc (.cells #[v] 23)) = .ok (Value.slice (some ⟨g', 0, none⟩) (vs.length + 1) cap') w' ∧
      OwnV w' B 23 g' cap' (vs ++ [v]) ∧ w.grownBy w' (some g) ∧ (g' = g ∨ w.heap.size < g') := by
  obtain ⟨i0, hi, hz0, hz1, hz2⟩ := info_parts infoRow
  have hBg := hown.base
  have hlt := hown.lt
  have hown' : OwnV (w.alloc (.cells #[v] 23)) B 23 g cap vs := hown.alloc _
  have hcell : (w.alloc (.cells #[v] 23)).cell? ⟨w.heap.size, 0, none⟩ = some v := (OwnV.new (B := w.heap.size) v hv (Nat.le_refl _)).cell 0 (by simp)
  have hnews : ∀ j u, ([v] : List Value)[j]? = some u → (w.alloc (.cells #[v] 23)).cell? ((⟨w.heap.size, 0, none⟩ : Addr).add j) = some u := by
    intro j u hu
    have hj : j = 0 := by have := (List.getElem?_eq_some_iff.1 hu).1; simp at this; exact this
    subst hj
    simp at hu; subst hu
    rw [Addr.add_lit]; exact hcell
  have h1 : ∀ u ∈ ([v] : List Value), u.oneCell' = true := by simp [hv]
  have hl : ([v] : List Value).length = 1 * i0.size := by simp [hz1]
  obtain ⟨v', w', hr, ho, hg, -⟩ := run_append_own (P := Try.prog) (w.alloc (.cells #[v] 23)) B 22 ty 23 i0 (.slice none 0 0) 1 24 Try.underlying22 hi hz0 hz1 hz2 rfl (by decide) _ vs.length _ hown' ⟨w.heap.size, 0, none⟩ 1 1
    [v] (by simp) hnews h1 (by unfold maxLen; omega) (by omega) (by simp; omega)
  have hgr : w.grownBy w' (some g) := ⟨hg.os, hg.tape, hg.output, Nat.le_trans (by simp) hg.size, fun k hk hne => (hg.block k (by simp; omega) hne).trans (Below.heap_alloc _ _ _ hk)⟩
  have fin : ∀ g' cap', v' = (Value.slice (some ⟨g', 0, none⟩) (vs.length + 1) cap') → (g' = g ∨ w.heap.size < g') → ∃ g' cap' w', (Builtin.append_ #[22, 22] ty #[(Value.slice (some ⟨g, 0, none⟩) vs.length cap), (Value.slice (some ⟨w.heap.size, 0, none⟩) 1 1)]).run Try.prog (w.alloc (.cells #[v] 23)) = .ok (Value.slice (some ⟨g', 0, none⟩) (vs.length + 1) cap') w' ∧
      OwnV w' B 23 g' cap' (vs ++ [v]) ∧ w.grownBy w' (some g) ∧ (g' = g ∨ w.heap.size < g') := by
    intro g' cap' hv' hor
    subst hv'
    refine ⟨g', cap', w', hr, ?_, hgr, hor⟩
    unfold OwnV
    rw [List.length_append]
    exact ho
  by_cases hroom : vs.length + 1 ≤ cap
  · rcases hown'.2 with ⟨h', _⟩ | ⟨g1, cap1, cur, hv', hb, hh, hn, hm, hs, htk⟩
    · simp at h'
    simp only [Value.slice.injEq, Option.some.injEq, Addr.mk.injEq, and_true, true_and] at hv'
    obtain ⟨rfl, rfl⟩ := hv'
    have hr2 := run_append_room (P := Try.prog) (w.alloc (.cells #[v] 23)) 22 ty 23 i0 Try.underlying22 hi g vs.length cap cur hh ⟨w.heap.size, 0, none⟩ 1 1 [v] hl hnews h1 hroom (by rw [hz1] at *; simp; omega)
    rw [hr2] at hr
    simp only [Result.ok.injEq] at hr
    exact fin g cap hr.1.symm (.inl rfl)
  · have hr2 := run_append_grow (P := Try.prog) (w.alloc (.cells #[v] 23)) 22 ty 23 i0 (.slice none 0 0) Try.underlying22 hi hz0 ⟨g, 0, none⟩ vs.length cap vs (by simp [hz1]) (World.ownsRow.cells hown' rfl) ⟨w.heap.size, 0, none⟩ 1 1 _ hl hnews (by omega) (by omega) (growslice_fits (by omega) (by rw [hz2]; omega))
    rw [hr2] at hr
    simp only [Result.ok.injEq] at hr
    exact fin _ _ hr.1.symm (.inr (by simp))

theorem OwnRows.push {w w' : World} {B g cap g' cap' : Nat} {rs : List RowRef} {r : RowRef} (h : OwnRows w B g cap rs) (hr : Own w B r.1 r.2.1 r.2.2) (hne : ∀ s ∈ rs, s.1 ≠ r.1)
    (ho : OwnV w' B 23 g' cap' (rs.map rowVal ++ [rowVal r])) (hg : w.grownBy w' (some g)) : OwnRows w' B g' cap' (rs ++ [r]) := by
  refine ⟨by rw [List.map_append]; exact ho, ?_⟩
  have hg1 : ∀ s ∈ rs, some s.1 ≠ some g := fun s hs e => h.1.ne (h.2.1 s hs).toV (by decide) (Option.some.inj e).symm
  have hg2 : some r.1 ≠ some g := fun e => h.1.ne hr.toV (by decide) (Option.some.inj e).symm
  exact (Inner.append (w := w') (r := r) ⟨fun s hs => (h.2.1 s hs).grown hg (hg1 s hs), h.2.2⟩ (hr.grown hg hg2) hne)

/-- 'append(out, row)' -/
theorem wpList_append_row {w : World} {ops : Array Oper} {rest : List Oper} {o : Oper} {a : Act} {Q : Exit → Act → World → Prop} (hgd : o.guard = none) (s x : Operand)
    (ho : o.op = .call { callee := .builtin .append, args := #[s, x], argTypes := #[22, 22] })
    (B g cap n H : Nat) (rs : List RowRef) (r : RowRef) (W : World) (hn : rs.length = n) (hW : W = w.alloc (.cells #[rowVal r] 23)) (hH : w.heap.size = H) (hown : OwnRows w B g cap rs) (hr : Own w B r.1 r.2.1 r.2.2) (hne : ∀ s ∈ rs, s.1 ≠ r.1)
    (hs : a.eval s = (Value.slice (some ⟨g, 0, none⟩) n cap)) (hx : a.eval x = (Value.slice (some ⟨H, 0, none⟩) 1 1)) (hlen : n + 1 ≤ 1048576)
    (h : ∀ g' cap' w', OwnRows w' B g' cap' (rs ++ [r]) → w.grownBy w' (some g) → (g' = g ∨ w.heap.size < g') → wpList Try.prog ops Q rest (a.put o.dst (Value.slice (some ⟨g', 0, none⟩) (n + 1) cap')) w') :
    wpList Try.prog ops Q (o :: rest) a W := by
  subst hn; subst hW; subst hH
  have hl : (rs.map rowVal).length = rs.length := by simp
  obtain ⟨g', cap', w', hrun, h2, h3, h4⟩ := run_append_row hown.1 (rowVal r) rfl (by rw [hl]; exact hlen) o.type
  rw [hl] at hrun
  refine wpList_plain hgd fun K hK => ?_
  unfold Oper.wp execOp
  simp only [ho, resolve, invoke, builtin, Sem.run_bind, Sem.run_pure, Result.andThen_ok, List.map_toArray, List.map_cons, List.map_nil, hs, hx, hrun]
  exact hK _ _ (h g' cap' w' (hown.push hr hne h2 h3) h3 h4)
theorem OwnRows.empty {w : World} {B : Nat} (hB : B ≤ w.heap.size) : OwnRows (w.alloc (.cells #[] 23)) B w.heap.size 0 [] :=
  ⟨World.ownsRow_lit w #[] 0 hB (by decide) rfl, ⟨by simp, by simp⟩⟩
end Go.Proofs.Ytmjneokgnnbekaa
namespace Go.Proofs.Ytmjneokgnnbekaa
set_option maxRecDepth 100000
namespace Game
end Game
open Go.RowKit

/-- a new list of rows of the call's own from block B0 on; the list itself is new -/
def GotPut (w : World) (B0 : Nat) (rows : List (List Int)) (e : Ending) (w' : World) : Prop :=
  ∃ g cap rs, e = .returned (Value.slice (some ⟨g, 0, none⟩) rows.length cap) ∧ contents rs = rows ∧ OwnRows w' B0 g cap rs ∧ w.heap.size ≤ g ∧ Below w.heap.size w w'

theorem GotPut.mk' {w w' : World} {B0 : Nat} {rows : List (List Int)} {n : Nat} (g cap : Nat) (rs : List RowRef) (hl : rs.length = n) (hc : contents rs = rows) (ho : OwnRows w' B0 g cap rs) (hg : w.heap.size ≤ g) (hb : Below w.heap.size w w') :
    GotPut w B0 rows (.returned (Value.slice (some ⟨g, 0, none⟩) n cap)) w' := by
  subst hl; subst hc
  exact ⟨g, cap, rs, by rw [contents_length], rfl, ho, hg, hb⟩

section
variable {w a b : World} {B B' : Nat}
theorem below_still (h : Below B w a) (hs : ∃ n, b = a.drewN n) : Below B w b := by obtain ⟨n, rfl⟩ := hs; exact below_drewN h n
theorem OwnRows.still {g cap : Nat} {rs : List RowRef} (h : OwnRows a B g cap rs) (hs : ∃ n, b = a.drewN n) : OwnRows b B g cap rs := by obtain ⟨n, rfl⟩ := hs; exact h
theorem Own.still {g cap : Nat} {xs : List Int} (h : Own a B g cap xs) (hs : ∃ n, b = a.drewN n) : Own b B g cap xs := by obtain ⟨n, rfl⟩ := hs; exact h
theorem OwnV.still {g cap : Nat} {E : TypeId} {xs : List Value} (h : OwnV a B E g cap xs) (hs : ∃ n, b = a.drewN n) : OwnV b B E g cap xs := by obtain ⟨n, rfl⟩ := hs; exact h
theorem Cells.still {g o : Nat} {xs : List Int} (h : Cells a g o xs) (hs : ∃ n, b = a.drewN n) : Cells b g o xs := by obtain ⟨n, rfl⟩ := hs; exact h
theorem Rows2.still {g o : Nat} {xs : List (List Int)} (h : Rows2 a g o xs) (hs : ∃ n, b = a.drewN n) : Rows2 b g o xs := by obtain ⟨n, rfl⟩ := hs; exact h
theorem size_still (hs : ∃ n, b = a.drewN n) : b.heap.size = a.heap.size := by obtain ⟨n, rfl⟩ := hs; rfl
theorem cell_still (hs : ∃ n, b = a.drewN n) (p : Addr) : b.cell? p = a.cell? p := by obtain ⟨n, rfl⟩ := hs; rfl
end

theorem still_trans {a b d : World} (h : ∃ n, b = a.drewN n) (k : ∃ n, d = b.drewN n) : ∃ n, d = a.drewN n := by
  obtain ⟨n, rfl⟩ := h
  obtain ⟨m, rfl⟩ := k
  exact ⟨n + m, by rw [World.drewN_drewN]⟩
/-- an insertion under way: H: the first new block; put: what an insertion gives -/
structure PutSt (put : List (List Int) → List (List Int)) (H : Nat) (rs : List RowRef) (i : Nat) (acc : List RowRef) (pl : Bool) : Prop where
  blocks : ∀ s ∈ acc, s ∈ rs.take i ∨ H ≤ s.1
  fin : contents acc ++ (if pl then contents (rs.drop i) else put (contents (rs.drop i))) = put (contents rs)
  len : acc.length ≤ i + 1
  lenF : pl = false → acc.length = i
section
variable {put : List (List Int) → List (List Int)} {H : Nat} {rs acc : List RowRef} {i : Nat} {pl : Bool}
theorem PutSt.start : PutSt put H rs 0 [] false := ⟨by simp, by simp [contents], by simp, by simp⟩
theorem contents_drop (rs : List RowRef) {i : Nat} (hi : i < rs.length) : contents (rs.drop i) = rs[i].2.2 :: contents (rs.drop (i + 1)) := by
  rw [List.drop_eq_getElem_cons hi]; rfl
theorem PutSt.step (h : PutSt put H rs i acc pl) (hi : i < rs.length) (new : List RowRef) (pl' : Bool) (hnew : ∀ s ∈ new, H ≤ s.1) (hl : acc.length + new.length ≤ i + 1) (hF : pl' = false → pl = false ∧ new = [])
    (hf : (if pl then contents (rs.drop i) else put (contents (rs.drop i))) = contents new ++ rs[i].2.2 :: (if pl' then contents (rs.drop (i + 1)) else put (contents (rs.drop (i + 1))))) :
    PutSt put H rs (i + 1) (acc ++ new ++ [rs[i]]) pl' := by
  refine ⟨?_, ?_, by simp; omega, ?_⟩
  · intro s hs
    rw [List.append_assoc, List.mem_append, List.mem_append, List.mem_singleton] at hs
    rcases hs with h1 | h1 | h1
    · rcases h.blocks s h1 with h2 | h2
      · left
        rw [List.take_succ_eq_append_getElem hi]
        exact List.mem_append_left _ h2
      · exact .inr h2
    · exact .inr (hnew s h1)
    · left
      rw [List.take_succ_eq_append_getElem hi, h1]
      exact List.mem_append_right _ (by simp)
  · rw [← h.fin, hf]
    simp [contents]
  · intro e
    have := hF e
    rw [this.2, List.append_nil, List.length_append, h.lenF this.1]; rfl
theorem PutSt.last (h : PutSt put H rs rs.length acc false) (r : RowRef) (hp : put [] = [r.2.2]) : contents (acc ++ [r]) = put (contents rs) := by
  have := h.fin
  simp [contents] at this ⊢
  rw [hp] at this
  exact this
theorem PutSt.done (h : PutSt put H rs rs.length acc true) : contents acc = put (contents rs) := by
  have := h.fin
  simpa [contents] using this
theorem PutSt.ne (h : PutSt put H rs i acc pl) (hnd : (rs.map (·.1)).Nodup) (hi : i < rs.length) (hH : rs[i].1 < H) : ∀ s ∈ acc, s.1 ≠ rs[i].1 := by
  intro s hs e
  rcases h.blocks s hs with h1 | h1
  · obtain ⟨t, ht, rfl⟩ := List.mem_iff_getElem.1 h1
    rw [List.length_take] at ht
    rw [List.getElem_take] at e
    have ht' : t < rs.length := by omega
    have h2 : (rs.map (·.1))[t]'(by simpa using ht') = (rs.map (·.1))[i]'(by simpa using hi) := by simpa using e
    have h3 := (List.getElem_inj hnd).1 h2
    omega
  · omega
end
end Go.Proofs.Ytmjneokgnnbekaa
