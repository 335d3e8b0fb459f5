/- append of a row to rows of the call's own. -/
import Derived.Test.YtihfbbpkgmkbcaaArg
namespace Go.Proofs.Ytihfbbpkgmkbcaa
set_option maxRecDepth 100000
open Go.RowKit

theorem rowCell (r : RowRef) : (rowVal r).oneCell' = true := rfl
theorem OwnV.new {w : World} {B : Nat} {E : TypeId} (v : Value) (_hv : v.oneCell' = true) (hB : B ≤ w.heap.size) : OwnV (w.alloc (.cells #[v] E)) B E w.heap.size 1 [v] :=
  World.ownsRow_lit w #[v] 1 hB (by decide) rfl

theorem run_append_row {w : World} {B g cap : Nat} {vs : List Value} (hown : OwnV w B 35 g cap vs) (v : Value) (hv : v.oneCell' = true) (hlen : vs.length + 1 ≤ 1048576) (ty : TypeId) :
    ∃ g' cap' w', (Builtin.append_ #[22, 22] ty #[(Value.slice (some ⟨g, 0, none⟩) vs.length cap), (Value.slice (some ⟨w.heap.size, 0, none⟩) 1 1)]).run Try.prog (w.alloc (.cells #[v] 35)) = .ok (Value.slice (some ⟨g', 0, none⟩) (vs.length + 1) cap') w' ∧
      OwnV w' B 35 g' cap' (vs ++ [v]) ∧ w.grownBy w' (some g) ∧ (g' = g ∨ w.heap.size < g') := by
  obtain ⟨i0, hi, hz0, hz1, hz2⟩ := info_parts infoRow
  have hBg := hown.base
  have hlt := hown.lt
  have hown' : OwnV (w.alloc (.cells #[v] 35)) B 35 g cap vs := hown.alloc _
  have hcell : (w.alloc (.cells #[v] 35)).cell? ⟨w.heap.size, 0, none⟩ = some v := (OwnV.new (B := w.heap.size) v hv (Nat.le_refl _)).cell 0 (by simp)
  have hnews : ∀ j u, ([v] : List Value)[j]? = some u → (w.alloc (.cells #[v] 35)).cell? ((⟨w.heap.size, 0, none⟩ : Addr).add j) = some u := by
    intro j u hu
    have hj : j = 0 := by have := (List.getElem?_eq_some_iff.1 hu).1; simp at this; exact this
    subst hj
    simp at hu; subst hu
    rw [Addr.add_lit]; exact hcell
  have h1 : ∀ u ∈ ([v] : List Value), u.oneCell' = true := by simp [hv]
  have hl : ([v] : List Value).length = 1 * i0.size := by simp [hz1]
  obtain ⟨v', w', hr, ho, hg, -⟩ := run_append_own (P := Try.prog) (w.alloc (.cells #[v] 35)) B 22 ty 35 i0 (.slice none 0 0) 1 24 Try.underlying22 hi hz0 hz1 hz2 rfl (by decide) _ vs.length _ hown' ⟨w.heap.size, 0, none⟩ 1 1
    [v] (by simp) hnews h1 (by unfold maxLen; omega) (by omega) (by simp; omega)
  have hgr : w.grownBy w' (some g) := ⟨hg.os, hg.tape, hg.output, Nat.le_trans (by simp) hg.size, fun k hk hne => (hg.block k (by simp; omega) hne).trans (Below.heap_alloc _ _ _ hk)⟩
  have fin : ∀ g' cap', v' = (Value.slice (some ⟨g', 0, none⟩) (vs.length + 1) cap') → (g' = g ∨ w.heap.size < g') → ∃ g' cap' w', (Builtin.append_ #[22, 22] ty #[(Value.slice (some ⟨g, 0, none⟩) vs.length cap), (Value.slice (some ⟨w.heap.size, 0, none⟩) 1 1)]).run Try.prog (w.alloc (.cells #[v] 35)) = .ok (Value.slice (some ⟨g', 0, none⟩) (vs.length + 1) cap') w' ∧
      OwnV w' B 35 g' cap' (vs ++ [v]) ∧ w.grownBy w' (some g) ∧ (g' = g ∨ w.heap.size < g') := by
    intro g' cap' hv' hor
    subst hv'
    refine ⟨g', cap', w', hr, ?_, hgr, hor⟩
    unfold OwnV
    rw [List.length_append]
    exact ho
  by_cases hroom : vs.length + 1 ≤ cap
  · rcases hown'.2 with ⟨h', _⟩ | ⟨g1, cap1, cur, hv', hb, hh, hn, hm, hs, htk⟩
    · simp at h'
    simp only [Value.slice.injEq, Option.some.injEq, Addr.mk.injEq, and_true, true_and] at hv'
    obtain ⟨rfl, rfl⟩ := hv'
    have hr2 := run_append_room (P := Try.prog) (w.alloc (.cells #[v] 35)) 22 ty 35 i0 Try.underlying22 hi g vs.length cap cur hh ⟨w.heap.size, 0, none⟩ 1 1 [v] hl hnews h1 hroom (by rw [hz1] at *; simp; omega)
    rw [hr2] at hr
    simp only [Result.ok.injEq] at hr
    exact fin g cap hr.1.symm (.inl rfl)
  · have hr2 := run_append_grow (P := Try.prog) (w.alloc (.cells #[v] 35)) 22 ty 35 i0 (.slice none 0 0) Try.underlying22 hi hz0 ⟨g, 0, none⟩ vs.length cap vs (by simp [hz1]) (World.ownsRow.cells hown' rfl) ⟨w.heap.size, 0, none⟩ 1 1 _ hl hnews (by omega) (by omega) (growslice_fits (by omega) (by rw [hz2]; omega))
    rw [hr2] at hr
    simp only [Result.ok.injEq] at hr
    exact fin _ _ hr.1.symm (.inr (by simp))

theorem OwnRows.push {w w' : World} {B g cap g' cap' : Nat} {rs : List RowRef} {r : RowRef} (h : OwnRows w B g cap rs) (hr : Own w B r.1 r.2.1 r.2.2) (hne : ∀ s ∈ rs, s.1 ≠ r.1)
    (ho : OwnV w' B 35 g' cap' (rs.map rowVal ++ [rowVal r])) (hg : w.grownBy w' (some g)) : OwnRows w' B g' cap' (rs ++ [r]) := by
  refine ⟨by rw [List.map_append]; exact ho, ?_⟩
  have hg1 : ∀ s ∈ rs, some s.1 ≠ some g := fun s hs e => h.1.ne (h.2.1 s hs).toV (by decide) (Option.some.inj e).symm
  have hg2 : some r.1 ≠ some g := fun e => h.1.ne hr.toV (by decide) (Option.some.inj e).symm
  exact (Inner.append (w := w') (r := r) ⟨fun s hs => (h.2.1 s hs).grown hg (hg1 s hs), h.2.2⟩ (hr.grown hg hg2) hne)

/-- 'append(out, row)' -/
theorem wpList_append_row {w : World} {ops : Array Oper} {rest : List Oper} {o : Oper} {a : Act} {Q : Exit → Act → World → Prop} (hgd : o.guard = none) (s x : Operand)
    (ho : o.op = .call { callee := .builtin .append, args := #[s, x], argTypes := #[22, 22] })
    (B g cap n H : Nat) (rs : List RowRef) (r : RowRef) (W : World) (hn : rs.length = n) (hW : W = w.alloc (.cells #[rowVal r] 35)) (hH : w.heap.size = H) (hown : OwnRows w B g cap rs) (hr : Own w B r.1 r.2.1 r.2.2) (hne : ∀ s ∈ rs, s.1 ≠ r.1)
    (hs : a.eval s = (Value.slice (some ⟨g, 0, none⟩) n cap)) (hx : a.eval x = (Value.slice (some ⟨H, 0, none⟩) 1 1)) (hlen : n + 1 ≤ 1048576)
    (h : ∀ g' cap' w', OwnRows w' B g' cap' (rs ++ [r]) → w.grownBy w' (some g) → (g' = g ∨ w.heap.size < g') → wpList Try.prog ops Q rest (a.put o.dst (Value.slice (some ⟨g', 0, none⟩) (n + 1) cap')) w') :
    wpList Try.prog ops Q (o :: rest) a W := by
  subst hn; subst hW; subst hH
  have hl : (rs.map rowVal).length = rs.length := by simp
  obtain ⟨g', cap', w', hrun, h2, h3, h4⟩ := run_append_row hown.1 (rowVal r) rfl (by rw [hl]; exact hlen) o.type
  rw [hl] at hrun
  refine wpList_plain hgd fun K hK => ?_
  unfold Oper.wp execOp
  simp only [ho, resolve, invoke, builtin, Sem.run_bind, Sem.run_pure, Result.andThen_ok, List.map_toArray, List.map_cons, List.map_nil, hs, hx, hrun]
  exact hK _ _ (h g' cap' w' (hown.push hr hne h2 h3) h3 h4)
theorem OwnRows.empty {w : World} {B : Nat} (hB : B ≤ w.heap.size) : OwnRows (w.alloc (.cells #[] 35)) B w.heap.size 0 [] :=
  ⟨World.ownsRow_lit w #[] 0 hB (by decide) rfl, ⟨by simp, by simp⟩⟩
end Go.Proofs.Ytihfbbpkgmkbcaa
