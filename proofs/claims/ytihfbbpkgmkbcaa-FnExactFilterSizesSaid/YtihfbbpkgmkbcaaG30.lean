/- Lists of weights with counts of the call's own: append of one, a count set. -/
import Derived.Test.YtihfbbpkgmkbcaaG07
import Derived.Test.YtihfbbpkgmkbcaaStill
import Derived.Test.YtihfbbpkgmkbcaaG08
namespace Go.Proofs.Ytihfbbpkgmkbcaa
set_option maxRecDepth 100000
open Go.RowKit

theorem infoW3 : (Try.prog.info? 48).map (fun i => (i.zero, i.size, i.bytes)) = some (some (.agg #[.slice none 0 0, .int .i64 0]), 2, 32) := by kernel_rfl
section
variable {w w' : World} {B g cap : Nat} {rs : List WRef}
theorem OwnW.empty (hB : B ≤ w.heap.size) : OwnW (w.alloc (.cells #[] 48)) B w.heap.size 0 [] :=
  ⟨World.ownsRow_lit w #[] 0 hB (by decide) rfl, by simp [Inner]⟩
theorem OwnW.still (h : OwnW w B g cap rs) (hs : ∃ n, w' = w.drewN n) : OwnW w' B g cap rs := by obtain ⟨n, rfl⟩ := hs; exact h
theorem OwnW.row (h : OwnW w B g cap rs) : ∃ cur, w.heap[g]? = some (.cells cur 48 (0, 0)) := by obtain ⟨cur, h1, -⟩ := OwnK.row h.1; exact ⟨cur, h1⟩
theorem OwnW.ne (h : OwnW w B g cap rs) {B2 g2 c2 : Nat} {xs : List Int} (ho : Own w B2 g2 c2 xs) : g ≠ g2 := OwnK.neV h.1 ho.toV (by decide)
theorem OwnW.ofMem (h : OwnW w B g cap rs) {r : WRef} (hr : r ∈ rs) : Own w B r.1.1 r.1.2.1 r.1.2.2 := h.2.1 _ (List.mem_map_of_mem hr)
theorem OwnW.grown {k : Nat} (h : OwnW w B g cap rs) (hg : w.grownBy w' (some k)) (h1 : g ≠ k) (h2 : ∀ r ∈ rs, r.1.1 ≠ k) : OwnW w' B g cap rs :=
  ⟨OwnK.grown h.1 hg (fun e => h1 (Option.some.inj e)), fun r hr => by
    obtain ⟨s, hs, rfl⟩ := List.mem_map.1 hr
    exact (h.2.1 _ hr).grown hg (fun e => h2 s hs (Option.some.inj e)), h.2.2⟩
theorem OwnW.cells (h : OwnW w B g cap rs) {j : Nat} (hj : j < rs.length) : w.cell? ⟨g, j * 2, none⟩ = some (rowVal rs[j].1) ∧ w.cell? ⟨g, j * 2 + 1, none⟩ = some (.int .i64 rs[j].2) := by
  have hl := flatW_length rs
  have hf := flatW_at rs [] j hj
  rw [List.append_nil] at hf
  have h1 : j * 2 < (flatW rs).length := by omega
  have h2 : j * 2 + 1 < (flatW rs).length := by omega
  rw [h.1.cell _ h1, h.1.cell _ h2, ← hf.1, ← hf.2, List.getElem?_eq_getElem h1, List.getElem?_eq_getElem h2]
  exact ⟨rfl, rfl⟩
theorem OwnW.frozen (h : OwnW w B g cap rs) (j : Nat) : w.frozen? ⟨g, j, none⟩ = false := OwnK.frozen h.1 j
/-- the last one's count set -/
theorem OwnW.setLast {A : List WRef} {u : WRef} {n : Nat} (h : OwnW w B g cap (A ++ [u])) (hn : A.length = n) (z : Int) :
    OwnW (w.setCell ⟨g, n * 2 + 1, none⟩ (.int .i64 z)) B g cap (A ++ [(u.1, z)]) ∧ w.grownBy (w.setCell ⟨g, n * 2 + 1, none⟩ (.int .i64 z)) (some g) := by
  subst hn
  have h1 := OwnK.set h.1 (A.length * 2 + 1) (.int .i64 z)
  have e : (flatW (A ++ [u])).set (A.length * 2 + 1) (.int .i64 z) = flatW (A ++ [(u.1, z)]) := by
    rw [flatW_append, flatW_append, List.set_append_right _ _ (by rw [flatW_length]; omega), flatW_length, show A.length * 2 + 1 - A.length * 2 = 1 by omega]
    rfl
  rw [e] at h1
  have hl : (A ++ [u]).length = (A ++ [(u.1, z)]).length := by simp
  rw [hl] at h1
  refine ⟨⟨h1.1, fun r hr => ?_, by simpa using h.2.2⟩, h1.2⟩
  have hr' : r ∈ (A ++ [u]).map (·.1) := by simpa using hr
  exact (h.2.1 r hr').grown h1.2 (fun e2 => h.ne (h.2.1 r hr') (Option.some.inj e2).symm)
theorem run_append_wt (hown : OwnW w B g cap rs) (r : RowRef) (ct : Int) (hr : Own w B r.1 r.2.1 r.2.2) (hne : ∀ s ∈ rs, s.1.1 ≠ r.1) (hlen : rs.length + 1 ≤ 1048576) (ty : TypeId) :
    ∃ g' cap' w', (Builtin.append_ #[26, 26] ty #[(Value.slice (some ⟨g, 0, none⟩) rs.length cap), (Value.slice (some ⟨w.heap.size, 0, none⟩) 1 1)]).run Try.prog (w.alloc (.cells #[rowVal r, .int .i64 ct] 48)) = .ok (Value.slice (some ⟨g', 0, none⟩) (rs.length + 1) cap') w' ∧
      OwnW w' B g' cap' (rs ++ [(r, ct)]) ∧ w.grownBy w' (some g) ∧ (g' = g ∨ w.heap.size < g') := by
  have hnew : OwnK (w.alloc (.cells #[rowVal r, .int .i64 ct] 48)) B 48 2 w.heap.size 1 1 [rowVal r, .int .i64 ct] :=
    World.ownsRow_lit w #[rowVal r, .int .i64 ct] 1 (by have := hown.base; have := hown.lt; omega) (by decide) rfl
  obtain ⟨g', cap', w', hrun, h2, h3, h4⟩ := run_append_K infoW3 Try.underlying26 rfl (by decide) (by decide) (OwnK.alloc hown.1 (.cells #[rowVal r, .int .i64 ct] 48)) w.heap.size 0 1 1 [rowVal r, .int .i64 ct] rfl
    (fun j u hu => by
      have hj : j < 2 := by have := (List.getElem?_eq_some_iff.1 hu).1; simpa using this
      have := hnew.cell j (by simpa using hj)
      rw [Nat.zero_add, this, ← hu]
      simp [hj])
    (fun u hu => by simp at hu; rcases hu with rfl | rfl <;> rfl) hlen ty
  have hg : w.grownBy w' (some g) := ⟨h3.os, h3.tape, h3.output, Nat.le_trans (by simp) h3.size, fun k hk hne => (h3.block k (by simp; omega) hne).trans (Below.heap_alloc _ _ _ hk)⟩
  refine ⟨g', cap', w', hrun, ⟨?_, fun t ht => ?_, ?_⟩, hg, h4.imp id (by simp; omega)⟩
  · rw [flatW_append, List.length_append]
    exact h2
  · rw [List.map_append, List.mem_append] at ht
    rcases ht with q | q
    · exact (hown.2.1 t q).grown hg (fun e => hown.ne (hown.2.1 t q) (Option.some.inj e).symm)
    · simp at q
      subst q
      exact hr.grown hg (fun e => hown.ne hr (Option.some.inj e).symm)
  · rw [List.map_append, List.map_append, List.nodup_append]
    refine ⟨hown.2.2, by simp, fun x hx y hy => ?_⟩
    obtain ⟨s, hs, rfl⟩ := List.mem_map.1 hx
    obtain ⟨t, ht, rfl⟩ := List.mem_map.1 hs
    simp at hy
    subst hy
    exact hne t ht
theorem wpList_append_wt {ops : Array Oper} {rest : List Oper} {o : Oper} {a : Act} {Q : Exit → Act → World → Prop} (hgd : o.guard = none) (s x : Operand)
    (ho : o.op = .call { callee := .builtin .append, args := #[s, x], argTypes := #[26, 26] })
    (B g cap n H gr cr nr : Nat) (rs : List WRef) (xs : List Int) (ct : Int) (w W : World) (hn : rs.length = n) (hxs : xs.length = nr) (hW : W = w.alloc (.cells #[(Value.slice (some ⟨gr, 0, none⟩) nr cr), .int .i64 ct] 48)) (hH : w.heap.size = H) (hown : OwnW w B g cap rs) (hr : Own w B gr cr xs) (hne : ∀ s ∈ rs, s.1.1 ≠ gr)
    (hs : a.eval s = (Value.slice (some ⟨g, 0, none⟩) n cap)) (hx : a.eval x = (Value.slice (some ⟨H, 0, none⟩) 1 1)) (hlen : n + 1 ≤ 1048576)
    (h : ∀ g' cap' w', OwnW w' B g' cap' (rs ++ [((gr, cr, xs), ct)]) → w.grownBy w' (some g) → (g' = g ∨ w.heap.size < g') → wpList Try.prog ops Q rest (a.put o.dst (Value.slice (some ⟨g', 0, none⟩) (n + 1) cap')) w') :
    wpList Try.prog ops Q (o :: rest) a W := by
  subst hn; subst hW; subst hH; subst hxs
  obtain ⟨g', cap', w', hrun, h2, h3, h4⟩ := run_append_wt hown (gr, cr, xs) ct hr hne hlen o.type
  have hrun' : (Builtin.append_ #[26, 26] o.type #[(Value.slice (some ⟨g, 0, none⟩) rs.length cap), (Value.slice (some ⟨w.heap.size, 0, none⟩) 1 1)]).run Try.prog (w.alloc (.cells #[(Value.slice (some ⟨gr, 0, none⟩) xs.length cr), .int .i64 ct] 48)) = .ok (Value.slice (some ⟨g', 0, none⟩) (rs.length + 1) cap') w' := hrun
  refine wpList_plain hgd fun K hK => ?_
  unfold Oper.wp execOp
  simp only [ho, resolve, invoke, builtin, Sem.run_bind, Sem.run_pure, Result.andThen_ok, List.map_toArray, List.map_cons, List.map_nil, hs, hx, hrun']
  exact hK _ _ (h g' cap' w' h2 h3 h4)
theorem step_append_wt {ops : Array Oper} {o : Oper} {a : Act} {K : Act → World → Prop} {Q : Exit → Act → World → Prop} {E : Prop} (hgd : o.guard = none) (s x : Operand)
    (ho : o.op = .call { callee := .builtin .append, args := #[s, x], argTypes := #[26, 26] })
    (B g cap n H gr cr nr : Nat) (rs : List WRef) (xs : List Int) (ct : Int) (w W : World) (hn : rs.length = n) (hxs : xs.length = nr) (hW : W = w.alloc (.cells #[(Value.slice (some ⟨gr, 0, none⟩) nr cr), .int .i64 ct] 48)) (hH : w.heap.size = H) (hown : OwnW w B g cap rs) (hr : Own w B gr cr xs) (hne : ∀ s ∈ rs, s.1.1 ≠ gr)
    (hs : a.eval s = (Value.slice (some ⟨g, 0, none⟩) n cap)) (hx : a.eval x = (Value.slice (some ⟨H, 0, none⟩) 1 1)) (hlen : n + 1 ≤ 1048576)
    (h : ∀ g' cap' w', OwnW w' B g' cap' (rs ++ [((gr, cr, xs), ct)]) → w.grownBy w' (some g) → (g' = g ∨ w.heap.size < g') → K (a.put o.dst (Value.slice (some ⟨g', 0, none⟩) (n + 1) cap')) w') :
    if Region.wanted o (yielded ops a.tmps) = true then Oper.wp Try.prog o a W K Q else E := by
  subst hn; subst hW; subst hH; subst hxs
  have hw : Region.wanted o (yielded ops a.tmps) = true := by simp [Region.wanted, hgd]
  rw [if_pos hw]
  obtain ⟨g', cap', w', hrun, h2, h3, h4⟩ := run_append_wt hown (gr, cr, xs) ct hr hne hlen o.type
  have hrun' : (Builtin.append_ #[26, 26] o.type #[(Value.slice (some ⟨g, 0, none⟩) rs.length cap), (Value.slice (some ⟨w.heap.size, 0, none⟩) 1 1)]).run Try.prog (w.alloc (.cells #[(Value.slice (some ⟨gr, 0, none⟩) xs.length cr), .int .i64 ct] 48)) = .ok (Value.slice (some ⟨g', 0, none⟩) (rs.length + 1) cap') w' := hrun
  unfold Oper.wp execOp
  simp only [ho, resolve, invoke, builtin, Sem.run_bind, Sem.run_pure, Result.andThen_ok, List.map_toArray, List.map_cons, List.map_nil, hs, hx, hrun']
  exact h g' cap' w' h2 h3 h4
end
end Go.Proofs.Ytihfbbpkgmkbcaa
