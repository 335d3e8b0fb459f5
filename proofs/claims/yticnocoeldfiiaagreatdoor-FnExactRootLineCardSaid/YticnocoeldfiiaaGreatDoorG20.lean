/- append of elements of any number of cells to a slice of the call's own; slices of vectors; append of rows to rows. -/
import Derived.Test.YticnocoeldfiiaaGreatDoorG16
import Derived.Test.YticnocoeldfiiaaGreatDoorG05
namespace Go.Proofs.YticnocoeldfiiaaGreatDoor
open Go.RowKit Game

/-! ### vectors -/
theorem infoVec : (Tryz.prog.info? 73).map (fun i => (i.zero, i.size, i.bytes)) = some (some (.agg #[.int .i64 0, .int .i64 0, .int .i64 0, .int .i64 0]), 4, 32) := by kernel_rfl
def vec4 (v : List Int) : List Value := [.int .i64 (v.getD 0 0), .int .i64 (v.getD 1 0), .int .i64 (v.getD 2 0), .int .i64 (v.getD 3 0)]
def flatV (vs : List (List Int)) : List Value := vs.flatMap vec4
def OwnVecs (w : World) (B g cap : Nat) (vs : List (List Int)) : Prop := OwnK w B 73 4 g cap vs.length (flatV vs)
theorem flatV_length (vs : List (List Int)) : (flatV vs).length = vs.length * 4 := by
  induction vs with
  | nil => rfl
  | cons v vs ih => unfold flatV at *; simp only [List.flatMap_cons, List.length_append, ih, List.length_cons]; simp [vec4]; omega
theorem flatV_append (a b : List (List Int)) : flatV (a ++ b) = flatV a ++ flatV b := by simp [flatV]
theorem flatV_at {vs : List (List Int)} {j i : Nat} (hj : j < vs.length) (hi : i < 4) : (flatV vs)[j * 4 + i]? = some (.int .i64 ((vs.getD j []).getD i 0)) := by
  induction vs generalizing j with
  | nil => simp at hj
  | cons v vs ih =>
    unfold flatV at *
    simp only [List.flatMap_cons]
    cases j with
    | zero =>
      rw [List.getElem?_append_left (by simp [vec4]; omega)]
      have : i = 0 ∨ i = 1 ∨ i = 2 ∨ i = 3 := by omega
      rcases this with rfl | rfl | rfl | rfl <;> rfl
    | succ j =>
      have := ih (j := j) (by simpa using hj)
      rw [List.getElem?_append_right (by simp [vec4]; omega)]
      have e : (j + 1) * 4 + i - (vec4 v).length = j * 4 + i := by simp [vec4]; omega
      rw [e, this]
      simp [List.getD]
section
variable {w w' : World} {B g cap : Nat} {vs : List (List Int)}
theorem OwnVecs.lt (h : OwnVecs w B g cap vs) : g < w.heap.size := OwnK.lt h
theorem OwnVecs.base (h : OwnVecs w B g cap vs) : B ≤ g := OwnK.base h
theorem OwnVecs.below {B' : Nat} (h : OwnVecs w B g cap vs) (hb : Below B' w w') (hg : g < B') : OwnVecs w' B g cap vs := OwnK.below h hb hg
theorem OwnVecs.mono {B' : Nat} (h : OwnVecs w B g cap vs) (hB : B' ≤ B) : OwnVecs w B' g cap vs := OwnK.mono h hB
theorem OwnVecs.grown {row : Option Nat} (h : OwnVecs w B g cap vs) (hg : w.grownBy w' row) (hne : some g ≠ row) : OwnVecs w' B g cap vs := OwnK.grown h hg hne
theorem OwnVecs.still (h : OwnVecs w B g cap vs) (hs : ∃ n, w' = w.drewN n) : OwnVecs w' B g cap vs := by obtain ⟨n, rfl⟩ := hs; exact h
theorem OwnVecs.cell (h : OwnVecs w B g cap vs) {j i : Nat} (hj : j < vs.length) (hi : i < 4) : w.cell? ⟨g, j * 4 + i, none⟩ = some (.int .i64 ((vs.getD j []).getD i 0)) := by
  have hl : j * 4 + i < (flatV vs).length := by rw [flatV_length]; omega
  rw [OwnK.cell h _ hl, ← flatV_at hj hi, List.getElem?_eq_getElem hl]
theorem OwnVecs.empty (hB : B ≤ w.heap.size) : OwnVecs (w.alloc (.cells #[] 73)) B w.heap.size 0 [] :=
  World.ownsRow_lit w #[] 0 hB (by decide) rfl
theorem OwnVecs.one (v : List Int) (hB : B ≤ w.heap.size) : OwnVecs (w.alloc (.cells #[.int .i64 (v.getD 0 0), .int .i64 (v.getD 1 0), .int .i64 (v.getD 2 0), .int .i64 (v.getD 3 0)] 73)) B w.heap.size 1 [v] :=
  World.ownsRow_lit w #[.int .i64 (v.getD 0 0), .int .i64 (v.getD 1 0), .int .i64 (v.getD 2 0), .int .i64 (v.getD 3 0)] 1 hB (by decide) rfl
/-- 'append(out, rows...)' -/
theorem wpList_append_rows {ops : Array Oper} {rest : List Oper} {o : Oper} {a : Act} {Q : Exit → Act → World → Prop} (hgd : o.guard = none) (s x : Operand)
    (ho : o.op = .call { callee := .builtin .append, args := #[s, x], argTypes := #[22, 22] })
    (B g cap n g2 c2 m : Nat) (rs rs2 : List RowRef) (w : World) (hn : rs.length = n) (hm : rs2.length = m) (hown : OwnRows w B g cap rs) (hown2 : OwnRows w B g2 c2 rs2) (hne : ∀ r ∈ rs, ∀ s ∈ rs2, r.1 ≠ s.1)
    (hs : a.eval s = (Value.slice (some ⟨g, 0, none⟩) n cap)) (hx : a.eval x = (Value.slice (some ⟨g2, 0, none⟩) m c2)) (hlen : n + m ≤ 1048576)
    (h : ∀ g' cap' w', OwnRows w' B g' cap' (rs ++ rs2) → w.grownBy w' (some g) → (g' = g ∨ g' = w.heap.size) → wpList Tryz.prog ops Q rest (a.put o.dst (Value.slice (some ⟨g', 0, none⟩) (n + m) cap')) w') :
    wpList Tryz.prog ops Q (o :: rest) a w := by
  subst hn; subst hm
  have ho1 : OwnK w B 28 1 g cap rs.length (rs.map rowVal) := by have := hown.1; unfold OwnV at this; rw [List.length_map] at this; exact this
  refine wpList_append_K infoRow Tryz.underlying22 rfl (by decide) (by decide) hgd s x ho B g cap rs.length (rs.map rowVal) ho1 g2 0 rs2.length c2 (rs2.map rowVal) (by simp) ?_ ?_ hs hx hlen ?_
  · intro j u hu
    have hj : j < (rs2.map rowVal).length := (List.getElem?_eq_some_iff.1 hu).1
    rw [Nat.zero_add, hown2.1.cell j hj, ← hu, List.getElem?_eq_getElem hj]
  · intro u hu
    obtain ⟨r, -, rfl⟩ := List.mem_map.1 hu
    rfl
  · intro g' cap' w' h2 h3 h4
    refine h g' cap' w' ⟨?_, fun r hr => ?_, ?_⟩ h3 h4
    · unfold OwnV
      rw [List.map_append, List.length_append, List.length_map, List.length_map]
      exact h2
    · rcases List.mem_append.1 hr with hr | hr
      · exact (hown.2.1 r hr).grown h3 (fun e => hown.1.ne (hown.2.1 r hr).toV (by decide) (Option.some.inj e).symm)
      · exact (hown2.2.1 r hr).grown h3 (fun e => hown.1.ne (hown2.2.1 r hr).toV (by decide) (Option.some.inj e).symm)
    · rw [List.map_append, List.nodup_append]
      refine ⟨hown.2.2, hown2.2.2, fun x hx y hy => ?_⟩
      obtain ⟨r, hr, rfl⟩ := List.mem_map.1 hx
      obtain ⟨s, hs, rfl⟩ := List.mem_map.1 hy
      exact hne r hr s hs
end
end Go.Proofs.YticnocoeldfiiaaGreatDoor
