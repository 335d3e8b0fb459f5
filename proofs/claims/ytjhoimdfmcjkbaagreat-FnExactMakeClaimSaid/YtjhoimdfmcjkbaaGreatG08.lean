/- Arguments opened at a parameter: integers, rows, weights with counts, one integer. Determinants of small matrices, sets of points, finite types: plain law. append of a row to rows of the call's own. -/
import Derived.Test.YtjhoimdfmcjkbaaGreatG07
import Derived.Test.YtjhoimdfmcjkbaaGreatG03
import Derived.Test.YtjhoimdfmcjkbaaGreatG02
namespace Go.Proofs.YtjhoimdfmcjkbaaGreat
set_option maxRecDepth 100000
set_option maxRecDepth 20000
open Go.Joins Go.ChangeShapes Go.WideShapes Go.RowKit Go.Deep
section
variable {H : Type} {enc : TypeId × Value → H} {w : World} {base b0 : Nat} {r : Reach} {v : Value} {d : DataW H} {p : List MemPlace}
theorem argInts_at (hv : Value.okWide Tryz.prog w r b0 23 v) (h : DataW.Trod enc Tryz.prog w base (fun _ => true) true 23 v d p) :
    ∃ a c, ∃ xs : List Int, v = .slice a xs.length c ∧ Hid (ArgInts w a xs) ∧ xs.length ≤ maxLen := by
  obtain ⟨a, l, c, rfl⟩ := okWide_slice Tryz.underlying23 hv
  obtain ⟨fuel, hf⟩ := h
  obtain ⟨a', c', xs, he, h1, h2, -⟩ := argInts_open hf
  exact ⟨a', c', xs, he, h1, h2⟩
theorem argRows_at (hv : Value.okWide Tryz.prog w r b0 22 v) (h : DataW.Trod enc Tryz.prog w base (fun _ => true) true 22 v d p) :
    ∃ a c, ∃ xs : List (List Int), v = .slice a xs.length c ∧ Hid (ArgRows w a xs) ∧ xs.length ≤ maxLen ∧ Hid (∀ j, j < xs.length → (xs.getD j []).length ≤ maxLen) := by
  obtain ⟨a, l, c, rfl⟩ := okWide_slice Tryz.underlying22 hv
  obtain ⟨fuel, hf⟩ := h
  obtain ⟨a', c', xs, he, h1, h2, h3, -⟩ := argRows_open hf
  exact ⟨a', c', xs, he, h1, h2, h3⟩
theorem argInt_at (hv : Value.okWide Tryz.prog w r b0 3 v) (h : DataW.Trod enc Tryz.prog w base (fun _ => true) true 3 v d p) :
    ∃ x : Int, v = .int .i64 x ∧ (Lit.int .i64 x).wf = true := by
  obtain ⟨n, rfl⟩ := okWide_int Tryz.underlying3 hv
  obtain ⟨fuel, hf⟩ := h
  obtain ⟨k, hk, hx⟩ := DataW.trod_int Tryz.underlying3 hf
  simp [Value.cells] at hk
  subst hk
  exact ⟨n, rfl, hx.2⟩
end
end Go.Proofs.YtjhoimdfmcjkbaaGreat
namespace Go.Proofs.YtjhoimdfmcjkbaaGreat
set_option maxRecDepth 100000

def sumTo : Nat → (Nat → Int) → Int
  | 0, _ => 0
  | k + 1, g => sumTo k g + g k
def sgn (j : Nat) : Int := if j % 2 = 0 then 1 else -1
def cutAt (row : List Int) (j : Nat) : List Int := row.take j ++ row.drop (j + 1)
def minorOf (m : List (List Int)) (j : Nat) : List (List Int) := (m.drop 1).map fun row => cutAt row j
def det : Nat → List (List Int) → Int
  | 0, _ => 1
  | n + 1, m => sumTo (n + 1) fun j => sgn j * ent m 0 j * det n (minorOf m j)
/-- a square matrix of small numbers -/
def Sq (n : Nat) (m : List (List Int)) : Prop := m.length = n ∧ (∀ i, i < n → (m.getD i []).length = n) ∧ ∀ i j, -3 ≤ ent m i j ∧ ent m i j ≤ 3
def detB : Nat → Int
  | 0 => 1
  | n + 1 => (n + 1) * (3 * detB n)

theorem sumTo_bound (g : Nat → Int) (b : Int) (k : Nat) (h : ∀ j, j < k → -b ≤ g j ∧ g j ≤ b) : -(k * b) ≤ sumTo k g ∧ sumTo k g ≤ k * b := by
  induction k with
  | zero => simp [sumTo]
  | succ k ih =>
    have h1 := ih (fun j hj => h j (by omega))
    have h2 := h k (by omega)
    simp only [sumTo]
    have e : ((k + 1 : Nat) : Int) * b = k * b + b := by rw [Int.natCast_add, Int.add_mul]; simp
    rw [e]; omega
theorem cutAt_length {row : List Int} {j : Nat} (hj : j < row.length) : (cutAt row j).length = row.length - 1 := by
  simp [cutAt]; omega
theorem cutAt_getD (row : List Int) (j k : Nat) : (cutAt row j).getD k 0 = if k < j ∧ k < row.length then row.getD k 0 else row.getD (j + 1 + (k - min j row.length)) 0 := by
  unfold cutAt
  by_cases h : k < j ∧ k < row.length
  · rw [if_pos h]
    simp only [List.getD]
    rw [List.getElem?_append_left (by simp; omega), List.getElem?_take, if_pos h.1]
  · rw [if_neg h]
    simp only [List.getD]
    rw [List.getElem?_append_right (by simp; omega), List.getElem?_drop]
    simp only [List.length_take]
theorem minorOf_sq {n : Nat} {m : List (List Int)} {j : Nat} (h : Sq (n + 1) m) (hj : j < n + 1) : Sq n (minorOf m j) := by
  obtain ⟨h1, h2, h3⟩ := h
  have hg : ∀ i, (minorOf m j).getD i [] = cutAt (m.getD (i + 1) []) j := by
    intro i
    unfold minorOf
    simp only [List.getD, List.getElem?_map, List.getElem?_drop]
    rw [Nat.add_comm 1 i]
    cases m[i + 1]? with
    | none => simp [cutAt]
    | some r => simp
  refine ⟨by simp [minorOf, h1], fun i hi => ?_, fun i k => ?_⟩
  · rw [hg, cutAt_length (by rw [h2 _ (by omega)]; exact hj), h2 _ (by omega)]; omega
  · unfold ent
    rw [hg, cutAt_getD]
    split
    · exact h3 _ _
    · exact h3 _ _
theorem det_bound : ∀ (n : Nat) (m : List (List Int)), Sq n m → -(detB n) ≤ det n m ∧ det n m ≤ detB n := by
  intro n
  induction n with
  | zero => intro m _; simp [det, detB]
  | succ n ih =>
    intro m hm
    have hterm : ∀ j, j < n + 1 → -(3 * detB n) ≤ sgn j * ent m 0 j * det n (minorOf m j) ∧ sgn j * ent m 0 j * det n (minorOf m j) ≤ 3 * detB n := by
      intro j hj
      have h1 := ih _ (minorOf_sq hm hj)
      have h2 := hm.2.2 0 j
      generalize det n (minorOf m j) = d at *
      generalize ent m 0 j = x at *
      generalize detB n = D at *
      have hx : x = -3 ∨ x = -2 ∨ x = -1 ∨ x = 0 ∨ x = 1 ∨ x = 2 ∨ x = 3 := by omega
      unfold sgn
      split <;> rcases hx with rfl | rfl | rfl | rfl | rfl | rfl | rfl <;> omega
    have := sumTo_bound _ _ (n + 1) hterm
    simpa [det, detB] using this
end Go.Proofs.YtjhoimdfmcjkbaaGreat
namespace Go.Proofs.YtjhoimdfmcjkbaaGreat
set_option maxRecDepth 100000
open Go.RowKit

theorem rowCell (r : RowRef) : (rowVal r).oneCell' = true := rfl
theorem OwnV.new {w : World} {B : Nat} {E : TypeId} (v : Value) (_hv : v.oneCell' = true) (hB : B ≤ w.heap.size) : OwnV (w.alloc (.cells #[v] E)) B E w.heap.size 1 [v] :=
  World.ownsRow_lit w #[v] 1 hB (by decide) rfl

theorem run_append_row {w : World} {B g cap : Nat} {vs : List Value} (hown : OwnV w B 23 g cap vs) (v : Value) (hv : v.oneCell' = true) (hlen : vs.length + 1 ≤ 1048576) (ty : TypeId) :
    ∃ g' cap' w', (Builtin.append_ #[22, 22] ty #[(Value.slice (some ⟨g, 0, none⟩) vs.length cap), (Value.slice (some ⟨w.heap.size, 0, none⟩) 1 1)]).run Tryz.prog (w.alloc (.cells #[v] 23)) = .ok (Value.slice (some ⟨g', 0, none⟩) (vs.length + 1) cap') w' ∧
      OwnV w' B 23 g' cap' (vs ++ [v]) ∧ w.grownBy w' (some g) ∧ (g' = g ∨ w.heap.size < g') := by
  obtain ⟨i0, hi, hz0, hz1, hz2⟩ := info_parts infoRow
  have hBg := hown.base
  have hlt := hown.lt
  have hown' : OwnV (w.alloc (.cells #[v] 23)) B 23 g cap vs := hown.alloc _
  have hcell : (w.alloc (.cells #[v] 23)).cell? ⟨w.heap.size, 0, none⟩ = some v := (OwnV.new (B := w.heap.size) v hv (Nat.le_refl _)).cell 0 (by simp)
  have hnews : ∀ j u, ([v] : List Value)[j]? = some u → (w.alloc (.cells #[v] 23)).cell? ((⟨w.heap.size, 0, none⟩ : Addr).add j) = some u := by
    intro j u hu
    have hj : j = 0 := by have := (List.getElem?_eq_some_iff.1 hu).1; simp at this; exact this
    subst hj
    simp at hu; subst hu
    rw [Addr.add_lit]; exact hcell
  have h1 : ∀ u ∈ ([v] : List Value), u.oneCell' = true := by simp [hv]
  have hl : ([v] : List Value).length = 1 * i0.size := by simp [hz1]
  obtain ⟨v', w', hr, ho, hg, -⟩ := run_append_own (P := Tryz.prog) (w.alloc (.cells #[v] 23)) B 22 ty 23 i0 (.slice none 0 0) 1 24 Tryz.underlying22 hi hz0 hz1 hz2 rfl (by decide) _ vs.length _ hown' ⟨w.heap.size, 0, none⟩ 1 1
    [v] (by simp) hnews h1 (by unfold maxLen; omega) (by omega) (by simp; omega)
  have hgr : w.grownBy w' (some g) := ⟨hg.os, hg.tape, hg.output, Nat.le_trans (by simp) hg.size, fun k hk hne => (hg.block k (by simp; omega) hne).trans (Below.heap_alloc _ _ _ hk)⟩
  have fin : ∀ g' cap', v' = (Value.slice (some ⟨g', 0, none⟩) (vs.length + 1) cap') → (g' = g ∨ w.heap.size < g') → ∃ g' cap' w', (Builtin.append_ #[22, 22] ty #[(Value.slice (some ⟨g, 0, none⟩) vs.length cap), (Value.slice (some ⟨w.heap.size, 0, none⟩) 1 1)]).run Tryz.prog (w.alloc (.cells #[v] 23)) = .ok (Value.slice (some ⟨g', 0, none⟩) (vs.length + 1) cap') w' ∧
      OwnV w' B 23 g' cap' (vs ++ [v]) ∧ w.grownBy w' (some g) ∧ (g' = g ∨ w.heap.size < g') := by
    intro g' cap' hv' hor
    subst hv'
    refine ⟨g', cap', w', hr, ?_, hgr, hor⟩
    unfold OwnV
    rw [List.length_append]
    exact ho
  by_cases hroom : vs.length + 1 ≤ cap
  · rcases hown'.2 with ⟨h', _⟩ | ⟨g1, cap1, cur, hv', hb, hh, hn, hm, hs, htk⟩
    · simp at h'
    simp only [Value.slice.injEq, Option.some.injEq, Addr.mk.injEq, and_true, true_and] at hv'
    obtain ⟨rfl, rfl⟩ := hv'
    have hr2 := run_append_room (P := Tryz.prog) (w.alloc (.cells #[v] 23)) 22 ty 23 i0 Tryz.underlying22 hi g vs.length cap cur hh ⟨w.heap.size, 0, none⟩ 1 1 [v] hl hnews h1 hroom (by rw [hz1] at *; simp; omega)
    rw [hr2] at hr
    simp only [Result.ok.injEq] at hr
    exact fin g cap hr.1.symm (.inl rfl)
  · have hr2 := run_append_grow (P := Tryz.prog) (w.alloc (.cells #[v] 23)) 22 ty 23 i0 (.slice none 0 0) Tryz.underlying22 hi hz0 ⟨g, 0, none⟩ vs.length cap vs (by simp [hz1]) (World.ownsRow.cells hown' rfl) ⟨w.heap.size, 0, none⟩ 1 1 _ hl hnews (by omega) (by omega) (growslice_fits (by omega) (by rw [hz2]; omega))
    rw [hr2] at hr
    simp only [Result.ok.injEq] at hr
    exact fin _ _ hr.1.symm (.inr (by simp))

theorem OwnRows.push {w w' : World} {B g cap g' cap' : Nat} {rs : List RowRef} {r : RowRef} (h : OwnRows w B g cap rs) (hr : Own w B r.1 r.2.1 r.2.2) (hne : ∀ s ∈ rs, s.1 ≠ r.1)
    (ho : OwnV w' B 23 g' cap' (rs.map rowVal ++ [rowVal r])) (hg : w.grownBy w' (some g)) : OwnRows w' B g' cap' (rs ++ [r]) := by
  refine ⟨by rw [List.map_append]; exact ho, ?_⟩
  have hg1 : ∀ s ∈ rs, some s.1 ≠ some g := fun s hs e => h.1.ne (h.2.1 s hs).toV (by decide) (Option.some.inj e).symm
  have hg2 : some r.1 ≠ some g := fun e => h.1.ne hr.toV (by decide) (Option.some.inj e).symm
  exact (Inner.append (w := w') (r := r) ⟨fun s hs => (h.2.1 s hs).grown hg (hg1 s hs), h.2.2⟩ (hr.grown hg hg2) hne)

/-- 'append(out, row)' -/
theorem wpList_append_row {w : World} {ops : Array Oper} {rest : List Oper} {o : Oper} {a : Act} {Q : Exit → Act → World → Prop} (hgd : o.guard = none) (s x : Operand)
    (ho : o.op = .call { callee := .builtin .append, args := #[s, x], argTypes := #[22, 22] })
    (B g cap n H : Nat) (rs : List RowRef) (r : RowRef) (W : World) (hn : rs.length = n) (hW : W = w.alloc (.cells #[rowVal r] 23)) (hH : w.heap.size = H) (hown : OwnRows w B g cap rs) (hr : Own w B r.1 r.2.1 r.2.2) (hne : ∀ s ∈ rs, s.1 ≠ r.1)
    (hs : a.eval s = (Value.slice (some ⟨g, 0, none⟩) n cap)) (hx : a.eval x = (Value.slice (some ⟨H, 0, none⟩) 1 1)) (hlen : n + 1 ≤ 1048576)
    (h : ∀ g' cap' w', OwnRows w' B g' cap' (rs ++ [r]) → w.grownBy w' (some g) → (g' = g ∨ w.heap.size < g') → wpList Tryz.prog ops Q rest (a.put o.dst (Value.slice (some ⟨g', 0, none⟩) (n + 1) cap')) w') :
    wpList Tryz.prog ops Q (o :: rest) a W := by
  subst hn; subst hW; subst hH
  have hl : (rs.map rowVal).length = rs.length := by simp
  obtain ⟨g', cap', w', hrun, h2, h3, h4⟩ := run_append_row hown.1 (rowVal r) rfl (by rw [hl]; exact hlen) o.type
  rw [hl] at hrun
  refine wpList_plain hgd fun K hK => ?_
  unfold Oper.wp execOp
  simp only [ho, resolve, invoke, builtin, Sem.run_bind, Sem.run_pure, Result.andThen_ok, List.map_toArray, List.map_cons, List.map_nil, hs, hx, hrun]
  exact hK _ _ (h g' cap' w' (hown.push hr hne h2 h3) h3 h4)
theorem OwnRows.empty {w : World} {B : Nat} (hB : B ≤ w.heap.size) : OwnRows (w.alloc (.cells #[] 23)) B w.heap.size 0 [] :=
  ⟨World.ownsRow_lit w #[] 0 hB (by decide) rfl, ⟨by simp, by simp⟩⟩
end Go.Proofs.YtjhoimdfmcjkbaaGreat
