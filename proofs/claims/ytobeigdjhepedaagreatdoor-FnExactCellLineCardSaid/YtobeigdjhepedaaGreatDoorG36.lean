/- Slices of one-cell elements of the call's own that grow by one; tables of rows; rows of bools; arrows. The program's table of polynomials while it is filled: words and steps. Groups of at most 48 elements: the lists of elements. Plain law. -/
import Derived.Test.YtobeigdjhepedaaGreatDoorG02
import Derived.Test.YtobeigdjhepedaaGreatDoorG15
import Derived.Test.YtobeigdjhepedaaGreatDoorG03
import Derived.Test.YtobeigdjhepedaaGreatDoorG33
import Derived.Test.YtobeigdjhepedaaGreatDoorG34
import Derived.Test.YtobeigdjhepedaaGreatDoorG25
import Derived.Test.YtobeigdjhepedaaGreatDoorG30
import Derived.Test.YtobeigdjhepedaaGreatDoorG20
import Derived.Test.YtobeigdjhepedaaGreatDoorG31
namespace Go.Proofs.YtobeigdjhepedaaGreatDoor
set_option maxRecDepth 100000
open Go.RowKit

theorem wpList_append_V {S E : TypeId} {z : Value} {by' : Nat} (hinfo : (Tryz.prog.info? E).map (fun i => (i.zero, i.size, i.bytes)) = some (some z, 1, by')) (hu : Tryz.prog.underlying S = some (.slice E)) (hzs : z.cells.size = 1) (hby : by' ≤ 1024)
    {ops : Array Oper} {rest : List Oper} {o : Oper} {a : Act} {Q : Exit → Act → World → Prop} (hgd : o.guard = none) (s x : Operand)
    (ho : o.op = .call { callee := .builtin .append, args := #[s, x], argTypes := #[S, S] })
    (B g cap n H : Nat) (vs : List Value) (v : Value) (hv : v.oneCell' = true) (w W : World) (hn : vs.length = n) (hW : W = w.alloc (.cells #[v] E)) (hH : w.heap.size = H) (hown : OwnV w B E g cap vs)
    (hs : a.eval s = (Value.slice (some ⟨g, 0, none⟩) n cap)) (hx : a.eval x = (Value.slice (some ⟨H, 0, none⟩) 1 1)) (hlen : n + 1 ≤ 1048576)
    (h : ∀ g' cap' w', OwnV w' B E g' cap' (vs ++ [v]) → w.grownBy w' (some g) → (g' = g ∨ w.heap.size < g') → wpList Tryz.prog ops Q rest (a.put o.dst (Value.slice (some ⟨g', 0, none⟩) (n + 1) cap')) w') :
    wpList Tryz.prog ops Q (o :: rest) a W := by
  subst hn; subst hW; subst hH
  have hnew : OwnV (w.alloc (.cells #[v] E)) w.heap.size E w.heap.size 1 [v] := World.ownsRow_lit w #[v] 1 (Nat.le_refl _) (by decide) rfl
  have hk : OwnK w B E 1 g cap vs.length vs := hown
  refine wpList_append_K hinfo hu hzs (by decide) hby hgd s x ho B g cap vs.length vs (OwnK.alloc hk _) w.heap.size 0 1 1 [v] rfl ?_ ?_ hs hx hlen ?_
  · intro j u hu
    have hj : j = 0 := by have := (List.getElem?_eq_some_iff.1 hu).1; simp at this; exact this
    subst hj
    have h1 := hnew.cell 0 (by simp)
    simp only [List.getElem?_cons_zero, Option.some.injEq] at hu
    subst hu
    exact h1
  · intro u hu
    rw [List.mem_singleton] at hu
    rw [hu]; exact hv
  · intro g' cap' w' h2 h3 h4
    refine h g' cap' w' ?_ ⟨h3.os, h3.tape, h3.output, Nat.le_trans (by simp) h3.size, fun k hk hne => (h3.block k (by simp; omega) hne).trans (Below.heap_alloc _ _ _ hk)⟩ (h4.imp id (by simp; omega))
    unfold OwnV
    rw [List.length_append]
    exact h2
/-! ### tables of rows -/
theorem infoTab : (Tryz.prog.info? 22).map (fun i => (i.zero, i.size, i.bytes)) = some (some (.slice none 0 0), 1, 24) := by kernel_rfl
abbrev TabRef := Nat × Nat × List RowRef
def tabVal (r : TabRef) : Value := (Value.slice (some ⟨r.1, 0, none⟩) r.2.2.length r.2.1)
def cont3 (rr : List TabRef) : List (List (List Int)) := rr.map fun r => contents r.2.2
def Own3 (w : World) (B g cap : Nat) (rr : List TabRef) : Prop := OwnV w B 22 g cap (rr.map tabVal) ∧ ∀ r ∈ rr, OwnRows w B r.1 r.2.1 r.2.2
section
variable {w w' : World} {B g cap : Nat} {rr : List TabRef}
theorem OwnRows.apart {E : TypeId} {vs : List Value} {B2 g2 cap2 : Nat} {rs : List RowRef} (h : OwnRows w B g cap rs) (ho : OwnV w B2 E g2 cap2 vs) (h1 : E ≠ 28) (h2 : E ≠ 3) (hg : w.grownBy w' (some g2)) : OwnRows w' B g cap rs := by
  have e1 : some g ≠ some g2 := fun e => ho.ne h.1 h1 (Option.some.inj e).symm
  refine ⟨h.1.grown hg e1, fun s hs => (h.2.1 s hs).grown hg fun e => ?_, h.2.2⟩
  exact ho.ne (h.2.1 s hs).toV h2 (Option.some.inj e).symm
theorem Own3.lt (h : Own3 w B g cap rr) : g < w.heap.size := h.1.lt
theorem Own3.base (h : Own3 w B g cap rr) : B ≤ g := h.1.base
theorem Own3.mono {B' : Nat} (h : Own3 w B g cap rr) (hB : B' ≤ B) : Own3 w B' g cap rr := ⟨h.1.mono hB, fun r hr => (h.2 r hr).mono hB⟩
theorem Own3.below (h : Own3 w B g cap rr) (hb : Below w.heap.size w w') : Own3 w' B g cap rr := ⟨h.1.below hb h.1.lt, fun r hr => (h.2 r hr).below hb⟩
theorem Own3.still (h : Own3 w B g cap rr) (hs : ∃ n, w' = w.drewN n) : Own3 w' B g cap rr := by obtain ⟨n, rfl⟩ := hs; exact h
theorem Own3.push {g' cap' : Nat} {r : TabRef} (h : Own3 w B g cap rr) (hr : OwnRows w B r.1 r.2.1 r.2.2) (ho : OwnV w' B 22 g' cap' (rr.map tabVal ++ [tabVal r])) (hg : w.grownBy w' (some g)) : Own3 w' B g' cap' (rr ++ [r]) := by
  refine ⟨by rw [List.map_append]; exact ho, fun s hs => ?_⟩
  rw [List.mem_append, List.mem_singleton] at hs
  rcases hs with hs | rfl
  · exact (h.2 s hs).apart h.1 (by decide) (by decide) hg
  · exact hr.apart h.1 (by decide) (by decide) hg
/-- one row of a table is read -/
theorem Own3.at (h : Own3 w B g cap rr) {i : Nat} (hi : i < rr.length) : ∃ gi ci, w.cell? ⟨g, i, none⟩ = some (Value.slice (some ⟨gi, 0, none⟩) (((cont3 rr).getD i []).length) ci) ∧ gi < w.heap.size ∧ ((cont3 rr).getD i []).length ≤ ci ∧ Rows2 w gi 0 ((cont3 rr).getD i []) := by
  have hc := h.1.cell i (by simpa using hi)
  have hr := h.2 rr[i] (List.getElem_mem hi)
  have e : (cont3 rr).getD i [] = contents rr[i].2.2 := by simp [cont3, List.getD, hi]
  have el : (contents rr[i].2.2).length = rr[i].2.2.length := by simp [contents]
  rw [e]
  refine ⟨rr[i].1, rr[i].2.1, ?_, hr.lt, by rw [el]; exact hr.capLe, hr.rows2⟩
  rw [hc, el]; simp [tabVal]
theorem cont3_append (a b : List TabRef) : cont3 (a ++ b) = cont3 a ++ cont3 b := by simp [cont3]
theorem cont3_length (a : List TabRef) : (cont3 a).length = a.length := by simp [cont3]
end
theorem wpList_append_tab {ops : Array Oper} {rest : List Oper} {o : Oper} {a : Act} {Q : Exit → Act → World → Prop} (hgd : o.guard = none) (s x : Operand)
    (ho : o.op = .call { callee := .builtin .append, args := #[s, x], argTypes := #[71, 71] })
    (B g cap n H : Nat) (rr : List TabRef) (r : TabRef) (w W : World) (hn : rr.length = n) (hW : W = w.alloc (.cells #[tabVal r] 22)) (hH : w.heap.size = H) (hown : Own3 w B g cap rr) (hr : OwnRows w B r.1 r.2.1 r.2.2)
    (hs : a.eval s = (Value.slice (some ⟨g, 0, none⟩) n cap)) (hx : a.eval x = (Value.slice (some ⟨H, 0, none⟩) 1 1)) (hlen : n + 1 ≤ 1048576)
    (h : ∀ g' cap' w', Own3 w' B g' cap' (rr ++ [r]) → w.grownBy w' (some g) → (g' = g ∨ w.heap.size < g') → wpList Tryz.prog ops Q rest (a.put o.dst (Value.slice (some ⟨g', 0, none⟩) (n + 1) cap')) w') :
    wpList Tryz.prog ops Q (o :: rest) a W :=
  wpList_append_V infoTab Tryz.underlying71 rfl (by decide) hgd s x ho B g cap n H (rr.map tabVal) (tabVal r) rfl w W (by simpa using hn) hW hH hown.1 hs hx hlen fun g' cap' w' h1 h2 h3 => h g' cap' w' (hown.push hr h1 h2) h2 h3
/-! ### rows of bools -/
theorem infoBRow : (Tryz.prog.info? 49).map (fun i => (i.zero, i.size, i.bytes)) = some (some (.slice none 0 0), 1, 24) := by kernel_rfl
abbrev BRef := Nat × Nat × List Bool
def brVal (r : BRef) : Value := (Value.slice (some ⟨r.1, 0, none⟩) r.2.2.length r.2.1)
def contB (rr : List BRef) : List (List Bool) := rr.map (·.2.2)
def OwnBR (w : World) (B g cap : Nat) (rr : List BRef) : Prop := OwnV w B 49 g cap (rr.map brVal) ∧ ∀ r ∈ rr, OwnBs w B r.1 r.2.1 r.2.2
section
variable {w w' : World} {B g cap : Nat} {rr : List BRef}
theorem OwnBR.lt (h : OwnBR w B g cap rr) : g < w.heap.size := h.1.lt
theorem OwnBR.base (h : OwnBR w B g cap rr) : B ≤ g := h.1.base
theorem OwnBs.mono {B' : Nat} {bs : List Bool} (h : OwnBs w B g cap bs) (hB : B' ≤ B) : OwnBs w B' g cap bs := OwnV.mono h hB
theorem OwnBR.mono {B' : Nat} (h : OwnBR w B g cap rr) (hB : B' ≤ B) : OwnBR w B' g cap rr := ⟨h.1.mono hB, fun r hr => (h.2 r hr).mono hB⟩
theorem OwnBR.below (h : OwnBR w B g cap rr) (hb : Below w.heap.size w w') : OwnBR w' B g cap rr := ⟨h.1.below hb h.1.lt, fun r hr => (h.2 r hr).below hb (h.2 r hr).lt⟩
theorem OwnBR.still (h : OwnBR w B g cap rr) (hs : ∃ n, w' = w.drewN n) : OwnBR w' B g cap rr := by obtain ⟨n, rfl⟩ := hs; exact h
theorem OwnBR.push {g' cap' : Nat} {r : BRef} (h : OwnBR w B g cap rr) (hr : OwnBs w B r.1 r.2.1 r.2.2) (ho : OwnV w' B 49 g' cap' (rr.map brVal ++ [brVal r])) (hg : w.grownBy w' (some g)) : OwnBR w' B g' cap' (rr ++ [r]) := by
  refine ⟨by rw [List.map_append]; exact ho, fun s hs => ?_⟩
  rw [List.mem_append, List.mem_singleton] at hs
  rcases hs with hs | rfl
  · exact (h.2 s hs).grown hg fun e => h.1.ne (h.2 s hs) (by decide) (Option.some.inj e).symm
  · exact hr.grown hg fun e => h.1.ne hr (by decide) (Option.some.inj e).symm
theorem OwnBR.empty (hB : B ≤ w.heap.size) : OwnBR (w.alloc (.cells #[] 49)) B w.heap.size 0 [] := ⟨World.ownsRow_lit w #[] 0 hB (by decide) rfl, by simp⟩
theorem OwnBR.at (h : OwnBR w B g cap rr) {i : Nat} (hi : i < rr.length) : ∃ gi ci, w.cell? ⟨g, i, none⟩ = some (Value.slice (some ⟨gi, 0, none⟩) (((contB rr).getD i []).length) ci) ∧ gi < w.heap.size ∧ ∀ j, j < ((contB rr).getD i []).length → w.cell? ⟨gi, j, none⟩ = some (.bool (((contB rr).getD i []).getD j false)) := by
  have hc := h.1.cell i (by simpa using hi)
  have hr := h.2 rr[i] (List.getElem_mem hi)
  have e : (contB rr).getD i [] = rr[i].2.2 := by simp [contB, List.getD, hi]
  rw [e]
  refine ⟨rr[i].1, rr[i].2.1, ?_, hr.lt, fun j hj => hr.cell j hj⟩
  rw [hc]; simp [brVal]
theorem contB_append (a b : List BRef) : contB (a ++ b) = contB a ++ contB b := by simp [contB]
theorem contB_length (a : List BRef) : (contB a).length = a.length := by simp [contB]
end
theorem wpList_append_br {ops : Array Oper} {rest : List Oper} {o : Oper} {a : Act} {Q : Exit → Act → World → Prop} (hgd : o.guard = none) (s x : Operand)
    (ho : o.op = .call { callee := .builtin .append, args := #[s, x], argTypes := #[48, 48] })
    (B g cap n H : Nat) (rr : List BRef) (r : BRef) (w W : World) (hn : rr.length = n) (hW : W = w.alloc (.cells #[brVal r] 49)) (hH : w.heap.size = H) (hown : OwnBR w B g cap rr) (hr : OwnBs w B r.1 r.2.1 r.2.2)
    (hs : a.eval s = (Value.slice (some ⟨g, 0, none⟩) n cap)) (hx : a.eval x = (Value.slice (some ⟨H, 0, none⟩) 1 1)) (hlen : n + 1 ≤ 1048576)
    (h : ∀ g' cap' w', OwnBR w' B g' cap' (rr ++ [r]) → w.grownBy w' (some g) → (g' = g ∨ w.heap.size < g') → wpList Tryz.prog ops Q rest (a.put o.dst (Value.slice (some ⟨g', 0, none⟩) (n + 1) cap')) w') :
    wpList Tryz.prog ops Q (o :: rest) a W :=
  wpList_append_V infoBRow Tryz.underlying48 rfl (by decide) hgd s x ho B g cap n H (rr.map brVal) (brVal r) rfl w W (by simpa using hn) hW hH hown.1 hs hx hlen fun g' cap' w' h1 h2 h3 => h g' cap' w' (hown.push hr h1 h2) h2 h3
/-! ### arrows -/
theorem infoArr : (Tryz.prog.info? 76).map (fun i => (i.zero, i.size, i.bytes)) = some (some (.agg #[.int .i64 0, .int .i64 0, .int .i64 0]), 3, 24) := by kernel_rfl
def arr3 (v : Arr) : List Value := [.int .i64 (v.1 : Int), .int .i64 (v.2.1 : Int), .int .i64 v.2.2]
def flatA (vs : List Arr) : List Value := vs.flatMap arr3
def OwnArr (w : World) (B g cap : Nat) (vs : List Arr) : Prop := OwnK w B 76 3 g cap vs.length (flatA vs)
theorem flatA_length (vs : List Arr) : (flatA vs).length = vs.length * 3 := by
  induction vs with
  | nil => rfl
  | cons v vs ih => unfold flatA at *; simp only [List.flatMap_cons, List.length_append, ih, List.length_cons]; simp [arr3]; omega
theorem flatA_append (a b : List Arr) : flatA (a ++ b) = flatA a ++ flatA b := by simp [flatA]
theorem flatA_at {vs : List Arr} {j i : Nat} (hj : j < vs.length) (hi : i < 3) : (flatA vs)[j * 3 + i]? = (arr3 vs[j])[i]? := by
  induction vs generalizing j with
  | nil => simp at hj
  | cons v vs ih =>
    unfold flatA at *
    simp only [List.flatMap_cons]
    cases j with
    | zero => rw [List.getElem?_append_left (by simp [arr3]; omega)]; simp
    | succ j =>
      have := ih (j := j) (by simpa using hj)
      rw [List.getElem?_append_right (by simp [arr3]; omega)]
      have e : (j + 1) * 3 + i - (arr3 v).length = j * 3 + i := by simp [arr3]; omega
      rw [e, this]
      simp
section
variable {w w' : World} {B g cap : Nat} {vs : List Arr}
theorem OwnArr.lt (h : OwnArr w B g cap vs) : g < w.heap.size := OwnK.lt h
theorem OwnArr.base (h : OwnArr w B g cap vs) : B ≤ g := OwnK.base h
theorem OwnArr.below {B' : Nat} (h : OwnArr w B g cap vs) (hb : Below B' w w') (hg : g < B') : OwnArr w' B g cap vs := OwnK.below h hb hg
theorem OwnArr.mono {B' : Nat} (h : OwnArr w B g cap vs) (hB : B' ≤ B) : OwnArr w B' g cap vs := OwnK.mono h hB
theorem OwnArr.still (h : OwnArr w B g cap vs) (hs : ∃ n, w' = w.drewN n) : OwnArr w' B g cap vs := by obtain ⟨n, rfl⟩ := hs; exact h
/-- the cells of an arrow -/
theorem OwnArr.cell (h : OwnArr w B g cap vs) {j : Nat} (hj : j < vs.length) : w.cell? ⟨g, j * 3, none⟩ = some (.int .i64 (vs[j].1 : Int)) ∧ w.cell? ⟨g, j * 3 + 1, none⟩ = some (.int .i64 (vs[j].2.1 : Int)) ∧ w.cell? ⟨g, j * 3 + 2, none⟩ = some (.int .i64 vs[j].2.2) := by
  have hc : ∀ i, i < 3 → w.cell? ⟨g, j * 3 + i, none⟩ = (arr3 vs[j])[i]? := fun i hi => by
    have hl : j * 3 + i < (flatA vs).length := by rw [flatA_length]; omega
    rw [OwnK.cell h _ hl, ← flatA_at hj hi, List.getElem?_eq_getElem hl]
  exact ⟨hc 0 (by omega), hc 1 (by omega), hc 2 (by omega)⟩
theorem OwnArr.empty (hB : B ≤ w.heap.size) : OwnArr (w.alloc (.cells #[] 76)) B w.heap.size 0 [] :=
  World.ownsRow_lit w #[] 0 hB (by decide) rfl
end
theorem wpList_append_arr {ops : Array Oper} {rest : List Oper} {o : Oper} {a : Act} {Q : Exit → Act → World → Prop} (hgd : o.guard = none) (s x : Operand)
    (ho : o.op = .call { callee := .builtin .append, args := #[s, x], argTypes := #[45, 45] })
    (B g cap n H : Nat) (vs : List Arr) (v : Arr) (w W : World) (hn : vs.length = n) (hW : W = w.alloc (.cells #[.int .i64 (v.1 : Int), .int .i64 (v.2.1 : Int), .int .i64 v.2.2] 76)) (hH : w.heap.size = H) (hown : OwnArr w B g cap vs)
    (hs : a.eval s = (Value.slice (some ⟨g, 0, none⟩) n cap)) (hx : a.eval x = (Value.slice (some ⟨H, 0, none⟩) 1 1)) (hlen : n + 1 ≤ 1048576)
    (h : ∀ g' cap' w', OwnArr w' B g' cap' (vs ++ [v]) → w.grownBy w' (some g) → (g' = g ∨ w.heap.size < g') → wpList Tryz.prog ops Q rest (a.put o.dst (Value.slice (some ⟨g', 0, none⟩) (n + 1) cap')) w') :
    wpList Tryz.prog ops Q (o :: rest) a W := by
  subst hn; subst hW; subst hH
  have hnew : OwnK (w.alloc (.cells #[.int .i64 (v.1 : Int), .int .i64 (v.2.1 : Int), .int .i64 v.2.2] 76)) w.heap.size 76 3 w.heap.size 1 1 (arr3 v) := World.ownsRow_lit w #[.int .i64 (v.1 : Int), .int .i64 (v.2.1 : Int), .int .i64 v.2.2] 1 (Nat.le_refl _) (by decide) rfl
  refine wpList_append_K infoArr Tryz.underlying45 rfl (by decide) (by decide) hgd s x ho B g cap vs.length (flatA vs) (OwnK.alloc hown _) w.heap.size 0 1 1 (arr3 v) rfl ?_ ?_ hs hx hlen ?_
  · intro j u hu
    have hj : j < (arr3 v).length := (List.getElem?_eq_some_iff.1 hu).1
    have h1 := hnew.cell j hj
    rw [Nat.zero_add, h1, ← hu, List.getElem?_eq_getElem hj]
  · intro u hu
    simp [arr3] at hu
    rcases hu with rfl | rfl | rfl <;> rfl
  · intro g' cap' w' h2 h3 h4
    refine h g' cap' w' ?_ ⟨h3.os, h3.tape, h3.output, Nat.le_trans (by simp) h3.size, fun k hk hne => (h3.block k (by simp; omega) hne).trans (Below.heap_alloc _ _ _ hk)⟩ (h4.imp id (by simp; omega))
    unfold OwnArr
    rw [flatA_append, List.length_append]
    have e : flatA [v] = arr3 v := by simp [flatA]
    rw [e]
    exact h2
end Go.Proofs.YtobeigdjhepedaaGreatDoor
namespace Go.Proofs.YtobeigdjhepedaaGreatDoor
set_option maxRecDepth 100000
open Go.RowKit Game

/-- a step of a drawn region: a list of one-cell values of the call's own, nil or not, grows by one -/
theorem step_append_N {S E : TypeId} {z : Value} {by' : Nat} (hinfo : (Tryz.prog.info? E).map (fun i => (i.zero, i.size, i.bytes)) = some (some z, 1, by')) (hu : Tryz.prog.underlying S = some (.slice E)) (hzs : z.cells.size = 1) (hby : by' ≤ 1024)
    {ops : Array Oper} {o : Oper} {a : Act} {K : Act → World → Prop} {Q : Exit → Act → World → Prop} {EE : Prop} (hgd : o.guard = none) (s x : Operand)
    (ho : o.op = .call { callee := .builtin .append, args := #[s, x], argTypes := #[S, S] })
    (B n : Nat) (val : Value) (vs : List Value) (h0 m c2 : Nat) (v : Value) (hv : v.oneCell' = true) (W : World) (hB : B ≤ W.heap.size) (hown : W.ownsRow B E 1 val n vs) (hcell : W.cell? ⟨h0, m, none⟩ = some v)
    (hs : a.eval s = val) (hx : a.eval x = .slice (some ⟨h0, m, none⟩) 1 c2) (hlen : n + 1 ≤ 1048576)
    (h : ∀ g' cap' w', OwnV w' B E g' cap' (vs ++ [v]) → W.grownBy w' val.ownBlock → K (a.put o.dst (Value.slice (some ⟨g', 0, none⟩) (n + 1) cap')) w') :
    if Region.wanted o (yielded ops a.tmps) = true then Oper.wp Tryz.prog o a W K Q else EE := by
  have hw : Region.wanted o (yielded ops a.tmps) = true := by simp [Region.wanted, hgd]
  rw [if_pos hw]
  obtain ⟨i, hi, hz0, hz1, hz2⟩ := info_parts hinfo
  obtain ⟨v', w', hrun, h1, h2, h3⟩ := run_append_own (P := Tryz.prog) W B S o.type E i z 1 by' hu hi hz0 hz1 hz2 hzs (by decide) val n vs hown ⟨h0, m, none⟩ 1 c2 [v] rfl
    (fun j u hj => by
      have hj' : j = 0 := by have := (List.getElem?_eq_some_iff.1 hj).1; simp at this; exact this
      subst hj'
      simp only [List.getElem?_cons_zero, Option.some.injEq] at hj
      subst hj
      rw [Addr.add_lit, Nat.add_zero]; exact hcell)
    (fun u hu => by rw [List.mem_singleton] at hu; rw [hu]; exact hv) (by unfold maxLen; omega) (by have : (n + 1) * by' ≤ 1048576 * 1024 := Nat.mul_le_mul hlen hby; omega) hB
  have hvl : vs.length = n := by have := hown.1; omega
  unfold Oper.wp execOp
  simp only [ho, resolve, invoke, builtin, Sem.run_bind, Sem.run_pure, Result.andThen_ok, List.map_toArray, List.map_cons, List.map_nil, hs, hx, hrun]
  rcases h1.2 with ⟨-, h4⟩ | ⟨g', cap', cur, rfl, hr⟩
  · omega
  · refine h g' cap' w' ?_ h2
    have e : (vs ++ [v]).length = n + 1 := by rw [List.length_append, hvl]; rfl
    unfold OwnV
    rw [e]
    exact h1
/-- 'make([][]int, n)', run -/
theorem run_make_rows {w : World} (B n : Nat) (hn : n ≤ 1048576) (hB : B ≤ w.heap.size) :
    ∃ w', Sem.run Tryz.prog (Instr.makeSlice 22 (.int .i64 (n : Int)) (.int .i64 (n : Int))) w = .ok (Value.slice (some ⟨w.heap.size, 0, none⟩) n n) w' ∧ OwnV w' B 28 w.heap.size n (List.replicate n (.slice none 0 0)) ∧ w.grownBy w' none := by
  obtain ⟨i0, hi, hz0, hz1, hz2⟩ := info_parts infoRow
  obtain ⟨w', hrun, r1, r2⟩ := run_make_full (P := Tryz.prog) w B 22 28 i0 (.slice none 0 0) 1 Tryz.underlying22 hi hz0 hz1 .i64 .i64 n (by rw [hz2]; omega) (by unfold maxLen; omega) hB
  refine ⟨w', hrun, ?_, r2⟩
  unfold OwnV
  rw [List.length_replicate]
  have e : (madeCells (Value.slice none 0 0).cells (n * 1)).toList = List.replicate n (.slice none 0 0) := by
    rw [Nat.mul_one]; exact toList_madeCells_one _ _
  rw [← e]; exact r1
theorem own_row_same {w w' : World} {B n : Nat} {E : TypeId} {v : Value} {xs : List Value} (h : w.ownsRow B E 1 v n xs) (hs : ∀ g, v.ownBlock = some g → w'.heap[g]? = w.heap[g]?) : w'.ownsRow B E 1 v n xs := by
  refine ⟨h.1, ?_⟩
  rcases h.2 with ⟨h1, h2⟩ | ⟨g, cap, cur, rfl, hb, hh, r⟩
  · exact .inl ⟨h1, h2⟩
  · exact .inr ⟨g, cap, cur, rfl, hb, (hs g rfl).trans hh, r⟩
/-! ### the struct -/
def KzS (w : World) (k : Nat) (a b m p : Value) : Prop := w.heap[k]? = some (.cells #[a, b, m, p] 73 (0, 0))
section
variable {w w' : World} {k : Nat} {a b m p : Value}
theorem KzS.cells (h : KzS w k a b m p) : w.cell? ⟨k, 0, none⟩ = some a ∧ w.cell? ⟨k, 1, none⟩ = some b ∧ w.cell? ⟨k, 2, none⟩ = some m ∧ w.cell? ⟨k, 3, none⟩ = some p := by
  refine ⟨?_, ?_, ?_, ?_⟩ <;> (rw [cell_of_cells h]; rfl)
theorem KzS.free (h : KzS w k a b m p) (j : Nat) : w.frozen? ⟨k, j, none⟩ = false := free_of_cells h j
theorem KzS.lt (h : KzS w k a b m p) : k < w.heap.size := by
  rcases Nat.lt_or_ge k w.heap.size with h1 | h1
  · exact h1
  · unfold KzS at h; rw [Array.getElem?_eq_none h1] at h; cases h
theorem KzS.same (h : KzS w k a b m p) (hs : w'.heap[k]? = w.heap[k]?) : KzS w' k a b m p := hs.trans h
theorem KzS.below {B : Nat} (h : KzS w k a b m p) (hb : Below B w w') (hB : k < B) : KzS w' k a b m p := h.same (hb.block k hB)
theorem KzS.set (h : KzS w k a b m p) (v : Value) : KzS (w.setCell ⟨k, 3, none⟩ v) k a b m v := by
  unfold KzS; rw [heap_setCell_same w k 3 _ _ v h]; rfl
theorem KzS.neV {B g cap : Nat} {E : TypeId} {vs : List Value} (h : KzS w k a b m p) (ho : OwnV w B E g cap vs) (hE : E ≠ 73) : k ≠ g := by
  intro e
  obtain ⟨cur, h2, -⟩ := ho.row
  rw [← e] at h2
  unfold KzS at h
  rw [h] at h2
  simp only [Option.some.injEq, Obj.cells.injEq] at h2
  exact hE h2.2.1.symm
end
/-! ### the table -/
def rvN (N : Nat) (r : Nat × Nat) : Value := (Value.slice (some ⟨r.1, 0, none⟩) N r.2)
structure PolT (w : World) (B g cap N v u : Nat) (P : List (List (List Int))) (rr : List (Nat × Nat)) : Prop where
  rl : rr.length = N
  out : OwnV w B 22 g cap (rr.map (rvN N))
  nd : (rr.map Prod.fst).Nodup
  row : ∀ i (h : i < rr.length), ∃ vs : List Value, OwnV w B 28 rr[i].1 rr[i].2 vs ∧ vs.length = N ∧ ∀ j, j < N → (j < v ∨ j = v ∧ i < u) → ∃ b cb, vs[j]? = some (Value.slice (some ⟨b, 0, none⟩) ((pol P i j).length) cb) ∧ Own w B b cb (pol P i j)
section
variable {w w' : World} {B g cap N v u : Nat} {P : List (List (List Int))} {rr : List (Nat × Nat)}
theorem PolT.below (h : PolT w B g cap N v u P rr) (hb : Below w.heap.size w w') : PolT w' B g cap N v u P rr :=
  ⟨h.rl, h.out.below hb h.out.lt, h.nd, fun i hi => by
    obtain ⟨vs, h1, h2, h3⟩ := h.row i hi
    refine ⟨vs, h1.below hb h1.lt, h2, fun j hj hk => ?_⟩
    obtain ⟨b, cb, h4, h5⟩ := h3 j hj hk
    exact ⟨b, cb, h4, h5.below hb h5.lt⟩⟩
theorem PolT.mono {B' : Nat} (h : PolT w B g cap N v u P rr) (hB : B' ≤ B) : PolT w B' g cap N v u P rr :=
  ⟨h.rl, h.out.mono hB, h.nd, fun i hi => by
    obtain ⟨vs, h1, h2, h3⟩ := h.row i hi
    refine ⟨vs, h1.mono hB, h2, fun j hj hk => ?_⟩
    obtain ⟨b, cb, h4, h5⟩ := h3 j hj hk
    exact ⟨b, cb, h4, h5.mono hB⟩⟩
theorem PolT.gcell (h : PolT w B g cap N v u P rr) {i : Nat} (hi : i < N) : w.cell? ⟨g, i, none⟩ = some (Value.slice (some ⟨((rr.getD i (0, 0)).1), 0, none⟩) N ((rr.getD i (0, 0)).2)) := by
  have := h.out.cell i (by rw [List.length_map, h.rl]; exact hi)
  rw [this]
  have hr : i < rr.length := by rw [h.rl]; exact hi
  simp [rvN, List.getD, hr]
theorem PolT.at (h : PolT w B g cap N v u P rr) {i j : Nat} (hi : i < N) (hj : j < v) (hjN : j < N) : PolAt w g N i j (pol P i j) := by
  have hr : i < rr.length := by rw [h.rl]; exact hi
  obtain ⟨vs, h1, h2, h3⟩ := h.row i hr
  obtain ⟨b, cb, h4, h5⟩ := h3 j hjN (.inl hj)
  have hc := h.gcell hi
  have e : rr.getD i (0, 0) = rr[i] := by simp [List.getD, hr]
  rw [e] at hc
  refine ⟨rr[i].1, rr[i].2, b, cb, hc, ?_, h5.capLe, h1.lt, h5.lt, h5.cells⟩
  have := h1.cell j (by omega)
  rw [this]
  have h6 := List.getElem?_eq_getElem (l := vs) (i := j) (by omega)
  rw [h6] at h4
  exact h4
theorem PolT.col (h : PolT w B g cap N v N P rr) : PolT w B g cap N (v + 1) 0 P rr :=
  ⟨h.rl, h.out, h.nd, fun i hi => by
    obtain ⟨vs, h1, h2, h3⟩ := h.row i hi
    exact ⟨vs, h1, h2, fun j hj hk => h3 j hj (by have := h.rl; omega)⟩⟩
/-- the cell that is written next is there, and free -/
theorem PolT.next (h : PolT w B g cap N v u P rr) (hu : u < N) (hv : v < N) : (∃ x, w.cell? ⟨(rr.getD u (0, 0)).1, v, none⟩ = some x) ∧ w.frozen? ⟨(rr.getD u (0, 0)).1, v, none⟩ = false ∧ (rr.getD u (0, 0)).1 < w.heap.size ∧ B ≤ (rr.getD u (0, 0)).1 ∧ g ≠ (rr.getD u (0, 0)).1 := by
  have hr : u < rr.length := by rw [h.rl]; exact hu
  obtain ⟨vs, h1, h2, h3⟩ := h.row u hr
  have e : rr.getD u (0, 0) = rr[u] := by simp [List.getD, hr]
  rw [e]
  exact ⟨⟨_, h1.cell v (by omega)⟩, h1.frozen v, h1.lt, h1.base, h.out.ne h1 (by decide)⟩
theorem PolT.store (h : PolT w B g cap N v u P rr) (hu : u < N) (hv : v < N) (hPl : P.length = N) (hPr : ∀ i, i < N → (P.getD i []).length = N) {p : List Int} {b cb : Nat} (ho : Own w B b cb p) :
    PolT (w.setCell ⟨(rr.getD u (0, 0)).1, v, none⟩ (Value.slice (some ⟨b, 0, none⟩) p.length cb)) B g cap N v (u + 1) (setP P u v p) rr ∧ w.grownBy (w.setCell ⟨(rr.getD u (0, 0)).1, v, none⟩ (Value.slice (some ⟨b, 0, none⟩) p.length cb)) (some (rr.getD u (0, 0)).1) := by
  have hr : u < rr.length := by rw [h.rl]; exact hu
  have e : rr.getD u (0, 0) = rr[u] := by simp [List.getD, hr]
  rw [e]
  obtain ⟨vs, h1, h2, h3⟩ := h.row u hr
  obtain ⟨s1, s2⟩ := h1.set v (Value.slice (some ⟨b, 0, none⟩) p.length cb)
  have hgo : g ≠ rr[u].1 := h.out.ne h1 (by decide)
  have hint : ∀ {B' b' cb' : Nat} {q : List Int}, Own w B' b' cb' q → Own (w.setCell ⟨rr[u].1, v, none⟩ (Value.slice (some ⟨b, 0, none⟩) p.length cb)) B' b' cb' q := fun ho' => ho'.grown s2 (fun e' => h1.ne ho'.toV (by decide) (Option.some.inj e').symm)
  refine ⟨⟨h.rl, h.out.grown s2 (fun e' => hgo (Option.some.inj e')), h.nd, fun i hi => ?_⟩, s2⟩
  have hiN : i < N := by rw [← h.rl]; exact hi
  by_cases hiu : i = u
  · subst hiu
    refine ⟨_, s1, by rw [List.length_set]; exact h2, fun j hj hk => ?_⟩
    by_cases hjv : j = v
    · subst hjv
      refine ⟨b, cb, ?_, ?_⟩
      · rw [List.getElem?_set_self (by omega), setP_at (by omega) (by rw [hPr i hiN]; exact hj)]
      · rw [setP_at (by omega) (by rw [hPr i hiN]; exact hj)]; exact hint ho
    · obtain ⟨b', cb', h4, h5⟩ := h3 j hj (by omega)
      refine ⟨b', cb', ?_, ?_⟩
      · rw [List.getElem?_set_ne (Ne.symm hjv), setP_ne (.inr hjv)]; exact h4
      · rw [setP_ne (.inr hjv)]; exact hint h5
  · obtain ⟨vs', k1, k2, k3⟩ := h.row i hi
    have hne : rr[i].1 ≠ rr[u].1 := fun e' => by
      have hp := List.pairwise_iff_getElem.1 h.nd
      have h6 : (rr.map Prod.fst)[i]'(by simpa using hi) = (rr.map Prod.fst)[u]'(by simpa using hr) := by simpa using e'
      rcases Nat.lt_or_gt_of_ne hiu with h7 | h7
      · exact hp i u (by simpa using hi) (by simpa using hr) h7 h6
      · exact hp u i (by simpa using hr) (by simpa using hi) h7 h6.symm
    refine ⟨vs', k1.grown s2 (fun e' => hne (Option.some.inj e')), k2, fun j hj hk => ?_⟩
    obtain ⟨b', cb', h4, h5⟩ := k3 j hj (by omega)
    refine ⟨b', cb', ?_, ?_⟩
    · rw [setP_ne (.inl hiu)]; exact h4
    · rw [setP_ne (.inl hiu)]; exact hint h5
end
end Go.Proofs.YtobeigdjhepedaaGreatDoor
namespace Go.Proofs.YtobeigdjhepedaaGreatDoor
set_option maxRecDepth 100000
open Go.RowKit Game

theorem size_fin {c : List (List Int)} (hf : finB c = true) : szB c = true := (Bool.and_eq_true_iff.1 (szK_fin (fin_isC hf) hf)).2
/-- a finite group of at most 48 elements -/
def fewB (c : List (List Int)) : Bool := finB c && decide (szO c ≤ 48)
def fewL (c : List (List Int)) : List (List Int) := if fewB c = true then elemL c else []
theorem fewB_fin {c : List (List Int)} (h : fewB c = true) : finB c = true := (Bool.and_eq_true_iff.1 h).1
theorem fewB_48 {c : List (List Int)} (h : fewB c = true) : szO c ≤ 48 := of_decide_eq_true (Bool.and_eq_true_iff.1 h).2
theorem size_pos {c : List (List Int)} (hf : finB c = true) : 1 ≤ szO c := by
  have h := size_fin hf
  have hs : szO c = prodT (nameL c) := if_pos hf
  unfold szB szC at h
  rw [hs]
  exact of_decide_eq_true (Bool.and_eq_true_iff.1 h).1
theorem grp_few {c : List (List Int)} (h : fewB c = true) : Grp c := grp_of (fewB_fin h) (size_fin (fewB_fin h)) (by have := fewB_48 h; omega)
theorem few_iff (c : List (List Int)) : fewB c = true ↔ 1 ≤ szO c ∧ szO c ≤ 48 := by
  constructor
  · intro h; exact ⟨size_pos (fewB_fin h), fewB_48 h⟩
  · intro ⟨h1, h2⟩
    have hf : finB c = true := by
      by_cases hf : finB c = true
      · exact hf
      · have : szO c = 0 := if_neg hf
        omega
    unfold fewB
    rw [hf, decide_eq_true h2]; rfl
theorem elem_at {c : List (List Int)} (h : fewB c = true) {k : Nat} (hk : k < (elemL c).length) :
    ∃ n W, Elt c n W ∧ (elemL c).getD k [] = intsOf W ∧ n ≤ 9 ∧ W.length = n := by
  have hG := grp_few h
  obtain ⟨n, W, hW, e⟩ := (hG.mem ((elemL c).getD k [])).1 (by simp [List.getD, hk])
  exact ⟨n, W, hW, e, hG.short (fewB_48 h) n W hW, hW.len⟩
theorem elt_word {c : List (List Int)} {n : Nat} {W : List Nat} (hC : IsC c) (hW : Elt c n W) (hn : n ≤ 9) : isWordB c (intsOf W) = true := by
  have hl := hW.len
  unfold isWordB
  rw [decide_eq_true hC, decide_eq_true (by rw [intsOf_length]; omega), Bool.true_and, Bool.true_and]
  unfold lettersB
  rw [List.all_eq_true]
  intro x hx
  obtain ⟨i, hi, rfl⟩ := List.mem_map.1 hx
  have := hW.nf.lt i hi
  simp; omega

def sgnW (w : List Int) : Int := if w.length % 2 = 0 then 1 else -1
end Go.Proofs.YtobeigdjhepedaaGreatDoor
