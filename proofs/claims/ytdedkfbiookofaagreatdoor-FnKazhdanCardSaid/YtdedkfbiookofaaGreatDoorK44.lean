/- The program's table of polynomials while it is filled: words and steps. A map from written words to bool: the words that a search has met. A map from written words to their places: words and laws. LeftTable of the program: contract. -/
import Derived.Test.YtdedkfbiookofaaGreatDoorK43
import Derived.Test.YtdedkfbiookofaaGreatDoorK34
import Derived.Test.YtdedkfbiookofaaGreatDoorK02
import Derived.Test.YtdedkfbiookofaaGreatDoorK13
import Derived.Test.YtdedkfbiookofaaGreatDoorK20
import Derived.Maps.OwnSet
import Derived.Test.YtdedkfbiookofaaGreatDoorK38
import Derived.Test.YtdedkfbiookofaaGreatDoorK04
import Derived.Test.YtdedkfbiookofaaGreatDoorK11
import Derived.Test.YtdedkfbiookofaaGreatDoorK01
import Derived.BigQuiet
namespace Go.Proofs.YtdedkfbiookofaaGreatDoor
set_option maxRecDepth 100000
open Go.RowKit Game
/-- a step of a drawn region: a list of one-cell values of the call's own, nil or not, grows by one -/
theorem step_append_N {S E : TypeId} {z : Value} {by' : Nat} (hinfo : (Tryz.prog.info? E).map (fun i => (i.zero, i.size, i.bytes)) = some (some z, 1, by')) (hu : Tryz.prog.underlying S = some (.slice E)) (hzs : z.cells.size = 1) (hby : by' ≤ 1024)
    {ops : Array Oper} {o : Oper} {a : Act} {K : Act → World → Prop} {Q : Exit → Act → World → Prop} {EE : Prop} (hgd : o.guard = none) (s x : Operand)
    (ho : o.op = .call { callee := .builtin .append, args := #[s, x], argTypes := #[S, S] })
    (B n : Nat) (val : Value) (vs : List Value) (h0 m c2 : Nat) (v : Value) (hv : v.oneCell' = true) (W : World) (hB : B ≤ W.heap.size) (hown : W.ownsRow B E 1 val n vs) (hcell : W.cell? ⟨h0, m, none⟩ = some v)
    (hs : a.eval s = val) (hx : a.eval x = .slice (some ⟨h0, m, none⟩) 1 c2) (hlen : n + 1 ≤ 1048576)
    (h : ∀ g' cap' w', OwnV w' B E g' cap' (vs ++ [v]) → W.grownBy w' val.ownBlock → K (a.put o.dst (Value.slice (some ⟨g', 0, none⟩) (n + 1) cap')) w') :
    if Region.wanted o (yielded ops a.tmps) = true then Oper.wp Tryz.prog o a W K Q else EE := by
  have hw : Region.wanted o (yielded ops a.tmps) = true := by simp [Region.wanted, hgd]
  rw [if_pos hw]
  obtain ⟨i, hi, hz0, hz1, hz2⟩ := info_parts hinfo
  obtain ⟨v', w', hrun, h1, h2, h3⟩ := run_append_own (P := Tryz.prog) W B S o.type E i z 1 by' hu hi hz0 hz1 hz2 hzs (by decide) val n vs hown ⟨h0, m, none⟩ 1 c2 [v] rfl
    (fun j u hj => by
      have hj' : j = 0 := by have := (List.getElem?_eq_some_iff.1 hj).1; simp at this; exact this
      subst hj'
      simp only [List.getElem?_cons_zero, Option.some.injEq] at hj
      subst hj
      rw [Addr.add_lit, Nat.add_zero]; exact hcell)
    (fun u hu => by rw [List.mem_singleton] at hu; rw [hu]; exact hv) (by unfold maxLen; omega) (by have : (n + 1) * by' ≤ 1048576 * 1024 := Nat.mul_le_mul hlen hby; omega) hB
  have hvl : vs.length = n := by have := hown.1; omega
  unfold Oper.wp execOp
  simp only [ho, resolve, invoke, builtin, Sem.run_bind, Sem.run_pure, Result.andThen_ok, List.map_toArray, List.map_cons, List.map_nil, hs, hx, hrun]
  rcases h1.2 with ⟨-, h4⟩ | ⟨g', cap', cur, rfl, hr⟩
  · omega
  · refine h g' cap' w' ?_ h2
    have e : (vs ++ [v]).length = n + 1 := by rw [List.length_append, hvl]; rfl
    unfold OwnV
    rw [e]
    exact h1
/-- 'make([][]int, n)', run -/
theorem run_make_rows {w : World} (B n : Nat) (hn : n ≤ 1048576) (hB : B ≤ w.heap.size) :
    ∃ w', Sem.run Tryz.prog (Instr.makeSlice 24 (.int .i64 (n : Int)) (.int .i64 (n : Int))) w = .ok (Value.slice (some ⟨w.heap.size, 0, none⟩) n n) w' ∧ OwnV w' B 25 w.heap.size n (List.replicate n (.slice none 0 0)) ∧ w.grownBy w' none := by
  obtain ⟨i0, hi, hz0, hz1, hz2⟩ := info_parts infoRow
  obtain ⟨w', hrun, r1, r2⟩ := run_make_full (P := Tryz.prog) w B 24 25 i0 (.slice none 0 0) 1 Tryz.underlying24 hi hz0 hz1 .i64 .i64 n (by rw [hz2]; omega) (by unfold maxLen; omega) hB
  refine ⟨w', hrun, ?_, r2⟩
  unfold OwnV
  rw [List.length_replicate]
  have e : (madeCells (Value.slice none 0 0).cells (n * 1)).toList = List.replicate n (.slice none 0 0) := by
    rw [Nat.mul_one]; exact toList_madeCells_one _ _
  rw [← e]; exact r1
theorem own_row_same {w w' : World} {B n : Nat} {E : TypeId} {v : Value} {xs : List Value} (h : w.ownsRow B E 1 v n xs) (hs : ∀ g, v.ownBlock = some g → w'.heap[g]? = w.heap[g]?) : w'.ownsRow B E 1 v n xs := by
  refine ⟨h.1, ?_⟩
  rcases h.2 with ⟨h1, h2⟩ | ⟨g, cap, cur, rfl, hb, hh, r⟩
  · exact .inl ⟨h1, h2⟩
  · exact .inr ⟨g, cap, cur, rfl, hb, (hs g rfl).trans hh, r⟩
def KzS (w : World) (k : Nat) (a b m p : Value) : Prop := w.heap[k]? = some (.cells #[a, b, m, p] 62 (0, 0))
section
variable {w w' : World} {k : Nat} {a b m p : Value}
theorem KzS.cells (h : KzS w k a b m p) : w.cell? ⟨k, 0, none⟩ = some a ∧ w.cell? ⟨k, 1, none⟩ = some b ∧ w.cell? ⟨k, 2, none⟩ = some m ∧ w.cell? ⟨k, 3, none⟩ = some p := by
  refine ⟨?_, ?_, ?_, ?_⟩ <;> (rw [cell_of_cells h]; rfl)
theorem KzS.free (h : KzS w k a b m p) (j : Nat) : w.frozen? ⟨k, j, none⟩ = false := free_of_cells h j
theorem KzS.lt (h : KzS w k a b m p) : k < w.heap.size := by
  rcases Nat.lt_or_ge k w.heap.size with h1 | h1
  · exact h1
  · unfold KzS at h; rw [Array.getElem?_eq_none h1] at h; cases h
theorem KzS.same (h : KzS w k a b m p) (hs : w'.heap[k]? = w.heap[k]?) : KzS w' k a b m p := hs.trans h
theorem KzS.below {B : Nat} (h : KzS w k a b m p) (hb : Below B w w') (hB : k < B) : KzS w' k a b m p := h.same (hb.block k hB)
theorem KzS.set (h : KzS w k a b m p) (v : Value) : KzS (w.setCell ⟨k, 3, none⟩ v) k a b m v := by
  unfold KzS; rw [heap_setCell_same w k 3 _ _ v h]; rfl
end
def rvN (N : Nat) (r : Nat × Nat) : Value := (Value.slice (some ⟨r.1, 0, none⟩) N r.2)
structure PolT (w : World) (B g cap N v u : Nat) (P : List (List (List Int))) (rr : List (Nat × Nat)) : Prop where
  rl : rr.length = N
  out : OwnV w B 24 g cap (rr.map (rvN N))
  nd : (rr.map Prod.fst).Nodup
  row : ∀ i (h : i < rr.length), ∃ vs : List Value, OwnV w B 25 rr[i].1 rr[i].2 vs ∧ vs.length = N ∧ ∀ j, j < N → (j < v ∨ j = v ∧ i < u) → ∃ b cb, vs[j]? = some (Value.slice (some ⟨b, 0, none⟩) ((pol P i j).length) cb) ∧ Own w B b cb (pol P i j)
section
variable {w w' : World} {B g cap N v u : Nat} {P : List (List (List Int))} {rr : List (Nat × Nat)}
theorem PolT.below (h : PolT w B g cap N v u P rr) (hb : Below w.heap.size w w') : PolT w' B g cap N v u P rr :=
  ⟨h.rl, h.out.below hb h.out.lt, h.nd, fun i hi => by
    obtain ⟨vs, h1, h2, h3⟩ := h.row i hi
    refine ⟨vs, h1.below hb h1.lt, h2, fun j hj hk => ?_⟩
    obtain ⟨b, cb, h4, h5⟩ := h3 j hj hk
    exact ⟨b, cb, h4, h5.below hb h5.lt⟩⟩
theorem PolT.gcell (h : PolT w B g cap N v u P rr) {i : Nat} (hi : i < N) : w.cell? ⟨g, i, none⟩ = some (Value.slice (some ⟨((rr.getD i (0, 0)).1), 0, none⟩) N ((rr.getD i (0, 0)).2)) := by
  have := h.out.cell i (by rw [List.length_map, h.rl]; exact hi)
  rw [this]
  have hr : i < rr.length := by rw [h.rl]; exact hi
  simp [rvN, List.getD, hr]
theorem PolT.at (h : PolT w B g cap N v u P rr) {i j : Nat} (hi : i < N) (hj : j < v) (hjN : j < N) : PolAt w g N i j (pol P i j) := by
  have hr : i < rr.length := by rw [h.rl]; exact hi
  obtain ⟨vs, h1, h2, h3⟩ := h.row i hr
  obtain ⟨b, cb, h4, h5⟩ := h3 j hjN (.inl hj)
  have hc := h.gcell hi
  have e : rr.getD i (0, 0) = rr[i] := by simp [List.getD, hr]
  rw [e] at hc
  refine ⟨rr[i].1, rr[i].2, b, cb, hc, ?_, h5.capLe, h1.lt, h5.lt, h5.cells⟩
  have := h1.cell j (by omega)
  rw [this]
  have h6 := List.getElem?_eq_getElem (l := vs) (i := j) (by omega)
  rw [h6] at h4
  exact h4
theorem PolT.col (h : PolT w B g cap N v N P rr) : PolT w B g cap N (v + 1) 0 P rr :=
  ⟨h.rl, h.out, h.nd, fun i hi => by
    obtain ⟨vs, h1, h2, h3⟩ := h.row i hi
    exact ⟨vs, h1, h2, fun j hj hk => h3 j hj (by have := h.rl; omega)⟩⟩
/-- the cell that is written next is there, and free -/
theorem PolT.next (h : PolT w B g cap N v u P rr) (hu : u < N) (hv : v < N) : (∃ x, w.cell? ⟨(rr.getD u (0, 0)).1, v, none⟩ = some x) ∧ w.frozen? ⟨(rr.getD u (0, 0)).1, v, none⟩ = false ∧ (rr.getD u (0, 0)).1 < w.heap.size ∧ B ≤ (rr.getD u (0, 0)).1 ∧ g ≠ (rr.getD u (0, 0)).1 := by
  have hr : u < rr.length := by rw [h.rl]; exact hu
  obtain ⟨vs, h1, h2, h3⟩ := h.row u hr
  have e : rr.getD u (0, 0) = rr[u] := by simp [List.getD, hr]
  rw [e]
  exact ⟨⟨_, h1.cell v (by omega)⟩, h1.frozen v, h1.lt, h1.base, h.out.ne h1 (by decide)⟩
theorem PolT.store (h : PolT w B g cap N v u P rr) (hu : u < N) (hv : v < N) (hPl : P.length = N) (hPr : ∀ i, i < N → (P.getD i []).length = N) {p : List Int} {b cb : Nat} (ho : Own w B b cb p) :
    PolT (w.setCell ⟨(rr.getD u (0, 0)).1, v, none⟩ (Value.slice (some ⟨b, 0, none⟩) p.length cb)) B g cap N v (u + 1) (setP P u v p) rr ∧ w.grownBy (w.setCell ⟨(rr.getD u (0, 0)).1, v, none⟩ (Value.slice (some ⟨b, 0, none⟩) p.length cb)) (some (rr.getD u (0, 0)).1) := by
  have hr : u < rr.length := by rw [h.rl]; exact hu
  have e : rr.getD u (0, 0) = rr[u] := by simp [List.getD, hr]
  rw [e]
  obtain ⟨vs, h1, h2, h3⟩ := h.row u hr
  obtain ⟨s1, s2⟩ := h1.set v (Value.slice (some ⟨b, 0, none⟩) p.length cb)
  have hgo : g ≠ rr[u].1 := h.out.ne h1 (by decide)
  have hint : ∀ {B' b' cb' : Nat} {q : List Int}, Own w B' b' cb' q → Own (w.setCell ⟨rr[u].1, v, none⟩ (Value.slice (some ⟨b, 0, none⟩) p.length cb)) B' b' cb' q := fun ho' => ho'.grown s2 (fun e' => h1.ne ho'.toV (by decide) (Option.some.inj e').symm)
  refine ⟨⟨h.rl, h.out.grown s2 (fun e' => hgo (Option.some.inj e')), h.nd, fun i hi => ?_⟩, s2⟩
  have hiN : i < N := by rw [← h.rl]; exact hi
  by_cases hiu : i = u
  · subst hiu
    refine ⟨_, s1, by rw [List.length_set]; exact h2, fun j hj hk => ?_⟩
    by_cases hjv : j = v
    · subst hjv
      refine ⟨b, cb, ?_, ?_⟩
      · rw [List.getElem?_set_self (by omega), setP_at (by omega) (by rw [hPr i hiN]; exact hj)]
      · rw [setP_at (by omega) (by rw [hPr i hiN]; exact hj)]; exact hint ho
    · obtain ⟨b', cb', h4, h5⟩ := h3 j hj (by omega)
      refine ⟨b', cb', ?_, ?_⟩
      · rw [List.getElem?_set_ne (Ne.symm hjv), setP_ne (.inr hjv)]; exact h4
      · rw [setP_ne (.inr hjv)]; exact hint h5
  · obtain ⟨vs', k1, k2, k3⟩ := h.row i hi
    have hne : rr[i].1 ≠ rr[u].1 := fun e' => by
      have hp := List.pairwise_iff_getElem.1 h.nd
      have h6 : (rr.map Prod.fst)[i]'(by simpa using hi) = (rr.map Prod.fst)[u]'(by simpa using hr) := by simpa using e'
      rcases Nat.lt_or_gt_of_ne hiu with h7 | h7
      · exact hp i u (by simpa using hi) (by simpa using hr) h7 h6
      · exact hp u i (by simpa using hr) (by simpa using hi) h7 h6.symm
    refine ⟨vs', k1.grown s2 (fun e' => hne (Option.some.inj e')), k2, fun j hj hk => ?_⟩
    obtain ⟨b', cb', h4, h5⟩ := k3 j hj (by omega)
    refine ⟨b', cb', ?_, ?_⟩
    · rw [setP_ne (.inl hiu)]; exact h4
    · rw [setP_ne (.inl hiu)]; exact hint h5
end
end Go.Proofs.YtdedkfbiookofaaGreatDoor
namespace Go.Proofs.YtdedkfbiookofaaGreatDoor
set_option maxRecDepth 100000
open Go.RowKit
open Go.Maps (Keyed IsMap has)
theorem digs_inj : ∀ {a b : List Int}, InW a → InW b → digs a = digs b → a = b
  | [], [], _, _, _ => rfl
  | [], _ :: _, _, _, h => by simp [digs] at h
  | _ :: _, [], _, _, h => by simp [digs] at h
  | x :: a, y :: b, ha, hb, h => by
    have hx := ha x (by simp)
    have hy := hb y (by simp)
    simp only [digs, List.map_cons, List.cons.injEq] at h
    obtain ⟨h1, h2⟩ := h
    have e1 := u8_int (49 + (x.toNat : Int)) (by omega) (by omega)
    have e2 := u8_int (49 + (y.toNat : Int)) (by omega) (by omega)
    rw [show (49 + (x.toNat : Int)).toNat = 49 + x.toNat by omega] at e1
    rw [show (49 + (y.toNat : Int)).toNat = 49 + y.toNat by omega] at e2
    rw [h1] at e1
    have e3 : x = y := by omega
    subst e3
    rw [digs_inj (fun z hz => ha z (by simp [hz])) (fun z hz => hb z (by simp [hz])) h2]
theorem wordL_inj {a b : List Int} (ha : InW a) (hb : InW b) (h : wordL a = wordL b) : a = b := by
  have key : ∀ {x : List Int}, InW x → x ≠ [] → wordL x ≠ [101] := by
    intro x hx hne e
    unfold wordL at e
    rw [if_neg (by cases x with | nil => exact absurd rfl hne | cons _ _ => simp), if_pos hx] at e
    cases x with
    | nil => exact hne rfl
    | cons y x =>
      have hy := hx y (by simp)
      simp only [digs, List.map_cons, List.cons.injEq] at e
      have e1 := u8_int (49 + (y.toNat : Int)) (by omega) (by omega)
      rw [show (49 + (y.toNat : Int)).toNat = 49 + y.toNat by omega, e.1] at e1
      have : ((101 : UInt8).toNat : Int) = 101 := rfl
      omega
  cases a with
  | nil =>
    cases b with
    | nil => rfl
    | cons y b => exact absurd h.symm (key hb (by simp))
  | cons x a =>
    cases b with
    | nil => exact absurd h (key ha (by simp))
    | cons y b =>
      have e1 : wordL (x :: a) = digs (x :: a) := by unfold wordL; rw [if_neg (by rw [List.length_cons]; omega), if_pos ha]
      have e2 : wordL (y :: b) = digs (y :: b) := by unfold wordL; rw [if_neg (by rw [List.length_cons]; omega), if_pos hb]
      rw [e1, e2] at h
      exact digs_inj ha hb h
theorem strLawW : WideMaps.KeyLaw Tryz.prog 9 := WideMaps.string_law Tryz.underlying9
theorem strKeyedW : Keyed Tryz.prog 9 := Keyed.of_law strLawW
section
variable {w w' : World} {b n : Nat} {L : List (List Int)}
end
end Go.Proofs.YtdedkfbiookofaaGreatDoor
namespace Go.Proofs.YtdedkfbiookofaaGreatDoor
set_option maxRecDepth 100000
open Go.RowKit
open Go.Maps (Keyed IsMap has)
theorem idxFrom_in_w {v r : List Int} : ∀ {L : List (List Int)} {k : Nat}, v ∈ L → idxFrom (L ++ [r]) v k = idxFrom L v k
  | [], k, h => by simp at h
  | x :: L, k, h => by
    simp only [List.cons_append, idxFrom]
    by_cases e : x = v
    · rw [if_pos e, if_pos e]
    · rw [if_neg e, if_neg e]
      exact idxFrom_in_w ((List.mem_cons.1 h).resolve_left (fun g => e g.symm))
theorem idxFrom_out_w {r : List Int} : ∀ {L : List (List Int)} {k : Nat}, r ∉ L → idxFrom (L ++ [r]) r k = ((k + L.length : Nat) : Int)
  | [], k, _ => by simp [idxFrom]
  | x :: L, k, h => by
    simp only [List.cons_append, idxFrom]
    rw [if_neg (fun e => h (by rw [e]; simp)), idxFrom_out_w (fun g => h (List.mem_cons_of_mem _ g))]
    congr 1
    simp; omega
theorem intZeroW (w : World) : (zeroValue 3).run Tryz.prog w = .ok (.int .i64 0) w := by kernel_rfl
theorem natWfW {n : Nat} (hn : n < 1048576) : (Lit.int .i64 (n : Int)).wf = true := by
  simp [Lit.wf, IntKind.min, IntKind.max, IntKind.signed, IntKind.bits]; omega
structure LetW (v : List Int) : Prop where
  inw : InW v
  few : v.length ≤ 30
theorem wordL_len30 {v : List Int} (h : LetW v) : (wordL v).length ≤ 30 := by
  have := h.few
  unfold wordL
  split
  · simp
  · split
    · unfold digs; simp; omega
    · simp
theorem keyOf_let {v : List Int} (h : LetW v) : keyOf Tryz.prog 9 (.string ⟨(wordL v).toArray⟩) = some (.string (wordL v)) := by
  have := WideMaps.keyOf_string_mk (P := Tryz.prog) (s := ⟨(wordL v).toArray⟩) Tryz.underlying9 (by have := wordL_len30 h; simp [ByteArray.size]; unfold maxLen; omega)
  simpa using this
/-- block b is a map that takes just these written words to their places -/
def AtW (w : World) (b n : Nat) (L : List (List Int)) : Prop :=
  ∃ D : DataW Unit, w.ownsMap Tryz.prog 9 (plainElem Tryz.prog 3) b n D ∧ IsMap D ∧ ∀ v : List Int, LetW v → v ∈ L → D.atKey (.string (wordL v)) (.lit (.int .i64 0)) = .lit (.int .i64 (idxL L v))
section
variable {w w' : World} {b n : Nat} {L : List (List Int)}
theorem AtW.start (w : World) : AtW (w.alloc (.map #[] 0)) w.heap.size 0 [] :=
  ⟨.map [], World.ownsMap_made _ _ _ _, ⟨[], rfl⟩, fun v _ h => by simp at h⟩
theorem AtW.lt (h : AtW w b n L) : b < w.heap.size := by obtain ⟨D, h, -⟩ := h; exact h.lt
theorem AtW.same (h : AtW w b n L) (hs : w'.heap[b]? = w.heap[b]?) : AtW w' b n L := by
  obtain ⟨D, ⟨es, clock, hh, r⟩, h2⟩ := h
  exact ⟨D, ⟨es, clock, hs.trans hh, r⟩, h2⟩
theorem AtW.below {B : Nat} (h : AtW w b n L) (hb : Below B w w') (hB : b < B) : AtW w' b n L := h.same (hb.block b hB)
theorem AtW.block (h : AtW w b n L) : ∃ es clock, w.heap[b]? = some (.map es clock) := by
  obtain ⟨D, ⟨es, clock, hh, r⟩, h2⟩ := h
  exact ⟨es, clock, hh⟩
theorem AtW.neRows {g cap B : Nat} {rs : List RowRef} (h : AtW w b n L) (ho : OwnRows w B g cap rs) : b ≠ g := by
  rintro rfl
  obtain ⟨es, clock, hh⟩ := h.block
  obtain ⟨cur, h2, -⟩ := ho.1.row
  rw [hh] at h2
  simp at h2
/-- 'at[key] = k' -/
theorem wpList_atw_put {ops : Array Oper} {rest : List Oper} {o : Oper} {a : Act} {Q : Exit → Act → World → Prop}
    (hg : o.guard = none) (x y z : Operand) (hop : o.op = Op.mapUpdate 59 x y z) (b n : Nat) (L : List (List Int)) (v : List Int) (hv : LetW v) (hL : v ∉ L) (hLn : L.length = n)
    (hown : AtW w b n L) (hn : n < 1048576) (hx : a.eval x = .map (some b)) (hy : a.eval y = .string ⟨(wordL v).toArray⟩) (hz : a.eval z = .int .i64 (n : Int))
    (hK : ∀ w', AtW w' b (n + 1) (L ++ [v]) → w.grownBy w' (some b) → wpList Tryz.prog ops Q rest (a.put o.dst undef) w') :
    wpList Tryz.prog ops Q (o :: rest) a w := by
  obtain ⟨D, hD, hmap, hat⟩ := hown
  have hk := keyOf_let hv
  refine wpList_mapUpdate_own w hg x y z _ hop _ _ strKeyedW Tryz.underlying59 _ b n D hx hD (by unfold maxLen; omega) _ _ (.string (wordL v)) hy hz hk _ [] (plainElem_int (H := Unit) Tryz.underlying3 (natWfW hn)) ?_
  intro w' hown' hgr
  refine hK w' ⟨_, hown', ?_, fun u hu hm => ?_⟩ hgr
  · obtain ⟨es, rfl⟩ := hmap
    exact ⟨_, rfl⟩
  · by_cases e : u = v
    · subst e
      rw [Maps.atKey_put_same hmap (strKeyedW.key hk)]
      unfold idxL
      rw [idxFrom_out_w hL, hLn, Nat.zero_add]
    · have hne : Lit.string (wordL u) ≠ .string (wordL v) := fun h => e (wordL_inj hu.inw hv.inw (by injection h))
      have h' : u ∈ L := by
        rcases List.mem_append.1 hm with g | g
        · exact g
        · rw [List.mem_singleton] at g; exact absurd g e
      rw [Maps.atKey_put_other hne, hat u hu h']
      unfold idxL
      rw [idxFrom_in_w h']
/-- 'at[key]' -/
theorem wpList_atw_get {ops : Array Oper} {rest : List Oper} {o : Oper} {a : Act} {Q : Exit → Act → World → Prop}
    (hg : o.guard = none) (x y : Operand) (hop : o.op = Op.lookup 59 x y false) (b n : Nat) (L : List (List Int)) (v : List Int) (hv : LetW v) (hL : v ∈ L)
    (hown : AtW w b n L) (hx : a.eval x = .map (some b)) (hy : a.eval y = .string ⟨(wordL v).toArray⟩)
    (hK : wpList Tryz.prog ops Q rest (a.put o.dst (.int .i64 (idxL L v))) w) :
    wpList Tryz.prog ops Q (o :: rest) a w := by
  obtain ⟨D, hD, -, hat⟩ := hown
  refine wpList_lookup_own_int w hg x y _ hop _ _ .i64 strKeyedW Tryz.underlying59 Tryz.underlying3 (intZeroW w) b n D hx hD _ _ hy (keyOf_let hv) ?_
  intro z hz _
  have h3 := hat v hv hL
  rw [hz] at h3
  have e : z = idxL L v := by simpa using h3
  rw [e]
  exact hK
end
end Go.Proofs.YtdedkfbiookofaaGreatDoor
namespace Go.Proofs.YtdedkfbiookofaaGreatDoor
set_option maxRecDepth 100000
open Go.RowKit Game
theorem AtW.only {w w' : World} {b n B E : Nat} {L : List (List Int)} (h : AtW w b n L) (hb : Only B E w w') (hd : b < B ∨ E ≤ b) : AtW w' b n L := h.same (hb.block b h.lt hd)
theorem elem_let {c : List (List Int)} (hG : Grp c) {x : List Int} (hx : x ∈ elemL c) : LetW x := by
  have h := elem_lets hG hx
  refine ⟨fun i hi => ?_, by have := h.few; omega⟩
  have h1 := h.mem i hi
  have := hG.hC.2.1
  omega
set_option maxHeartbeats 2000000 in
theorem impl_places_ok (g cp N : Nat) (L : List (List Int)) (w : World) (hn : L.length = N) (hN : N ≤ 200) (hd : L.Nodup) (hW : ∀ j, j < N → LetW (L.getD j [])) (hg : g < w.heap.size) (hr : Rows2 w g 0 L) :
    Calls Tryz.prog 87 #[(Value.slice (some ⟨g, 0, none⟩) N cp)] w (fun e w' => ∃ b, e = .returned (.map (some b)) ∧ w.heap.size ≤ b ∧ AtW w' b N L ∧ Below w.heap.size w w') := by
  have Hn := Lib.hid hn; have Hd := Lib.hid hd; have HW := Lib.hid hW
  clear hn hd hW
  have hmm := @run_makeMap Tryz.prog
  go_enter Tryz.func87, Tryz.ntmps87
  go_wp2_with fail
  have hA : AtW (w.alloc (.map #[] 0)) w.heap.size 0 (L.take 0) := AtW.start w
  have hb0 : Below w.heap.size w (w.alloc (.map #[] 0)) := (Below.refl _ _).alloc (Nat.le_refl _) _
  go_loopw [9] (fun iv wr => ∃ k : Nat, k ≤ N ∧ iv = .int .i64 k ∧ AtW wr w.heap.size k (L.take k) ∧ Below w.heap.size w wr) (fun iv _ => N - (intOf iv).toNat)
  case atStart => exact ⟨0, Nat.zero_le _, rfl, hA, hb0⟩
  case round =>
    clear hA hb0
    obtain ⟨k, hk, rfl, hA, hb⟩ := hrel
    by_cases hlt : k < N
    · have hkL : k < L.length := by rw [Hn.out]; exact hlt
      obtain ⟨gj, oj, cj, q1, q2, q3, q4⟩ := (hr.below hb hg) k hkL
      have hlw := HW.out k hlt
      have hnot : L.getD k [] ∉ L.take k := by
        intro hm
        obtain ⟨j, hj, he⟩ := List.mem_iff_getElem.1 hm
        have hjk : j < k := by rw [List.length_take] at hj; omega
        have e1 : L[j]'(by omega) = L[k] := by
          rw [List.getElem_take] at he
          rw [he]; simp [List.getD, hkL]
        have := (List.getElem_inj Hd.out).1 e1
        omega
      have hsucc : L.take (k + 1) = L.take k ++ [L.getD k []] := by rw [List.take_succ_eq_append_getElem hkL]; simp [List.getD, hkL]
      have htl : (L.take k).length = k := by rw [List.length_take]; omega
      generalize L.getD k [] = x at *
      obtain ⟨nx, hnx⟩ : ∃ nx, x.length = nx := ⟨_, rfl⟩
      rw [hnx] at q1
      rw [Nat.zero_add] at q1
      have hF := impl_FormatWord_any gj oj nx cj x wr hnx (by have := hlw.few; omega) q3 q4
      have HF := Lib.hid hF; have Hlw := Lib.hid hlw; have Hnot := Lib.hid hnot; have Hsucc := Lib.hid hsucc; have Htl := Lib.hid htl
      have hgw := Nat.lt_of_lt_of_le hg hb.size
      clear hF hlw hnot hsucc htl hnx q4 q2
      go_wp2_with fail
      refine HF.out.mono ?_
      rintro e v2 ⟨rfl, hb2⟩
      have hB2 := hb.trans (hb2.mono hb.size)
      have hA2 := hA.below hb2 hA.lt
      clear hb hb2 hA HF
      go_wp2_with (at_mapUpdate; refine wpList_atw_put rfl _ _ _ rfl w.heap.size k (L.take k) x Hlw.out Hnot.out Htl.out hA2 (by omega) rfl rfl rfl ?_)
      intro v3 hA3 hg3
      have hB3 := hB2.grown hg3 hB2.size (by intro t ht; cases ht; exact Nat.le_refl _)
      rw [← Hsucc.out] at hA3
      clear hB2 hA2 hg3
      go_wp2_with fail
      go_roundw
      case rel => exact ⟨k + 1, by omega, by go_num, hA3, hB3⟩
      case measure => simp [intOf]; omega
    · obtain rfl : k = N := by omega
      go_wp2
      go_ret
      refine ⟨w.heap.size, rfl, Nat.le_refl _, ?_, hb⟩
      rw [← Hn.out, List.take_length] at hA
      rw [← Hn.out]; exact hA
set_option maxRecDepth 100000 in
set_option maxHeartbeats 4000000 in
theorem impl_LeftTable_yes (gc oc n cc : Nat) (c : List (List Int)) (w : World) (hn : c.length = n) (hgr : grpB c = true) (hgc : gc < w.heap.size) (hr : Rows2 w gc oc c) (hm : MaxL w) :
    Calls Tryz.prog 86 #[(Value.slice (some ⟨gc, oc, none⟩) n cc)] w (GotRows w (leftT c)) := by
  subst hn
  have hG := grp_B hgr
  obtain ⟨w2, hw2⟩ : ∃ w2, w2 = w.alloc (.cells #[] 25) := ⟨_, rfl⟩
  have hb2 : Below w.heap.size w w2 := by rw [hw2]; exact (by repeat (first | with_reducible exact Below.refl _ _ | with_reducible assumption | with_reducible refine below_drewN ?_ _ | with_reducible refine Below.drew ?_ | (with_reducible refine Below.alloc ?_ ?_ _; rotate_left; · first | (simp; done) | (simp; omega) | exact Below.size (by assumption) | (have hsz := Below.size (by assumption : Below _ _ _); simp at hsz ⊢; omega)) | (with_reducible refine Below.setCell ?_ ?_ _; rotate_left; · first | (simp; done) | (simp; omega))))
  have ho2 : OwnRows w2 w.heap.size w.heap.size 0 [] := by rw [hw2]; exact OwnRows.empty (w := w) (Nat.le_refl _)
  have hcall := impl_elements_ok gc oc c.length cc c w2 rfl hG (Nat.lt_of_lt_of_le hgc hb2.size) (hr.below hb2 hgc) (hm.below hb2)
  rw [hw2] at hcall
  have Hcall := Lib.hid hcall; have Hw2 := Lib.hid hw2
  unfold leftT
  rw [show elA c = elemL c from if_pos hgr]
  have hfew := hG.few
  have hc4 : c.length ≤ 4 := hG.hC.2.1
  have hN : ∀ j i, j < (elemL c).length → i < c.length → Lets c 30 ([(i : Int)] ++ (elemL c).getD j []) ∧ nfI c ([(i : Int)] ++ (elemL c).getD j []) ∈ elemL c ∧ LetW (nfI c ([(i : Int)] ++ (elemL c).getD j [])) ∧ ((elemL c).getD j []).length ≤ 24 := by
    intro j i hj hi
    have hx : (elemL c).getD j [] ∈ elemL c := by simp [List.getD, hj]
    have hm := left_mem hG hx hi
    exact ⟨left_lets hG hx hi, hm, elem_let hG hm, (elem_lets hG hx).few⟩
  have hlw : ∀ j, j < (elemL c).length → LetW ((elemL c).getD j []) := fun j hj => elem_let hG (by simp [List.getD, hj])
  have hnd := hG.asc.nodup
  clear hcall hw2 hG hm hgr
  generalize elemL c = L at *
  obtain ⟨N, hNL⟩ : ∃ N, L.length = N := ⟨_, rfl⟩
  have HNL := Lib.hid hNL
  rw [hNL] at hfew hN hlw ⊢
  have HN := Lib.hid hN; have Hr := Lib.hid hr; have Hlw := Lib.hid hlw; have Hnd := Lib.hid hnd
  clear hNL hN hr hlw hnd
  go_enter Tryz.func86, Tryz.ntmps86
  go_wp2_with fail
  refine Hcall.out.mono ?_
  rintro e w3 ⟨g3, c3, rs, rfl, hcr, hO3, hb3⟩
  rw [← Hw2.out] at hb3 hO3
  have hb3' := hb2.trans (hb3.mono hb2.size)
  have ho3 := ho2.below hb3
  have hH3 : HeldR w3 w2.heap.size w3.heap.size g3 c3 L := ⟨rs, hcr, hO3, hO3.lt, fun r hr => (hO3.2.1 r hr).lt⟩
  have hw2s : w.heap.size < w2.heap.size := ho2.lt
  have hPl := impl_places_ok g3 c3 N L w3 HNL.out hfew Hnd.out Hlw.out hH3.lt hH3.rows2
  have HPl := Lib.hid hPl
  rw [HNL.out]
  clear hb3 hb2 ho2 hcr hO3 Hcall Hw2 hPl
  go_wp2_with fail
  refine HPl.out.mono ?_
  rintro e w4 ⟨bM, rfl, hbM, hA4, hb4⟩
  have hE : w3.heap.size ≤ w4.heap.size := hb4.size
  have hB4 := hb3'.trans (hb4.mono hb3'.size)
  have ho4 := ho3.below hb4
  have hH4 := hH3.below hb4 (Nat.le_refl _)
  clear hb4 hb3' ho3 hH3 HPl
  go_wp2_with fail
  go_loopw [3, 8, 17] (fun ov _ kv wr => ∃ (k gO cO : Nat) (rs : List RowRef), k ≤ N ∧ kv = .int .i64 k ∧ ov = (Value.slice (some ⟨gO, 0, none⟩) k cO) ∧ Hid (rs.length = k) ∧ Hid (contents rs = ltab c L k) ∧ OwnRows wr w.heap.size gO cO rs ∧ HeldR wr w2.heap.size w3.heap.size g3 c3 L ∧ w3.heap.size ≤ wr.heap.size ∧ (gO < w2.heap.size ∨ w3.heap.size ≤ gO) ∧ AtW wr bM N L ∧ Below w.heap.size w wr) (fun _ _ kv _ => N - (intOf kv).toNat)
  case atStart => exact ⟨0, _, 0, [], Nat.zero_le _, rfl, rfl, rfl, rfl, ho4, hH4, hE, .inl hw2s, hA4, hB4⟩
  case round =>
    clear ho4 hH4 hB4 hA4
    obtain ⟨k, gO, cO, rs, hk, rfl, rfl, hrs, hcont, hO, hH, hEs, hdj, hA, hb⟩ := hrel
    by_cases hlt : k < N
    · have hkL : k < L.length := by rw [HNL.out]; exact hlt
      have Hsucc := Lib.hid (ltab_succ (c := c) hkL)
      have hR := hH.rows2
      have hg := hH.lt
      obtain ⟨gj, oj, cj, q1, q2, q3, q4⟩ := hR k hkL
      have hNk := fun i hi => HN.out k i hlt hi
      generalize L.getD k [] = x at *
      have HNk := Lib.hid hNk
      obtain ⟨nx, hnx⟩ : ∃ nx, x.length = nx := ⟨_, rfl⟩
      rw [hnx] at q1
      have Hnx := Lib.hid hnx
      obtain ⟨wr1, hwr1⟩ : ∃ wr1, wr1 = wr.alloc (.cells #[] 3) := ⟨_, rfl⟩
      have hbr : Below wr.heap.size wr wr1 := by rw [hwr1]; exact (Below.refl _ _).alloc (Nat.le_refl _) _
      have hor : Own wr1 wr.heap.size wr.heap.size 0 [] := by rw [hwr1]; exact Own.empty (w := wr) (Nat.le_refl _)
      clear hNk hnx
      rw [Nat.zero_add] at q1
      go_wp2_with fail
      rw [← hwr1]
      generalize wr = wo at *
      go_loopw [8, 24] (fun rv iv wj => ∃ i gR cR : Nat, i ≤ c.length ∧ iv = .int .i64 i ∧ rv = (Value.slice (some ⟨gR, 0, none⟩) i cR) ∧ Own wj wo.heap.size gR cR (lrow c L x i) ∧ Below wo.heap.size wo wj) (fun _ iv _ => c.length - (intOf iv).toNat)
      case atStart => exact ⟨0, wo.heap.size, 0, Nat.zero_le _, rfl, rfl, hor, hbr⟩
      case round =>
        clear hor hbr hwr1
        obtain ⟨i, gR, cR, hi, rfl, rfl, hoR, hbj⟩ := hrel
        by_cases hil : i < c.length
        · obtain ⟨hLt, hmem, hlet, h24⟩ := HNk.out i hil
          rw [Hnx.out] at h24
          have hsr := lrow_succ c L x i
          have hll := lrow_length c L x i
          have hB0 := hb.trans (hbj.mono hb.size)
          have q5 := q4.below hbj q3
          have hgj := Nat.lt_of_lt_of_le q3 hbj.size
          obtain ⟨wk, hwk⟩ : ∃ wk, wk = wr.alloc (.cells #[.int .i64 (i : Int)] 3) := ⟨_, rfl⟩
          have hbk : Below wr.heap.size wr wk := by rw [hwk]; exact (Below.refl _ _).alloc (Nat.le_refl _) _
          have hok : Own wk wr.heap.size wr.heap.size 1 [(i : Int)] := by rw [hwk]; exact Own.new _ (Nat.le_refl _)
          have hxk := q5.below hbk hgj
          have hl2 : ([(i : Int)] ++ x).length = 1 + nx := by rw [List.length_append, Hnx.out]; rfl
          have Hl2 := Lib.hid hl2
          have hRd := fun (W : World) (g4 c4 : Nat) (hb : Below w.heap.size w W) (h4 : g4 < W.heap.size) (hc : Cells W g4 0 ([(i : Int)] ++ x)) => impl_reduced_any gc oc _ cc g4 0 (1 + nx) c4 c ([(i : Int)] ++ x) W rfl Hl2.out hLt (Nat.lt_of_lt_of_le hgc hb.size) h4 (Hr.out.below hb hgc) hc
          generalize nfI c ([(i : Int)] ++ x) = X at *
          obtain ⟨nX, hnX⟩ : ∃ nX, X.length = nX := ⟨_, rfl⟩
          have HnX := Lib.hid hnX
          have HRd := Lib.hid hRd
          have HFm := Lib.hid (fun (W : World) (g5 c5 : Nat) (h5 : g5 < W.heap.size) (hc : Cells W g5 0 X) => impl_FormatWord_any g5 0 nX c5 X W HnX.out (by have := hlet.few; omega) h5 hc)
          have Hlet := Lib.hid hlet; have Hmem := Lib.hid hmem; have Hsr := Lib.hid hsr; have Hll := Lib.hid hll
          have hgw : g3 < wr.heap.size := Nat.lt_of_lt_of_le hg hbj.size
          subst hwk
          clear hRd hnX hlet hmem hsr hll hLt hl2 q5
          go_wp2_with (at_builtin; refine wpList_append_ints_n rfl _ _ rfl wr.heap.size wr.heap.size 1 1 [(i : Int)] rfl hok gj oj nx cj x Hnx.out hxk rfl rfl (by omega) ?_)
          intro g4 c4 v2 ho4 hg4 _
          have hb4' := hbk.grown hg4 hbk.size (by intro t ht; cases ht; exact Nat.le_refl _)
          have hB4 := hB0.trans (hb4'.mono hB0.size)
          have ho4 := ho4.mono hB0.size
          clear hbk hok hxk hg4
          go_wp2_with fail
          refine (HRd.out v2 g4 c4 hB4 ho4.lt ho4.cells).mono ?_
          rintro e v3 ⟨g5, c5, rfl, ho5, hb5⟩
          rw [HnX.out]
          have hb5' := hb4'.trans (hb5.mono hb4'.size)
          clear hb5 hb4' hB4 ho4 HRd
          go_wp2_with fail
          refine (HFm.out v3 g5 c5 ho5.lt ho5.cells).mono ?_
          rintro e v4 ⟨rfl, hb6⟩
          have hb6' := hb5'.trans (hb6.mono hb5'.size)
          have hb7 := hbj.trans (hb6'.mono hbj.size)
          have hoR7 := hoR.below hb6' hoR.lt
          have hA7 := hA.below hb7 hA.lt
          clear hb6 hb5' hb6' hbj hoR ho5 HFm
          go_wp2_with (first | (at_lookup; refine wpList_atw_get rfl _ _ rfl bM N L X Hlet.out Hmem.out hA7 rfl rfl ?_) | (at_builtin; refine wpList_append_int_n (w := v4) rfl _ _ rfl wo.heap.size gR cR i (lrow c L x i) (idxL L X) Hll.out hoR7 rfl rfl (by omega) ?_))
          intro g6 c6 v5 ho6 hg6 _
          have hb8 := hb7.grown hg6 hb7.size (by intro t ht; cases ht; exact hoR7.base)
          rw [← Hsr.out] at ho6
          clear hb7 hoR7 hg6 hA7
          go_wp2_with fail
          go_roundw
          case rel => exact ⟨i + 1, g6, c6, by omega, by go_num, rfl, ho6, hb8⟩
          case measure => simp [intOf]; omega
        · obtain rfl : i = c.length := by omega
          have hO1 := hO.below hbj
          have hH1 := hH.below hbj hEs
          have hE1 := Nat.le_trans hEs hbj.size
          have hB1 := hb.trans (hbj.mono hb.size)
          have hA1 := hA.below hbj hA.lt
          have hne : ∀ s ∈ rs, s.1 ≠ gR := fun s hs e => by have := (hO.2.1 s hs).lt; have := hoR.base; omega
          have hneM : bM ≠ gO := hA.neRows hO
          have Hll := Lib.hid (lrow_length c L x c.length)
          have hoR1 := hoR.mono hb.size
          clear hO hR hH hA hb hbj hg hoR q1 q4 hEs
          go_wp2_with (at_builtin; refine wpList_append_row (w := wr) rfl _ _ rfl w.heap.size gO cO k wr.heap.size rs (gR, cR, lrow c L x c.length) _ hrs.out (by unfold rowVal; rw [Hll.out]) rfl hO1 hoR1 hne rfl rfl (by omega) ?_)
          intro g6 c6 v5 ho6 hg6 hor6
          have hB2 := hB1.grown hg6 hB1.size (by intro t ht; cases ht; exact hO1.base)
          have hl4 : Hid ((rs ++ [(gR, cR, lrow c L x c.length)]).length = k + 1) := Lib.hid (by rw [List.length_append, hrs.out]; rfl)
          have hcn4 : Hid (contents (rs ++ [(gR, cR, lrow c L x c.length)]) = ltab c L (k + 1)) := Lib.hid (by rw [Hsucc.out, ← hcont.out]; simp [contents])
          have hOn := Only.of_grown (B := gO) (E := gO + 1) hg6 (Nat.le_refl _) (Nat.lt_succ_self _)
          have hH2 := hH1.only hOn (by omega)
          have hA2 := hA1.only hOn (by omega)
          have hE2 := Nat.le_trans hE1 hg6.size
          have hd2 : g6 < w2.heap.size ∨ w3.heap.size ≤ g6 := by omega
          clear hO1 hoR1 hB1 hg6 hne hH1 hE1 hdj hor6 hA1 hOn
          go_wp2_with fail
          go_roundw
          case rel => exact ⟨k + 1, g6, c6, _, by omega, by go_num, rfl, hl4.out, hcn4.out, ho6, hH2, hE2, hd2, hA2, hB2⟩
          case measure => simp [intOf]; omega
    · obtain rfl : k = N := by omega
      go_wp2_with fail
      go_ret
      exact ⟨gO, cO, rs, by rw [ltab_length (by rw [HNL.out]; exact Nat.le_refl _)]; rfl, hcont.out, hO, hb⟩
theorem impl_places_nil (w : World) : Calls Tryz.prog 87 #[.slice none 0 0] w (fun e w' => ∃ b, e = .returned (.map (some b)) ∧ Below w.heap.size w w') := by
  have hmm := @run_makeMap Tryz.prog
  go_enter Tryz.func87, Tryz.ntmps87
  go_wp2_with fail
  have hb0 : Below w.heap.size w (w.alloc (.map #[] 0)) := (Below.refl _ _).alloc (Nat.le_refl _) _
  go_loopw [9] (fun iv wr => iv = .int .i64 0 ∧ Below w.heap.size w wr) (fun _ _ => 0)
  case atStart => exact ⟨rfl, hb0⟩
  case round =>
    obtain ⟨rfl, hb⟩ := hrel
    go_wp2
    go_ret
    exact ⟨_, rfl, hb⟩
set_option maxHeartbeats 1000000 in
theorem impl_LeftTable_any (gc oc n cc : Nat) (c : List (List Int)) (w : World) (hn : c.length = n) (hx : c.length ≤ 1048576) (hrl : ∀ j, j < c.length → (c.getD j []).length ≤ 1048576) (hgc : gc < w.heap.size) (hr : Rows2 w gc oc c) (hm : MaxL w) :
    Calls Tryz.prog 86 #[(Value.slice (some ⟨gc, oc, none⟩) n cc)] w (GotRows w (leftT c)) := by
  by_cases hg : grpB c = true
  · exact impl_LeftTable_yes gc oc n cc c w hn hg hgc hr hm
  · have hg' : grpB c = false := by simpa using hg
    have hL : leftT c = [] := by unfold leftT; rw [show elA c = [] from if_neg hg]; rfl
    rw [hL]
    obtain ⟨w2, hw2⟩ : ∃ w2, w2 = w.alloc (.cells #[] 25) := ⟨_, rfl⟩
    have hb2 : Below w.heap.size w w2 := by rw [hw2]; exact (by repeat (first | with_reducible exact Below.refl _ _ | with_reducible assumption | with_reducible refine below_drewN ?_ _ | with_reducible refine Below.drew ?_ | (with_reducible refine Below.alloc ?_ ?_ _; rotate_left; · first | (simp; done) | (simp; omega) | exact Below.size (by assumption) | (have hsz := Below.size (by assumption : Below _ _ _); simp at hsz ⊢; omega)) | (with_reducible refine Below.setCell ?_ ?_ _; rotate_left; · first | (simp; done) | (simp; omega))))
    have ho2 : OwnRows w2 w.heap.size w.heap.size 0 [] := by rw [hw2]; exact OwnRows.empty (w := w) (Nat.le_refl _)
    have hcall := impl_elements_no gc oc n cc c w2 hn hx hrl hg' (Nat.lt_of_lt_of_le hgc hb2.size) (hr.below hb2 hgc) (hm.below hb2)
    rw [hw2] at hcall
    have Hcall := Lib.hid hcall; have Hw2 := Lib.hid hw2
    clear hcall hw2 hg hg' hm hr hrl hn hL
    go_enter Tryz.func86, Tryz.ntmps86
    go_wp2_with fail
    refine Hcall.out.mono ?_
    rintro e w3 ⟨rfl, hb3⟩
    rw [← Hw2.out] at hb3
    have hb3' := hb2.trans (hb3.mono hb2.size)
    have ho3 := ho2.below hb3
    clear hb3 hb2 ho2 Hcall Hw2
    go_wp2_with fail
    refine (impl_places_nil w3).mono ?_
    rintro e w4 ⟨bM, rfl, hb4⟩
    have hB4 := hb3'.trans (hb4.mono hb3'.size)
    have ho4 := ho3.below hb4
    clear hb4 hb3' ho3
    go_wp2_with fail
    go_loopw [3, 17] (fun ov jv wr => jv = .int .i64 0 ∧ ov = (Value.slice (some ⟨w.heap.size, 0, none⟩) 0 0) ∧ wr = w4) (fun _ _ _ => 0)
    case atStart => exact ⟨rfl, rfl, rfl⟩
    case round =>
      obtain ⟨rfl, rfl, rfl⟩ := hrel
      go_wp2
      go_ret
      exact ⟨w.heap.size, 0, [], rfl, rfl, ho4, hB4⟩
set_option maxHeartbeats 1000000 in
theorem impl_ElementsOf_any (gc oc n cc : Nat) (c : List (List Int)) (w : World) (hn : c.length = n) (hx : c.length ≤ 1048576) (hrl : ∀ j, j < c.length → (c.getD j []).length ≤ 1048576) (hgc : gc < w.heap.size) (hr : Rows2 w gc oc c) (hm : MaxL w) :
    Calls Tryz.prog 61 #[(Value.slice (some ⟨gc, oc, none⟩) n cc)] w (GotRowsB w (elA c) (grpB c)) := by
  by_cases hg : grpB c = true
  · rw [hg, show elA c = elemL c from if_pos hg]
    exact impl_ElementsOf_ok gc oc n cc c w hn (grp_B hg) hgc hr hm
  · have hg' : grpB c = false := by simpa using hg
    rw [hg', show elA c = [] from if_neg hg]
    have Hcall := Lib.hid (impl_elements_no gc oc n cc c w hn hx hrl hg' hgc hr hm)
    clear hg hg' hm hr hrl hn
    have hnil : ∀ (W : World), (binOp .eql 24 (.slice none 0 0) (.slice none 0 0)).run Tryz.prog W = .ok (.bool true) W := fun W => by first | exact Lib.run_eql_slice_nil W 24 25 _ _ _ _ _ Tryz.underlying24 | kernel_rfl
    go_enter Tryz.func61, Tryz.ntmps61
    go_wp2_with fail
    refine Hcall.out.mono ?_
    rintro e w3 ⟨rfl, hb3⟩
    have ho := (OwnRows.empty (w := w3) (Nat.le_refl _)).mono hb3.size
    have hbx := hb3.alloc hb3.size (.cells #[] 25)
    go_wp2_with fail
    go_ret2
    exact ⟨w3.heap.size, 0, [], rfl, rfl, ho, hbx⟩
end Go.Proofs.YtdedkfbiookofaaGreatDoor
