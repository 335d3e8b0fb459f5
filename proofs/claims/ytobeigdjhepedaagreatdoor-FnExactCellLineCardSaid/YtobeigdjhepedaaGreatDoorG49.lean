/- What arrows reach, by the program: contract. -/
import Derived.Test.YtobeigdjhepedaaGreatDoorG48
import Derived.Test.YtobeigdjhepedaaGreatDoorG36
import Derived.Deep.RegionLaw
import Derived.Deep.CutRange
import Derived.Deep.CutBlock
namespace Go.Proofs.YtobeigdjhepedaaGreatDoor
set_option maxRecDepth 100000
open Go.RowKit Game

def endsOf (A : List Arr) (t i : Nat) : List Nat := ((A.take t).filter fun a => decide (a.1 = i)).map fun a => a.2.1
theorem endsOf_succ {A : List Arr} {t : Nat} (h : t < A.length) (i : Nat) : endsOf A (t + 1) i = if A[t].1 = i then endsOf A t i ++ [A[t].2.1] else endsOf A t i := by
  unfold endsOf
  rw [List.take_succ_eq_append_getElem h, List.filter_append, List.map_append]
  by_cases e : A[t].1 = i
  · rw [if_pos e]; simp [e]
  · rw [if_neg e]; simp [e]
theorem endsOf_len (A : List Arr) (t i : Nat) : (endsOf A t i).length ≤ A.length := by
  unfold endsOf; rw [List.length_map]; exact Nat.le_trans (List.length_filter_le _ _) (by rw [List.length_take]; omega)
def visitQ (s : Bq) (j : Nat) : Bq := if s.1.getD j false = false then (s.1.set j true, s.2 ++ [j]) else s
theorem fold_visit (q : Nat) : ∀ (A : List Arr) (s : Bq), A.foldl (bfsStep q) s = ((A.filter fun a => decide (a.1 = q)).map fun a => a.2.1).foldl visitQ s
  | [], _ => rfl
  | a :: A, s => by
    rw [List.foldl_cons, fold_visit q A]
    by_cases e : a.1 = q
    · rw [List.filter_cons_of_pos (by simpa using e), List.map_cons, List.foldl_cons]
      congr 1
      unfold bfsStep visitQ
      by_cases h : s.1.getD a.2.1 false = false
      · rw [if_pos ⟨e, h⟩, if_pos h]
      · rw [if_neg (fun x => h x.2), if_neg h]
    · rw [List.filter_cons_of_neg (by simpa using e)]
      congr 1
      exact bfsStep_no1 e
theorem fold_ends (A : List Arr) (q : Nat) (s : Bq) : A.foldl (bfsStep q) s = (endsOf A A.length q).foldl visitQ s := by
  rw [fold_visit]; unfold endsOf; rw [List.take_length]
structure NxT (w : World) (B g N : Nat) (f : Nat → List Nat) (vs : List Value) : Prop where
  out : OwnV w B 28 g N vs
  len : vs.length = N
  row : ∀ i, i < N → w.ownsRow B 3 1 (vs.getD i undef) (f i).length ((f i).map fun x : Nat => Value.int .i64 (x : Int))
  apart : ∀ i j b, i < N → j < N → i ≠ j → (vs.getD i undef).ownBlock = some b → (vs.getD j undef).ownBlock ≠ some b
theorem own_block_lt {w : World} {B n : Nat} {E : TypeId} {v : Value} {xs : List Value} (h : w.ownsRow B E 1 v n xs) {b : Nat} (hb : v.ownBlock = some b) : B ≤ b ∧ b < w.heap.size ∧ ∃ cur, w.heap[b]? = some (.cells cur E (0, 0)) := by
  rcases h.2 with ⟨h1, -⟩ | ⟨g', cap, cur, h1, h2, h3, -⟩
  · rw [h1] at hb; simp [Value.ownBlock] at hb
  · rw [h1] at hb
    simp only [Value.ownBlock, Option.some.injEq] at hb
    subst hb
    exact ⟨h2, lt_of_block h3, cur, h3⟩
theorem own_row_below {w w' : World} {B n : Nat} {E : TypeId} {v : Value} {xs : List Value} (h : w.ownsRow B E 1 v n xs) (hb : Below w.heap.size w w') : w'.ownsRow B E 1 v n xs := by
  refine ⟨h.1, ?_⟩
  rcases h.2 with ⟨h1, h2⟩ | ⟨g, cap, cur, rfl, h2, h3, r⟩
  · exact .inl ⟨h1, h2⟩
  · exact .inr ⟨g, cap, cur, rfl, h2, (hb.block g (lt_of_block h3)).trans h3, r⟩
theorem NxT.below {w w' : World} {B g N : Nat} {f : Nat → List Nat} {vs : List Value} (h : NxT w B g N f vs) (hb : Below w.heap.size w w') : NxT w' B g N f vs :=
  ⟨h.out.below hb h.out.lt, h.len, fun i hi => own_row_below (h.row i hi) hb, h.apart⟩
theorem infoInt1 : (Tryz.prog.info? 3).map (fun i => (i.zero, i.size, i.bytes)) = some (some (.int .i64 0), 1, 8) := by kernel_rfl

theorem NxT.read {w : World} {B g N i : Nat} {f : Nat → List Nat} {vs : List Value} (h : NxT w B g N f vs) (hi : i < N) :
    ∃ A0 ci, w.cell? ⟨g, i, none⟩ = some (.slice A0 (f i).length ci) ∧ ∀ x, x < (f i).length → ∃ gi, A0 = some ⟨gi, 0, none⟩ ∧ gi < w.heap.size ∧ w.cell? ⟨gi, x, none⟩ = some (.int .i64 ((f i).getD x 0 : Nat)) := by
  have hc := h.out.cell i (by rw [h.len]; exact hi)
  rw [show vs[i]'(by rw [h.len]; exact hi) = vs.getD i undef by simp [List.getD, h.len, hi]] at hc
  have hr := h.row i hi
  rcases hr.2 with ⟨h1, h2⟩ | ⟨gi, ci, cur, h1, h2, h3, -⟩
  · rw [h1] at hc
    exact ⟨none, 0, by rw [h2]; exact hc, fun x hx => by omega⟩
  · rw [h1] at hc hr
    refine ⟨some ⟨gi, 0, none⟩, ci, hc, fun x hx => ⟨gi, rfl, lt_of_block h3, ?_⟩⟩
    have hk : OwnK w B 3 1 gi ci (f i).length ((f i).map fun x : Nat => Value.int .i64 (x : Int)) := hr
    have := hk.cell x (by simpa using hx)
    rw [this]; simp [List.getD, hx]
theorem visitQ_ok {N j : Nat} {s : Bq} (h : BfOk N s) (hj : j < N) : BfOk N (visitQ s j) := by
  unfold visitQ
  by_cases e : s.1.getD j false = false
  · rw [if_pos e]; exact h.add hj e
  · rw [if_neg e]; exact h
theorem visitQ_head {k j : Nat} {s : Bq} (h : k < s.2.length) : k < (visitQ s j).2.length := by
  unfold visitQ
  split
  · simp; omega
  · exact h
theorem ends_in {A : List Arr} {N t i : Nat} (h : ArrIn A N) : ∀ x, x < (endsOf A t i).length → (endsOf A t i).getD x 0 < N := fun x hx => by
  have hm : (endsOf A t i).getD x 0 ∈ endsOf A t i := by simp [List.getD, hx]
  unfold endsOf at hm
  obtain ⟨a, ha, e⟩ := List.mem_map.1 hm
  unfold endsOf
  rw [← e]
  exact (h a (List.mem_of_mem_take (List.mem_filter.1 ha).1)).2
theorem step_append_M {S E : TypeId} {z : Value} {by' : Nat} (hinfo : (Tryz.prog.info? E).map (fun i => (i.zero, i.size, i.bytes)) = some (some z, 1, by')) (hu : Tryz.prog.underlying S = some (.slice E)) (hzs : z.cells.size = 1) (hby : by' ≤ 1024)
    {ops : Array Oper} {o : Oper} {a : Act} {K : Act → World → Prop} {Q : Exit → Act → World → Prop} {EE : Prop} (hgd : o.guard = none) (s x : Operand)
    (ho : o.op = .call { callee := .builtin .append, args := #[s, x], argTypes := #[S, S] })
    (B n : Nat) (val : Value) (vs : List Value) (h0 c2 : Nat) (v : Value) (hv : v.oneCell' = true) (W : World) (hB : B ≤ W.heap.size) (hown : W.ownsRow B E 1 val n vs) (hcell : W.cell? ⟨h0, 0, none⟩ = some v)
    (hs : a.eval s = val) (hx : a.eval x = .slice (some ⟨h0, 0, none⟩) 1 c2) (hlen : n + 1 ≤ 1048576)
    (h : ∀ g' cap' w', OwnV w' B E g' cap' (vs ++ [v]) → W.grownBy w' val.ownBlock → (val.ownBlock = some g' ∨ W.heap.size ≤ g') → K (a.put o.dst (Value.slice (some ⟨g', 0, none⟩) (n + 1) cap')) w') :
    if Region.wanted o (yielded ops a.tmps) = true then Oper.wp Tryz.prog o a W K Q else EE := by
  have hvl : vs.length = n := by have := hown.1; omega
  rcases hown.2 with ⟨rfl, rfl⟩ | ⟨g1, cap1, cur, rfl, h2, h3, h4⟩
  · obtain rfl : vs = [] := List.length_eq_zero_iff.1 hvl
    exact step_append_N hinfo hu hzs hby hgd s x ho W.heap.size 0 (.slice none 0 0) [] h0 0 c2 v hv W (Nat.le_refl _) ⟨rfl, .inl ⟨rfl, rfl⟩⟩ hcell hs hx hlen (fun g' cap' w' k1 k2 => h g' cap' w' (k1.mono hB) k2 (.inr k1.base))
  · have hw : Region.wanted o (yielded ops a.tmps) = true := by simp [Region.wanted, hgd]
    rw [if_pos hw]
    have hk : OwnK W B E 1 g1 cap1 n vs := hown
    obtain ⟨g', cap', w', hrun, k1, k2, k3⟩ := run_append_K hinfo hu hzs (by decide) hby hk h0 0 1 c2 [v] rfl
      (fun j u hj => by
        have hj' : j = 0 := by have := (List.getElem?_eq_some_iff.1 hj).1; simp at this; exact this
        subst hj'
        simp only [List.getElem?_cons_zero, Option.some.injEq] at hj
        subst hj
        exact hcell) (fun u hu => by rw [List.mem_singleton] at hu; rw [hu]; exact hv) hlen o.type
    unfold Oper.wp execOp
    simp only [ho, resolve, invoke, builtin, Sem.run_bind, Sem.run_pure, Result.andThen_ok, List.map_toArray, List.map_cons, List.map_nil, hs, hx, hrun]
    refine h g' cap' w' ?_ k2 ?_
    · unfold OwnV
      have e : (vs ++ [v]).length = n + 1 := by rw [List.length_append, hvl]; rfl
      rw [e]; exact k1
    · rcases k3 with rfl | rfl
      · exact .inl rfl
      · exact .inr (Nat.le_refl _)
theorem NxT.push {wr W w' : World} {B g N i x g' c' : Nat} {f f' : Nat → List Nat} {vs : List Value} (h : NxT wr B g N f vs) (hb : Below wr.heap.size wr W) (hi : i < N)
    (hf : ∀ j, f' j = if i = j then f j ++ [x] else f j)
    (ho : OwnV w' B 3 g' c' ((f i).map (fun x : Nat => Value.int .i64 (x : Int)) ++ [.int .i64 (x : Int)])) (hg : W.grownBy w' (vs.getD i undef).ownBlock) (hor : (vs.getD i undef).ownBlock = some g' ∨ W.heap.size ≤ g') :
    NxT (w'.setCell ⟨g, i, none⟩ (Value.slice (some ⟨g', 0, none⟩) ((f i).length + 1) c')) B g N f' (vs.set i (Value.slice (some ⟨g', 0, none⟩) ((f i).length + 1) c')) := by
  have hh := h.below hb
  have hgne : some g ≠ (vs.getD i undef).ownBlock := fun e => by
    obtain ⟨-, -, cur, h3⟩ := own_block_lt (hh.row i hi) e.symm
    obtain ⟨cur2, h4, -⟩ := hh.out.row
    rw [h3] at h4; simp at h4
  have hout := hh.out.grown hg hgne
  have hset := (hout.set i (Value.slice (some ⟨g', 0, none⟩) ((f i).length + 1) c')).1
  have hgo : g ≠ g' := fun e => hout.ne ho (by decide) e
  have hl : vs.length = N := h.len
  have hblk : ∀ b, b ≠ g → (w'.setCell ⟨g, i, none⟩ (Value.slice (some ⟨g', 0, none⟩) ((f i).length + 1) c')).heap[b]? = w'.heap[b]? := fun b hb => Below.heap_setCell _ _ _ _ hb
  have hself : (vs.set i (Value.slice (some ⟨g', 0, none⟩) ((f i).length + 1) c')).getD i undef = (Value.slice (some ⟨g', 0, none⟩) ((f i).length + 1) c') := by simp [List.getD, hl, hi]
  have hoth : ∀ j, j ≠ i → (vs.set i (Value.slice (some ⟨g', 0, none⟩) ((f i).length + 1) c')).getD j undef = vs.getD j undef := fun j hj => by
    simp only [List.getD]; rw [List.getElem?_set_ne (Ne.symm hj)]
  refine ⟨hset, by rw [List.length_set]; exact hl, fun j hj => ?_, fun j k b hj hk hjk hb1 => ?_⟩
  · by_cases e : j = i
    · subst e
      rw [hself, hf j, if_pos rfl, List.length_append]
      have h1 := ho
      unfold OwnV at h1
      rw [List.length_append, List.length_map] at h1
      rw [List.map_append]
      exact own_row_same h1 (fun b hb => hblk b (by simp only [Value.ownBlock, Option.some.injEq] at hb; subst hb; exact Ne.symm hgo))
    · rw [hoth j e, hf j, if_neg (Ne.symm e)]
      refine own_row_same (hh.row j hj) (fun b hb => ?_)
      obtain ⟨-, h2, cur, h3⟩ := own_block_lt (hh.row j hj) hb
      have hbg : b ≠ g := fun e2 => by
        subst e2
        obtain ⟨cur2, h4, -⟩ := hh.out.row
        rw [h3] at h4; simp at h4
      rw [hblk b hbg]
      exact hg.block b h2 (fun e2 => h.apart j i b hj hi e hb e2.symm)
  · by_cases e : j = i
    · subst e
      rw [hself] at hb1
      simp only [Value.ownBlock, Option.some.injEq] at hb1
      subst hb1
      rw [hoth k (Ne.symm hjk)]
      intro hb2
      rcases hor with h1 | h1
      · exact h.apart j k _ hj hk hjk h1 hb2
      · obtain ⟨-, h2, -⟩ := own_block_lt (hh.row k hk) hb2
        omega
    · rw [hoth j e] at hb1
      by_cases e2 : k = i
      · subst e2
        rw [hself]
        intro hb2
        simp only [Value.ownBlock, Option.some.injEq] at hb2
        subst hb2
        rcases hor with h1 | h1
        · exact h.apart j k _ hj hk hjk hb1 h1
        · obtain ⟨-, h2, -⟩ := own_block_lt (hh.row j hj) hb1
          omega
      · rw [hoth k e2]
        exact h.apart j k b hj hk hjk hb1

set_option maxRecDepth 100000 in
set_option maxHeartbeats 4000000 in
theorem impl_reach_ok (ga ca na N B : Nat) (A : List Arr) (w : World) (hna : A.length = na) (hN : N ≤ 24) (hl : na ≤ 1000) (hin : ArrIn A N) (hA : OwnArr w B ga ca A) :
    Calls Tryz.prog 46 #[.int .i64 (N : Int), (Value.slice (some ⟨ga, 0, none⟩) na ca)] w (fun e w' => ∃ g cap rr, e = .returned (Value.slice (some ⟨g, 0, none⟩) N cap) ∧ contB rr = matB A N ∧ OwnBR w' w.heap.size g cap rr ∧ Below w.heap.size w w') := by
  have Hna := Lib.hid hna; have Hin := Lib.hid hin
  have hga := hA.lt
  have HA := Lib.hid (fun (W : World) (h : Below w.heap.size w W) (i : Nat) (hi : i < A.length) => (hA.below h hA.lt).cell hi)
  clear hna hin hA
  go_enter Tryz.func46, Tryz.ntmps46
  go_wp2_with (at_make; refine wpList_make_rows rfl _ _ rfl w.heap.size N _ rfl rfl rfl (by omega) (Nat.le_refl _) ?_)
  intro w1 hown1 hgr1
  have hB1 : Below w.heap.size w w1 := below_of_grown hgr1
  have hT1 : NxT w1 w.heap.size w.heap.size N (endsOf A 0) (List.replicate N (.slice none 0 0)) := by
    have hv : ∀ i, i < N → (List.replicate N (Value.slice none 0 0)).getD i undef = .slice none 0 0 := fun i hi => by simp [List.getD, hi]
    exact ⟨hown1, by simp, fun i hi => by rw [hv i hi]; exact ⟨rfl, .inl ⟨rfl, rfl⟩⟩, fun i j b hi hj _ h => by rw [hv i hi] at h; simp [Value.ownBlock] at h⟩
  clear hown1 hgr1
  go_wp2_with fail
  go_loopw [7, 19] (fun _ iv wr => ∃ (t : Nat) (vs : List Value), t ≤ na ∧ iv = .int .i64 (t : Nat) ∧ Hid (NxT wr w.heap.size w.heap.size N (endsOf A t) vs) ∧ Below w.heap.size w wr) (fun _ iv _ => na - (intOf iv).toNat)
  case atStart => exact ⟨0, _, Nat.zero_le _, rfl, Lib.hid hT1, hB1⟩
  case round =>
    clear hT1 hB1
    obtain ⟨t, vs, ht, rfl, hT, hb⟩ := hrel
    by_cases hlt : t < na
    · have hta : t < A.length := by rw [Hna.out]; exact hlt
      obtain ⟨c0, c1, c2⟩ := HA.out wr hb t hta
      obtain ⟨hi1, hi2⟩ := Hin.out A[t] (List.getElem_mem hta)
      have hsu := fun i => endsOf_succ hta i
      generalize A[t] = a at *
      obtain ⟨a1, a2, a3⟩ := a
      dsimp only at *
      go_wp2_with fail
      have hb5 : Below wr.heap.size wr (wr.alloc (.cells #[.int .i64 (a1 : Int), .int .i64 (a2 : Int), .int .i64 a3] 76)) := (by repeat (first | with_reducible exact Below.refl _ _ | with_reducible assumption | with_reducible refine below_drewN ?_ _ | with_reducible refine Below.drew ?_ | (with_reducible refine Below.alloc ?_ ?_ _; rotate_left; · first | (simp; done) | (simp; omega) | exact Below.size (by assumption) | (have hsz := Below.size (by assumption : Below _ _ _); simp at hsz ⊢; omega)) | (with_reducible refine Below.setCell ?_ ?_ _; rotate_left; · first | (simp; done) | (simp; omega))))
      have hnewb := heap_alloc_new wr (.cells #[.int .i64 (a1 : Int), .int .i64 (a2 : Int), .int .i64 a3] 76)
      have d0 := cell_of_cells hnewb 0
      have d1 := cell_of_cells hnewb 1
      have hsz5 : (wr.alloc (.cells #[.int .i64 (a1 : Int), .int .i64 (a2 : Int), .int .i64 a3] 76)).heap.size = wr.heap.size + 1 := by simp
      generalize wr.alloc (.cells #[.int .i64 (a1 : Int), .int .i64 (a2 : Int), .int .i64 a3] 76) = w5 at *
      simp only [List.getElem?_toArray, List.getElem?_cons_zero, List.getElem?_cons_succ] at d0 d1
      have hT5 := hT.out.below hb5
      have hrow := hT5.out.cell a1 (by rw [hT5.len]; exact hi1)
      have hfro := hT5.out.frozen a1
      rw [show vs[a1]'(by rw [hT5.len]; exact hi1) = vs.getD a1 undef by simp [List.getD, hT5.len, hi1]] at hrow
      have hown := hT5.row a1 hi1
      have hsz0 : w.heap.size ≤ w5.heap.size := by have := hb.size; omega
      have hvb : ∀ b, (vs.getD a1 undef).ownBlock = some b → b ≠ w.heap.size ∧ b < wr.heap.size := fun b hb' => by
        obtain ⟨-, h2, cur, h3⟩ := own_block_lt (hT.out.row a1 hi1) hb'
        refine ⟨fun e => ?_, h2⟩
        subst e
        obtain ⟨cur2, h4, -⟩ := hT.out.out.row
        rw [h3] at h4; simp at h4
      have hfl := endsOf_len A t a1
      have hpush := fun (W w' : World) (g' c' : Nat) (h1 : Below w5.heap.size w5 W) h2 h3 h4 => NxT.push (f' := endsOf A (t + 1)) (x := a2) (g' := g') (c' := c') (W := W) (w' := w') hT5 h1 hi1 hsu h2 h3 h4
      generalize vs.getD a1 undef = v at *
      have hlf : (endsOf A t a1).length ≤ 1000 := by have := Hna.out; omega
      generalize hfa : (endsOf A t a1).length = lf at *
      have hx1 : ∀ o, (w5.alloc o).cell? ⟨wr.heap.size, 0, none⟩ = some (.int .i64 (a1 : Int)) := fun o => (World.cell?_of_block (a := ⟨wr.heap.size, 0, none⟩) (Below.heap_alloc _ _ _ (by show wr.heap.size < _; omega))).trans d0
      have hx2 : ∀ o, (w5.alloc o).cell? ⟨wr.heap.size, 1, none⟩ = some (.int .i64 (a2 : Int)) := fun o => (World.cell?_of_block (a := ⟨wr.heap.size, 1, none⟩) (Below.heap_alloc _ _ _ (by show wr.heap.size < _; omega))).trans d1
      have hx3 : ∀ o, (w5.alloc o).cell? ⟨w.heap.size, a1, none⟩ = some v := fun o => (World.cell?_of_block (a := ⟨w.heap.size, a1, none⟩) (Below.heap_alloc _ _ _ hT5.out.lt)).trans hrow
      have hfr3 : ∀ o, (w5.alloc o).frozen? ⟨w.heap.size, a1, none⟩ = false := fun o => (hT5.out.alloc o).frozen a1
      have FO : ∀ o, (w5.alloc o).drew.ownsRow w.heap.size 3 1 v lf ((endsOf A t a1).map fun x : Nat => Value.int .i64 (x : Int)) := fun o => own_row_below (w' := (w5.alloc o).drew) hown ((Below.drew ((Below.refl _ _).alloc (Nat.le_refl _) _)))
      have FB : ∀ o, w.heap.size ≤ (w5.alloc o).drew.heap.size := fun o => by show _ ≤ (w5.alloc o).heap.size; simp; omega
      have FC : (w5.alloc (.cells #[.int .i64 (a2 : Int)] 3)).drew.cell? ⟨w5.heap.size, 0, none⟩ = some (.int .i64 (a2 : Int)) := cell_of_cells (heap_alloc_new w5 _) 0
      have F3 : ∀ o wB, (w5.alloc o).drew.grownBy wB v.ownBlock → wB.cell? ⟨wr.heap.size, 0, none⟩ = some (.int .i64 (a1 : Int)) ∧ wB.cell? ⟨w.heap.size, a1, none⟩ = some v ∧ wB.frozen? ⟨w.heap.size, a1, none⟩ = false := fun o wB hg => by
        have e1 : wB.heap[wr.heap.size]? = (w5.alloc o).heap[wr.heap.size]? := hg.block _ (by show _ < (w5.alloc o).heap.size; simp; omega) (fun e => by have := (hvb _ e.symm).2; omega)
        have e2 : wB.heap[w.heap.size]? = (w5.alloc o).heap[w.heap.size]? := hg.block _ (by have := hT5.out.lt; show _ < (w5.alloc o).heap.size; simp; omega) (fun e => (hvb _ e.symm).1 rfl)
        refine ⟨(World.cell?_of_block (a := ⟨wr.heap.size, 0, none⟩) e1).trans (hx1 o), (World.cell?_of_block (a := ⟨w.heap.size, a1, none⟩) e2).trans (hx3 o), ?_⟩
        have h1 : OwnV wB w.heap.size 28 w.heap.size N vs := (hT5.out.alloc o).same e2
        exact h1.frozen a1
      have Hvb := Lib.hid (fun b (hb' : v.ownBlock = some b) => (own_block_lt hown hb').1)
      have HFO := Lib.hid FO; have HFB := Lib.hid FB; have HFC := Lib.hid FC; have HF3 := Lib.hid F3; have Hpush := Lib.hid hpush; have Hfa := Lib.hid hfa
      have Hsz5 := Lib.hid hsz5
      clear FO FB FC F3 hpush hown hsu hvb hfa hT5 hsz5
      have hb5w := hb.trans (hb5.mono hb.size)
      have hb5w' := Lib.hid hb5w
      clear hb5w
      go_region_law (refine step_append_M infoInt1 Tryz.underlying28 (by rfl) (by decide) (by rfl) _ _ (by rfl) w.heap.size lf v ((endsOf A t a1).map fun x : Nat => Value.int .i64 (x : Int)) w5.heap.size 1 (.int .i64 (a2 : Int)) (by rfl) _ (by exact HFB.out _) (by exact HFO.out _) (by exact HFC.out) (by rfl) (by rfl) (by omega) ?_; intro gB cB wB hoB hgB horB; obtain ⟨y1, y2, y3⟩ := HF3.out _ _ hgB)
      all_goals (
        have hWb : Below w5.heap.size w5 (w5.alloc (.cells #[.int .i64 (a2 : Int)] 3)).drew := Below.drew ((Below.refl _ _).alloc (Nat.le_refl _) _)
        have hpu := Hpush.out _ _ gB cB hWb hoB hgB horB
        have hb5w := hb5w'.out
        have hsw : w.heap.size ≤ w5.heap.size := by have := hb5w.size; omega
        have hbB : Below w.heap.size w wB := (hb5w.trans (hWb.mono hb5w.size)).grown hgB (by have := hWb.size; omega) (by intro t ht; exact (Hvb.out t ht))
        have hbC : Below w.heap.size w (wB.setCell ⟨w.heap.size, a1, none⟩ (Value.slice (some ⟨gB, 0, none⟩) (lf + 1) cB)) := hbB.setCell (Nat.le_refl _) _
        have Hpu := Lib.hid hpu
        clear hpu hbB hsw hWb hb5w y1 y2 y3 hoB hgB horB
        go_wp2_with fail
        go_roundw
        case rel => exact ⟨t + 1, _, by omega, by go_num, Hpu, hbC⟩
        case measure => simp [intOf]; omega)
    · obtain rfl : t = na := by omega
      have hT := hT.out
      have hfold := fun q s => fold_ends A q s
      rw [Hna.out] at hfold
      have hein := fun i => ends_in (t := t) (i := i) Hin.out
      have Hfold := Lib.hid hfold; have Hein := Lib.hid hein
      have HT := Lib.hid (fun (W : World) (h : Below wr.heap.size wr W) (i : Nat) (hi : i < N) => (hT.below h).read hi)
      have hgN := hT.out.lt
      have hel := fun i => endsOf_len A t i
      rw [Hna.out] at hel
      have Hel := Lib.hid hel
      clear hT hfold hein hel HA
      generalize endsOf A t = R at *
      obtain ⟨w3, hw3⟩ : ∃ w3, w3 = wr.alloc (.cells #[] 49) := ⟨_, rfl⟩
      have hR3 : OwnBR w3 wr.heap.size wr.heap.size 0 [] := by rw [hw3]; exact OwnBR.empty (Nat.le_refl _)
      have hb3 : Below wr.heap.size wr w3 := by rw [hw3]; exact (Below.refl _ _).alloc (Nat.le_refl _) _
      go_wp2_with fail
      rw [← hw3]
      clear hw3
      generalize wr = wN at *
      go_loopw [8, 9, 10, 11, 12, 14, 39] (fun ov _ _ _ _ _ iv wr => ∃ (i g ca : Nat) (rr : List BRef), i ≤ N ∧ iv = .int .i64 (i : Nat) ∧ ov = (Value.slice (some ⟨g, 0, none⟩) i ca) ∧ Hid (rr.length = i) ∧ Hid (contB rr = (List.range i).map (bfs A N)) ∧ OwnBR wr wN.heap.size g ca rr ∧ Below wN.heap.size wN wr) (fun _ _ _ _ _ _ iv _ => N - (intOf iv).toNat)
      case atStart => exact ⟨0, wN.heap.size, 0, [], Nat.zero_le _, rfl, rfl, rfl, rfl, hR3, hb3⟩
      case round =>
        clear hR3 hb3
        obtain ⟨i, g, ca, rr, hi, rfl, rfl, hrl, hrc, hR, hb2⟩ := hrel
        by_cases hiN : i < N
        · have hfin : bfs A N i = (bfsGo A (N + 1) 0 ((List.replicate N false).set i true, [i])).1 := rfl
          obtain ⟨FIN, hFIN⟩ : ∃ FIN, bfsGo A (N + 1) 0 ((List.replicate N false).set i true, [i]) = FIN := ⟨_, rfl⟩
          rw [hFIN] at hfin
          have HF := Lib.hid hFIN; have Hfin := Lib.hid hfin
          have hiI : (i : Int) < (N : Int) := by omega
          clear hfin hFIN
          go_wp2_with (at_make; refine wpList_make_bs rfl _ _ rfl wr.heap.size N _ rfl rfl rfl (by omega) (Nat.le_refl _) ?_)
          intro w4 hown4 hgr4
          have hB4 : Below wr.heap.size wr w4 := below_of_grown hgr4
          have q1 := hown4.cell i (by simpa using hiN)
          have f1 := hown4.frozen i
          have hs4 := hown4.set i true
          have hB5 := hB4.grown hs4.2 hB4.size (by intro t ht; cases ht; exact Nat.le_refl _)
          have hos := hs4.1
          have hgs := hown4.lt
          have hszs : (w4.setCell ⟨wr.heap.size, i, none⟩ (.bool true)).heap.size = w4.heap.size := by simp
          generalize (List.replicate N false).getD i false = b0 at q1
          clear hgr4 hs4 hown4 hB4
          go_wp2_with fail
          generalize hw5 : w4.setCell ⟨wr.heap.size, i, none⟩ (.bool true) = w5 at *
          have hoq6 : Own (w5.alloc (.cells #[.int .i64 (i : Int)] 3)) wr.heap.size w4.heap.size 1 (intsOf [i]) := by
            have := Own.new (w := w5) (B := wr.heap.size) (i : Int) (by omega)
            rw [hszs] at this; exact this
          have hos6 := hos.alloc (.cells #[.int .i64 (i : Int)] 3)
          have hB6 : Below wr.heap.size wr (w5.alloc (.cells #[.int .i64 (i : Int)] 3)) := hB5.alloc hB5.size _
          generalize w5.alloc (.cells #[.int .i64 (i : Int)] 3) = w6 at *
          have hst := BfOk.start hiN
          generalize ((List.replicate N false).set i true) = S0 at *
          have Hst := Lib.hid hst
          clear hB5 hos q1 f1 hszs hw5 hst
          generalize wr = wo at *
          generalize hgse : wo.heap.size = gs at *
          go_loopw [11, 12, 14] (fun qv kv _ wr => ∃ (f k gq cq m : Nat) (s : Bq), f + k = N + 1 ∧ kv = .int .i64 (k : Nat) ∧ qv = (Value.slice (some ⟨gq, 0, none⟩) m cq) ∧ Hid (s.2.length = m) ∧ Hid (bfsGo A f k s = FIN) ∧ Hid (BfOk N s) ∧ OwnBs wr gs gs N s.1 ∧ Own wr gs gq cq (intsOf s.2) ∧ gs ≠ gq ∧ Below gs wo wr) (fun _ kv _ _ => N + 1 - (intOf kv).toNat)
          case atStart => exact ⟨N + 1, 0, w4.heap.size, 1, 1, (S0, [i]), by omega, rfl, rfl, rfl, HF.out, Hst.out, hos6, hoq6, by omega, hB6⟩
          case round =>
            clear hos6 hoq6 hB6 Hst
            obtain ⟨f, k, gq, cq, m, s, hfk, rfl, rfl, hsl, hbf, hok, hos, hoq, hne, hB⟩ := hrel
            have hmN : m ≤ N := by have := hok.out.few; have := hsl.out; omega
            by_cases hkm : k < m
            · obtain ⟨f', rfl⟩ : ∃ f', f = f' + 1 := ⟨f - 1, by omega⟩
              have hgo := bfsGo_go (A := A) (f := f') (k := k) (s := s) (by rw [hsl.out]; exact hkm)
              have hg2 := hbf.out
              rw [hgo, Hfold.out] at hg2
              have hq0 : s.2.getD k 0 = s.2.getD k 0 := rfl
              have hqN : s.2.getD k 0 < N := hok.out.pts _ (by have := hsl.out; rw [show s.2.getD k 0 = s.2[k]'(by omega) by simp [List.getD, show k < s.2.length by omega]]; exact List.getElem_mem _)
              have qk := hoq.cell k (by rw [intsOf_length, hsl.out]; exact hkm)
              rw [intsOf_getD _ _ (by rw [hsl.out]; exact hkm)] at qk
              generalize s.2.getD k 0 = q at *
              have hB' : Below wo.heap.size wo wr := by rw [hgse]; exact hB
              obtain ⟨A0, ci, r1, r2⟩ := HT.out wr (hb2.trans (hB'.mono hb2.size)) q hqN
              have hein := Hein.out q
              have hel := Hel.out q
              have hR2' := HT.out
              have hcell := fun (W : World) (h : Below wN.heap.size wN W) (x : Nat) (hx : x < (R q).length) => (HT.out W h q hqN)
              have Hg2 := Lib.hid hg2
              have r2w : ∀ x, x < (R q).length → ∃ gi, A0 = some ⟨gi, 0, none⟩ ∧ gi < wN.heap.size ∧ wN.cell? ⟨gi, x, none⟩ = some (.int .i64 ((R q).getD x 0 : Nat)) := fun x hx => by
                obtain ⟨A1, ci1, k1, k2⟩ := HT.out wN (Below.refl _ _) q hqN
                obtain ⟨gi, e1, e2, e3⟩ := k2 x hx
                have h1 := (hb2.trans (hB'.mono hb2.size)).cell (p := ⟨w.heap.size, q, none⟩) hgN
                rw [r1, k1] at h1
                simp only [Option.some.injEq, Value.slice.injEq] at h1
                exact ⟨gi, by rw [h1.1]; exact e1, e2, e3⟩
              generalize R q = L at *
              obtain ⟨lf, hlf⟩ : ∃ lf, L.length = lf := ⟨_, rfl⟩
              rw [hlf] at r1 r2w hein hel
              have Hlf := Lib.hid hlf; have Hr2 := Lib.hid r2w; have HeL := Lib.hid hein
              have hbk : Hid (BfOk N s) := hok
              have hqI : (q : Int) < (N : Int) := by omega
              clear hgo hg2 hbf hok r2 hcell hR2' hein hlf r2w hq0 hB'
              go_wp2_with fail
              go_loopw [11, 14, 63] (fun qv _ iv wj => ∃ (x gq cq m : Nat) (s' : Bq), x ≤ lf ∧ iv = .int .i64 (x : Nat) ∧ qv = (Value.slice (some ⟨gq, 0, none⟩) m cq) ∧ Hid (s'.2.length = m) ∧ Hid ((L.take x).foldl visitQ s = s') ∧ Hid (BfOk N s') ∧ OwnBs wj gs gs N s'.1 ∧ Own wj gs gq cq (intsOf s'.2) ∧ gs ≠ gq ∧ Below gs wo wj) (fun _ _ iv _ => lf - (intOf iv).toNat)
              case atStart => exact ⟨0, gq, cq, m, s, Nat.zero_le _, rfl, rfl, hsl.out, rfl, hbk.out, hos, hoq, hne, hB⟩
              case round =>
                clear hos hoq hne hB hsl hbk r1 qk
                obtain ⟨x, gq, cq, m, s', hx, rfl, rfl, hsl, hgot, hok, hos, hoq, hne, hB⟩ := hrel
                have hmN' : m ≤ N := by have := hok.out.few; have := hsl.out; omega
                by_cases hxl : x < lf
                · obtain ⟨gi, rfl, hgi, c1⟩ := Hr2.out x hxl
                  have hj := HeL.out x hxl
                  have hB' : Below wo.heap.size wo wr := by rw [hgse]; exact hB
                  have c2 := ((hb2.trans (hB'.mono hb2.size)).cell (p := ⟨gi, x, none⟩) hgi).trans c1
                  have hst : (L.take (x + 1)).foldl visitQ s = visitQ s' (L.getD x 0) := by
                    have hxL : x < L.length := by rw [Hlf.out]; exact hxl
                    rw [List.take_succ_eq_append_getElem hxL, List.foldl_append, hgot.out]
                    simp [List.getD, hxL]
                  have hok2 := visitQ_ok hok.out hj
                  generalize L.getD x 0 = j at *
                  have hsv := hos.cell j (by rw [hok.out.len]; exact hj)
                  have hfj := hos.frozen j
                  have hset := hos.set j true
                  have hvd : visitQ s' j = if s'.1.getD j false = false then (s'.1.set j true, s'.2 ++ [j]) else s' := rfl
                  rw [hvd] at hst hok2
                  generalize s'.1.getD j false = sv at *
                  have hjI : (j : Int) < (N : Int) := by omega
                  have Hset := Lib.hid hset
                  clear hset hvd c1 hB'
                  cases sv with
                  | true =>
                    have Hst2 := Lib.hid (show (L.take (x + 1)).foldl visitQ s = s' from hst)
                    clear hst hok2
                    go_wp2_with fail
                    go_roundw
                    case rel => exact ⟨x + 1, gq, cq, m, s', by omega, by go_num, rfl, hsl.out, Hst2.out, hok.out, hos, hoq, hne, hB⟩
                    case measure => simp [intOf]; omega
                  | false =>
                    have Hst2 := Lib.hid (show (L.take (x + 1)).foldl visitQ s = (s'.1.set j true, s'.2 ++ [j]) from hst)
                    have Hok2 := Lib.hid (show BfOk N (s'.1.set j true, s'.2 ++ [j]) from hok2)
                    obtain ⟨hos5, hgr5⟩ := Hset.out
                    have hoq5 := hoq.grown hgr5 (by intro e; cases e; exact hne rfl)
                    have hgl0 := hos.lt
                    have hB5 := hB.grown hgr5 (by omega) (by intro t ht; cases ht; exact Nat.le_refl _)
                    have hsz5 : (wr.setCell ⟨gs, j, none⟩ (.bool true)).heap.size = wr.heap.size := by simp
                    clear hst hok2 Hset hgr5
                    go_wp2_with (at_builtin; refine wpList_append_int_n (w := wr.setCell ⟨gs, j, none⟩ (.bool true)) rfl _ _ rfl gs gq cq m (intsOf s'.2) (j : Int) (by rw [intsOf_length]; exact hsl.out) hoq5 rfl (by rw [hsz5]; rfl) (by omega) ?_)
                    intro g6 c6 w6' ho6 hg6 hor6
                    have hos6 := hos5.grown hg6 (by intro e; cases e; exact hne rfl)
                    have hB6 := hB5.grown hg6 (by omega) (by intro t ht; cases ht; exact hoq5.base)
                    have hne6 : gs ≠ g6 := by
                      rcases hor6 with rfl | q
                      · exact hne
                      · omega
                    have ho6' : Own w6' gs g6 c6 (intsOf (s'.2 ++ [j])) := by
                      have e : intsOf (s'.2 ++ [j]) = intsOf s'.2 ++ [(j : Int)] := by simp [intsOf]
                      rw [e]; exact ho6
                    have hl6 : Hid ((s'.2 ++ [j]).length = m + 1) := Lib.hid (by rw [List.length_append, hsl.out]; rfl)
                    clear hos5 hoq5 hB5 ho6 hg6 hor6 c2 hos hoq hB
                    go_wp2_with fail
                    go_roundw
                    case rel => exact ⟨x + 1, g6, c6, m + 1, (s'.1.set j true, s'.2 ++ [j]), by omega, by go_num, rfl, hl6.out, Hst2.out, Hok2.out, hos6, ho6', hne6, hB6⟩
                    case measure => simp [intOf]; omega
                · obtain rfl : x = lf := by omega
                  have hend : L.foldl visitQ s = s' := by
                    have := hgot.out
                    rw [← Hlf.out, List.take_length] at this; exact this
                  have Hgg : Hid (bfsGo A f' (k + 1) s' = FIN) := by have := Hg2.out; rw [hend] at this; exact this
                  clear hgot hend
                  go_wp2_with fail
                  go_roundw
                  case rel => exact ⟨f', k + 1, gq, cq, m, s', by omega, by go_num, rfl, hsl.out, Hgg.out, hok.out, hos, hoq, hne, hB⟩
                  case measure => simp [intOf]; omega
            · have hend : s = FIN := by rw [← hbf.out, bfsGo_end (by rw [hsl.out]; exact hkm)]
              have hlen := hok.out.len
              subst hend
              have hkI : ¬ (k : Int) < (m : Int) := by omega
              have hB' : Below wo.heap.size wo wr := by rw [hgse]; exact hB
              have hR5 := hR.below hB'
              have hB5 := hb2.trans (hB'.mono hb2.size)
              have hos5 := OwnBs.mono hos (show wN.heap.size ≤ gs by rw [← hgse]; exact hb2.size)
              have hcs : (List.range (i + 1)).map (bfs A N) = (List.range i).map (bfs A N) ++ [s.1] := by rw [List.range_succ, List.map_append, List.map_singleton, Hfin.out]
              have hl5 : Hid ((rr ++ [(gs, N, s.1)]).length = i + 1) := Lib.hid (by rw [List.length_append, hrl.out]; rfl)
              have hc5 : Hid (contB (rr ++ [(gs, N, s.1)]) = (List.range (i + 1)).map (bfs A N)) := Lib.hid (by rw [contB_append, hrc.out, hcs]; rfl)
              have HV : Hid (brVal (gs, N, s.1) = (Value.slice (some ⟨gs, 0, none⟩) N N)) := Lib.hid (by unfold brVal; rw [hlen])
              clear hcs hlen hB' hR hos hoq hB
              go_wp2_with (at_builtin; refine wpList_append_br (w := wr) rfl _ _ rfl wN.heap.size g ca i wr.heap.size rr (gs, N, s.1) _ hrl.out (by rw [HV.out]) rfl hR5 hos5 rfl rfl (by omega) ?_)
              intro g7 c7 w7 hR7 hg7 hor7
              have hB7 := hB5.grown hg7 hB5.size (by intro t ht; cases ht; exact hR5.base)
              clear hR5 hos5 hB5 hg7 hor7
              go_wp2_with fail
              go_roundw
              case rel => exact ⟨i + 1, g7, c7, _, by omega, by go_num, rfl, hl5.out, hc5.out, hR7, hB7⟩
              case measure => simp [intOf]; omega
        · obtain rfl : i = N := by omega
          go_wp2_with fail
          go_ret
          exact ⟨g, ca, rr, rfl, hrc.out, hR.mono hb.size, hb.trans (hb2.mono hb.size)⟩
end Go.Proofs.YtobeigdjhepedaaGreatDoor
