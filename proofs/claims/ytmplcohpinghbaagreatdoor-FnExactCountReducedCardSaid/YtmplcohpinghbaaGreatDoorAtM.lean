/- A map from vectors to their places: words and laws; a list of rows of the call's own that may be nil. -/
import Derived.Test.YtmplcohpinghbaaGreatDoorAutN
import Derived.Test.YtmplcohpinghbaaGreatDoorSeen
import Derived.Maps.OwnSet
namespace Go.Proofs.YtmplcohpinghbaaGreatDoor
open Go.RowKit Game
open Go.Maps (Keyed IsMap has)

theorem idxFrom_snoc_in {v r : List Int} : ∀ {L : List (List Int)} {k : Nat}, v ∈ L → idxFrom (L ++ [r]) v k = idxFrom L v k
  | [], k, h => by simp at h
  | x :: L, k, h => by
    simp only [List.cons_append, idxFrom]
    by_cases e : x = v
    · rw [if_pos e, if_pos e]
    · rw [if_neg e, if_neg e]
      exact idxFrom_snoc_in ((List.mem_cons.1 h).resolve_left (fun g => e g.symm))
theorem idxFrom_snoc_out {r : List Int} : ∀ {L : List (List Int)} {k : Nat}, r ∉ L → idxFrom (L ++ [r]) r k = ((k + L.length : Nat) : Int)
  | [], k, _ => by simp [idxFrom]
  | x :: L, k, h => by
    simp only [List.cons_append, idxFrom]
    rw [if_neg (fun e => h (by rw [e]; simp)), idxFrom_snoc_out (fun g => h (List.mem_cons_of_mem _ g))]
    congr 1
    simp; omega
theorem intZero (w : World) : (zeroValue 3).run Tryz.prog w = .ok (.int .i64 0) w := by kernel_rfl

/-- block b is a map that takes just these vectors of m numbers to their places -/
def AtM (w : World) (b n m : Nat) (L : List (List Int)) : Prop :=
  ∃ D : DataW Unit, w.ownsMap Tryz.prog 59 (plainElem Tryz.prog 3) b n D ∧ IsMap D ∧ ∀ v : List Int, v.length = m → WfV v → has D (keyL v) = decide (v ∈ L) ∧ (v ∈ L → D.atKey (keyL v) (.lit (.int .i64 0)) = .lit (.int .i64 (idxL L v)))
section
variable {w w' : World} {b n m : Nat} {L : List (List Int)}
theorem AtM.start (w : World) (m : Nat) : AtM (w.alloc (.map #[] 0)) w.heap.size 0 m [] :=
  ⟨.map [], World.ownsMap_made _ _ _ _, ⟨[], rfl⟩, fun v _ _ => ⟨by simp [has], fun h => by simp at h⟩⟩
theorem AtM.lt (h : AtM w b n m L) : b < w.heap.size := by obtain ⟨D, h, -⟩ := h; exact h.lt
theorem AtM.same (h : AtM w b n m L) (hs : w'.heap[b]? = w.heap[b]?) : AtM w' b n m L := by
  obtain ⟨D, ⟨es, clock, hh, r⟩, h2⟩ := h
  exact ⟨D, ⟨es, clock, hs.trans hh, r⟩, h2⟩
theorem AtM.below {B : Nat} (h : AtM w b n m L) (hb : Below B w w') (hB : b < B) : AtM w' b n m L := h.same (hb.block b hB)
theorem AtM.still (h : AtM w b n m L) (hs : ∃ k, w' = w.drewN k) : AtM w' b n m L := by obtain ⟨k, rfl⟩ := hs; exact h
theorem AtM.block (h : AtM w b n m L) : ∃ es clock, w.heap[b]? = some (.map es clock) := by
  obtain ⟨D, ⟨es, clock, hh, r⟩, h2⟩ := h
  exact ⟨es, clock, hh⟩
theorem AtM.neOwn {g cap B : Nat} {xs : List Int} (h : AtM w b n m L) (ho : Own w B g cap xs) : b ≠ g := by
  rintro rfl
  obtain ⟨es, clock, hh⟩ := h.block
  obtain ⟨cur, h2, -⟩ := ho.toV.row
  rw [hh] at h2
  simp at h2
theorem AtM.neRows {g cap B : Nat} {rs : List RowRef} (h : AtM w b n m L) (ho : OwnRows w B g cap rs) : b ≠ g := by
  rintro rfl
  obtain ⟨es, clock, hh⟩ := h.block
  obtain ⟨cur, h2, -⟩ := ho.1.row
  rw [hh] at h2
  simp at h2
/-- rows stay as they were where the map turns -/
theorem AtM.rows {g cap B : Nat} {rs : List RowRef} (h : AtM w b n m L) (ho : OwnRows w B g cap rs) (hg : w.grownBy w' (some b)) : OwnRows w' B g cap rs :=
  ⟨ho.1.grown hg (fun e => h.neRows ho (Option.some.inj e).symm), fun r hr => (ho.2.1 r hr).grown hg (fun e => h.neOwn (ho.2.1 r hr) (Option.some.inj e).symm), ho.2.2⟩
/-- 'at[key] = k' -/
theorem wpList_at_put {ops : Array Oper} {rest : List Oper} {o : Oper} {a : Act} {Q : Exit → Act → World → Prop}
    (hg : o.guard = none) (x y z : Operand) (hop : o.op = Op.mapUpdate 57 x y z) (b n m : Nat) (L : List (List Int)) (v : List Int) (hv : v.length = m) (h4 : m ≤ 4) (hw : WfV v) (hL : v ∉ L) (hLn : L.length = n)
    (hown : AtM w b n m L) (hn : n < 1048576) (hx : a.eval x = .map (some b)) (hy : a.eval y = vecVal v) (hz : a.eval z = .int .i64 (n : Int))
    (hK : ∀ w', AtM w' b (n + 1) m (L ++ [v]) → w.grownBy w' (some b) → wpList Tryz.prog ops Q rest (a.put o.dst undef) w') :
    wpList Tryz.prog ops Q (o :: rest) a w := by
  obtain ⟨D, hD, hmap, hat⟩ := hown
  have hwf : (Lit.int .i64 (n : Int)).wf = true := by
    simp [Lit.wf, IntKind.min, IntKind.max, IntKind.signed, IntKind.bits]; omega
  refine wpList_mapUpdate_own w hg x y z _ hop _ _ vecKeyed Tryz.underlying57 _ b n D hx hD (by unfold maxLen; omega) _ _ (keyL v) hy hz (keyOf_vec hw) _ [] (plainElem_int (H := Unit) Tryz.underlying3 hwf) ?_
  intro w' hown' hgr
  refine hK w' ⟨_, hown', ?_, fun u hu hwu => ?_⟩ hgr
  · obtain ⟨es, rfl⟩ := hmap
    exact ⟨_, rfl⟩
  · by_cases e : u = v
    · subst e
      rw [Maps.has_put_same hmap (vecKeyed.key (keyOf_vec hw)), Maps.atKey_put_same hmap (vecKeyed.key (keyOf_vec hw))]
      refine ⟨by simp, fun _ => ?_⟩
      unfold idxL
      rw [idxFrom_snoc_out hL, hLn, Nat.zero_add]
    · have hne : keyL u ≠ keyL v := fun h => e (keyL_inj hwu hw (by omega) (by omega) h)
      rw [Maps.has_put_other hne, Maps.atKey_put_other hne]
      obtain ⟨q1, q2⟩ := hat u hu hwu
      refine ⟨by rw [q1]; simp [e], fun h => ?_⟩
      have h' : u ∈ L := by
        rcases List.mem_append.1 h with g | g
        · exact g
        · rw [List.mem_singleton] at g; exact absurd g e
      rw [q2 h']
      unfold idxL
      rw [idxFrom_snoc_in h']
/-- 'to, is := at[key]' -/
theorem wpList_at_look {ops : Array Oper} {rest : List Oper} {o : Oper} {a : Act} {Q : Exit → Act → World → Prop}
    (hg : o.guard = none) (x y : Operand) (hop : o.op = Op.lookup 57 x y true) (b n m : Nat) (L : List (List Int)) (v : List Int) (hv : v.length = m) (hw : WfV v)
    (hown : AtM w b n m L) (hx : a.eval x = .map (some b)) (hy : a.eval y = vecVal v) (r : Bool) (hr : decide (v ∈ L) = r)
    (hK : ∀ z : Int, (r = true → z = idxL L v) → wpList Tryz.prog ops Q rest (a.put o.dst (.tuple #[.int .i64 z, .bool r])) w) :
    wpList Tryz.prog ops Q (o :: rest) a w := by
  obtain ⟨D, hD, -, hat⟩ := hown
  obtain ⟨q1, q2⟩ := hat v hv hw
  refine wpList_lookup_own_ok_int w hg x y _ hop _ _ .i64 vecKeyed Tryz.underlying57 Tryz.underlying3 (intZero w) b n D hx hD (vecVal v) (keyL v) hy (keyOf_vec hw) ?_
  intro z hz _
  rw [q1, hr]
  refine hK z fun h => ?_
  rw [h] at hr
  have := q2 (of_decide_eq_true hr)
  rw [hz] at this
  simpa using this
end

/-- a list of rows of the call's own: a slice, or nil where there is none -/
def MovV (w : World) (B : Nat) (v : Value) (rs : List RowRef) : Prop := w.ownsRow B 31 1 v rs.length (rs.map rowVal) ∧ Inner w B rs
section
variable {w w' : World} {B : Nat} {v : Value} {rs : List RowRef}
theorem MovV.start (w : World) (B : Nat) : MovV w B (.slice none 0 0) [] := ⟨⟨by simp, .inl ⟨rfl, rfl⟩⟩, by simp, by simp⟩
theorem MovV.rows (h : MovV w B v rs) (h0 : 0 < rs.length) : ∃ g cap, v = (Value.slice (some ⟨g, 0, none⟩) rs.length cap) ∧ OwnRows w B g cap rs := by
  rcases h.1.2 with ⟨-, hn⟩ | ⟨g, cap, cur, rfl, r⟩
  · omega
  · refine ⟨g, cap, rfl, ?_, h.2⟩
    unfold OwnV
    rw [List.length_map]
    exact h.1
theorem MovV.ownLt (h : MovV w B v rs) {k : Nat} (hk : v.ownBlock = some k) : B ≤ k ∧ k < w.heap.size := World.ownsRow.lt h.1 k hk
theorem MovV.below (h : MovV w B v rs) (hb : Below w.heap.size w w') : MovV w' B v rs := by
  refine ⟨World.ownsRow.kept (row := none) h.1 ⟨hb.os, hb.tape, hb.output, hb.size, fun i hi _ => hb.block i hi⟩ ?_, fun r hr => (h.2.1 r hr).below hb (h.2.1 r hr).lt, h.2.2⟩
  cases v.ownBlock <;> simp
theorem MovV.neBlk {b : Nat} {cs : Array Value} {T : TypeId} {fr : Nat × Nat} (h : MovV w B v rs) (hb : w.heap[b]? = some (.cells cs T fr)) (hT : T ≠ 31) : v.ownBlock ≠ some b := by
  rcases h.1.2 with ⟨rfl, -⟩ | ⟨g, cap, cur, rfl, -, hh, -⟩
  · simp [Value.ownBlock]
  · intro e
    have : g = b := by simpa [Value.ownBlock] using e
    subst this
    rw [hh] at hb
    simp at hb
    exact hT hb.2.1.symm
/-- a store into a block of another kind -/
theorem MovV.setCell {b : Nat} {cs : Array Value} {T : TypeId} {fr : Nat × Nat} (h : MovV w B v rs) (hb : w.heap[b]? = some (.cells cs T fr)) (hT : T ≠ 31) (hT2 : T ≠ 3) (j : Nat) (u : Value) : MovV (w.setCell ⟨b, j, none⟩ u) B v rs := by
  have hg : w.grownBy (w.setCell ⟨b, j, none⟩ u) (some b) := ⟨rfl, rfl, rfl, by simp [World.setCell], fun k hk hne => Below.heap_setCell w _ u k (fun e => hne (by rw [e]))⟩
  refine ⟨World.ownsRow.kept h.1 hg (.inr (h.neBlk hb hT)), fun r hr => (h.2.1 r hr).grown hg (fun e => ?_), h.2.2⟩
  obtain ⟨cur, h2, -⟩ := (h.2.1 r hr).toV.row
  rw [Option.some.inj e, hb] at h2
  simp at h2
  exact hT2 h2.2.1
/-- 'append(moves, row)' -/
theorem wpList_append_mov {ops : Array Oper} {rest : List Oper} {o : Oper} {a : Act} {Q : Exit → Act → World → Prop} (hgd : o.guard = none) (s x : Operand)
    (ho : o.op = .call { callee := .builtin .append, args := #[s, x], argTypes := #[22, 22] })
    (B H n : Nat) (v : Value) (rs : List RowRef) (r : RowRef) (w W : World) (hn : rs.length = n) (hW : W = w.alloc (.cells #[rowVal r] 31)) (hH : w.heap.size = H) (hB : B ≤ w.heap.size) (hown : MovV w B v rs) (hr : Own w B r.1 r.2.1 r.2.2) (hne : ∀ s ∈ rs, s.1 ≠ r.1)
    (hs : a.eval s = v) (hx : a.eval x = (Value.slice (some ⟨H, 0, none⟩) 1 1)) (hlen : n + 1 ≤ 1048576)
    (h : ∀ g' cap' w', MovV w' B (Value.slice (some ⟨g', 0, none⟩) (n + 1) cap') (rs ++ [r]) → w.grownBy w' v.ownBlock → wpList Tryz.prog ops Q rest (a.put o.dst (Value.slice (some ⟨g', 0, none⟩) (n + 1) cap')) w') :
    wpList Tryz.prog ops Q (o :: rest) a W := by
  subst hW; subst hH; subst hn
  obtain ⟨i0, hi, hz0, hz1, hz2⟩ := info_parts infoRow
  have hcell : (w.alloc (.cells #[rowVal r] 31)).cell? ⟨w.heap.size, 0, none⟩ = some (rowVal r) := (OwnV.new (B := w.heap.size) (rowVal r) rfl (Nat.le_refl _)).cell 0 (by simp)
  have hnews : ∀ j u, ([rowVal r] : List Value)[j]? = some u → (w.alloc (.cells #[rowVal r] 31)).cell? ((⟨w.heap.size, 0, none⟩ : Addr).add j) = some u := by
    intro j u hu
    have hj : j = 0 := by have := (List.getElem?_eq_some_iff.1 hu).1; simp at this; exact this
    subst hj
    simp at hu; subst hu
    rw [Addr.add_lit]; exact hcell
  obtain ⟨v', w', hrun, ho', hg, -⟩ := run_append_own (P := Tryz.prog) (w.alloc (.cells #[rowVal r] 31)) B 22 o.type 31 i0 (.slice none 0 0) 1 24 Tryz.underlying22 hi hz0 hz1 hz2 rfl (by decide) v rs.length _ (hown.1.alloc _) ⟨w.heap.size, 0, none⟩ 1 1
    [rowVal r] (by simp) hnews (by simp [rowVal]; rfl) (by unfold maxLen; omega) (by omega) (by simp; omega)
  have hgr : w.grownBy w' v.ownBlock := ⟨hg.os, hg.tape, hg.output, Nat.le_trans (by simp) hg.size, fun k hk hne => (hg.block k (by simp; omega) hne).trans (Below.heap_alloc _ _ _ hk)⟩
  have hk : ∀ q : RowRef, Own w B q.1 q.2.1 q.2.2 → Own w' B q.1 q.2.1 q.2.2 := fun q hq => hq.grown hgr (fun e => by
    obtain ⟨cur, h2, -⟩ := hq.toV.row
    exact hown.neBlk h2 (by decide) e.symm)
  have hM : MovV w' B v' (rs ++ [r]) := ⟨by rw [List.map_append, List.length_append]; exact ho', Inner.append ⟨fun s hs => hk s (hown.2.1 s hs), hown.2.2⟩ (hk r hr) hne⟩
  obtain ⟨g', cap', rfl, -⟩ := hM.rows (by simp)
  rw [List.length_append, List.length_singleton] at hM hrun
  refine wpList_plain hgd fun K hK => ?_
  unfold Oper.wp execOp
  simp only [ho, resolve, invoke, builtin, Sem.run_bind, Sem.run_pure, Result.andThen_ok, List.map_toArray, List.map_cons, List.map_nil, hs, hx, hrun]
  exact hK _ _ (h g' cap' w' hM hgr)
end
end Go.Proofs.YtmplcohpinghbaaGreatDoor
