/- Pairs of roots and coroots of the call's own; 'add', that puts one into the list unless it is there: contract. 'add', that puts a pair into the list unless its root is there: contract. -/
import Derived.Test.YticnocoeldfiiaaGreatDoorG19
import Derived.Test.YticnocoeldfiiaaGreatDoorG20
namespace Go.Proofs.YticnocoeldfiiaaGreatDoor
open Go.RowKit Game

abbrev PairRef := RowRef × RowRef
def pair2 (p : PairRef) : List Value := [rowVal p.1, rowVal p.2]
def flatQ (ps : List PairRef) : List Value := ps.flatMap pair2
def OwnPairs (w : World) (B g cap : Nat) (ps : List PairRef) : Prop := OwnK w B 76 2 g cap ps.length (flatQ ps)
theorem infoPair : (Tryz.prog.info? 76).map (fun i => (i.zero, i.size, i.bytes)) = some (some (.agg #[.slice none 0 0, .slice none 0 0]), 2, 48) := by kernel_rfl
theorem flatQ_length (ps : List PairRef) : (flatQ ps).length = ps.length * 2 := by
  induction ps with
  | nil => rfl
  | cons v vs ih => unfold flatQ at *; simp only [List.flatMap_cons, List.length_append, ih, List.length_cons]; simp [pair2]; omega
theorem flatQ_append (a b : List PairRef) : flatQ (a ++ b) = flatQ a ++ flatQ b := by simp [flatQ]
theorem flatQ_at {ps : List PairRef} {j : Nat} (hj : j < ps.length) : (flatQ ps)[j * 2]? = some (rowVal ps[j].1) ∧ (flatQ ps)[j * 2 + 1]? = some (rowVal ps[j].2) := by
  induction ps generalizing j with
  | nil => simp at hj
  | cons v vs ih =>
    unfold flatQ at *
    simp only [List.flatMap_cons]
    cases j with
    | zero => exact ⟨rfl, rfl⟩
    | succ j =>
      have := ih (j := j) (by simpa using hj)
      rw [List.getElem?_append_right (by simp [pair2]; omega), List.getElem?_append_right (by simp [pair2]; omega)]
      have e1 : (j + 1) * 2 - (pair2 v).length = j * 2 := by simp [pair2]; omega
      have e2 : (j + 1) * 2 + 1 - (pair2 v).length = j * 2 + 1 := by simp [pair2]; omega
      rw [e1, e2]
      exact this
section
variable {w w' : World} {B g cap : Nat} {ps : List PairRef}
theorem OwnPairs.lt (h : OwnPairs w B g cap ps) : g < w.heap.size := OwnK.lt h
theorem OwnPairs.base (h : OwnPairs w B g cap ps) : B ≤ g := OwnK.base h
theorem OwnPairs.mono {B' : Nat} (h : OwnPairs w B g cap ps) (hB : B' ≤ B) : OwnPairs w B' g cap ps := OwnK.mono h hB
theorem OwnPairs.below (h : OwnPairs w B g cap ps) (hb : Below w.heap.size w w') : OwnPairs w' B g cap ps := OwnK.below h hb (OwnK.lt h)
theorem OwnPairs.grown {row : Option Nat} (h : OwnPairs w B g cap ps) (hg : w.grownBy w' row) (hne : some g ≠ row) : OwnPairs w' B g cap ps := OwnK.grown h hg hne
theorem OwnPairs.still (h : OwnPairs w B g cap ps) (hs : ∃ n, w' = w.drewN n) : OwnPairs w' B g cap ps := by obtain ⟨n, rfl⟩ := hs; exact h
theorem OwnPairs.cell (h : OwnPairs w B g cap ps) {j : Nat} (hj : j < ps.length) : w.cell? ⟨g, j * 2, none⟩ = some (rowVal ps[j].1) ∧ w.cell? ⟨g, j * 2 + 1, none⟩ = some (rowVal ps[j].2) := by
  have hl1 : j * 2 < (flatQ ps).length := by rw [flatQ_length]; omega
  have hl2 : j * 2 + 1 < (flatQ ps).length := by rw [flatQ_length]; omega
  obtain ⟨h1, h2⟩ := flatQ_at hj
  rw [OwnK.cell h _ hl1, OwnK.cell h _ hl2, ← h1, ← h2, List.getElem?_eq_getElem hl1, List.getElem?_eq_getElem hl2]
  exact ⟨rfl, rfl⟩
theorem OwnPairs.empty (hB : B ≤ w.heap.size) : OwnPairs (w.alloc (.cells #[] 76)) B w.heap.size 0 [] :=
  World.ownsRow_lit w #[] 0 hB (by decide) rfl
theorem OwnPairs.one (p : PairRef) (hB : B ≤ w.heap.size) : OwnPairs (w.alloc (.cells #[rowVal p.1, rowVal p.2] 76)) B w.heap.size 1 [p] :=
  World.ownsRow_lit w #[rowVal p.1, rowVal p.2] 1 hB (by decide) rfl
theorem wpList_append_pair {ops : Array Oper} {rest : List Oper} {o : Oper} {a : Act} {Q : Exit → Act → World → Prop} (hgd : o.guard = none) (s x : Operand)
    (ho : o.op = .call { callee := .builtin .append, args := #[s, x], argTypes := #[70, 70] })
    (B g cap n H : Nat) (ps : List PairRef) (p : PairRef) (w W : World) (hn : ps.length = n) (hW : W = w.alloc (.cells #[rowVal p.1, rowVal p.2] 76)) (hH : w.heap.size = H) (hown : OwnPairs w B g cap ps)
    (hs : a.eval s = (Value.slice (some ⟨g, 0, none⟩) n cap)) (hx : a.eval x = (Value.slice (some ⟨H, 0, none⟩) 1 1)) (hlen : n + 1 ≤ 1048576)
    (h : ∀ g' cap' w', OwnPairs w' B g' cap' (ps ++ [p]) → w.grownBy w' (some g) → (g' = g ∨ w.heap.size < g') → wpList Tryz.prog ops Q rest (a.put o.dst (Value.slice (some ⟨g', 0, none⟩) (n + 1) cap')) w') :
    wpList Tryz.prog ops Q (o :: rest) a W := by
  subst hn; subst hW; subst hH
  have hnew := OwnPairs.one (w := w) (B := w.heap.size) p (Nat.le_refl _)
  refine wpList_append_K infoPair Tryz.underlying70 rfl (by decide) (by decide) hgd s x ho B g cap ps.length (flatQ ps) (OwnK.alloc hown _) w.heap.size 0 1 1 (pair2 p) rfl ?_ ?_ hs hx hlen ?_
  · intro j u hu
    have hj : j < 2 := by have := (List.getElem?_eq_some_iff.1 hu).1; simpa [pair2] using this
    have h1 := hnew.cell (j := 0) (by simp)
    rw [Nat.zero_mul] at h1
    have : j = 0 ∨ j = 1 := by omega
    rcases this with rfl | rfl
    · rw [Nat.zero_add, h1.1, ← hu]; rfl
    · rw [h1.2, ← hu]; rfl
  · intro u hu
    simp [pair2] at hu
    rcases hu with rfl | rfl <;> rfl
  · intro g' cap' w' h2 h3 h4
    refine h g' cap' w' ?_ ⟨h3.os, h3.tape, h3.output, Nat.le_trans (by simp) h3.size, fun k hk hne => (h3.block k (by simp; omega) hne).trans (Below.heap_alloc _ _ _ hk)⟩ (h4.imp id (by simp; omega))
    unfold OwnPairs
    rw [flatQ_append, List.length_append]
    have e : flatQ [p] = pair2 p := by simp [flatQ]
    rw [e]
    exact h2
end

/-- what 'add' works on: the set of the roots and the list of pairs, in two boxes -/
structure SmSt (w : World) (B bS bL bM gP cP nP nM m : Nat) (ps : List PairRef) : Prop where
  hS : w.heap[bS]? = some (.cells #[.map (some bM)] 71 (0, 0))
  hL : w.heap[bL]? = some (.cells #[(Value.slice (some ⟨gP, 0, none⟩) nP cP)] 70 (0, 0))
  hP : OwnPairs w B gP cP ps
  hn : ps.length = nP
  hM : SeenM w bM nM m (ps.map fun p => p.1.2.2)
  hnM : nM ≤ nP
  rows : ∀ p ∈ ps, Own w B p.1.1 p.1.2.1 p.1.2.2 ∧ Own w B p.2.1 p.2.2.1 p.2.2.2
  nodup : (ps.map fun p => p.1.1).Nodup
  bL_ge : B ≤ bL
  bM_ge : B ≤ bM
/-- what 'add' leaves as it was -/
structure SmFr (w w' : World) (bL gP bM : Nat) : Prop where
  os : w'.os = w.os
  tape : w'.tape = w.tape
  output : w'.output = w.output
  size : w.heap.size ≤ w'.heap.size
  block : ∀ k, k < w.heap.size → k ≠ bL → k ≠ gP → k ≠ bM → w'.heap[k]? = w.heap[k]?
theorem box_cell {w : World} {b : Nat} {v : Value} {t : TypeId} (h : w.heap[b]? = some (.cells #[v] t (0, 0))) : w.cell? ⟨b, 0, none⟩ = some v ∧ w.frozen? ⟨b, 0, none⟩ = false := by
  constructor <;> simp [World.cell?, World.frozen?, h]
theorem box_lt {w : World} {b : Nat} {o : Obj} (h : w.heap[b]? = some o) : b < w.heap.size := (Array.getElem?_eq_some_iff.1 h).1
section
variable {w w' : World} {B bS bL bM gP cP nP nM m : Nat} {ps : List PairRef}
theorem SmFr.below (h : SmFr w w' bL gP bM) {b : Nat} (h1 : b ≤ bL) (h2 : b ≤ gP) (h3 : b ≤ bM) (hb : b ≤ w.heap.size) : Below b w w' :=
  ⟨h.os, h.tape, h.output, h.size, fun k hk => h.block k (by omega) (by omega) (by omega) (by omega)⟩
theorem SeenM.same {ks : List (List Int)} (h : SeenM w bM nM m ks) (hs : w'.heap[bM]? = w.heap[bM]?) : SeenM w' bM nM m ks := by
  obtain ⟨D, ⟨es, clock, hh, r⟩, h2⟩ := h
  exact ⟨D, ⟨es, clock, hs.trans hh, r⟩, h2⟩
theorem SmSt.keep (h : SmSt w B bS bL bM gP cP nP nM m ps) (hk : ∀ k, k < w.heap.size → w'.heap[k]? = w.heap[k]?) : SmSt w' B bS bL bM gP cP nP nM m ps :=
  ⟨(hk _ (box_lt h.hS)).trans h.hS, (hk _ (box_lt h.hL)).trans h.hL, OwnK.same h.hP (hk _ h.hP.lt), h.hn, h.hM.same (hk _ h.hM.lt), h.hnM, fun p hp => ⟨(h.rows p hp).1.same (hk _ (h.rows p hp).1.lt), (h.rows p hp).2.same (hk _ (h.rows p hp).2.lt)⟩, h.nodup, h.bL_ge, h.bM_ge⟩
theorem SmSt.below (h : SmSt w B bS bL bM gP cP nP nM m ps) (hb : Below w.heap.size w w') : SmSt w' B bS bL bM gP cP nP nM m ps := h.keep hb.block
theorem SmSt.still (h : SmSt w B bS bL bM gP cP nP nM m ps) (hs : ∃ n, w' = w.drewN n) : SmSt w' B bS bL bM gP cP nP nM m ps := by obtain ⟨n, rfl⟩ := hs; exact h.keep fun _ _ => rfl
/-- the blocks are different -/
theorem SmSt.ne (h : SmSt w B bS bL bM gP cP nP nM m ps) : bS ≠ bM ∧ bL ≠ bM ∧ gP ≠ bM ∧ bS ≠ gP ∧ bL ≠ gP ∧ bS ≠ bL := by
  obtain ⟨D, ⟨es, clock, hh, -⟩, -⟩ := h.hM
  obtain ⟨cur, h2, -⟩ := OwnK.row h.hP
  have h3 := h.hS
  have h4 := h.hL
  refine ⟨?_, ?_, ?_, ?_, ?_, ?_⟩ <;> intro e <;> subst e <;> simp_all
theorem SmSt.neOwn (h : SmSt w B bS bL bM gP cP nP nM m ps) {B2 g cap : Nat} {xs : List Int} (ho : Own w B2 g cap xs) : g ≠ bS ∧ g ≠ bL ∧ g ≠ bM ∧ g ≠ gP := by
  obtain ⟨D, ⟨es, clock, hh, -⟩, -⟩ := h.hM
  obtain ⟨cur, h2, -⟩ := OwnK.row h.hP
  obtain ⟨cur2, h5, -⟩ := ho.toV.row
  have h3 := h.hS
  have h4 := h.hL
  refine ⟨?_, ?_, ?_, ?_⟩ <;> intro e <;> subst e <;> simp_all
theorem SmSt.neRows (h : SmSt w B bS bL bM gP cP nP nM m ps) {B2 g cap : Nat} {rs : List RowRef} (ho : OwnRows w B2 g cap rs) : g ≠ bS ∧ g ≠ bL ∧ g ≠ bM ∧ g ≠ gP := by
  obtain ⟨D, ⟨es, clock, hh, -⟩, -⟩ := h.hM
  obtain ⟨cur, h2, -⟩ := OwnK.row h.hP
  obtain ⟨cur2, h5, -⟩ := ho.1.row
  have h3 := h.hS
  have h4 := h.hL
  refine ⟨?_, ?_, ?_, ?_⟩ <;> intro e <;> subst e <;> simp_all
/-- a list of rows besides stays as it was -/
theorem SmFr.rows (h : SmFr w w' bL gP bM) (st : SmSt w B bS bL bM gP cP nP nM m ps) {B2 g cap : Nat} {rs : List RowRef} (ho : OwnRows w B2 g cap rs) : OwnRows w' B2 g cap rs := by
  have h1 := st.neRows ho
  exact ⟨ho.1.same (h.block _ ho.lt h1.2.1 h1.2.2.2 h1.2.2.1), fun r hr => by
    have h2 := st.neOwn (ho.2.1 r hr)
    exact (ho.2.1 r hr).same (h.block _ (ho.2.1 r hr).lt h2.2.1 h2.2.2.2 h2.2.2.1), ho.2.2⟩
end
end Go.Proofs.YticnocoeldfiiaaGreatDoor
namespace Go.Proofs.YticnocoeldfiiaaGreatDoor
open Go.RowKit Game

theorem heap_setCell_ne {w : World} {b k : Nat} {v : Value} (h : k ≠ b) : (w.setCell ⟨b, 0, none⟩ v).heap[k]? = w.heap[k]? := by
  show (w.heap.modify b _)[k]? = _
  rw [Array.getElem?_modify]
  simp [Ne.symm h]
theorem heap_setCell_size {w : World} {b : Nat} {v : Value} : (w.setCell ⟨b, 0, none⟩ v).heap.size = w.heap.size := by
  show (w.heap.modify b _).size = _
  simp
/-- the roots of pairs -/
def rootsQ (ps : List PairRef) : List (List Int) := ps.map fun p => p.1.2.2
/-- the list behind 'add' -/
def addQ (ps : List PairRef) (p : PairRef) : List PairRef := if p.1.2.2 ∈ rootsQ ps then ps else ps ++ [p]
def AddPost (B bS bL bM gP m : Nat) (w : World) (ps' : List PairRef) (e : Ending) (w' : World) : Prop :=
  e = .returned (.tuple #[]) ∧ SmFr w w' bL gP bM ∧ ∃ gP' cP' nP' nM', SmSt w' B bS bL bM gP' cP' nP' nM' m ps' ∧ (gP' = gP ∨ w.heap.size ≤ gP')

set_option maxRecDepth 100000 in
set_option maxHeartbeats 4000000 in
theorem impl_add_any (B bS bL bM gP cP nP nM gr cr gs cs n n2 : Nat) (ps : List PairRef) (r s : List Int) (w : World) (hn : r.length = n) (hn2 : s.length = n2) (h4 : r.length ≤ 4) (hw : WfV r) (hnP : nP ≤ 1000) (st : SmSt w B bS bL bM gP cP nP nM r.length ps)
    (hor : Own w B gr cr r) (hos : Own w B gs cs s) (hne : ∀ p ∈ ps, p.1.1 ≠ gr) :
    Calls Tryz.prog 88 #[(Value.slice (some ⟨gr, 0, none⟩) n cr), (Value.slice (some ⟨gs, 0, none⟩) n2 cs), .pointer (some ⟨bS, 0, none⟩), .pointer (some ⟨bL, 0, none⟩)] w (AddPost B bS bL bM gP r.length w (addQ ps ((gr, cr, r), (gs, cs, s)))) := by
  subst hn; subst hn2
  obtain ⟨y0, j0⟩ : ∃ z, z = r.getD 0 0 := ⟨_, rfl⟩
  obtain ⟨y1, j1⟩ : ∃ z, z = r.getD 1 0 := ⟨_, rfl⟩
  obtain ⟨y2, j2⟩ : ∃ z, z = r.getD 2 0 := ⟨_, rfl⟩
  obtain ⟨y3, j3⟩ : ∃ z, z = r.getD 3 0 := ⟨_, rfl⟩
  have hvy : vecVal r = .agg #[.int .i64 y0, .int .i64 y1, .int .i64 y2, .int .i64 y3] := by unfold vecVal; rw [j0, j1, j2, j3]
  have hcall := impl_vectorOf_any gr 0 r.length cr r w rfl h4 hor.lt hor.cells
  rw [hvy] at hcall
  have Hcall := Lib.hid hcall; have Hvy := Lib.hid hvy
  clear j0 j1 j2 j3 hcall hvy
  go_enter Tryz.func88, Tryz.ntmps88
  go_wp2_with fail
  refine Hcall.out.mono ?_
  rintro e w1 ⟨rfl, hb1⟩
  have hb2 : Below w.heap.size w (w1.alloc (.cells #[.int .i64 y0, .int .i64 y1, .int .i64 y2, .int .i64 y3] 73)) := hb1.alloc hb1.size _
  have st2 := st.below hb2
  have hor2 := hor.below hb2 hor.lt
  have hos2 := hos.below hb2 hos.lt
  have hk2 : Hid ((w1.alloc (.cells #[.int .i64 y0, .int .i64 y1, .int .i64 y2, .int .i64 y3] 73)).heap[w1.heap.size]? = some (.cells #[.int .i64 y0, .int .i64 y1, .int .i64 y2, .int .i64 y3] 73 (0, 0))) := heap_alloc_new _ _
  have qS := (box_cell st2.hS).1
  have hM2 : SeenM (w1.alloc (.cells #[.int .i64 y0, .int .i64 y1, .int .i64 y2, .int .i64 y3] 73)) bM nM r.length (rootsQ ps) := st2.hM
  clear hb1 Hcall
  by_cases hmem : r ∈ rootsQ ps
  · have Hm := Lib.hid hmem
    have hdm : decide (r ∈ rootsQ ps) = true := decide_eq_true hmem
    have Hdm := Lib.hid hdm
    clear hdm hmem
    go_wp2_with (at_lookup; refine wpList_seen_lookup rfl _ _ rfl bM nM r.length (rootsQ ps) r rfl hw hM2 rfl (by rw [Hvy.out]; rfl) true Hdm.out ?_)
    go_end0
    exact ⟨rfl, ⟨hb2.os, hb2.tape, hb2.output, hb2.size, fun k hk _ _ _ => hb2.block k hk⟩, gP, cP, nP, nM, by unfold addQ; rw [if_pos Hm.out]; exact st2, .inl rfl⟩
  · have Hm := Lib.hid hmem
    have hdm : decide (r ∈ rootsQ ps) = false := decide_eq_false hmem
    have Hdm := Lib.hid hdm
    clear hdm hmem
    have hnM := st2.hnM
    go_wp2_with (first
      | (at_lookup; refine wpList_seen_lookup rfl _ _ rfl bM nM r.length (rootsQ ps) r rfl hw hM2 rfl (by rw [Hvy.out]; rfl) false Hdm.out ?_)
      | (at_mapUpdate; refine wpList_seen_put rfl _ _ _ rfl bM nM r.length (rootsQ ps) r rfl h4 hw hM2 (by omega) rfl (by rw [Hvy.out]; rfl) rfl ?_))
    intro w3 hM3 hg3
    obtain ⟨n1, n2, n3, n4, n5, n6⟩ := st2.ne
    have hS3 := (hg3.block bS (box_lt st2.hS) (by intro e; exact n1 (Option.some.inj e))).trans st2.hS
    have hL3 := (hg3.block bL (box_lt st2.hL) (by intro e; exact n2 (Option.some.inj e))).trans st2.hL
    have hP3 := st2.hP.grown hg3 (by intro e; exact n3 (Option.some.inj e))
    have qL := (box_cell hL3).1
    go_wp2_with (at_builtin; refine wpList_append_pair rfl _ _ rfl B gP cP nP w3.heap.size ps ((gr, cr, r), (gs, cs, s)) w3 _ st2.hn rfl rfl hP3 rfl rfl (by omega) ?_)
    intro g4 c4 w4 hP4 hg4 hor4
    have hS4 := (hg4.block bS (box_lt hS3) (by intro e; exact n4 (Option.some.inj e))).trans hS3
    have hL4 := (hg4.block bL (box_lt hL3) (by intro e; exact n5 (Option.some.inj e))).trans hL3
    have fL := (box_cell hL4).2
    have cL := (box_cell hL4).1
    go_wp2
    go_end0
    have hblk : ∀ k, k < (w1.alloc (.cells #[.int .i64 y0, .int .i64 y1, .int .i64 y2, .int .i64 y3] 73)).heap.size → k ≠ bL → k ≠ gP → k ≠ bM → (w4.setCell ⟨bL, 0, none⟩ (Value.slice (some ⟨g4, 0, none⟩) (nP + 1) c4)).heap[k]? = (w1.alloc (.cells #[.int .i64 y0, .int .i64 y1, .int .i64 y2, .int .i64 y3] 73)).heap[k]? := fun k hk h1 h2 h3 =>
      (heap_setCell_ne h1).trans ((hg4.block k (Nat.lt_of_lt_of_le hk hg3.size) (by intro e; exact h2 (Option.some.inj e))).trans (hg3.block k hk (by intro e; exact h3 (Option.some.inj e))))
    have hg4b : g4 ≠ bL := by
      have := box_lt hL3
      rcases hor4 with h | h
      · rw [h]; exact Ne.symm n5
      · omega
    refine ⟨rfl, ⟨hg4.os.trans (hg3.os.trans hb2.os), hg4.tape.trans (hg3.tape.trans hb2.tape), hg4.output.trans (hg3.output.trans hb2.output), ?_, fun k hk h1 h2 h3 => (hblk k (Nat.lt_of_lt_of_le hk hb2.size) h1 h2 h3).trans (hb2.block k hk)⟩, g4, c4, nP + 1, nM + 1, ?_, hor4.imp id (fun h => by have := hb2.size; have := hg3.size; omega)⟩
    · rw [heap_setCell_size]
      exact Nat.le_trans hb2.size (Nat.le_trans hg3.size hg4.size)
    · unfold addQ
      rw [if_neg Hm.out]
      refine ⟨(heap_setCell_ne n6).trans hS4, one_setCell hL4, OwnK.same hP4 (heap_setCell_ne hg4b), by rw [List.length_append, st2.hn]; rfl, ?_, by omega, ?_, ?_, st2.bL_ge, st2.bM_ge⟩
      · rw [List.map_append]
        exact hM3.same ((heap_setCell_ne (Ne.symm n2)).trans (hg4.block bM hM3.lt (by intro e; exact n3 (Option.some.inj e).symm)))
      · intro p hp
        rcases List.mem_append.1 hp with h | h
        · have h1 := st2.rows p h
          have a1 := st2.neOwn h1.1
          have a2 := st2.neOwn h1.2
          exact ⟨h1.1.same (hblk _ h1.1.lt a1.2.1 a1.2.2.2 a1.2.2.1), h1.2.same (hblk _ h1.2.lt a2.2.1 a2.2.2.2 a2.2.2.1)⟩
        · rw [List.mem_singleton] at h
          subst h
          have a1 := st2.neOwn hor2
          have a2 := st2.neOwn hos2
          exact ⟨hor2.same (hblk _ hor2.lt a1.2.1 a1.2.2.2 a1.2.2.1), hos2.same (hblk _ hos2.lt a2.2.1 a2.2.2.2 a2.2.2.1)⟩
      · rw [List.map_append, List.nodup_append]
        refine ⟨st2.nodup, by simp, ?_⟩
        intro a ha b hb e
        obtain ⟨p, hp, rfl⟩ := List.mem_map.1 ha
        rw [List.map_cons, List.map_nil, List.mem_singleton] at hb
        exact hne p hp (e.trans hb)
end Go.Proofs.YticnocoeldfiiaaGreatDoor
