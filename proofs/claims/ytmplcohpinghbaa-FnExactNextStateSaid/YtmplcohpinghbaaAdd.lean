/- 'add', that puts a pair into the list unless its root is there: contract. -/
import Derived.Test.YtmplcohpinghbaaPair
namespace Go.Proofs.Ytmplcohpinghbaa
open Go.RowKit Game

theorem heap_setCell_ne {w : World} {b k : Nat} {v : Value} (h : k ≠ b) : (w.setCell ⟨b, 0, none⟩ v).heap[k]? = w.heap[k]? := by
  show (w.heap.modify b _)[k]? = _
  rw [Array.getElem?_modify]
  simp [Ne.symm h]
theorem heap_setCell_size {w : World} {b : Nat} {v : Value} : (w.setCell ⟨b, 0, none⟩ v).heap.size = w.heap.size := by
  show (w.heap.modify b _).size = _
  simp
/-- the roots of pairs -/
def rootsQ (ps : List PairRef) : List (List Int) := ps.map fun p => p.1.2.2
/-- the list behind 'add' -/
def addQ (ps : List PairRef) (p : PairRef) : List PairRef := if p.1.2.2 ∈ rootsQ ps then ps else ps ++ [p]
def AddPost (B bS bL bM gP m : Nat) (w : World) (ps' : List PairRef) (e : Ending) (w' : World) : Prop :=
  e = .returned (.tuple #[]) ∧ SmFr w w' bL gP bM ∧ ∃ gP' cP' nP' nM', SmSt w' B bS bL bM gP' cP' nP' nM' m ps' ∧ (gP' = gP ∨ w.heap.size ≤ gP')

set_option maxRecDepth 100000 in
set_option maxHeartbeats 4000000 in
theorem impl_add_any (B bS bL bM gP cP nP nM gr cr gs cs n n2 : Nat) (ps : List PairRef) (r s : List Int) (w : World) (hn : r.length = n) (hn2 : s.length = n2) (h4 : r.length ≤ 4) (hw : WfV r) (hnP : nP ≤ 1000) (st : SmSt w B bS bL bM gP cP nP nM r.length ps)
    (hor : Own w B gr cr r) (hos : Own w B gs cs s) (hne : ∀ p ∈ ps, p.1.1 ≠ gr) :
    Calls Try.prog 49 #[(Value.slice (some ⟨gr, 0, none⟩) n cr), (Value.slice (some ⟨gs, 0, none⟩) n2 cs), .pointer (some ⟨bS, 0, none⟩), .pointer (some ⟨bL, 0, none⟩)] w (AddPost B bS bL bM gP r.length w (addQ ps ((gr, cr, r), (gs, cs, s)))) := by
  subst hn; subst hn2
  obtain ⟨y0, j0⟩ : ∃ z, z = r.getD 0 0 := ⟨_, rfl⟩
  obtain ⟨y1, j1⟩ : ∃ z, z = r.getD 1 0 := ⟨_, rfl⟩
  obtain ⟨y2, j2⟩ : ∃ z, z = r.getD 2 0 := ⟨_, rfl⟩
  obtain ⟨y3, j3⟩ : ∃ z, z = r.getD 3 0 := ⟨_, rfl⟩
  have hvy : vecVal r = .agg #[.int .i64 y0, .int .i64 y1, .int .i64 y2, .int .i64 y3] := by unfold vecVal; rw [j0, j1, j2, j3]
  have hcall := impl_vectorOf_any gr 0 r.length cr r w rfl h4 hor.lt hor.cells
  rw [hvy] at hcall
  have Hcall := Lib.hid hcall; have Hvy := Lib.hid hvy
  clear j0 j1 j2 j3 hcall hvy
  go_enter Try.func49, Try.ntmps49
  go_wp2_with fail
  refine Hcall.out.mono ?_
  rintro e w1 ⟨rfl, hb1⟩
  have hb2 : Below w.heap.size w (w1.alloc (.cells #[.int .i64 y0, .int .i64 y1, .int .i64 y2, .int .i64 y3] 59)) := hb1.alloc hb1.size _
  have st2 := st.below hb2
  have hor2 := hor.below hb2 hor.lt
  have hos2 := hos.below hb2 hos.lt
  have hk2 : Hid ((w1.alloc (.cells #[.int .i64 y0, .int .i64 y1, .int .i64 y2, .int .i64 y3] 59)).heap[w1.heap.size]? = some (.cells #[.int .i64 y0, .int .i64 y1, .int .i64 y2, .int .i64 y3] 59 (0, 0))) := heap_alloc_new _ _
  have qS := (box_cell st2.hS).1
  have hM2 : SeenM (w1.alloc (.cells #[.int .i64 y0, .int .i64 y1, .int .i64 y2, .int .i64 y3] 59)) bM nM r.length (rootsQ ps) := st2.hM
  clear hb1 Hcall
  by_cases hmem : r ∈ rootsQ ps
  · have Hm := Lib.hid hmem
    have hdm : decide (r ∈ rootsQ ps) = true := decide_eq_true hmem
    have Hdm := Lib.hid hdm
    clear hdm hmem
    go_wp2_with (at_lookup; refine wpList_seen_lookup rfl _ _ rfl bM nM r.length (rootsQ ps) r rfl hw hM2 rfl (by rw [Hvy.out]; rfl) true Hdm.out ?_)
    go_end0
    exact ⟨rfl, ⟨hb2.os, hb2.tape, hb2.output, hb2.size, fun k hk _ _ _ => hb2.block k hk⟩, gP, cP, nP, nM, by unfold addQ; rw [if_pos Hm.out]; exact st2, .inl rfl⟩
  · have Hm := Lib.hid hmem
    have hdm : decide (r ∈ rootsQ ps) = false := decide_eq_false hmem
    have Hdm := Lib.hid hdm
    clear hdm hmem
    have hnM := st2.hnM
    go_wp2_with (first
      | (at_lookup; refine wpList_seen_lookup rfl _ _ rfl bM nM r.length (rootsQ ps) r rfl hw hM2 rfl (by rw [Hvy.out]; rfl) false Hdm.out ?_)
      | (at_mapUpdate; refine wpList_seen_put rfl _ _ _ rfl bM nM r.length (rootsQ ps) r rfl h4 hw hM2 (by omega) rfl (by rw [Hvy.out]; rfl) rfl ?_))
    intro w3 hM3 hg3
    obtain ⟨n1, n2, n3, n4, n5, n6⟩ := st2.ne
    have hS3 := (hg3.block bS (box_lt st2.hS) (by intro e; exact n1 (Option.some.inj e))).trans st2.hS
    have hL3 := (hg3.block bL (box_lt st2.hL) (by intro e; exact n2 (Option.some.inj e))).trans st2.hL
    have hP3 := st2.hP.grown hg3 (by intro e; exact n3 (Option.some.inj e))
    have qL := (box_cell hL3).1
    go_wp2_with (at_builtin; refine wpList_append_pair rfl _ _ rfl B gP cP nP w3.heap.size ps ((gr, cr, r), (gs, cs, s)) w3 _ st2.hn rfl rfl hP3 rfl rfl (by omega) ?_)
    intro g4 c4 w4 hP4 hg4 hor4
    have hS4 := (hg4.block bS (box_lt hS3) (by intro e; exact n4 (Option.some.inj e))).trans hS3
    have hL4 := (hg4.block bL (box_lt hL3) (by intro e; exact n5 (Option.some.inj e))).trans hL3
    have fL := (box_cell hL4).2
    have cL := (box_cell hL4).1
    go_wp2
    go_end0
    have hblk : ∀ k, k < (w1.alloc (.cells #[.int .i64 y0, .int .i64 y1, .int .i64 y2, .int .i64 y3] 59)).heap.size → k ≠ bL → k ≠ gP → k ≠ bM → (w4.setCell ⟨bL, 0, none⟩ (Value.slice (some ⟨g4, 0, none⟩) (nP + 1) c4)).heap[k]? = (w1.alloc (.cells #[.int .i64 y0, .int .i64 y1, .int .i64 y2, .int .i64 y3] 59)).heap[k]? := fun k hk h1 h2 h3 =>
      (heap_setCell_ne h1).trans ((hg4.block k (Nat.lt_of_lt_of_le hk hg3.size) (by intro e; exact h2 (Option.some.inj e))).trans (hg3.block k hk (by intro e; exact h3 (Option.some.inj e))))
    have hg4b : g4 ≠ bL := by
      have := box_lt hL3
      rcases hor4 with h | h
      · rw [h]; exact Ne.symm n5
      · omega
    refine ⟨rfl, ⟨hg4.os.trans (hg3.os.trans hb2.os), hg4.tape.trans (hg3.tape.trans hb2.tape), hg4.output.trans (hg3.output.trans hb2.output), ?_, fun k hk h1 h2 h3 => (hblk k (Nat.lt_of_lt_of_le hk hb2.size) h1 h2 h3).trans (hb2.block k hk)⟩, g4, c4, nP + 1, nM + 1, ?_, hor4.imp id (fun h => by have := hb2.size; have := hg3.size; omega)⟩
    · rw [heap_setCell_size]
      exact Nat.le_trans hb2.size (Nat.le_trans hg3.size hg4.size)
    · unfold addQ
      rw [if_neg Hm.out]
      refine ⟨(heap_setCell_ne n6).trans hS4, one_setCell hL4, OwnK.same hP4 (heap_setCell_ne hg4b), by rw [List.length_append, st2.hn]; rfl, ?_, by omega, ?_, ?_, st2.bL_ge, st2.bM_ge⟩
      · rw [List.map_append]
        exact hM3.same ((heap_setCell_ne (Ne.symm n2)).trans (hg4.block bM hM3.lt (by intro e; exact n3 (Option.some.inj e).symm)))
      · intro p hp
        rcases List.mem_append.1 hp with h | h
        · have h1 := st2.rows p h
          have a1 := st2.neOwn h1.1
          have a2 := st2.neOwn h1.2
          exact ⟨h1.1.same (hblk _ h1.1.lt a1.2.1 a1.2.2.2 a1.2.2.1), h1.2.same (hblk _ h1.2.lt a2.2.1 a2.2.2.2 a2.2.2.1)⟩
        · rw [List.mem_singleton] at h
          subst h
          have a1 := st2.neOwn hor2
          have a2 := st2.neOwn hos2
          exact ⟨hor2.same (hblk _ hor2.lt a1.2.1 a1.2.2.2 a1.2.2.1), hos2.same (hblk _ hos2.lt a2.2.1 a2.2.2.2 a2.2.2.1)⟩
      · rw [List.map_append, List.nodup_append]
        refine ⟨st2.nodup, by simp, ?_⟩
        intro a ha b hb e
        obtain ⟨p, hp, rfl⟩ := List.mem_map.1 ha
        rw [List.map_cons, List.map_nil, List.mem_singleton] at hb
        exact hne p hp (e.trans hb)
end Go.Proofs.Ytmplcohpinghbaa
