/- pairedRoots' closure 'add': contract. The program's search for positive roots, as lists of roots: what holds on the way. Plain law. -/
import Derived.Test.YtmjneokgnnbekaaGreatDoorG26
import Derived.Deep.RegionHeld3
namespace Go.Proofs.YtmjneokgnnbekaaGreatDoor
set_option maxRecDepth 100000
open Go.RowKit Game
open Go.Maps (Keyed IsMap)

/-- 'seen[key]', run -/
theorem SeenMP.run {w : World} {b n m : Nat} {ks : List (List Int)} {v : List Int} (hown : SeenMP w b n m ks) (hv : v.length = m) (hw : WfVP v) :
    (Instr.lookup 84 (.map (some b)) (vecVal v) false).run Tryz.prog w = .ok (.bool (decide (v ∈ ks))) w := by
  obtain ⟨D, hD, -, hat⟩ := hown
  obtain ⟨u, ps, hrun, hu⟩ := hD.lookup vecKeyedP Tryz.underlying84 (boolZeroP w) (plainElem_bool (H := Unit) Tryz.underlying4 false) (keyOf_vecP hw)
  obtain ⟨z, rfl, hz⟩ := plainElem_bool_invP Tryz.underlying4 hu
  rw [hat v hv hw] at hz
  simp at hz
  rw [hrun, hz.1]

theorem frame_still {w w2 w3 : World} {bL gP bM : Nat} (h : Below w.heap.size w w2) (hs : ∃ k, w3 = w2.drewN k) : SmFr w w3 bL gP bM := by
  have hb := below_still h hs
  exact ⟨hb.os, hb.tape, hb.output, hb.size, fun k hk _ _ _ => hb.block k hk⟩

set_option maxRecDepth 100000 in
set_option maxHeartbeats 4000000 in
theorem impl_addP_any (B bS bL bM bH gP cP nP nM gr cr gs cs n n2 : Nat) (ps : List PairRef) (r s : List Int) (w : World) (hn : r.length = n) (hn2 : s.length = n2) (h4 : r.length ≤ 4) (hw : WfVP r) (hnP : nP ≤ 1000) (st : SmStP w B bS bL bM gP cP nP nM r.length ps)
    (hH : w.heap[bH]? = some (.cells #[.int .i64 12] 3 (0, 0))) (hor : Own w B gr cr r) (hos : Own w B gs cs s) (hne : ∀ p ∈ ps, p.1.1 ≠ gr) :
    Calls Tryz.prog 85 #[(Value.slice (some ⟨gr, 0, none⟩) n cr), (Value.slice (some ⟨gs, 0, none⟩) n2 cs), .pointer (some ⟨bS, 0, none⟩), .pointer (some ⟨bH, 0, none⟩), .pointer (some ⟨bL, 0, none⟩)] w (AddPostP B bS bL bM gP r.length w (addQP ps ((gr, cr, r), (gs, cs, s)))) := by
  subst hn; subst hn2
  have hvy : vecVal r = .agg #[.int .i64 (r.getD 0 0), .int .i64 (r.getD 1 0), .int .i64 (r.getD 2 0), .int .i64 (r.getD 3 0)] := rfl
  have hh1 : (w.alloc (.cells #[.int .i64 0, .int .i64 0, .int .i64 0, .int .i64 0] 63)).heap[w.heap.size]? = some (.cells #[.int .i64 0, .int .i64 0, .int .i64 0, .int .i64 0] 63 (0, 0)) := heap_alloc_new _ _
  have hb1 : Below w.heap.size w (w.alloc (.cells #[.int .i64 0, .int .i64 0, .int .i64 0, .int .i64 0] 63)) := (Below.refl _ _).alloc (Nat.le_refl _) _
  have Hh1 := Lib.hid hh1; have Hb1 := Lib.hid hb1
  have Hor := Lib.hid hor
  clear hh1 hb1
  go_enter Tryz.func85, Tryz.ntmps85
  go_wp2_with (refine wpList_copy_splice (o := ⟨some 11, _, _, _, _, _⟩) rfl (.tmp 9) (.tmp 10) 23 23 rfl 3 Tryz.underlying23 (by kernel_rfl) (some ⟨w.heap.size, 0, none⟩) (some ⟨gr, 0, none⟩) 4 4 r.length cr rfl rfl w.heap.size 0 [.int .i64 0, .int .i64 0, .int .i64 0, .int .i64 0] 63 Hh1.out (r.map (Value.int .i64)) (by rw [List.length_map]; exact (Nat.min_eq_left h4).symm) (fun _ => ⟨rfl, ⟨gr, 0, none⟩, rfl, ?_⟩) (by simp; omega) (ints_oneCell _ _) w.heap.size w ?_ (Nat.le_refl _) ?_)
  · intro j u hu
    have hj : j < r.length := by have := (List.getElem?_eq_some_iff.1 hu).1; simpa using this
    rw [Addr.add_lit]
    have h1 : Cells (w.alloc (.cells #[.int .i64 0, .int .i64 0, .int .i64 0, .int .i64 0] 63)) gr 0 r := Hor.out.cells.below Hb1.out Hor.out.lt
    rw [h1 j hj, ← hu]
    simp [List.getD, hj]
  · exact Hb1.out
  · intro w2 HG2 hB2
    have hG2 := HG2.out
    rw [splice4 r h4] at hG2
    have st2 := st.below hB2
    have hor2 := hor.below hB2 hor.lt
    have hos2 := hos.below hB2 hos.lt
    have hH2 := (hB2.block bH (box_lt hH)).trans hH
    have Hvy := Lib.hid hvy
    obtain ⟨⟨a0, a1, a2, a3⟩, af⟩ := cell4 hG2
    have qS := (box_cell st2.hS).1
    have qH := (box_cell hH2).1
    clear hvy HG2 hG2 Hh1 Hb1 Hor hor hos hH st
    have Hs : Hid (∀ q, Calls Tryz.prog 86 #[(Value.slice (some ⟨gr, 0, none⟩) r.length cr)] (w2.drewN q) (Reads (w2.drewN q) (.int .i64 (signL r)))) := Lib.hid fun q => impl_RootSign_any gr 0 r.length cr r (w2.drewN q) rfl (by omega) (hor2.cells.still ⟨q, rfl⟩)
    have Hh : Hid (∀ q, Calls Tryz.prog 48 #[(Value.slice (some ⟨gr, 0, none⟩) r.length cr)] (w2.drewN q) (Reads (w2.drewN q) (.int .i64 (heightL r)))) := Lib.hid fun q => impl_HeightOf_any gr 0 r.length cr r (w2.drewN q) rfl (by omega) (hor2.cells.still ⟨q, rfl⟩)
    have hs1 := sign_one r
    have hrun := fun q => SeenMP.run (w := w2.drewN q) (b := bM) (ks := rootsQ ps) (v := r) (st2.hM.still ⟨q, rfl⟩) rfl hw
    rw [Hvy.out] at hrun
    generalize r.getD 0 0 = y0 at *
    generalize r.getD 1 0 = y1 at *
    generalize r.getD 2 0 = y2 at *
    generalize r.getD 3 0 = y3 at *
    clear af
    by_cases hmem : r ∈ rootsQ ps
    · rw [decide_eq_true hmem] at hrun
      have Hq : Hid (addQP ps ((gr, cr, r), (gs, cs, s)) = ps) := Lib.hid (by unfold addQP; rw [if_neg (fun h => h.2.2 hmem)])
      clear hs1
      go_wp2_with fail
      go_quiet (first | (go_at_call 86; first | with_reducible exact Calls.quiet_of (Hs.out _) | with_reducible exact Reads.quiet4 (Hs.out _)) | (go_at_call 48; first | with_reducible exact Calls.quiet_of (Hh.out _) | with_reducible exact Reads.quiet4 (Hh.out _)))
      go_wp2_with fail
      go_end0
      exact ⟨rfl, frame_still hB2 ⟨_, rfl⟩, gP, cP, nP, nM, by rw [Hq.out]; exact st2.still ⟨_, rfl⟩, .inl rfl⟩
    rw [decide_eq_false hmem] at hrun
    by_cases hp : posB r = true
    · have d1 : (signL r == 1) = true := by rw [hs1]; exact hp
      by_cases hh : heightL r ≤ 12
      · have d2 : decide (heightL r ≤ 12) = true := decide_eq_true hh
        have Hq : Hid (addQP ps ((gr, cr, r), (gs, cs, s)) = ps ++ [((gr, cr, r), (gs, cs, s))]) := Lib.hid (by unfold addQP; rw [if_pos ⟨hp, hh, hmem⟩])
        generalize signL r = sg at *
        generalize heightL r = hr at *
        clear hs1 hh hmem hp
        have hnM := st2.hnM
        go_wp2_with fail
        go_quiet (first | (go_at_call 86; first | with_reducible exact Calls.quiet_of (Hs.out _) | with_reducible exact Reads.quiet4 (Hs.out _)) | (go_at_call 48; first | with_reducible exact Calls.quiet_of (Hh.out _) | with_reducible exact Reads.quiet4 (Hh.out _)))
        go_wp2_with (at_mapUpdate; refine wpList_seen_putP rfl _ _ _ rfl bM nM r.length (rootsQ ps) r rfl h4 hw (st2.hM.still ⟨_, rfl⟩) (by omega) rfl (by rw [Hvy.out]; rfl) rfl ?_)
        intro w3 hM3 hg3'
        have hg3 : w2.grownBy w3 (some bM) := ⟨hg3'.os, hg3'.tape, hg3'.output, hg3'.size, hg3'.block⟩
        clear hg3'
        obtain ⟨n1, n2, n3, n4, n5, n6⟩ := st2.ne
        have hS3 := (hg3.block bS (box_lt st2.hS) (by intro e; exact n1 (Option.some.inj e))).trans st2.hS
        have hL3 := (hg3.block bL (box_lt st2.hL) (by intro e; exact n2 (Option.some.inj e))).trans st2.hL
        have hP3 := st2.hP.grown hg3 (by intro e; exact n3 (Option.some.inj e))
        have qL := (box_cell hL3).1
        go_wp2_with (at_builtin; refine wpList_append_pairP rfl _ _ rfl B gP cP nP w3.heap.size ps ((gr, cr, r), (gs, cs, s)) w3 _ st2.hn rfl rfl hP3 rfl rfl (by omega) ?_)
        intro g4 c4 w4 hP4 hg4 hor4
        have hS4 := (hg4.block bS (box_lt hS3) (by intro e; exact n4 (Option.some.inj e))).trans hS3
        have hL4 := (hg4.block bL (box_lt hL3) (by intro e; exact n5 (Option.some.inj e))).trans hL3
        have fL := (box_cell hL4).2
        have cL := (box_cell hL4).1
        go_wp2
        go_end0
        have hblk : ∀ k, k < w2.heap.size → k ≠ bL → k ≠ gP → k ≠ bM → (w4.setCell ⟨bL, 0, none⟩ (Value.slice (some ⟨g4, 0, none⟩) (nP + 1) c4)).heap[k]? = w2.heap[k]? := fun k hk h1 h2 h3 =>
          (heap_setCell_ne h1).trans ((hg4.block k (Nat.lt_of_lt_of_le hk hg3.size) (by intro e; exact h2 (Option.some.inj e))).trans (hg3.block k hk (by intro e; exact h3 (Option.some.inj e))))
        have hg4b : g4 ≠ bL := by
          have := box_lt hL3
          rcases hor4 with h | h
          · rw [h]; exact Ne.symm n5
          · omega
        refine ⟨rfl, ⟨hg4.os.trans (hg3.os.trans hB2.os), hg4.tape.trans (hg3.tape.trans hB2.tape), hg4.output.trans (hg3.output.trans hB2.output), ?_, fun k hk h1 h2 h3 => (hblk k (Nat.lt_of_lt_of_le hk hB2.size) h1 h2 h3).trans (hB2.block k hk)⟩, g4, c4, nP + 1, nM + 1, ?_, hor4.imp id (fun h => by have := hB2.size; have := hg3.size; omega)⟩
        · rw [heap_setCell_size]
          exact Nat.le_trans hB2.size (Nat.le_trans hg3.size hg4.size)
        · rw [Hq.out]
          refine ⟨(heap_setCell_ne n6).trans hS4, one_setCell hL4, OwnK.same hP4 (heap_setCell_ne hg4b), by rw [List.length_append, st2.hn]; rfl, ?_, by omega, ?_, ?_, st2.bL_ge, st2.bM_ge⟩
          · rw [List.map_append]
            exact hM3.same ((heap_setCell_ne (Ne.symm n2)).trans (hg4.block bM hM3.lt (by intro e; exact n3 (Option.some.inj e).symm)))
          · intro p hp
            rcases List.mem_append.1 hp with h | h
            · have h1 := st2.rows p h
              have a1 := st2.neOwn h1.1
              have a2 := st2.neOwn h1.2
              exact ⟨h1.1.same (hblk _ h1.1.lt a1.2.1 a1.2.2.2 a1.2.2.1), h1.2.same (hblk _ h1.2.lt a2.2.1 a2.2.2.2 a2.2.2.1)⟩
            · rw [List.mem_singleton] at h
              subst h
              have a1 := st2.neOwn hor2
              have a2 := st2.neOwn hos2
              exact ⟨hor2.same (hblk _ hor2.lt a1.2.1 a1.2.2.2 a1.2.2.1), hos2.same (hblk _ hos2.lt a2.2.1 a2.2.2.2 a2.2.2.1)⟩
          · rw [List.map_append, List.nodup_append]
            refine ⟨st2.nodup, by simp, ?_⟩
            intro a ha b hb e
            obtain ⟨p, hp, rfl⟩ := List.mem_map.1 ha
            rw [List.map_cons, List.map_nil, List.mem_singleton] at hb
            exact hne p hp (e.trans hb)
      · have d2 : decide (heightL r ≤ 12) = false := decide_eq_false hh
        have hneg : ¬ (posB r = true ∧ heightL r ≤ 12 ∧ r ∉ rootsQ ps) := fun h => hh h.2.1
        have Hq : Hid (addQP ps ((gr, cr, r), (gs, cs, s)) = ps) := Lib.hid (by unfold addQP; rw [if_neg hneg])
        generalize signL r = sg at *
        generalize heightL r = hr at *
        clear hs1 hneg hh
        go_wp2_with fail
        go_quiet (first | (go_at_call 86; first | with_reducible exact Calls.quiet_of (Hs.out _) | with_reducible exact Reads.quiet4 (Hs.out _)) | (go_at_call 48; first | with_reducible exact Calls.quiet_of (Hh.out _) | with_reducible exact Reads.quiet4 (Hh.out _)))
        go_wp2_with fail
        go_end0
        exact ⟨rfl, frame_still hB2 ⟨_, rfl⟩, gP, cP, nP, nM, by rw [Hq.out]; exact st2.still ⟨_, rfl⟩, .inl rfl⟩
    · have d1 : (signL r == 1) = false := by rw [hs1]; simpa using hp
      have Hq : Hid (addQP ps ((gr, cr, r), (gs, cs, s)) = ps) := Lib.hid (by unfold addQP; rw [if_neg (fun h => hp h.1)])
      generalize signL r = sg at *
      clear hs1
      go_wp2_with fail
      go_quiet (first | (go_at_call 86; first | with_reducible exact Calls.quiet_of (Hs.out _) | with_reducible exact Reads.quiet4 (Hs.out _)) | (go_at_call 48; first | with_reducible exact Calls.quiet_of (Hh.out _) | with_reducible exact Reads.quiet4 (Hh.out _)))
      go_wp2_with fail
      go_end0
      exact ⟨rfl, frame_still hB2 ⟨_, rfl⟩, gP, cP, nP, nM, by rw [Hq.out]; exact st2.still ⟨_, rfl⟩, .inl rfl⟩
end Go.Proofs.YtmjneokgnnbekaaGreatDoor
namespace Go.Proofs.YtmjneokgnnbekaaGreatDoor
set_option maxRecDepth 100000
open Go.RowKit

def addR (Q : List (List Int)) (r : List Int) : List (List Int) := if posB r = true ∧ heightL r ≤ 12 ∧ r ∉ Q then Q ++ [r] else Q
theorem rootsQ_addQP (ps : List PairRef) (p : PairRef) : rootsQ (addQP ps p) = addR (rootsQ ps) p.1.2.2 := by
  unfold addQP addR
  split
  · simp [rootsQ]
  · rfl
structure PrSt (c Q : List (List Int)) (k i : Nat) : Prop where
  nodup : Q.Nodup
  sub : ∀ x ∈ Q, x ∈ posL c
  simp : ∀ j, j < c.length → simpL c.length j ∈ Q
  done : ∀ j t, (j < k ∧ t < c.length ∨ j = k ∧ t < i) → j < Q.length → posB (mirL c t (Q.getD j [])) = true → heightL (mirL c t (Q.getD j [])) ≤ 12 → mirL c t (Q.getD j []) ∈ Q
theorem addR_sub {Q : List (List Int)} {r : List Int} : ∀ x ∈ Q, x ∈ addR Q r := fun x hx => by
  unfold addR; split
  · exact List.mem_append_left _ hx
  · exact hx
theorem addR_getD {Q : List (List Int)} {r : List Int} {j : Nat} (hj : j < Q.length) : (addR Q r).getD j [] = Q.getD j [] := by
  unfold addR; split
  · simp [List.getD, hj, List.getElem?_append_left hj]
  · rfl
theorem addR_len {Q : List (List Int)} {r : List Int} : Q.length ≤ (addR Q r).length ∧ (addR Q r).length ≤ Q.length + 1 := by
  unfold addR; split <;> simp
theorem PrSt.step {c Q : List (List Int)} {k i : Nat} (hP : PosOk c) (h : PrSt c Q k i) (hk : k < Q.length) (hi : i < c.length) : PrSt c (addR Q (mirL c i (Q.getD k []))) k (i + 1) := by
  have hx : Q.getD k [] ∈ Q := by simp [List.getD, hk]
  refine ⟨?_, ?_, fun j hj => addR_sub _ (h.simp j hj), ?_⟩
  · unfold addR
    split
    · rename_i hc
      rw [List.nodup_append]
      refine ⟨h.nodup, by simp, ?_⟩
      intro a ha b hb e
      rw [List.mem_singleton] at hb
      subst hb; subst e
      exact hc.2.2 ha
    · exact h.nodup
  · intro x hx'
    unfold addR at hx'
    split at hx'
    · rename_i hc
      rcases List.mem_append.1 hx' with g | g
      · exact h.sub x g
      · rw [List.mem_singleton] at g
        subst g
        exact hP.closed.step _ (h.sub _ hx) i hi hc.1 hc.2.1
    · exact h.sub x hx'
  · intro j t hjt hj h1 h2
    have hjQ : j < Q.length := by
      rcases hjt with ⟨g, -⟩ | ⟨g, -⟩ <;> omega
    rw [addR_getD hjQ] at h1 h2 ⊢
    by_cases e : j = k ∧ t = i
    · obtain ⟨rfl, rfl⟩ := e
      by_cases hm : mirL c t (Q.getD j []) ∈ Q
      · exact addR_sub _ hm
      · unfold addR
        rw [if_pos ⟨h1, h2, hm⟩]
        simp
    · refine addR_sub _ (h.done j t ?_ hjQ h1 h2)
      rcases hjt with g | ⟨g1, g2⟩
      · exact .inl g
      · exact .inr ⟨g1, by omega⟩
theorem PrSt.next {c Q : List (List Int)} {k : Nat} (h : PrSt c Q k c.length) : PrSt c Q (k + 1) 0 :=
  ⟨h.nodup, h.sub, h.simp, fun j t hjt => h.done j t (by rcases hjt with ⟨g1, g2⟩ | ⟨-, g2⟩ <;> omega)⟩
theorem PrSt.few {c Q : List (List Int)} {k i : Nat} (hP : PosOk c) (h : PrSt c Q k i) : Q.length ≤ 24 := by
  exact Nat.le_trans (h.nodup.length_le_of_subset h.sub) hP.few
theorem PrSt.fin {c Q : List (List Int)} {k : Nat} (h : PrSt c Q k 0) (hk : Q.length ≤ k) : putsR Q = posL c := by
  refine posL_eq h.nodup h.sub ⟨h.simp, fun r hr i hi h1 h2 => ?_⟩
  obtain ⟨j, hj, rfl⟩ := List.mem_iff_getElem.1 hr
  have e : Q.getD j [] = Q[j] := by simp [List.getD, hj]
  have := h.done j i (.inl ⟨by omega, hi⟩) hj
  rw [e] at this
  exact this h1 h2
theorem PrSt.start {c : List (List Int)} (h : ∀ j, j < c.length → simpL c.length j ∈ (smStart c).map (·.1)) (hn : ((smStart c).map (·.1)).Nodup) (hP : PosOk c) : PrSt c ((smStart c).map (·.1)) 0 0 :=
  ⟨hn, fun x hx => by
    obtain ⟨p, hp, rfl⟩ := List.mem_map.1 hx
    unfold smStart at hp
    obtain ⟨i, hi, rfl⟩ := List.mem_map.1 hp
    exact hP.closed.simp i (List.mem_range.1 hi), h, fun j t hjt => by omega⟩
end Go.Proofs.YtmjneokgnnbekaaGreatDoor
