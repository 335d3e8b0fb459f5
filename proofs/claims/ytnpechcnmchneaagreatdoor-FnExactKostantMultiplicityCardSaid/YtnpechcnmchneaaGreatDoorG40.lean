/- The program's pairedRoots at height 12 (under way): the state at the start, and where rows grow. -/
import Derived.Test.YtnpechcnmchneaaGreatDoorG36
import Derived.Test.YtnpechcnmchneaaGreatDoorG38
import Derived.Test.YtnpechcnmchneaaGreatDoorG39
namespace Go.Proofs.YtnpechcnmchneaaGreatDoor
set_option maxRecDepth 100000
open Go.RowKit Game

theorem SmStP.start (w3 : World) (B m : Nat) (hB : B ≤ w3.heap.size) :
    SmStP ((((w3.alloc (.cells #[] 136)).alloc (.cells #[(Value.slice (some ⟨w3.heap.size, 0, none⟩) 0 0)] 133)).alloc (.map #[] 0)).alloc (.cells #[.map (some (w3.heap.size + 1 + 1))] 134)) B (w3.heap.size + 1 + 1 + 1) (w3.heap.size + 1) (w3.heap.size + 1 + 1) w3.heap.size 0 0 0 m [] := by
  have hP := OwnPairsP.empty (w := w3) hB
  have h1 := heap_alloc_new (w3.alloc (.cells #[] 136)) (.cells #[(Value.slice (some ⟨w3.heap.size, 0, none⟩) 0 0)] 133)
  have s1 : (w3.alloc (.cells #[] 136)).heap.size = w3.heap.size + 1 := by simp
  rw [s1] at h1
  generalize w3.alloc (.cells #[] 136) = wA at *
  have hP2 := hP.below ((Below.refl _ _).alloc (Nat.le_refl _) (.cells #[(Value.slice (some ⟨w3.heap.size, 0, none⟩) 0 0)] 133))
  have s2 : (wA.alloc (.cells #[(Value.slice (some ⟨w3.heap.size, 0, none⟩) 0 0)] 133)).heap.size = w3.heap.size + 1 + 1 := by simp [s1]
  generalize wA.alloc (.cells #[(Value.slice (some ⟨w3.heap.size, 0, none⟩) 0 0)] 133) = wB at *
  have hM := SeenMP.start wB m
  rw [s2] at hM
  have hP3 := hP2.below ((Below.refl _ _).alloc (Nat.le_refl _) (.map #[] 0))
  have h2 := (Below.heap_alloc wB (.map #[] 0) (w3.heap.size + 1) (by omega)).trans h1
  have s3 : (wB.alloc (.map #[] 0)).heap.size = w3.heap.size + 1 + 1 + 1 := by simp [s2]
  generalize wB.alloc (.map #[] 0) = wC at *
  have h3 := heap_alloc_new wC (.cells #[.map (some (w3.heap.size + 1 + 1))] 134)
  rw [s3] at h3
  have hb := (Below.refl wC.heap.size wC).alloc (Nat.le_refl _) (.cells #[.map (some (w3.heap.size + 1 + 1))] 134)
  exact ⟨h3, (hb.block _ (by omega)).trans h2, hP3.below hb, rfl, hM.same (hb.block _ (by omega)), Nat.le_refl _, by simp, by simp, by omega, by omega⟩
/-- the state stays where a list of rows grows -/
theorem SmStP.rowsGrow {w w' : World} {B bS bL bM gP cP nP nM m : Nat} {ps : List PairRef} (st : SmStP w B bS bL bM gP cP nP nM m ps) {B2 g cap : Nat} {rs : List RowRef} (ho : OwnRows w B2 g cap rs) (hg : w.grownBy w' (some g)) : SmStP w' B bS bL bM gP cP nP nM m ps := by
  obtain ⟨h1, h2, h3, h4⟩ := st.neRows ho
  have hk : ∀ k, k < w.heap.size → k ≠ g → w'.heap[k]? = w.heap[k]? := fun k hk hne => hg.block k hk (fun e => hne (Option.some.inj e))
  exact ⟨(hk _ (box_lt st.hS) (Ne.symm h1)).trans st.hS, (hk _ (box_lt st.hL) (Ne.symm h2)).trans st.hL, OwnK.same st.hP (hk _ st.hP.lt (Ne.symm h4)), st.hn, st.hM.same (hk _ st.hM.lt (Ne.symm h3)), st.hnM, fun p hp => by
    have a := (st.rows p hp).1
    have b := (st.rows p hp).2
    exact ⟨a.same (hk _ a.lt (Ne.symm (ho.1.ne a.toV (by decide)))), b.same (hk _ b.lt (Ne.symm (ho.1.ne b.toV (by decide))))⟩, st.nodup, st.bL_ge, st.bM_ge⟩

/-- the pairs, and the two lists that are made of them at last -/
structure PrEnd (w0 wi : World) (gP cP g1 c1 g2 c2 t1 t2 : Nat) (ps : List PairRef) : Prop where
  r1 : OwnRows wi w0.heap.size g1 c1 ((ps.take t1).map (·.1))
  r2 : OwnRows wi w0.heap.size g2 c2 ((ps.take t2).map (·.2))
  hP : OwnPairsP wi w0.heap.size gP cP ps
  rows : ∀ p ∈ ps, Own wi w0.heap.size p.1.1 p.1.2.1 p.1.2.2 ∧ Own wi w0.heap.size p.2.1 p.2.2.1 p.2.2.2
  ne : g1 ≠ g2
  below : Below w0.heap.size w0 wi
theorem PrEnd.keep {w0 wi w' : World} {gP cP g1 c1 g2 c2 t1 t2 : Nat} {ps : List PairRef} (h : PrEnd w0 wi gP cP g1 c1 g2 c2 t1 t2 ps) (hb : Below wi.heap.size wi w') : PrEnd w0 w' gP cP g1 c1 g2 c2 t1 t2 ps :=
  ⟨h.r1.below hb, h.r2.below hb, OwnK.same h.hP (hb.block _ h.hP.lt), fun p hp => ⟨(h.rows p hp).1.below hb (h.rows p hp).1.lt, (h.rows p hp).2.below hb (h.rows p hp).2.lt⟩, h.ne, h.below.trans (hb.mono h.below.size)⟩
theorem pairs_ne_rows {w : World} {B B2 gP cP g cap : Nat} {ps : List PairRef} {rs : List RowRef} (hP : OwnPairsP w B gP cP ps) (ho : OwnRows w B2 g cap rs) : gP ≠ g := by
  obtain ⟨cur, h2, -⟩ := OwnK.row hP
  obtain ⟨cur2, h5, -⟩ := ho.1.row
  intro e; subst e; simp_all
theorem PrEnd.app1 {w0 wi w' : World} {gP cP g1 c1 g2 c2 t t2 g' c' : Nat} {ps : List PairRef} (h : PrEnd w0 wi gP cP g1 c1 g2 c2 t t2 ps) (ht : t < ps.length) (hO : OwnRows w' w0.heap.size g' c' ((ps.take t).map (·.1) ++ [ps[t].1])) (hg : wi.grownBy w' (some g1)) (hor : g' = g1 ∨ wi.heap.size < g') : PrEnd w0 w' gP cP g' c' g2 c2 (t + 1) t2 ps := by
  have hk : ∀ k, k < wi.heap.size → k ≠ g1 → w'.heap[k]? = wi.heap[k]? := fun k hk hne => hg.block k hk (fun e => hne (Option.some.inj e))
  refine ⟨?_, ?_, OwnK.same h.hP (hk _ h.hP.lt (pairs_ne_rows h.hP h.r1)), fun p hp => ?_, ?_, h.below.grown hg h.below.size (by intro j hj; cases hj; exact h.r1.base)⟩
  · rw [List.take_succ_eq_append_getElem ht, List.map_append]; exact hO
  · exact ⟨h.r2.1.same (hk _ h.r2.lt h.ne.symm), fun r hr => (h.r2.2.1 r hr).same (hk _ (h.r2.2.1 r hr).lt (Ne.symm (h.r1.1.ne (h.r2.2.1 r hr).toV (by decide)))), h.r2.2.2⟩
  · have a := (h.rows p hp).1
    have b := (h.rows p hp).2
    exact ⟨a.same (hk _ a.lt (Ne.symm (h.r1.1.ne a.toV (by decide)))), b.same (hk _ b.lt (Ne.symm (h.r1.1.ne b.toV (by decide))))⟩
  · have := h.r2.lt
    have := h.ne
    rcases hor with e | e <;> omega
theorem PrEnd.app2 {w0 wi w' : World} {gP cP g1 c1 g2 c2 t t1 g' c' : Nat} {ps : List PairRef} (h : PrEnd w0 wi gP cP g1 c1 g2 c2 t1 t ps) (ht : t < ps.length) (hO : OwnRows w' w0.heap.size g' c' ((ps.take t).map (·.2) ++ [ps[t].2])) (hg : wi.grownBy w' (some g2)) (hor : g' = g2 ∨ wi.heap.size < g') : PrEnd w0 w' gP cP g1 c1 g' c' t1 (t + 1) ps := by
  have hk : ∀ k, k < wi.heap.size → k ≠ g2 → w'.heap[k]? = wi.heap[k]? := fun k hk hne => hg.block k hk (fun e => hne (Option.some.inj e))
  refine ⟨?_, ?_, OwnK.same h.hP (hk _ h.hP.lt (pairs_ne_rows h.hP h.r2)), fun p hp => ?_, ?_, h.below.grown hg h.below.size (by intro j hj; cases hj; exact h.r2.base)⟩
  · exact ⟨h.r1.1.same (hk _ h.r1.lt h.ne), fun r hr => (h.r1.2.1 r hr).same (hk _ (h.r1.2.1 r hr).lt (Ne.symm (h.r2.1.ne (h.r1.2.1 r hr).toV (by decide)))), h.r1.2.2⟩
  · rw [List.take_succ_eq_append_getElem ht, List.map_append]; exact hO
  · have a := (h.rows p hp).1
    have b := (h.rows p hp).2
    exact ⟨a.same (hk _ a.lt (Ne.symm (h.r2.1.ne a.toV (by decide)))), b.same (hk _ b.lt (Ne.symm (h.r2.1.ne b.toV (by decide))))⟩
  · have := h.r1.lt
    have := h.ne
    rcases hor with e | e <;> omega
/-- what the search is at the end, in order -/
def PrDone (R : List Int → List Int → Prop) (w0 : World) (c : List (List Int)) (e : Ending) (w' : World) : Prop :=
  ∃ g cap rs g2 cap2 rs2, e = .returned (.tuple #[(Value.slice (some ⟨g, 0, none⟩) ((posL c).length) cap), (Value.slice (some ⟨g2, 0, none⟩) ((posL c).length) cap2)]) ∧ contents rs = posL c ∧ (contents rs2).length = (posL c).length ∧ (∀ k, k < (posL c).length → R ((posL c).getD k []) ((contents rs2).getD k [])) ∧ OwnRows w' w0.heap.size g cap rs ∧ OwnRows w' w0.heap.size g2 cap2 rs2 ∧ Below w0.heap.size w0 w'

/-- roots and coroots have a number for each point -/
def LenQ (R : List Int → List Int → Prop) (m : Nat) (ps : List PairRef) : Prop := (∀ p ∈ ps, p.1.2.2.length = m ∧ p.2.2.2.length = m ∧ WfV p.1.2.2 ∧ R p.1.2.2 p.2.2.2) ∧ (ps.map fun p => p.2.1).Nodup
/-- what roots have to do with their coroots -/
structure CoRel (c : List (List Int)) (R : List Int → List Int → Prop) : Prop where
  simp : ∀ i, i < c.length → R (simpL c.length i) (simpL c.length i)
  step : ∀ x y i, R x y → i < c.length → posB (mirL c i x) = true → heightL (mirL c i x) ≤ 12 → R (mirL c i x) (mirL (transL c) i y)
theorem CoRel.any (c : List (List Int)) : CoRel c fun _ _ => True := ⟨fun _ _ => trivial, fun _ _ _ _ _ _ _ => trivial⟩
/-- what a round of the inner loop leaves -/
def PrRnd (R : List Int → List Int → Prop) (w0 : World) (bS bL bM bH bp bo co bd cd gT cT k i : Nat) (c : List (List Int)) (x y : List Int) (rsT : List RowRef) (w' : World) : Prop :=
  ∃ (gP cP nP nM : Nat) (ps : List PairRef), k < nP ∧ SmStP w' w0.heap.size bS bL bM gP cP nP nM c.length ps ∧ PrSt c (rootsQ ps) k i ∧ LenQ R c.length ps ∧ (rootsQ ps).getD k [] = x ∧ w'.heap[bH]? = some (.cells #[.int .i64 12] 3 (0, 0)) ∧ OwnRows w' w0.heap.size gT cT rsT ∧ Below w0.heap.size w0 w' ∧ Own w' w0.heap.size bo co x ∧ Own w' w0.heap.size bd cd y ∧ w'.heap[bp]? = some (.cells #[(Value.slice (some ⟨bo, 0, none⟩) c.length co), (Value.slice (some ⟨bd, 0, none⟩) c.length cd)] 136 (0, 0)) ∧ bp ≠ gP ∧ bH ≠ gP
theorem PrRnd.cells {R : List Int → List Int → Prop} {w0 : World} {bS bL bM bH bp bo co bd cd gT cT k i : Nat} {c : List (List Int)} {x y : List Int} {rsT : List RowRef} {w' : World} (h : PrRnd R w0 bS bL bM bH bp bo co bd cd gT cT k i c x y rsT w') :
    w'.cell? ⟨bp, 0, none⟩ = some (Value.slice (some ⟨bo, 0, none⟩) c.length co) ∧ w'.cell? ⟨bp, 1, none⟩ = some (Value.slice (some ⟨bd, 0, none⟩) c.length cd) := by
  obtain ⟨gP, cP, nP, nM, ps, h⟩ := h
  exact cell2 h.2.2.2.2.2.2.2.2.2.2.1
set_option maxHeartbeats 1000000 in
theorem addP_round {R : List Int → List Int → Prop} {w0 wr W : World} {bS bL bM bH bp bo co bd cd gT cT k i gP cP nP nM gA cA gD cD : Nat} {c : List (List Int)} {x y s : List Int} {rsT : List RowRef} {ps : List PairRef}
    (hn4 : c.length ≤ 4) (hP : PosOk c) (hxl : x.length = c.length) (hsl : s.length = c.length) (hwx : WfV x) (hi : i < c.length) (hk : k < nP) (st : SmStP wr w0.heap.size bS bL bM gP cP nP nM c.length ps)
    (hok : PrSt c (rootsQ ps) k i) (hlen : LenQ R c.length ps) (hs : posB (mirL c i x) = true → heightL (mirL c i x) ≤ 12 → R (mirL c i x) s) (hx : (rootsQ ps).getD k [] = x) (hH : wr.heap[bH]? = some (.cells #[.int .i64 12] 3 (0, 0))) (hT : OwnRows wr w0.heap.size gT cT rsT) (hb : Below w0.heap.size w0 wr) (hox : Own wr w0.heap.size bo co x) (hoy : Own wr w0.heap.size bd cd y)
    (hp : wr.heap[bp]? = some (.cells #[(Value.slice (some ⟨bo, 0, none⟩) c.length co), (Value.slice (some ⟨bd, 0, none⟩) c.length cd)] 136 (0, 0))) (hpg : bp ≠ gP) (hpL : bp ≠ bL) (hpM : bp ≠ bM) (hHL : bH ≠ bL) (hHM : bH ≠ bM) (hHP : bH ≠ gP)
    (hbL : w0.heap.size ≤ bL) (hbM : w0.heap.size ≤ bM) (hW : Below wr.heap.size wr W) (hoA : Own W wr.heap.size gA cA (mirL c i x)) (hoD : Own W wr.heap.size gD cD s) :
    Calls Tryz.prog 194 #[(Value.slice (some ⟨gA, 0, none⟩) c.length cA), (Value.slice (some ⟨gD, 0, none⟩) c.length cD), .pointer (some ⟨bS, 0, none⟩), .pointer (some ⟨bH, 0, none⟩), .pointer (some ⟨bL, 0, none⟩)] W fun e w' => e = .returned (.tuple #[]) ∧ PrRnd R w0 bS bL bM bH bp bo co bd cd gT cT k (i + 1) c x y rsT w' := by
  have hrl : (mirL c i x).length = c.length := by rw [mirL_length]; exact hxl
  have hwr : WfV (mirL c i x) := wfV_mir hwx
  have hkQ : k < (rootsQ ps).length := by rw [rootsQ, List.length_map, st.hn]; exact hk
  have hnP : nP ≤ 24 := by have := hok.few hP; rw [rootsQ, List.length_map, st.hn] at this; exact this
  have hstep := hok.step hP hkQ hi
  rw [hx] at hstep
  have hgetD := addR_getD (r := mirL c i x) hkQ
  rw [hx] at hgetD
  have hadd := rootsQ_addQP ps ((gA, cA, mirL c i x), (gD, cD, s))
  have stW := st.below hW
  have hTW := hT.below hW
  have hxW := hox.below hW hox.lt
  have hyW := hoy.below hW hoy.lt
  have hpW := (hW.block bp (box_lt hp)).trans hp
  have hHW := (hW.block bH (box_lt hH)).trans hH
  have hbW := hb.trans (hW.mono hb.size)
  have hne : ∀ p ∈ ps, p.1.1 ≠ gA := fun p hp e => by
    have h1 := (st.rows p hp).1.lt
    have h2 := hoA.base
    omega
  refine (impl_addP_any w0.heap.size bS bL bM bH gP cP nP nM gA cA gD cD c.length c.length ps (mirL c i x) s W hrl hsl (by rw [hrl]; exact hn4) hwr (by omega) (by rw [hrl]; exact stW) hHW (hoA.mono hb.size) (hoD.mono hb.size) hne).mono ?_
  rintro e w6 ⟨rfl, hfr, gP', cP', nP', nM', st6, hor⟩
  rw [hrl] at st6
  refine ⟨rfl, gP', cP', nP', nM', _, ?_, st6, by rw [hadd]; exact hstep, ?_, by rw [hadd]; exact hgetD, (hfr.block bH (box_lt hHW) hHL hHP hHM).trans hHW, hfr.rowsP stW hTW, hbW.trans (hfr.below hbL stW.hP.base hbM hbW.size), ?_, ?_, (hfr.block bp (box_lt hpW) hpL hpg hpM).trans hpW, ?_, ?_⟩
  · rw [← st6.hn]
    have h1 : (addQP ps ((gA, cA, mirL c i x), (gD, cD, s))).length = (rootsQ (addQP ps ((gA, cA, mirL c i x), (gD, cD, s)))).length := by simp [rootsQ]
    rw [h1, hadd]
    exact Nat.lt_of_lt_of_le hkQ addR_len.1
  · unfold addQP
    split
    · rename_i hc
      refine ⟨fun p hp => ?_, ?_⟩
      · rcases List.mem_append.1 hp with h | h
        · exact hlen.1 p h
        · rw [List.mem_singleton] at h; subst h; exact ⟨hrl, hsl, hwr, hs hc.1 hc.2.1⟩
      · rw [List.map_append, List.nodup_append]
        refine ⟨hlen.2, by simp, ?_⟩
        intro a ha b hb e
        obtain ⟨p, hp, rfl⟩ := List.mem_map.1 ha
        simp only [List.map_cons, List.map_nil, List.mem_singleton] at hb
        have h1 := (st.rows p hp).2.lt
        have h2 := hoD.base
        omega
    · exact hlen
  · have ax := stW.neOwn hxW
    exact hxW.same (hfr.block _ hxW.lt ax.2.1 ax.2.2.2 ax.2.2.1)
  · have ay := stW.neOwn hyW
    exact hyW.same (hfr.block _ hyW.lt ay.2.1 ay.2.2.2 ay.2.2.1)
  · rcases hor with h | h
    · rw [h]; exact hpg
    · have := box_lt hpW; omega
  · rcases hor with h | h
    · rw [h]; exact hHP
    · have := box_lt hHW; omega
end Go.Proofs.YtnpechcnmchneaaGreatDoor
