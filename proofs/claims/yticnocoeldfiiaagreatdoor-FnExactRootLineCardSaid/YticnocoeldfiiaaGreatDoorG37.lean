/- Small roots by the program: contract. -/
import Derived.Test.YticnocoeldfiiaaGreatDoorG21
import Derived.BigQuiet
import Derived.Deep.RegionHeld3
namespace Go.Proofs.YticnocoeldfiiaaGreatDoor
open Go.RowKit Game

def valsQ (ps : List PairRef) : List RPair := ps.map fun p => (p.1.2.2, p.2.2.2)
theorem valsQ_fst (ps : List PairRef) : (valsQ ps).map (·.1) = rootsQ ps := by simp [valsQ, rootsQ]
theorem valsQ_length (ps : List PairRef) : (valsQ ps).length = ps.length := by simp [valsQ]
theorem valsQ_push (ps : List PairRef) (p : PairRef) : valsQ (ps ++ [p]) = valsQ ps ++ [(p.1.2.2, p.2.2.2)] := by simp [valsQ]
theorem start_new {c : List (List Int)} {k : Nat} (hk : k < c.length) : simpL c.length k ∉ ((smStart c).take k).map (·.1) := by
  have h := (smStart_ok c).nodup
  have e : smStart c = (smStart c).take (k + 1) ++ (smStart c).drop (k + 1) := (List.take_append_drop _ _).symm
  rw [e, smStart_take c k hk, List.map_append, List.map_append] at h
  have h2 := (List.nodup_append.1 (List.nodup_append.1 h).1).2.2
  intro hm
  exact h2 _ hm _ (by simp) rfl
theorem run_makeFunc (fn : Fn) (first cap : Array Value) (w : World) : (Instr.makeFunc fn first cap).run Tryz.prog w = .ok (.func fn first cap) w := rfl
theorem smStep_getD {c t : List (List Int)} {Q : List RPair} {k i : Nat} (hk : k < Q.length) : (smStep c t Q k i).getD k ([], []) = Q.getD k ([], []) := by
  unfold smStep
  dsimp only
  split
  · simp [List.getD, List.getElem?_append_left hk]
  · rfl
theorem smRow_getD {c t : List (List Int)} {Q : List RPair} {k : Nat} (hk : k < Q.length) : ∀ i, (smRow c t Q k i).getD k ([], []) = Q.getD k ([], [])
  | 0 => rfl
  | i + 1 => by
    simp only [smRow]
    rw [smStep_getD (Nat.lt_of_lt_of_le hk (smRow_le i).1), smRow_getD hk i]
theorem valsQ_getD {ps : List PairRef} {k : Nat} (hk : k < ps.length) : (valsQ ps).getD k ([], []) = (ps[k].1.2.2, ps[k].2.2.2) := by simp [valsQ, List.getD, hk]
theorem SmSt.start (w3 : World) (B m : Nat) (hB : B ≤ w3.heap.size) :
    SmSt ((((w3.alloc (.cells #[] 76)).alloc (.cells #[(Value.slice (some ⟨w3.heap.size, 0, none⟩) 0 0)] 70)).alloc (.map #[] 0)).alloc (.cells #[.map (some (w3.heap.size + 1 + 1))] 71)) B (w3.heap.size + 1 + 1 + 1) (w3.heap.size + 1) (w3.heap.size + 1 + 1) w3.heap.size 0 0 0 m [] := by
  have hP := OwnPairs.empty (w := w3) hB
  have h1 := heap_alloc_new (w3.alloc (.cells #[] 76)) (.cells #[(Value.slice (some ⟨w3.heap.size, 0, none⟩) 0 0)] 70)
  have s1 : (w3.alloc (.cells #[] 76)).heap.size = w3.heap.size + 1 := by simp
  rw [s1] at h1
  generalize w3.alloc (.cells #[] 76) = wA at *
  have hP2 := hP.below ((Below.refl _ _).alloc (Nat.le_refl _) (.cells #[(Value.slice (some ⟨w3.heap.size, 0, none⟩) 0 0)] 70))
  have s2 : (wA.alloc (.cells #[(Value.slice (some ⟨w3.heap.size, 0, none⟩) 0 0)] 70)).heap.size = w3.heap.size + 1 + 1 := by simp [s1]
  generalize wA.alloc (.cells #[(Value.slice (some ⟨w3.heap.size, 0, none⟩) 0 0)] 70) = wB at *
  have hM := SeenM.start wB m
  rw [s2] at hM
  have hP3 := hP2.below ((Below.refl _ _).alloc (Nat.le_refl _) (.map #[] 0))
  have h2 := (Below.heap_alloc wB (.map #[] 0) (w3.heap.size + 1) (by omega)).trans h1
  have s3 : (wB.alloc (.map #[] 0)).heap.size = w3.heap.size + 1 + 1 + 1 := by simp [s2]
  generalize wB.alloc (.map #[] 0) = wC at *
  have h3 := heap_alloc_new wC (.cells #[.map (some (w3.heap.size + 1 + 1))] 71)
  rw [s3] at h3
  have hb := (Below.refl wC.heap.size wC).alloc (Nat.le_refl _) (.cells #[.map (some (w3.heap.size + 1 + 1))] 71)
  exact ⟨h3, (hb.block _ (by omega)).trans h2, hP3.below hb, rfl, hM.same (hb.block _ (by omega)), Nat.le_refl _, by simp, by simp, by omega, by omega⟩
theorem wfV_simp (n i : Nat) : WfV (simpL n i) := by
  intro j _
  have : (simpL n i).getD j 0 = 0 ∨ (simpL n i).getD j 0 = 1 := by
    unfold simpL
    simp only [List.getD, List.getElem?_set]
    split
    · split
      · exact .inr rfl
      · exact .inl rfl
    · left
      by_cases h : j < n
      · simp [h]
      · simp [h]
  rcases this with h | h <;> rw [h] <;> decide
theorem wfV_mir {c : List (List Int)} {i : Nat} {r : List Int} (h : WfV r) : WfV (mirL c i r) := by
  intro j hj
  have := h j hj
  unfold mirL
  simp only [List.getD, List.getElem?_set] at *
  split
  · split
    · exact wrap64_wf _
    · decide
  · exact this
/-- the state stays where a list of rows grows -/
theorem SmSt.rowsGrow {w w' : World} {B bS bL bM gP cP nP nM m : Nat} {ps : List PairRef} (st : SmSt w B bS bL bM gP cP nP nM m ps) {B2 g cap : Nat} {rs : List RowRef} (ho : OwnRows w B2 g cap rs) (hg : w.grownBy w' (some g)) : SmSt w' B bS bL bM gP cP nP nM m ps := by
  obtain ⟨h1, h2, h3, h4⟩ := st.neRows ho
  have hk : ∀ k, k < w.heap.size → k ≠ g → w'.heap[k]? = w.heap[k]? := fun k hk hne => hg.block k hk (fun e => hne (Option.some.inj e))
  exact ⟨(hk _ (box_lt st.hS) (Ne.symm h1)).trans st.hS, (hk _ (box_lt st.hL) (Ne.symm h2)).trans st.hL, OwnK.same st.hP (hk _ st.hP.lt (Ne.symm h4)), st.hn, st.hM.same (hk _ st.hM.lt (Ne.symm h3)), st.hnM, fun p hp => by
    have a := (st.rows p hp).1
    have b := (st.rows p hp).2
    exact ⟨a.same (hk _ a.lt (Ne.symm (ho.1.ne a.toV (by decide)))), b.same (hk _ b.lt (Ne.symm (ho.1.ne b.toV (by decide))))⟩, st.nodup, st.bL_ge, st.bM_ge⟩
theorem take_ne {ps : List PairRef} (h : (ps.map fun p => p.1.1).Nodup) {t : Nat} (ht : t < ps.length) : ∀ s ∈ (ps.take t).map (·.1), s.1 ≠ ps[t].1.1 := by
  intro s hs e
  obtain ⟨q, hq, rfl⟩ := List.mem_map.1 hs
  obtain ⟨u, hu, rfl⟩ := List.mem_iff_getElem.1 hq
  rw [List.length_take] at hu
  rw [List.getElem_take] at e
  have hu' : u < ps.length := by omega
  have h2 : (ps.map fun p => p.1.1)[u]'(by simpa using hu') = (ps.map fun p => p.1.1)[t]'(by simpa using ht) := by simpa using e
  have h3 := (List.getElem_inj h).1 h2
  omega
/-- nothing where there are too many -/
def SmPost (w : World) (c : List (List Int)) (e : Ending) (w' : World) : Prop :=
  (smR c = none ∧ e = .returned (.tuple #[.slice none 0 0, .bool false]) ∧ Below w.heap.size w w') ∨ (∃ Q, smR c = some Q ∧ GotRowsB w (smallL c) true e w')

/-- what a round of the inner loop leaves -/
def SmRnd (w0 : World) (bS bL bM bp bo co bd cd gT cT k i : Nat) (c T : List (List Int)) (x y : List Int) (rsT : List RowRef) (Q : List RPair) (w' : World) : Prop :=
  ∃ (gP cP nP nM : Nat) (ps : List PairRef), k < nP ∧ nP ≤ 40 + i ∧ SmSt w' w0.heap.size bS bL bM gP cP nP nM c.length ps ∧ SmOk c (valsQ ps) ∧ valsQ ps = smRow c T Q k i ∧ (∀ p ∈ ps, WfV p.1.2.2) ∧ OwnRows w' w0.heap.size gT cT rsT ∧ Below w0.heap.size w0 w' ∧ Own w' w0.heap.size bo co x ∧ Own w' w0.heap.size bd cd y ∧ w'.heap[bp]? = some (.cells #[(Value.slice (some ⟨bo, 0, none⟩) c.length co), (Value.slice (some ⟨bd, 0, none⟩) c.length cd)] 76 (0, 0)) ∧ bp ≠ gP
theorem cell2 {w : World} {B : Nat} {a b : Value} {t : TypeId} (h : w.heap[B]? = some (.cells #[a, b] t (0, 0))) : w.cell? ⟨B, 0, none⟩ = some a ∧ w.cell? ⟨B, 1, none⟩ = some b := by
  constructor <;> simp [World.cell?, h]
theorem SmRnd.cells {w0 : World} {bS bL bM bp bo co bd cd gT cT k i : Nat} {c T : List (List Int)} {x y : List Int} {rsT : List RowRef} {Q : List RPair} {w' : World} (h : SmRnd w0 bS bL bM bp bo co bd cd gT cT k i c T x y rsT Q w') :
    w'.cell? ⟨bp, 0, none⟩ = some (Value.slice (some ⟨bo, 0, none⟩) c.length co) ∧ w'.cell? ⟨bp, 1, none⟩ = some (Value.slice (some ⟨bd, 0, none⟩) c.length cd) := by
  obtain ⟨gP, cP, nP, nM, ps, h⟩ := h
  exact cell2 h.2.2.2.2.2.2.2.2.2.2.1
set_option maxHeartbeats 1000000 in
theorem add_round {w0 wr W : World} {bS bL bM bp bo co bd cd gT cT k i gP cP nP nM gA cA gD cD : Nat} {c T : List (List Int)} {x y r s : List Int} {rsT : List RowRef} {Q : List RPair} {ps : List PairRef}
    (hn4 : c.length ≤ 4) (hrl : r.length = c.length) (hsl : s.length = c.length) (hwr : WfV r) (hi : i < c.length) (hk : k < nP) (hnP : nP ≤ 40 + i) (st : SmSt wr w0.heap.size bS bL bM gP cP nP nM c.length ps)
    (hok : SmOk c (valsQ ps)) (hwf : ∀ p ∈ ps, WfV p.1.2.2) (hT : OwnRows wr w0.heap.size gT cT rsT) (hb : Below w0.heap.size w0 wr) (hox : Own wr w0.heap.size bo co x) (hoy : Own wr w0.heap.size bd cd y)
    (hp : wr.heap[bp]? = some (.cells #[(Value.slice (some ⟨bo, 0, none⟩) c.length co), (Value.slice (some ⟨bd, 0, none⟩) c.length cd)] 76 (0, 0))) (hpg : bp ≠ gP) (hpL : bp ≠ bL) (hpM : bp ≠ bM)
    (hnew : r ∉ rootsQ ps → smRow c T Q k (i + 1) = valsQ ps ++ [(r, s)]) (hold : r ∈ rootsQ ps → smRow c T Q k (i + 1) = valsQ ps) (hokS : SmOk c (smRow c T Q k (i + 1)))
    (hbL : w0.heap.size ≤ bL) (hbM : w0.heap.size ≤ bM) (hW : Below wr.heap.size wr W) (hoA : Own W wr.heap.size gA cA r) (hoD : Own W wr.heap.size gD cD s) :
    Calls Tryz.prog 88 #[(Value.slice (some ⟨gA, 0, none⟩) c.length cA), (Value.slice (some ⟨gD, 0, none⟩) c.length cD), .pointer (some ⟨bS, 0, none⟩), .pointer (some ⟨bL, 0, none⟩)] W fun e w' => e = .returned (.tuple #[]) ∧ SmRnd w0 bS bL bM bp bo co bd cd gT cT k (i + 1) c T x y rsT Q w' := by
  have stW := st.below hW
  have hTW := hT.below hW
  have hxW := hox.below hW hox.lt
  have hyW := hoy.below hW hoy.lt
  have hpW := (hW.block bp (box_lt hp)).trans hp
  have hbW := hb.trans (hW.mono hb.size)
  have hne : ∀ p ∈ ps, p.1.1 ≠ gA := fun p hp e => by
    have h1 := (st.rows p hp).1.lt
    have h2 := hoA.base
    omega
  refine (impl_add_any w0.heap.size bS bL bM gP cP nP nM gA cA gD cD c.length c.length ps r s W hrl hsl (by rw [hrl]; exact hn4) hwr (by omega) (by rw [hrl]; exact stW) (hoA.mono hb.size) (hoD.mono hb.size) hne).mono ?_
  rintro e w6 ⟨rfl, hfr, gP', cP', nP', nM', st6, hor⟩
  rw [hrl] at st6
  refine ⟨rfl, ?_⟩
  have hT6 := hfr.rows stW hTW
  have hb6 : Below w0.heap.size w0 w6 := hbW.trans (hfr.below hbL stW.hP.base hbM hbW.size)
  have ax := stW.neOwn hxW
  have ay := stW.neOwn hyW
  have hx6 := hxW.same (hfr.block _ hxW.lt ax.2.1 ax.2.2.2 ax.2.2.1)
  have hy6 := hyW.same (hfr.block _ hyW.lt ay.2.1 ay.2.2.2 ay.2.2.1)
  have hp6 := (hfr.block bp (box_lt hpW) hpL hpg hpM).trans hpW
  have hg6 : bp ≠ gP' := by
    rcases hor with h | h
    · rw [h]; exact hpg
    · have := box_lt hpW; omega
  have hn6 := st6.hn
  have hn0 := st.hn
  by_cases hm : r ∈ rootsQ ps
  · have e : addQ ps ((gA, cA, r), (gD, cD, s)) = ps := by unfold addQ; exact if_pos hm
    rw [e] at st6 hn6
    exact ⟨gP', cP', nP', nM', ps, by omega, by omega, st6, hok, (hold hm).symm, hwf, hT6, hb6, hx6, hy6, hp6, hg6⟩
  · have e : addQ ps ((gA, cA, r), (gD, cD, s)) = ps ++ [((gA, cA, r), (gD, cD, s))] := by unfold addQ; exact if_neg hm
    rw [e] at st6 hn6
    have hv : valsQ (ps ++ [((gA, cA, r), (gD, cD, s))]) = smRow c T Q k (i + 1) := by rw [valsQ_push, hnew hm]
    rw [List.length_append, List.length_singleton] at hn6
    refine ⟨gP', cP', nP', nM', _, by omega, by omega, st6, by rw [hv]; exact hokS, hv, ?_, hT6, hb6, hx6, hy6, hp6, hg6⟩
    intro p hp
    rcases List.mem_append.1 hp with h | h
    · exact hwf p h
    · rw [List.mem_singleton] at h; subst h; exact hwr

set_option maxRecDepth 100000 in
set_option maxHeartbeats 8000000 in
theorem impl_smallRoots_ok (gc oc n cc : Nat) (c : List (List Int)) (w : World) (hn : c.length = n) (hC : IsC c) (hgc : gc < w.heap.size) (hr : Rows2 w gc oc c) :
    Calls Tryz.prog 56 #[(Value.slice (some ⟨gc, oc, none⟩) n cc)] w (SmPost w c) := by
  subst hn
  have hn4 := hC.2.1
  have hcl : ∀ j, j < c.length → (c.getD j []).length = c.length := hC.2.2.1
  have Hcl := Lib.hid hcl; clear hcl
  have Hr := Lib.hid hr; clear hr
  have hcall := impl_TransposeCartan_any gc oc _ cc c w rfl hC hgc Hr.out
  have Hcall := Lib.hid hcall
  clear hcall
  have hmf := run_makeFunc
  have hmm := @run_makeMap Tryz.prog
  go_enter Tryz.func56, Tryz.ntmps56
  go_wp2_with fail
  refine Hcall.out.mono ?_
  rintro e w3 ⟨gT, cT, rsT, rfl, hcT, hT3, hb3⟩
  rw [transL_length]
  have HcT := Lib.hid hcT
  clear hcT Hcall
  have hTl : ∀ j, j < c.length → ((transL c).getD j []).length = c.length := fun j hj => transL_rowLen hj
  have HTl := Lib.hid hTl; clear hTl
  have HtL := Lib.hid (transL_length c)
  generalize hR : smR c = R at *
  have hRgo : smGo c (transL c) 41 0 (smStart c) = R := hR
  have HR := Lib.hid hR; have HRgo := Lib.hid hRgo
  clear hR hRgo
  generalize transL c = T at *
  go_wp2_with fail
  have st0 := SmSt.start w3 w.heap.size c.length hb3.size
  have hb0 : Below w.heap.size w3 ((((w3.alloc (.cells #[] 76)).alloc (.cells #[(Value.slice (some ⟨w3.heap.size, 0, none⟩) 0 0)] 70)).alloc (.map #[] 0)).alloc (.cells #[.map (some (w3.heap.size + 1 + 1))] 71)) := ((((Below.refl _ _).alloc hb3.size _).alloc (by simp; have := hb3.size; omega) _).alloc (by simp; have := hb3.size; omega) _).alloc (by simp; have := hb3.size; omega) _
  have hbX : Below w3.heap.size w3 ((((w3.alloc (.cells #[] 76)).alloc (.cells #[(Value.slice (some ⟨w3.heap.size, 0, none⟩) 0 0)] 70)).alloc (.map #[] 0)).alloc (.cells #[.map (some (w3.heap.size + 1 + 1))] 71)) := ((((Below.refl _ _).alloc (Nat.le_refl _) _).alloc (by simp) _).alloc (by simp; omega) _).alloc (by simp; omega) _
  have hT0 := hT3.below hbX
  have hB0 := hb3.trans hb0
  have hbL : w.heap.size ≤ w3.heap.size + 1 := by have := hb3.size; omega
  have hbM : w.heap.size ≤ w3.heap.size + 1 + 1 := by omega
  clear hmf hmm hb0 hbX hT3 hb3
  generalize w3.heap.size + 1 + 1 + 1 = bS at *
  generalize w3.heap.size + 1 + 1 = bM at *
  generalize w3.heap.size + 1 = bL at *
  go_loopw [24] (fun kv wr => ∃ (k gP cP nP nM : Nat) (ps : List PairRef), k ≤ c.length ∧ kv = .int .i64 k ∧ SmSt wr w.heap.size bS bL bM gP cP nP nM c.length ps ∧ Hid (valsQ ps = (smStart c).take k) ∧ Hid (∀ p ∈ ps, WfV p.1.2.2) ∧ OwnRows wr w.heap.size gT cT rsT ∧ Below w.heap.size w wr) (fun kv _ => c.length - (intOf kv).toNat)
  case atStart => exact ⟨0, _, 0, 0, 0, [], Nat.zero_le _, rfl, st0, rfl, by intro p hp; simp at hp, hT0, hB0⟩
  case round =>
    clear st0 hT0 hB0
    obtain ⟨k, gP, cP, nP, nM, ps, hk, rfl, st, hvals, hwf, hT, hb⟩ := hrel
    by_cases hlt : k < c.length
    · have hnew : simpL c.length k ∉ rootsQ ps := by rw [← valsQ_fst, hvals.out]; exact start_new hlt
      have hsl := simpL_length c.length k
      have hss := smStart_take c k hlt
      have hxw := wfV_simp c.length k
      have hnP : nP ≤ 4 := by rw [← st.hn, ← valsQ_length, hvals.out, List.length_take]; omega
      have hc1 := fun W => impl_simple_any c.length k W (by omega) hlt
      have Hc := Lib.hid hc1
      generalize simpL c.length k = x at *
      have Hsl := Lib.hid hsl; have Hss := Lib.hid hss; have Hnew := Lib.hid hnew
      clear hnew hsl hss hc1
      have Hc1 := Lib.hid (Hc.out wr)
      go_wp2_with fail
      refine Hc1.out.mono ?_
      rintro e w4 ⟨g4, c4, rfl, ho4, hb4⟩
      rw [Hsl.out]
      have Hc2 := Lib.hid (Hc.out w4)
      go_wp2_with fail
      refine Hc2.out.mono ?_
      rintro e w5 ⟨g5, c5, rfl, ho5, hb5⟩
      rw [Hsl.out]
      have hb45 : Below wr.heap.size wr w5 := hb4.trans (hb5.mono hb4.size)
      have st5 := st.below hb45
      have hT5 := hT.below hb45
      have hB5 := hb.trans (hb45.mono hb.size)
      have ho45 : Own w5 w.heap.size g4 c4 x := (ho4.below hb5 ho4.lt).mono hb.size
      have ho55 : Own w5 w.heap.size g5 c5 x := ho5.mono (Nat.le_trans hb.size hb4.size)
      have hne : ∀ p ∈ ps, p.1.1 ≠ g4 := fun p hp e => by
        have h1 := (st.rows p hp).1.lt
        have h2 := ho4.base
        omega
      have hgPb := st5.hP.base
      have hcall := impl_add_any w.heap.size bS bL bM gP cP nP nM g4 c4 g5 c5 c.length c.length ps x x w5 Hsl.out Hsl.out (by rw [Hsl.out]; exact hn4) hxw (by omega) (by rw [Hsl.out]; exact st5) ho45 ho55 hne
      have Hcall := Lib.hid hcall
      clear hcall Hc1 Hc2 st hT hb hb4 hb5 ho4 ho5 hb45
      go_wp2_with fail
      refine Hcall.out.mono ?_
      rintro e w6 ⟨rfl, hfr, gP', cP', nP', nM', st6, -⟩
      have hT6 := hfr.rows st5 hT5
      have hB6 := hB5.trans (hfr.below hbL hgPb hbM hB5.size)
      have hps : addQ ps ((g4, c4, x), (g5, c5, x)) = ps ++ [((g4, c4, x), (g5, c5, x))] := by unfold addQ; exact if_neg Hnew.out
      rw [hps, Hsl.out] at st6
      clear hfr st5 hT5 hB5 Hcall hps
      go_wp2_with fail
      go_roundw
      case rel =>
        refine ⟨k + 1, gP', cP', nP', nM', ps ++ [((g4, c4, x), (g5, c5, x))], by omega, by go_num, st6, ?_, ?_, hT6, hB6⟩
        · show _ = _
          rw [valsQ_push, hvals.out, Hss.out]
        · intro p hp
          rcases List.mem_append.1 hp with h | h
          · exact hwf.out p h
          · rw [List.mem_singleton] at h; subst h; exact hxw
      case measure => simp [intOf]; omega
    · obtain rfl : k = c.length := by omega
      have hfull : (smStart c).take c.length = smStart c := List.take_of_length_le (by rw [smStart_length]; exact Nat.le_refl _)
      rw [hfull] at hvals
      have hnP : nP ≤ 4 := by rw [← st.hn, ← valsQ_length, hvals.out, smStart_length]; exact hn4
      clear hfull hlt
      have qL0 := (box_cell st.hL).1
      go_wp2_with fail
      go_loopw [9] (fun kv wr => ∃ (k gP cP nP nM : Nat) (ps : List PairRef), kv = .int .i64 k ∧ k ≤ nP ∧ nP ≤ 40 ∧ SmSt wr w.heap.size bS bL bM gP cP nP nM c.length ps ∧ Hid (SmOk c (valsQ ps)) ∧ Hid (smGo c T (41 - k) k (valsQ ps) = R) ∧ Hid (∀ p ∈ ps, WfV p.1.2.2) ∧ OwnRows wr w.heap.size gT cT rsT ∧ Below w.heap.size w wr) (fun kv _ => 41 - (intOf kv).toNat)
      case atStart => exact ⟨0, gP, cP, nP, nM, ps, rfl, Nat.zero_le _, by omega, st, by show SmOk _ _; rw [hvals.out]; exact smStart_ok c, by show _ = _; rw [hvals.out]; exact HRgo.out, hwf, hT, hb⟩
      case round =>
        clear st hvals hwf hT hb hnP qL0 HRgo hk
        obtain ⟨k, gP, cP, nP, nM, ps, rfl, hk, hnP, st, hok, hgo, hwf, hT, hb⟩ := hrel
        have qL := (box_cell st.hL).1
        by_cases hlt : k < nP
        · have hkp : k < ps.length := by rw [st.hn]; exact hlt
          obtain ⟨d0, d1⟩ := st.hP.cell hkp
          have hvk := valsQ_getD hkp
          obtain ⟨hox, hoy⟩ := st.rows _ (List.getElem_mem hkp)
          have hkQ : k < (valsQ ps).length := by rw [valsQ_length]; exact hkp
          have hlen := hok.out.len1 ((valsQ ps).getD k ([], [])) (by simp [List.getD, hkQ])
          have hwx := hwf.out _ (List.getElem_mem hkp)
          rw [hvk] at hlen
          generalize ps[k] = pk at *
          obtain ⟨⟨bo, co, x⟩, ⟨bd, cd, y⟩⟩ := pk
          have e0 : wr.cell? ⟨gP, k * 2, none⟩ = some (Value.slice (some ⟨bo, 0, none⟩) x.length co) := d0
          have e1 : wr.cell? ⟨gP, k * 2 + 1, none⟩ = some (Value.slice (some ⟨bd, 0, none⟩) y.length cd) := d1
          have hox' : Own wr w.heap.size bo co x := hox
          have hoy' : Own wr w.heap.size bd cd y := hoy
          have hxl : x.length = c.length := hlen.1
          have hyl : y.length = c.length := hlen.2
          have hwx' : WfV x := hwx
          have Hvk := Lib.hid hvk; have HkQ := Lib.hid hkQ
          clear d0 d1 hox hoy hlen hwx hvk hkQ hkp
          rw [hxl] at e0
          rw [hyl] at e1
          have Hxl := Lib.hid hxl; have Hyl := Lib.hid hyl
          clear hxl hyl
          have hgPl := st.hP.lt
          obtain ⟨wo, rfl⟩ : ∃ wo : World, wo = wr := ⟨_, rfl⟩
          go_wp2_with fail
          have stA := st.below ((Below.refl _ _).alloc (Nat.le_refl _) (.cells #[(Value.slice (some ⟨bo, 0, none⟩) c.length co), (Value.slice (some ⟨bd, 0, none⟩) c.length cd)] 76))
          have hTA := hT.below ((Below.refl _ _).alloc (Nat.le_refl _) (.cells #[(Value.slice (some ⟨bo, 0, none⟩) c.length co), (Value.slice (some ⟨bd, 0, none⟩) c.length cd)] 76))
          have hoxA := hox'.alloc (.cells #[(Value.slice (some ⟨bo, 0, none⟩) c.length co), (Value.slice (some ⟨bd, 0, none⟩) c.length cd)] 76)
          have hoyA := hoy'.alloc (.cells #[(Value.slice (some ⟨bo, 0, none⟩) c.length co), (Value.slice (some ⟨bd, 0, none⟩) c.length cd)] 76)
          have hBA := hb.alloc hb.size (.cells #[(Value.slice (some ⟨bo, 0, none⟩) c.length co), (Value.slice (some ⟨bd, 0, none⟩) c.length cd)] 76)
          have hpA : Hid ((wo.alloc (.cells #[(Value.slice (some ⟨bo, 0, none⟩) c.length co), (Value.slice (some ⟨bd, 0, none⟩) c.length cd)] 76)).heap[wo.heap.size]? = some (.cells #[(Value.slice (some ⟨bo, 0, none⟩) c.length co), (Value.slice (some ⟨bd, 0, none⟩) c.length cd)] 76 (0, 0))) := heap_alloc_new _ _
          have hpg : wo.heap.size ≠ gP := by omega
          have hpL : wo.heap.size ≠ bL := by have := box_lt st.hL; omega
          have hpM : wo.heap.size ≠ bM := by have := st.hM.lt; omega
          clear st hT hox' hoy' hb e0 e1 hgPl qL
          generalize wo.alloc (.cells #[(Value.slice (some ⟨bo, 0, none⟩) c.length co), (Value.slice (some ⟨bd, 0, none⟩) c.length cd)] 76) = wA at *
          generalize wo.heap.size = bp at *
          have hk40 : k ≤ 40 := by omega
          go_loopw [50] (fun iv wi => ∃ (i gP cP nP nM : Nat) (ps' : List PairRef), i ≤ c.length ∧ iv = .int .i64 i ∧ k < nP ∧ nP ≤ 40 + i ∧ SmSt wi w.heap.size bS bL bM gP cP nP nM c.length ps' ∧ Hid (SmOk c (valsQ ps')) ∧ Hid (valsQ ps' = smRow c T (valsQ ps) k i) ∧ Hid (∀ p ∈ ps', WfV p.1.2.2) ∧ OwnRows wi w.heap.size gT cT rsT ∧ Below w.heap.size w wi ∧ Own wi w.heap.size bo co x ∧ Own wi w.heap.size bd cd y ∧ Hid (wi.heap[bp]? = some (.cells #[(Value.slice (some ⟨bo, 0, none⟩) c.length co), (Value.slice (some ⟨bd, 0, none⟩) c.length cd)] 76 (0, 0))) ∧ bp ≠ gP) (fun iv _ => c.length - (intOf iv).toNat)
          case atStart => exact ⟨0, gP, cP, nP, nM, ps, Nat.zero_le _, rfl, hlt, by omega, stA, hok, rfl, hwf, hTA, hBA, hoxA, hoyA, hpA, hpg⟩
          case round =>
            clear stA hok hwf hTA hBA hoxA hoyA hpA hpg hlt hk hnP
            obtain ⟨i, gP, cP, nP, nM, ps', hi, rfl, hk, hnP, st, hok, hrow, hwf, hT, hb, hox, hoy, hp, hpg⟩ := hrel
            by_cases hil : i < c.length
            · have hvk : (valsQ ps').getD k ([], []) = (x, y) := by rw [hrow.out, smRow_getD HkQ.out, Hvk.out]
              have hstep : smRow c T (valsQ ps) k (i + 1) = smStep c T (valsQ ps') k i := by simp only [smRow]; rw [← hrow.out]
              have hkQ' : k < (valsQ ps').length := by rw [valsQ_length, st.hn]; exact hk
              have hokS := hok.out.step (t := T) (i := i) hkQ'
              have hnew : pairL (c.getD i []) x < 0 → wrap64 (pairL (c.getD i []) x * pairL (T.getD i []) y) < 4 → mirL c i x ∉ rootsQ ps' → smRow c T (valsQ ps) k (i + 1) = valsQ ps' ++ [(mirL c i x, mirL T i y)] := fun h1 h2 h3 => by
                rw [hstep]; exact smStep_new hvk h1 h2 (by rw [valsQ_fst]; exact h3)
              have hold : ¬ (pairL (c.getD i []) x < 0 ∧ wrap64 (pairL (c.getD i []) x * pairL (T.getD i []) y) < 4 ∧ mirL c i x ∉ rootsQ ps') → smRow c T (valsQ ps) k (i + 1) = valsQ ps' := fun h => by
                rw [hstep]; exact smStep_old hvk (by rw [valsQ_fst]; exact h)
              rw [← hstep] at hokS
              obtain ⟨ga, oa, ca, q1, q2, q3, q4⟩ := Hr.out i hil
              replace q1 := (hb.cell (p := ⟨gc, oc + i, none⟩) hgc).trans q1
              have q4' := q4.below hb q3
              have hT2 : Rows2 wr gT 0 T := by have := hT.rows2; rw [HcT.out] at this; exact this
              obtain ⟨gt, ot, ct, p1, p2, p3, p4⟩ := hT2 i (by rw [HtL.out]; exact hil)
              rw [Nat.zero_add] at p1
              rw [Hcl.out i hil] at q1
              rw [HTl.out i hil] at p1
              have hA : ∀ W, (∃ q, W = wr.drewN q) → Calls Tryz.prog 91 #[(Value.slice (some ⟨ga, oa, none⟩) c.length ca), (Value.slice (some ⟨bo, 0, none⟩) c.length co)] W (Reads W (.int .i64 (pairL (c.getD i []) x))) := fun W hW => impl_pairing_any ga oa c.length ca bo 0 c.length co (c.getD i []) x W (Hcl.out i hil) Hxl.out (by rw [Hcl.out i hil, Hxl.out]; exact Nat.le_refl _) (by rw [Hcl.out i hil]; omega) (q4'.still hW) (hox.cells.still hW)
              have hBc : ∀ W, (∃ q, W = wr.drewN q) → Calls Tryz.prog 91 #[(Value.slice (some ⟨gt, ot, none⟩) c.length ct), (Value.slice (some ⟨bd, 0, none⟩) c.length cd)] W (Reads W (.int .i64 (pairL (T.getD i []) y))) := fun W hW => impl_pairing_any gt ot c.length ct bd 0 c.length cd (T.getD i []) y W (HTl.out i hil) Hyl.out (by rw [HTl.out i hil, Hyl.out]; exact Nat.le_refl _) (by rw [HTl.out i hil]; omega) (p4.still hW) (hoy.cells.still hW)
              have hM1 := fun W (hW : Below w.heap.size w W) (hbo : bo < W.heap.size) (hx : Cells W bo 0 x) => impl_mirrored_any gc oc c.length cc i bo 0 c.length co c x W rfl Hxl.out hil (by rw [Hxl.out]; exact hil) (by rw [Hcl.out i hil, Hxl.out]; exact Nat.le_refl _) (by rw [Hcl.out i hil]; omega) (Nat.lt_of_lt_of_le hgc hW.size) hbo (Hr.out.below hW hgc) hx
              have hM2 := fun W (hgT : gT < W.heap.size) (hbd : bd < W.heap.size) (hW : Rows2 W gT 0 T) (hy : Cells W bd 0 y) => impl_mirrored_any gT 0 c.length cT i bd 0 c.length cd T y W HtL.out Hyl.out (by rw [HtL.out]; exact hil) (by rw [Hyl.out]; exact hil) (by rw [HTl.out i hil, Hyl.out]; exact Nat.le_refl _) (by rw [HTl.out i hil]; omega) hgT hbd hW hy
              have hwr : WfV (mirL c i x) := wfV_mir hwx'
              have hrl : (mirL c i x).length = c.length := by rw [mirL_length]; exact Hxl.out
              have hsl : (mirL T i y).length = c.length := by rw [mirL_length]; exact Hyl.out
              generalize pairL (c.getD i []) x = a at *
              generalize pairL (T.getD i []) y = b at *
              generalize mirL c i x = r at *
              generalize mirL T i y = s at *
              have b0 : wr.cell? ⟨bp, 0, none⟩ = some (Value.slice (some ⟨bo, 0, none⟩) c.length co) := by simp [World.cell?, hp.out]
              have b1 : wr.cell? ⟨bp, 1, none⟩ = some (Value.slice (some ⟨bd, 0, none⟩) c.length cd) := by simp [World.cell?, hp.out]
              have HA := Lib.hid hA; have HBc := Lib.hid hBc; have HM1 := Lib.hid hM1; have HM2 := Lib.hid hM2
              have Hnew := Lib.hid hnew; have Hold := Lib.hid hold; have HokS := Lib.hid hokS
              have Hrl := Lib.hid hrl; have Hsl := Lib.hid hsl
              clear hA hBc hM1 hM2 hnew hold hokS hrl hsl q4 q4' p4 hT2 hstep hvk hkQ'
              go_wp2_with fail
              have HA' := Lib.hid (fun n => HA.out (wr.drewN n) ⟨n, rfl⟩); have HB' := Lib.hid (fun n => HBc.out (wr.drewN n) ⟨n, rfl⟩)
              clear HA HBc
              go_quiet ((go_at_call 91; first | with_reducible exact Calls.quiet_of (HA'.out _) | with_reducible exact Calls.quiet_of (HB'.out _) | with_reducible exact Reads.quiet4 (HA'.out _) | with_reducible exact Reads.quiet4 (HB'.out _)))
              by_cases ha : a < 0
              · by_cases hp4 : wrap64 (a * b) < 4
                · have K1 : ∀ W, Below wr.heap.size wr W → Calls Tryz.prog 92 #[(Value.slice (some ⟨gc, oc, none⟩) c.length cc), .int .i64 i, (Value.slice (some ⟨bo, 0, none⟩) c.length co)] W (GotInts W r) := fun W hW => HM1.out W (hb.trans (hW.mono hb.size)) (Nat.lt_of_lt_of_le hox.lt hW.size) (hox.cells.below hW hox.lt)
                  have K2 : ∀ W, Below wr.heap.size wr W → Calls Tryz.prog 92 #[(Value.slice (some ⟨gT, 0, none⟩) c.length cT), .int .i64 i, (Value.slice (some ⟨bd, 0, none⟩) c.length cd)] W (GotInts W s) := fun W hW => HM2.out W (Nat.lt_of_lt_of_le hT.lt hW.size) (Nat.lt_of_lt_of_le hoy.lt hW.size) (by have := (hT.below hW).rows2; rw [HcT.out] at this; exact this) (hoy.cells.below hW hoy.lt)
                  have K3 := fun (W : World) (gA cA gD cD : Nat) (hW : Below wr.heap.size wr W) (hoA : Own W wr.heap.size gA cA r) (hoD : Own W wr.heap.size gD cD s) => add_round (Q := valsQ ps) hn4 Hrl.out Hsl.out hwr hil hk hnP st hok.out hwf.out hT hb hox hoy hp.out hpg hpL hpM (fun h => Hnew.out ha hp4 h) (fun h => Hold.out (fun h2 => h2.2.2 h)) HokS.out hbL hbM hW hoA hoD
                  have k1 := Lib.hid K1; have k2 := Lib.hid K2; have k3 := Lib.hid K3
                  clear K1 K2 K3 HM1 HM2 Hnew Hold HokS
                  have hX : Below wr.heap.size wr (wr.drewN (nq + 1)) := below_drewN' wr (nq + 1)
                  have x0 : (wr.drewN (nq + 1)).cell? ⟨bp, 0, none⟩ = some (Value.slice (some ⟨bo, 0, none⟩) c.length co) := b0
                  have x1 : (wr.drewN (nq + 1)).cell? ⟨bp, 1, none⟩ = some (Value.slice (some ⟨bd, 0, none⟩) c.length cd) := b1
                  have HT := Lib.hid hT; have HB := Lib.hid hb; have Hst := Lib.hid st; have Hox := Lib.hid hox; have Hoy := Lib.hid hoy
                  clear hT hb st hox hoy b0 b1
                  go_wp2_with fail
                  go_region_held3 (fun W => W.cell? ⟨bp, 0, none⟩ = some (Value.slice (some ⟨bo, 0, none⟩) c.length co) ∧ W.cell? ⟨bp, 1, none⟩ = some (Value.slice (some ⟨bd, 0, none⟩) c.length cd))
                    (first | with_reducible exact ⟨x0, x1⟩ | with_reducible exact ⟨keepCell hbA x0, keepCell hbA x1⟩ | with_reducible exact ⟨keepCell hbD (keepCell hbA x0), keepCell hbD (keepCell hbA x1)⟩ | with_reducible exact hF.cells | exact ⟨x0, x1⟩)
                    (first
                      | (go_at_call 92; (with_reducible refine (k1.out _ hX).mono ?_); rintro e wA ⟨gA, cA, rfl, hoA, hbA⟩; rw [Hrl.out])
                      | (go_at_call 92; (with_reducible refine (k2.out _ (hX.trans (hbA.mono hX.size))).mono ?_); rintro e wD ⟨gD, cD, rfl, hoD, hbD⟩; rw [Hsl.out])
                      | (go_at_call 88; (with_reducible refine (k3.out _ gA cA gD cD ((hX.trans (hbA.mono hX.size)).trans (hbD.mono (Nat.le_trans hX.size hbA.size))) ((hoA.mono hX.size).below hbD hoA.lt) (hoD.mono (Nat.le_trans hX.size hbA.size))).mono ?_); rintro e wF ⟨rfl, hF⟩))
                  obtain ⟨gP', cP', nP', nM', ps'', hF1, hF2, hF3, hF4, hF5, hF6, hF7, hF8, hF9, hF10, hF11, hF12⟩ := hF
                  have HF4 := Lib.hid hF4; have HF5 := Lib.hid hF5; have HF6 := Lib.hid hF6; have HF11 := Lib.hid hF11
                  clear hF4 hF5 hF6 hF11 hX x0 x1 hbA hbD hoA hoD HT HB Hst Hox Hoy k1 k2 k3 hok hwf hp hrow
                  go_wp2_with fail
                  go_roundw
                  case rel => exact ⟨i + 1, gP', cP', nP', nM', ps'', by omega, by go_num, hF1, hF2, hF3, HF4.out, HF5.out, HF6.out, hF7, hF8, hF9, hF10, HF11.out, hF12⟩
                  case measure => simp [intOf]; omega
                · have hold := Hold.out (fun h => hp4 h.2.1)
                  have Hold2 := Lib.hid hold
                  have hp4' : 4 ≤ wrap64 (a * b) := by omega
                  clear hold
                  go_wp2_with fail
                  go_roundw
                  case rel => exact ⟨i + 1, gP, cP, nP, nM, ps', by omega, by go_num, hk, by omega, st.still (by first | exact ⟨_, rfl⟩ | exact ⟨0, rfl⟩ | exact still2 _ _ _ | exact still3 _ _ _ _), hok, Hold2.out.symm, hwf, hT.still (by first | exact ⟨_, rfl⟩ | exact ⟨0, rfl⟩ | exact still2 _ _ _ | exact still3 _ _ _ _), below_still hb (by first | exact ⟨_, rfl⟩ | exact ⟨0, rfl⟩ | exact still2 _ _ _ | exact still3 _ _ _ _), hox.still (by first | exact ⟨_, rfl⟩ | exact ⟨0, rfl⟩ | exact still2 _ _ _ | exact still3 _ _ _ _), hoy.still (by first | exact ⟨_, rfl⟩ | exact ⟨0, rfl⟩ | exact still2 _ _ _ | exact still3 _ _ _ _), hp, hpg⟩
                  case measure => simp [intOf]; omega
              · have hold := Hold.out (fun h => ha h.1)
                have Hold2 := Lib.hid hold
                have ha' : 0 ≤ a := by omega
                clear hold
                go_wp2_with fail
                go_roundw
                case rel => exact ⟨i + 1, gP, cP, nP, nM, ps', by omega, by go_num, hk, by omega, st.still (by first | exact ⟨_, rfl⟩ | exact ⟨0, rfl⟩ | exact still2 _ _ _ | exact still3 _ _ _ _), hok, Hold2.out.symm, hwf, hT.still (by first | exact ⟨_, rfl⟩ | exact ⟨0, rfl⟩ | exact still2 _ _ _ | exact still3 _ _ _ _), below_still hb (by first | exact ⟨_, rfl⟩ | exact ⟨0, rfl⟩ | exact still2 _ _ _ | exact still3 _ _ _ _), hox.still (by first | exact ⟨_, rfl⟩ | exact ⟨0, rfl⟩ | exact still2 _ _ _ | exact still3 _ _ _ _), hoy.still (by first | exact ⟨_, rfl⟩ | exact ⟨0, rfl⟩ | exact still2 _ _ _ | exact still3 _ _ _ _), hp, hpg⟩
                case measure => simp [intOf]; omega
            · obtain rfl : i = c.length := by omega
              have qL := (box_cell st.hL).1
              by_cases hbig : 40 < nP
              · have hbI : (40 : Int) < (nP : Int) := by omega
                have hover : R = none := by
                  have h1 := hgo.out
                  rw [show 41 - k = (40 - k) + 1 by omega, smGo_over HkQ.out (by rw [← hrow.out, valsQ_length, st.hn]; exact hbig)] at h1
                  exact h1.symm
                have Hno := Lib.hid (HR.out.trans hover)
                clear hover
                go_wp2_with fail
                go_ret2
                exact .inl ⟨Hno.out, rfl, hb⟩
              · have hbI : ¬ (40 : Int) < (nP : Int) := by omega
                have hnx : smGo c T (41 - (k + 1)) (k + 1) (valsQ ps') = R := by
                  have h1 := hgo.out
                  rw [show 41 - k = (41 - (k + 1)) + 1 by omega, smGo_next HkQ.out (by rw [← hrow.out, valsQ_length, st.hn]; omega), ← hrow.out] at h1
                  exact h1
                have Hnx := Lib.hid hnx; clear hnx
                go_wp2_with fail
                go_roundw
                case rel => exact ⟨k + 1, gP, cP, nP, nM, ps', by go_num, by omega, by omega, st, hok, Hnx.out, hwf, hT, hb⟩
                case measure => simp [intOf]; omega
        · obtain rfl : k = nP := by omega
          have hdone : R = some (valsQ ps) := by
            have h1 := hgo.out
            rw [smGo_done (by rw [valsQ_length, st.hn]; exact Nat.le_refl _)] at h1
            exact h1.symm
          have hR2 := HR.out.trans hdone
          obtain ⟨hs1, -⟩ := small_some hR2
          rw [valsQ_fst] at hs1
          have hndR : (rootsQ ps).Nodup := by rw [← valsQ_fst]; exact hok.out.nodup
          have hlens : ∀ x ∈ rootsQ ps, x.length = c.length := by
            intro x hx
            rw [← valsQ_fst] at hx
            obtain ⟨q, hq, rfl⟩ := List.mem_map.1 hx
            exact (hok.out.len1 q hq).1
          have Hs1 := Lib.hid hs1; have HR2 := Lib.hid hR2; have HndR := Lib.hid hndR; have Hlens := Lib.hid hlens
          clear hdone hs1 hR2 hndR hlens hok hgo
          have qLa : ∀ o1, (wr.alloc o1).cell? ⟨bL, 0, none⟩ = some (Value.slice (some ⟨gP, 0, none⟩) k cP) := fun o1 => (box_cell (st.below ((Below.refl _ _).alloc (Nat.le_refl _) o1)).hL).1
          go_wp2_with fail
          go_loopw [14, 94] (fun ov kv wi => ∃ (t gO cO : Nat), t ≤ k ∧ kv = .int .i64 t ∧ ov = (Value.slice (some ⟨gO, 0, none⟩) t cO) ∧ OwnRows wi w.heap.size gO cO ((ps.take t).map (·.1)) ∧ SmSt wi w.heap.size bS bL bM gP cP k nM c.length ps ∧ Below w.heap.size w wi) (fun _ kv _ => k - (intOf kv).toNat)
          case atStart => exact ⟨0, _, 0, Nat.zero_le _, rfl, rfl, OwnRows.empty hb.size, st.below ((Below.refl _ _).alloc (Nat.le_refl _) _), hb.alloc hb.size _⟩
          case round =>
            clear st hT hb qLa qL
            obtain ⟨t, gO, cO, ht, rfl, rfl, hO, st, hb⟩ := hrel
            by_cases htl : t < k
            · have htp : t < ps.length := by rw [st.hn]; exact htl
              obtain ⟨d0, d1⟩ := st.hP.cell htp
              have hor := (st.rows _ (List.getElem_mem htp)).1
              have hne := take_ne st.nodup htp
              have hll : ((ps.take t).map (·.1)).length = t := by rw [List.length_map, List.length_take]; omega
              have hts : (ps.take (t + 1)).map (·.1) = (ps.take t).map (·.1) ++ [ps[t].1] := by rw [List.take_succ_eq_append_getElem htp, List.map_append]; rfl
              generalize ps[t] = pk at *
              obtain ⟨⟨bo, co, x⟩, ⟨bd, cd, y⟩⟩ := pk
              have e0 : wr.cell? ⟨gP, t * 2, none⟩ = some (Value.slice (some ⟨bo, 0, none⟩) x.length co) := d0
              have e1 : wr.cell? ⟨gP, t * 2 + 1, none⟩ = some (Value.slice (some ⟨bd, 0, none⟩) y.length cd) := d1
              have hor' : Own wr w.heap.size bo co x := hor
              have Hll := Lib.hid hll; have Hts := Lib.hid hts; have Hne := Lib.hid hne
              clear d0 d1 hor hll hts hne
              have hA := (Below.refl wr.heap.size wr).alloc (Nat.le_refl _) (.cells #[(Value.slice (some ⟨bo, 0, none⟩) x.length co), (Value.slice (some ⟨bd, 0, none⟩) y.length cd)] 76)
              have hO2 := hO.below hA
              have st2 := st.below hA
              have hor2 := hor'.below hA hor'.lt
              have hB2 := hb.trans (hA.mono hb.size)
              have hs2 : (wr.alloc (.cells #[(Value.slice (some ⟨bo, 0, none⟩) x.length co), (Value.slice (some ⟨bd, 0, none⟩) y.length cd)] 76)).heap.size = wr.heap.size + 1 := by simp
              clear hO st hb hor' hA
              go_wp2_with (at_builtin; refine wpList_append_row (w := wr.alloc (.cells #[(Value.slice (some ⟨bo, 0, none⟩) x.length co), (Value.slice (some ⟨bd, 0, none⟩) y.length cd)] 76)) rfl _ _ rfl w.heap.size gO cO t (wr.heap.size + 1) ((ps.take t).map (·.1)) (bo, co, x) _ Hll.out rfl hs2 hO2 hor2 Hne.out rfl rfl (by omega) ?_)
              intro g5 c5 w5 hO5 hg5 hor5
              have st5 := st2.rowsGrow hO2 hg5
              have hB5 : Below w.heap.size w w5 := hB2.grown hg5 hB2.size (by intro j hj; cases hj; exact hO2.base)
              clear hO2 st2 hor2 hB2 hg5 hor5
              go_wp2_with fail
              go_roundw
              case rel => exact ⟨t + 1, g5, c5, by omega, by go_num, rfl, by rw [Hts.out, List.map_take]; exact hO5, st5, hB5⟩
              case measure => simp [intOf]; omega
            · obtain rfl : t = k := by omega
              have hfull : (ps.take t).map (·.1) = ps.map (·.1) := by rw [List.take_of_length_le (by rw [st.hn]; exact Nat.le_refl _)]
              rw [hfull] at hO
              have hcon : contents (ps.map (·.1)) = rootsQ ps := by simp [contents, rootsQ]
              have hrlen : ∀ r ∈ ps.map (·.1), r.2.2.length ≤ 1048576 := by
                intro r hr'
                have : r.2.2 ∈ rootsQ ps := by rw [← hcon]; exact List.mem_map.2 ⟨r, hr', rfl⟩
                rw [Hlens.out _ this]; omega
              have hl0 : (ps.map (·.1)).length = t := by rw [List.length_map, st.hn]
              have hcall := sort_rows 94 rootCmp cmp_roots (swo_of rootCmp_anti rootCmp_zero rootCmp_trans) (enters_of Tryz.func94 (by kernel_rfl) rfl) w.heap.size gO cO t (ps.map (·.1)) wr hl0 (by rw [hl0]; omega) hrlen hO
              have Hcall := Lib.hid hcall; have Hcon := Lib.hid hcon; have Hl0 := Lib.hid hl0
              clear hcall hcon hrlen hl0 hfull st
              go_wp2_with fail
              refine Hcall.out.mono ?_
              rintro e w4 ⟨rfl, rs4, hperm, hsort, hO4, hg4⟩
              have hB4 : Below w.heap.size w w4 := hb.grown hg4 hb.size (by intro j hj; cases hj; exact hO.base)
              have hl4 : rs4.length = t := by rw [hperm.length_eq]; exact Hl0.out
              have hpc : (contents rs4).Perm (rootsQ ps) := by rw [← Hcon.out]; exact hperm.map _
              have heq := putsR_eq HndR.out hpc (hsort.imp (by intro a b h; omega))
              rw [← Hs1.out] at heq
              have Heq := Lib.hid heq; have Hl4 := Lib.hid hl4
              clear heq hl4 hpc hperm hsort hO hb Hcall hg4
              go_wp2_with fail
              go_ret2
              exact .inr ⟨_, HR2.out, GotRowsB.mk' gO cO rs4 Hl4.out Heq.out hO4 hB4⟩
end Go.Proofs.YticnocoeldfiiaaGreatDoor
