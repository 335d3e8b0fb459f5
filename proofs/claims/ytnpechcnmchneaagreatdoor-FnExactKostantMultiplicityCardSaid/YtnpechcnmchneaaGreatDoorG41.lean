/- The program's pairedRoots at height 12: contract. -/
import Derived.Test.YtnpechcnmchneaaGreatDoorG40
namespace Go.Proofs.YtnpechcnmchneaaGreatDoor
set_option maxRecDepth 100000
open Go.RowKit Game

theorem take_ne2 {ps : List PairRef} (h : (ps.map fun p => p.2.1).Nodup) {t : Nat} (ht : t < ps.length) : ∀ s ∈ (ps.take t).map (·.2), s.1 ≠ ps[t].2.1 := by
  intro s hs e
  obtain ⟨q, hq, rfl⟩ := List.mem_map.1 hs
  obtain ⟨u, hu, rfl⟩ := List.mem_iff_getElem.1 hq
  rw [List.length_take] at hu
  rw [List.getElem_take] at e
  have hu' : u < ps.length := by omega
  have h2 : (ps.map fun p => p.2.1)[u]'(by simpa using hu') = (ps.map fun p => p.2.1)[t]'(by simpa using ht) := by simpa using e
  have h3 := (List.getElem_inj h).1 h2
  omega
theorem simp_fine : ∀ n, n < 5 → ∀ k, k < n → posB (simpL n k) = true ∧ heightL (simpL n k) ≤ 12 := by decide +kernel

set_option maxRecDepth 100000 in
set_option maxHeartbeats 8000000 in
theorem impl_pairedRoots_ok (R : List Int → List Int → Prop) (gc oc n cc : Nat) (c : List (List Int)) (w : World) (hn : c.length = n) (hC : IsC c) (hP : PosOk c) (hR : CoRel c R) (hgc : gc < w.heap.size) (hr : Rows2 w gc oc c) :
    Calls Tryz.prog 168 #[(Value.slice (some ⟨gc, oc, none⟩) n cc), .int .i64 12] w (PrDone R w c) := by
  subst hn
  have hn4 := hC.2.1
  have hcl : ∀ j, j < c.length → (c.getD j []).length = c.length := hC.2.2.1
  have Hcl := Lib.hid hcl; clear hcl
  have Hr := Lib.hid hr; clear hr
  have hbB : Below w.heap.size w (w.alloc (.cells #[.int .i64 12] 3)) := (Below.refl _ _).alloc (Nat.le_refl _) _
  have hHB := heap_alloc_new w (.cells #[.int .i64 12] 3 (0, 0))
  have hcall := impl_TransposeCartan_any gc oc _ cc c _ rfl hC (Nat.lt_of_lt_of_le hgc hbB.size) (Hr.out.below hbB hgc)
  have Hcall := Lib.hid hcall
  clear hcall
  have hmf := run_makeFunc
  have hmm := @run_makeMap Tryz.prog
  go_enter Tryz.func168, Tryz.ntmps168
  go_wp2_with fail
  refine Hcall.out.mono ?_
  rintro e w3 ⟨gT, cT, rsT, rfl, hcT, hT3', hb3'⟩
  have hb3 := hbB.trans (hb3'.mono hbB.size)
  have hT3 := hT3'.mono hbB.size
  have hH3 := (hb3'.block _ (box_lt hHB)).trans hHB
  have hszB : (w.alloc (.cells #[.int .i64 12] 3)).heap.size = w.heap.size + 1 := by simp
  have hs3 : w.heap.size + 1 ≤ w3.heap.size := by have := hb3'.size; omega
  clear hT3' hb3' hbB hHB hszB
  rw [transL_length]
  have HcT := Lib.hid hcT
  clear hcT Hcall
  have hTl : ∀ j, j < c.length → ((transL c).getD j []).length = c.length := fun j hj => transL_rowLen hj
  have HTl := Lib.hid hTl; clear hTl
  have HtL := Lib.hid (transL_length c)
  have hRs := hR.step
  have HRs := Lib.hid hRs; have HRp := Lib.hid hR.simp; clear hRs hR
  generalize transL c = T at *
  go_wp2_with fail
  have st0 := SmStP.start w3 w.heap.size c.length hb3.size
  have hb0 : Below w.heap.size w3 ((((w3.alloc (.cells #[] 136)).alloc (.cells #[(Value.slice (some ⟨w3.heap.size, 0, none⟩) 0 0)] 133)).alloc (.map #[] 0)).alloc (.cells #[.map (some (w3.heap.size + 1 + 1))] 134)) := ((((Below.refl _ _).alloc hb3.size _).alloc (by simp; have := hb3.size; omega) _).alloc (by simp; have := hb3.size; omega) _).alloc (by simp; have := hb3.size; omega) _
  have hbX : Below w3.heap.size w3 ((((w3.alloc (.cells #[] 136)).alloc (.cells #[(Value.slice (some ⟨w3.heap.size, 0, none⟩) 0 0)] 133)).alloc (.map #[] 0)).alloc (.cells #[.map (some (w3.heap.size + 1 + 1))] 134)) := ((((Below.refl _ _).alloc (Nat.le_refl _) _).alloc (by simp) _).alloc (by simp; omega) _).alloc (by simp; omega) _
  have hT0 := hT3.below hbX
  have hHX := Lib.hid ((hbX.block _ (box_lt hH3)).trans hH3)
  have hB0 := hb3.trans hb0
  have hbL : w.heap.size ≤ w3.heap.size + 1 := by have := hb3.size; omega
  have hbM : w.heap.size ≤ w3.heap.size + 1 + 1 := by omega
  have hbLs : w.heap.size < w3.heap.size + 1 := by omega
  have hbMs : w.heap.size < w3.heap.size + 1 + 1 := by omega
  clear hmf hmm hb0 hbX hT3 hb3
  generalize w3.heap.size + 1 + 1 + 1 = bS at *
  generalize w3.heap.size + 1 + 1 = bM at *
  generalize w3.heap.size + 1 = bL at *
  go_loopw [25] (fun kv wr => ∃ (k gP cP nP nM : Nat) (ps : List PairRef), k ≤ c.length ∧ kv = .int .i64 k ∧ Hid (wr.heap[w.heap.size]? = some (.cells #[.int .i64 12] 3 (0, 0))) ∧ w.heap.size ≠ gP ∧ SmStP wr w.heap.size bS bL bM gP cP nP nM c.length ps ∧ Hid (valsQ ps = (smStart c).take k) ∧ Hid (∀ p ∈ ps, WfV p.1.2.2) ∧ Hid ((ps.map fun p => p.2.1).Nodup) ∧ OwnRows wr w.heap.size gT cT rsT ∧ Below w.heap.size w wr) (fun kv _ => c.length - (intOf kv).toNat)
  case atStart => exact ⟨0, _, 0, 0, 0, [], Nat.zero_le _, rfl, hHX, by omega, st0, rfl, by intro p hp; simp at hp, by simp [Hid], hT0, hB0⟩
  case round =>
    clear st0 hT0 hB0
    obtain ⟨k, gP, cP, nP, nM, ps, hk, rfl, hbx, hbg, st, hvals, hwf, hnd2, hT, hb⟩ := hrel
    by_cases hlt : k < c.length
    · have hnew : simpL c.length k ∉ rootsQ ps := by rw [← valsQ_fst, hvals.out]; exact start_new hlt
      have hsl := simpL_length c.length k
      have hss := smStart_take c k hlt
      have hxw := wfV_simp c.length k
      have hfine := simp_fine c.length (by omega) k hlt
      have hnP : nP ≤ 4 := by rw [← st.hn, ← valsQ_length, hvals.out, List.length_take]; omega
      have hc1 := fun W => impl_simple_any c.length k W (by omega) hlt
      have Hc := Lib.hid hc1
      generalize simpL c.length k = x at *
      have Hsl := Lib.hid hsl; have Hss := Lib.hid hss; have Hnew := Lib.hid hnew
      clear hnew hsl hss hc1
      have Hc1 := Lib.hid (Hc.out wr)
      go_wp2_with fail
      refine Hc1.out.mono ?_
      rintro e w4 ⟨g4, c4, rfl, ho4, hb4⟩
      rw [Hsl.out]
      have Hc2 := Lib.hid (Hc.out w4)
      go_wp2_with fail
      refine Hc2.out.mono ?_
      rintro e w5 ⟨g5, c5, rfl, ho5, hb5⟩
      rw [Hsl.out]
      have hb45 : Below wr.heap.size wr w5 := hb4.trans (hb5.mono hb4.size)
      have st5 := st.below hb45
      have hbx5 := (hb45.block _ (box_lt hbx.out)).trans hbx.out
      have hT5 := hT.below hb45
      have hB5 := hb.trans (hb45.mono hb.size)
      have ho45 : Own w5 w.heap.size g4 c4 x := (ho4.below hb5 ho4.lt).mono hb.size
      have ho55 : Own w5 w.heap.size g5 c5 x := ho5.mono (Nat.le_trans hb.size hb4.size)
      have hne : ∀ p ∈ ps, p.1.1 ≠ g4 := fun p hp e => by
        have h1 := (st.rows p hp).1.lt
        have h2 := ho4.base
        omega
      have hnd3 : ((ps ++ [((g4, c4, x), (g5, c5, x))]).map fun p => p.2.1).Nodup := by
        rw [List.map_append, List.nodup_append]
        refine ⟨hnd2.out, by simp, ?_⟩
        intro a ha b hb e
        obtain ⟨p, hp, rfl⟩ := List.mem_map.1 ha
        simp only [List.map_cons, List.map_nil, List.mem_singleton] at hb
        have h1 := (st.rows p hp).2.lt
        have h2 := ho5.base
        have h3 := hb4.size
        omega
      have Hnd3 := Lib.hid hnd3; clear hnd3 hnd2
      have hgPb := st5.hP.base
      have hcall := impl_addP_any w.heap.size bS bL bM w.heap.size gP cP nP nM g4 c4 g5 c5 c.length c.length ps x x w5 Hsl.out Hsl.out (by rw [Hsl.out]; exact hn4) hxw (by omega) (by rw [Hsl.out]; exact st5) hbx5 ho45 ho55 hne
      have Hcall := Lib.hid hcall
      clear hcall Hc1 Hc2 st hT hb hb4 hb5 ho4 ho5 hb45
      go_wp2_with fail
      refine Hcall.out.mono ?_
      rintro e w6 ⟨rfl, hfr, gP', cP', nP', nM', st6, hor6⟩
      have hT6 := hfr.rowsP st5 hT5
      have hB6 := hB5.trans (hfr.below hbL hgPb hbM hB5.size)
      have hps : addQP ps ((g4, c4, x), (g5, c5, x)) = ps ++ [((g4, c4, x), (g5, c5, x))] := by unfold addQP; exact if_pos ⟨hfine.1, hfine.2, Hnew.out⟩
      rw [hps, Hsl.out] at st6
      have hHL : w.heap.size ≠ bL := by omega
      have hHM : w.heap.size ≠ bM := by omega
      have hbx6 := Lib.hid ((hfr.block _ (box_lt hbx5) hHL hbg hHM).trans hbx5)
      have hbg6 : w.heap.size ≠ gP' := by
        rcases hor6 with h | h
        · rw [h]; exact hbg
        · have := box_lt hbx5; omega
      clear hfr st5 hT5 hB5 Hcall hps hor6 hbx5 hbx hbg hHL hHM
      go_wp2_with fail
      go_roundw
      case rel =>
        refine ⟨k + 1, gP', cP', nP', nM', ps ++ [((g4, c4, x), (g5, c5, x))], by omega, by go_num, hbx6.out, hbg6, st6, ?_, ?_, Hnd3.out, hT6, hB6⟩
        · show _ = _
          rw [valsQ_push, hvals.out, Hss.out]
        · intro p hp
          rcases List.mem_append.1 hp with h | h
          · exact hwf.out p h
          · rw [List.mem_singleton] at h; subst h; exact hxw
      case measure => simp [intOf]; omega
    · obtain rfl : k = c.length := by omega
      have hfull : (smStart c).take c.length = smStart c := List.take_of_length_le (by rw [smStart_length]; exact Nat.le_refl _)
      rw [hfull] at hvals
      have hnP : nP ≤ 4 := by rw [← st.hn, ← valsQ_length, hvals.out, smStart_length]; exact hn4
      have hsok := smStart_ok c
      have hroots : rootsQ ps = (smStart c).map (·.1) := by rw [← valsQ_fst, hvals.out]
      have hpr : PrSt c (rootsQ ps) 0 0 := by
        rw [hroots]
        exact PrSt.start (fun j hj => List.mem_map.2 ⟨(simpL c.length j, simpL c.length j), by unfold smStart; exact List.mem_map.2 ⟨j, List.mem_range.2 hj, rfl⟩, rfl⟩) hsok.nodup hP
      have hlq : LenQ R c.length ps := by
        refine ⟨?_, hnd2.out⟩
        intro p hp
        have h1 : (p.1.2.2, p.2.2.2) ∈ valsQ ps := List.mem_map.2 ⟨p, hp, rfl⟩
        rw [hvals.out] at h1
        have h2 := hsok.len1 _ h1
        have h3 : ∃ j, j < c.length ∧ (simpL c.length j, simpL c.length j) = (p.1.2.2, p.2.2.2) := by
          unfold smStart at h1
          obtain ⟨j, hj, e⟩ := List.mem_map.1 h1
          exact ⟨j, List.mem_range.1 hj, e⟩
        obtain ⟨j, hj, e⟩ := h3
        have e1 := congrArg Prod.fst e; have e2 := congrArg Prod.snd e
        have e1' : simpL c.length j = p.1.2.2 := e1
        have e2' : simpL c.length j = p.2.2.2 := e2
        exact ⟨h2.1, h2.2, hwf.out p hp, by rw [← e1', ← e2']; exact HRp.out j hj⟩
      have Hpr := Lib.hid hpr; have Hlq := Lib.hid hlq
      clear hfull hlt hsok hroots hpr hlq hvals hwf hnd2
      have qL0 := (box_cell st.hL).1
      go_wp2_with fail
      go_loopw [11] (fun kv wr => ∃ (k gP cP nP nM : Nat) (ps : List PairRef), kv = .int .i64 k ∧ k ≤ nP ∧ Hid (wr.heap[w.heap.size]? = some (.cells #[.int .i64 12] 3 (0, 0))) ∧ w.heap.size ≠ gP ∧ SmStP wr w.heap.size bS bL bM gP cP nP nM c.length ps ∧ Hid (PrSt c (rootsQ ps) k 0) ∧ Hid (LenQ R c.length ps) ∧ OwnRows wr w.heap.size gT cT rsT ∧ Below w.heap.size w wr) (fun kv _ => 25 - (intOf kv).toNat)
      case atStart => exact ⟨0, gP, cP, nP, nM, ps, rfl, Nat.zero_le _, hbx, hbg, st, Hpr.out, Hlq.out, hT, hb⟩
      case round =>
        clear st hT hb hnP qL0 hk hbx hbg Hpr Hlq
        obtain ⟨k, gP, cP, nP, nM, ps, rfl, hk, hbx, hbg, st, hpr, hlq, hT, hb⟩ := hrel
        have qL := (box_cell st.hL).1
        have hn24 : nP ≤ 24 := by have := hpr.out.few hP; rw [rootsQ, List.length_map, st.hn] at this; exact this
        by_cases hlt : k < nP
        · have hkp : k < ps.length := by rw [st.hn]; exact hlt
          obtain ⟨d0, d1⟩ := st.hP.cell hkp
          have hvk : (rootsQ ps).getD k [] = ps[k].1.2.2 := by simp [rootsQ, List.getD, hkp]
          obtain ⟨hox, hoy⟩ := st.rows _ (List.getElem_mem hkp)
          have hlen := hlq.out.1 _ (List.getElem_mem hkp)
          generalize ps[k] = pk at *
          obtain ⟨⟨bo, co, x⟩, ⟨bd, cd, y⟩⟩ := pk
          have e0 : wr.cell? ⟨gP, k * 2, none⟩ = some (Value.slice (some ⟨bo, 0, none⟩) x.length co) := d0
          have e1 : wr.cell? ⟨gP, k * 2 + 1, none⟩ = some (Value.slice (some ⟨bd, 0, none⟩) y.length cd) := d1
          have hox' : Own wr w.heap.size bo co x := hox
          have hoy' : Own wr w.heap.size bd cd y := hoy
          have hxl : x.length = c.length := hlen.1
          have hyl : y.length = c.length := hlen.2.1
          have hwx' : WfV x := hlen.2.2.1
          have hRxy : R x y := hlen.2.2.2
          have HRxy := Lib.hid hRxy; clear hRxy
          have hvk' : (rootsQ ps).getD k [] = x := hvk
          have Hvk := Lib.hid hvk'
          clear d0 d1 hox hoy hlen hvk hvk' hkp
          rw [hxl] at e0
          rw [hyl] at e1
          have Hxl := Lib.hid hxl; have Hyl := Lib.hid hyl
          clear hxl hyl
          have hgPl := st.hP.lt
          obtain ⟨wo, rfl⟩ : ∃ wo : World, wo = wr := ⟨_, rfl⟩
          go_wp2_with fail
          have stA := st.below ((Below.refl _ _).alloc (Nat.le_refl _) (.cells #[(Value.slice (some ⟨bo, 0, none⟩) c.length co), (Value.slice (some ⟨bd, 0, none⟩) c.length cd)] 136))
          have hTA := hT.below ((Below.refl _ _).alloc (Nat.le_refl _) (.cells #[(Value.slice (some ⟨bo, 0, none⟩) c.length co), (Value.slice (some ⟨bd, 0, none⟩) c.length cd)] 136))
          have hoxA := hox'.alloc (.cells #[(Value.slice (some ⟨bo, 0, none⟩) c.length co), (Value.slice (some ⟨bd, 0, none⟩) c.length cd)] 136)
          have hoyA := hoy'.alloc (.cells #[(Value.slice (some ⟨bo, 0, none⟩) c.length co), (Value.slice (some ⟨bd, 0, none⟩) c.length cd)] 136)
          have hBA := hb.alloc hb.size (.cells #[(Value.slice (some ⟨bo, 0, none⟩) c.length co), (Value.slice (some ⟨bd, 0, none⟩) c.length cd)] 136)
          have hpA : Hid ((wo.alloc (.cells #[(Value.slice (some ⟨bo, 0, none⟩) c.length co), (Value.slice (some ⟨bd, 0, none⟩) c.length cd)] 136)).heap[wo.heap.size]? = some (.cells #[(Value.slice (some ⟨bo, 0, none⟩) c.length co), (Value.slice (some ⟨bd, 0, none⟩) c.length cd)] 136 (0, 0))) := heap_alloc_new _ _
          have hpg : wo.heap.size ≠ gP := by omega
          have hpL : wo.heap.size ≠ bL := by have := box_lt st.hL; omega
          have hpM : wo.heap.size ≠ bM := by have := st.hM.lt; omega
          have hbxA := Lib.hid ((((Below.refl _ _).alloc (Nat.le_refl _) (.cells #[(Value.slice (some ⟨bo, 0, none⟩) c.length co), (Value.slice (some ⟨bd, 0, none⟩) c.length cd)] 136) : Below wo.heap.size wo _).block _ (box_lt hbx.out)).trans hbx.out)
          clear st hT hox' hoy' hb e0 e1 hgPl qL hbx
          generalize wo.alloc (.cells #[(Value.slice (some ⟨bo, 0, none⟩) c.length co), (Value.slice (some ⟨bd, 0, none⟩) c.length cd)] 136) = wA at *
          generalize wo.heap.size = bp at *
          go_loopw [51] (fun iv wi => ∃ i : Nat, i ≤ c.length ∧ iv = .int .i64 i ∧ Hid (PrRnd R w bS bL bM w.heap.size bp bo co bd cd gT cT k i c x y rsT wi)) (fun iv _ => c.length - (intOf iv).toNat)
          case atStart => exact ⟨0, Nat.zero_le _, rfl, ⟨gP, cP, nP, nM, ps, hlt, stA, hpr.out, hlq.out, Hvk.out, hbxA.out, hTA, hBA, hoxA, hoyA, hpA.out, hpg, hbg⟩⟩
          case round =>
            clear stA hpr hlq hTA hBA hoxA hoyA hpA hbxA hlt
            obtain ⟨i, hi, rfl, hR⟩ := hrel
            by_cases hil : i < c.length
            · obtain ⟨b0, b1⟩ := hR.out.cells
              obtain ⟨gP, cP, nP, nM, ps', hk', st, hok, hlq, hx, hH, hT, hb, hox, hoy, hp, hpg, hHP⟩ := hR.out
              have hsl : (mirL T i y).length = c.length := by rw [mirL_length]; exact Hyl.out
              have hrl : (mirL c i x).length = c.length := by rw [mirL_length]; exact Hxl.out
              have K1 : ∀ W, Below wr.heap.size wr W → Calls Tryz.prog 197 #[(Value.slice (some ⟨gc, oc, none⟩) c.length cc), .int .i64 i, (Value.slice (some ⟨bo, 0, none⟩) c.length co)] W (GotInts W (mirL c i x)) := fun W hW => impl_mirrored_any gc oc c.length cc i bo 0 c.length co c x W rfl Hxl.out hil (by rw [Hxl.out]; exact hil) (by rw [Hcl.out i hil, Hxl.out]; exact Nat.le_refl _) (by rw [Hcl.out i hil]; omega) (Nat.lt_of_lt_of_le hgc (hb.trans (hW.mono hb.size)).size) (Nat.lt_of_lt_of_le hox.lt hW.size) (Hr.out.below (hb.trans (hW.mono hb.size)) hgc) (hox.cells.below hW hox.lt)
              have K2 : ∀ W, Below wr.heap.size wr W → Calls Tryz.prog 197 #[(Value.slice (some ⟨gT, 0, none⟩) c.length cT), .int .i64 i, (Value.slice (some ⟨bd, 0, none⟩) c.length cd)] W (GotInts W (mirL T i y)) := fun W hW => impl_mirrored_any gT 0 c.length cT i bd 0 c.length cd T y W HtL.out Hyl.out (by rw [HtL.out]; exact hil) (by rw [Hyl.out]; exact hil) (by rw [HTl.out i hil, Hyl.out]; exact Nat.le_refl _) (by rw [HTl.out i hil]; omega) (Nat.lt_of_lt_of_le hT.lt hW.size) (Nat.lt_of_lt_of_le hoy.lt hW.size) (by have := (hT.below hW).rows2; rw [HcT.out] at this; exact this) (hoy.cells.below hW hoy.lt)
              have K3 := fun (W : World) (gA cA gD cD : Nat) (hW : Below wr.heap.size wr W) (hoA : Own W wr.heap.size gA cA (mirL c i x)) (hoD : Own W wr.heap.size gD cD (mirL T i y)) => addP_round (bS := bS) hn4 hP Hxl.out hsl hwx' hil hk' st hok hlq (HRs.out x y i HRxy.out hil) hx hH hT hb hox hoy hp hpg hpL hpM (by omega) (by omega) hHP hbL hbM hW hoA hoD
              have k1 := Lib.hid K1; have k2 := Lib.hid K2; have k3 := Lib.hid K3
              have Hrl := Lib.hid hrl; have Hsl := Lib.hid hsl
              clear K1 K2 K3 hrl hsl st hok hlq hx hH hT hb hox hoy hp hpg hHP hk'
              have hX : Below wr.heap.size wr wr.drew := below_drewN' wr 1
              have x0 : wr.drew.cell? ⟨bp, 0, none⟩ = some (Value.slice (some ⟨bo, 0, none⟩) c.length co) := b0
              have x1 : wr.drew.cell? ⟨bp, 1, none⟩ = some (Value.slice (some ⟨bd, 0, none⟩) c.length cd) := b1
              clear b0 b1 hR
              go_wp2_with fail
              go_region_held3 (fun W => W.cell? ⟨bp, 0, none⟩ = some (Value.slice (some ⟨bo, 0, none⟩) c.length co) ∧ W.cell? ⟨bp, 1, none⟩ = some (Value.slice (some ⟨bd, 0, none⟩) c.length cd))
                (first | with_reducible exact ⟨x0, x1⟩ | with_reducible exact ⟨keepCell hbA x0, keepCell hbA x1⟩ | with_reducible exact ⟨keepCell hbD (keepCell hbA x0), keepCell hbD (keepCell hbA x1)⟩ | with_reducible exact hF.cells | exact ⟨x0, x1⟩)
                (first
                  | (go_at_call 197; (with_reducible refine (k1.out _ hX).mono ?_); rintro e wA ⟨gA, cA, rfl, hoA, hbA⟩; rw [Hrl.out])
                  | (go_at_call 197; (with_reducible refine (k2.out _ (hX.trans (hbA.mono hX.size))).mono ?_); rintro e wD ⟨gD, cD, rfl, hoD, hbD⟩; rw [Hsl.out])
                  | (go_at_call 194; (with_reducible refine (k3.out _ gA cA gD cD ((hX.trans (hbA.mono hX.size)).trans (hbD.mono (Nat.le_trans hX.size hbA.size))) ((hoA.mono hX.size).below hbD hoA.lt) (hoD.mono (Nat.le_trans hX.size hbA.size))).mono ?_); rintro e wF ⟨rfl, hF⟩))
              have HF := Lib.hid hF
              clear hF hX x0 x1 hbA hbD hoA hoD k1 k2 k3
              go_wp2_with fail
              go_roundw
              case rel => exact ⟨i + 1, by omega, by go_num, HF.out⟩
              case measure => simp [intOf]; omega
            · obtain rfl : i = c.length := by omega
              obtain ⟨gP, cP, nP, nM, ps', hk', st, hok, hlq, hx, hH, hT, hb, -, -, -, -, hHP⟩ := hR.out
              have hok2 := Lib.hid hok.next; have hlq2 := Lib.hid hlq; have hH2 := Lib.hid hH
              clear hok hlq hH hx hR
              go_wp2_with fail
              go_roundw
              case rel => exact ⟨k + 1, gP, cP, nP, nM, ps', by go_num, by omega, hH2.out, hHP, st, hok2.out, hlq2.out, hT, hb⟩
              case measure => simp [intOf]; omega
        · obtain rfl : k = nP := by omega
          have hfin := hpr.out.fin (by rw [rootsQ, List.length_map, st.hn]; exact Nat.le_refl _)
          have hnd := hpr.out.nodup
          have hne0 : ps ≠ [] := by
            intro e
            have h1 := hpr.out.simp 0 (by have := hC.1; omega)
            rw [e] at h1
            simp [rootsQ] at h1
          have hcall := sort_pairs (swo_of rootCmp_anti rootCmp_zero rootCmp_trans) (enters_of Tryz.func199 (by kernel_rfl) rfl) w.heap.size gP cP k ps wr st.hn (by rw [st.hn]; omega) hne0 st.hP (fun p hp => ⟨(st.rows p hp).1, by rw [(hlq.out.1 p hp).1]; omega, (st.neOwn (st.rows p hp).1).2.2.2.symm⟩)
          have Hcall := Lib.hid hcall; have Hfin := Lib.hid hfin; have Hnd := Lib.hid hnd
          clear hcall hfin hnd hne0
          go_wp2_with fail
          refine Hcall.out.mono ?_
          rintro e w4 ⟨rfl, ps4, hperm, hsort, hP4, hg4⟩
          have hB4 : Below w.heap.size w w4 := hb.grown hg4 hb.size (by intro j hj; cases hj; exact st.hP.base)
          have hl4 : ps4.length = k := by rw [hperm.length_eq]; exact st.hn
          have hk4 : ∀ b, b < wr.heap.size → b ≠ gP → w4.heap[b]? = wr.heap[b]? := fun b hb' hne => hg4.block b hb' (fun e => hne (Option.some.inj e))
          have hrows4 : ∀ p ∈ ps4, Own w4 w.heap.size p.1.1 p.1.2.1 p.1.2.2 ∧ Own w4 w.heap.size p.2.1 p.2.2.1 p.2.2.2 := fun p hp => by
            have hp' := hperm.mem_iff.1 hp
            have a := (st.rows p hp').1
            have b := (st.rows p hp').2
            exact ⟨a.same (hk4 _ a.lt (st.neOwn a).2.2.2), b.same (hk4 _ b.lt (st.neOwn b).2.2.2)⟩
          have hLb := (hk4 _ (box_lt st.hL) st.ne.2.2.2.2.1).trans st.hL
          have hnd1 : (ps4.map fun p => p.1.1).Nodup := (hperm.map _).nodup_iff.2 st.nodup
          have hnd2 : (ps4.map fun p => p.2.1).Nodup := (hperm.map _).nodup_iff.2 hlq.out.2
          have hRel : ∀ p ∈ ps4, R p.1.2.2 p.2.2.2 := fun p hp => (hlq.out.1 p (hperm.mem_iff.1 hp)).2.2.2
          have hposL : rootsQ ps4 = posL c := (putsR_eq Hnd.out (hperm.map _) (hsort.imp (by intro a b h; omega))).trans Hfin.out
          have hkl : (posL c).length = k := by rw [← hposL, rootsQ, List.length_map]; exact hl4
          have hE0 : PrEnd w ((w4.alloc (.cells #[] 28)).alloc (.cells #[] 28)) gP cP w4.heap.size 0 (w4.heap.size + 1) 0 0 0 ps4 := by
            have hA := (Below.refl w4.heap.size w4).alloc (Nat.le_refl _) (.cells #[] 28)
            have hs : (w4.alloc (.cells #[] 28)).heap.size = w4.heap.size + 1 := by simp
            have hA2 := (Below.refl (w4.heap.size + 1) (w4.alloc (.cells #[] 28))).alloc (Nat.le_of_eq hs.symm) (.cells #[] 28)
            have hA3 : Below w4.heap.size w4 _ := hA.trans (hA2.mono (Nat.le_succ _))
            have h1 : OwnRows (w4.alloc (.cells #[] 28)) w.heap.size w4.heap.size 0 [] := OwnRows.empty hB4.size
            have h2 : OwnRows ((w4.alloc (.cells #[] 28)).alloc (.cells #[] 28)) w.heap.size (w4.alloc (.cells #[] 28)).heap.size 0 [] := OwnRows.empty (by rw [hs]; have := hB4.size; omega)
            rw [hs] at h2
            exact ⟨h1.below (by rw [hs]; exact hA2), h2, OwnK.same hP4 (hA3.block _ hP4.lt), fun p hp => ⟨(hrows4 p hp).1.below hA3 (hrows4 p hp).1.lt, (hrows4 p hp).2.below hA3 (hrows4 p hp).2.lt⟩, by omega, hB4.trans (hA3.mono hB4.size)⟩
          have qLa : ∀ o1 o2, ((w4.alloc o1).alloc o2).cell? ⟨bL, 0, none⟩ = some (Value.slice (some ⟨gP, 0, none⟩) k cP) := fun o1 o2 => by
            have hA := (Below.refl w4.heap.size w4).alloc (Nat.le_refl _) o1
            have hA2 := (Below.refl (w4.alloc o1).heap.size (w4.alloc o1)).alloc (Nat.le_refl _) o2
            have hlt4 := box_lt hLb
            exact (box_cell ((hA2.block _ (Nat.lt_of_lt_of_le hlt4 hA.size)).trans ((hA.block _ hlt4).trans hLb))).1
          have Hnd1 := Lib.hid hnd1; have Hnd2 := Lib.hid hnd2; have HRel := Lib.hid hRel; have HposL := Lib.hid hposL; have Hkl := Lib.hid hkl
          have hk24 : k ≤ 24 := hn24
          clear hperm hsort hP4 hg4 hB4 hk4 hrows4 hLb hnd1 hnd2 hRel hposL hkl Hcall Hfin Hnd st hpr hlq hT hb hbx hbg qL hlt hn24
          go_wp2_with fail
          go_loopw [14, 15, 73] (fun o1 o2 kv wi => ∃ (t gO cO gO2 cO2 : Nat), t ≤ k ∧ kv = .int .i64 t ∧ o1 = (Value.slice (some ⟨gO, 0, none⟩) t cO) ∧ o2 = (Value.slice (some ⟨gO2, 0, none⟩) t cO2) ∧ PrEnd w wi gP cP gO cO gO2 cO2 t t ps4) (fun _ _ kv _ => k - (intOf kv).toNat)
          case atStart => exact ⟨0, _, 0, _, 0, Nat.zero_le _, rfl, rfl, rfl, hE0⟩
          case round =>
            clear hE0 qLa
            obtain ⟨t, gO, cO, gO2, cO2, ht, rfl, rfl, rfl, hE⟩ := hrel
            by_cases htl : t < k
            · have htp : t < ps4.length := by rw [hl4]; exact htl
              obtain ⟨d0, d1⟩ := hE.hP.cell htp
              have hor := (hE.rows _ (List.getElem_mem htp)).1
              have hor2 := (hE.rows _ (List.getElem_mem htp)).2
              have hne := take_ne Hnd1.out htp
              have hne2 := take_ne2 Hnd2.out htp
              have hll : ((ps4.take t).map (·.1)).length = t := by rw [List.length_map, List.length_take]; omega
              have hll2 : ((ps4.take t).map (·.2)).length = t := by rw [List.length_map, List.length_take]; omega
              have hA1 := fun (wi w' : World) (g1 c1 g2 c2 g' c' t2 : Nat) (h : PrEnd w wi gP cP g1 c1 g2 c2 t t2 ps4) => h.app1 (w' := w') (g' := g') (c' := c') htp
              have hA2 := fun (wi w' : World) (g1 c1 g2 c2 g' c' t1 : Nat) (h : PrEnd w wi gP cP g1 c1 g2 c2 t1 t ps4) => h.app2 (w' := w') (g' := g') (c' := c') htp
              have hmemO := fun (wi : World) (g1 c1 g2 c2 t1 t2 : Nat) (h : PrEnd w wi gP cP g1 c1 g2 c2 t1 t2 ps4) => (h.rows _ (List.getElem_mem htp)).2
              have hmemO' := Lib.hid hmemO; clear hmemO
              generalize ps4[t] = pk at *
              obtain ⟨⟨bo, co, x⟩, ⟨bd, cd, y⟩⟩ := pk
              have e0 : wr.cell? ⟨gP, t * 2, none⟩ = some (Value.slice (some ⟨bo, 0, none⟩) x.length co) := d0
              have e1 : wr.cell? ⟨gP, t * 2 + 1, none⟩ = some (Value.slice (some ⟨bd, 0, none⟩) y.length cd) := d1
              have hor' : Own wr w.heap.size bo co x := hor
              have hor2' : Own wr w.heap.size bd cd y := hor2
              have Hll := Lib.hid hll; have Hll2 := Lib.hid hll2; have Hne := Lib.hid hne; have Hne2 := Lib.hid hne2; have HA1 := Lib.hid hA1; have HA2 := Lib.hid hA2; have hmemO := Lib.hid (fun (wi : World) (g1 c1 g2 c2 t1 t2 : Nat) (h : PrEnd w wi gP cP g1 c1 g2 c2 t1 t2 ps4) => hmemO'.out wi g1 c1 g2 c2 t1 t2 h)
              clear hmemO'; clear d0 d1 hor hor2 hll hll2 hne hne2 hA1 hA2
              have hA := (Below.refl wr.heap.size wr).alloc (Nat.le_refl _) (.cells #[(Value.slice (some ⟨bo, 0, none⟩) x.length co), (Value.slice (some ⟨bd, 0, none⟩) y.length cd)] 136)
              have hEA := hE.keep hA
              have horA := hor'.below hA hor'.lt
              have hor2A := hor2'.below hA hor2'.lt
              have hs2 : (wr.alloc (.cells #[(Value.slice (some ⟨bo, 0, none⟩) x.length co), (Value.slice (some ⟨bd, 0, none⟩) y.length cd)] 136)).heap.size = wr.heap.size + 1 := by simp
              have hcp : (wr.alloc (.cells #[(Value.slice (some ⟨bo, 0, none⟩) x.length co), (Value.slice (some ⟨bd, 0, none⟩) y.length cd)] 136)).cell? ⟨wr.heap.size, 1, none⟩ = some (Value.slice (some ⟨bd, 0, none⟩) y.length cd) := (cell2 (heap_alloc_new wr (.cells #[(Value.slice (some ⟨bo, 0, none⟩) x.length co), (Value.slice (some ⟨bd, 0, none⟩) y.length cd)] 136))).2
              have hgO : some wr.heap.size ≠ some gO := fun e => by have h1 := Option.some.inj e; have h2 := hE.r1.lt; omega
              clear hE hor' hor2' hA
              go_wp2_with (at_builtin; refine wpList_append_row (w := wr.alloc (.cells #[(Value.slice (some ⟨bo, 0, none⟩) x.length co), (Value.slice (some ⟨bd, 0, none⟩) y.length cd)] 136)) rfl _ _ rfl w.heap.size gO cO t (wr.heap.size + 1) ((ps4.take t).map (·.1)) (bo, co, x) _ Hll.out rfl hs2 hEA.r1 horA Hne.out rfl rfl (by omega) ?_)
              intro g5 c5 w5 hO5 hg5 hor5
              have hE5 := HA1.out _ _ _ _ _ _ _ _ _ hEA (by simpa only [List.map_take] using hO5) hg5 (by rw [hs2]; exact hor5)
              have hrows5 : Own w5 w.heap.size bd cd y := hmemO.out _ _ _ _ _ _ _ hE5
              have hcp5 := hg5.cell (a := ⟨wr.heap.size, 1, none⟩) hcp hgO
              clear hO5 hg5 hor5 hEA horA hor2A hcp
              go_wp2_with (at_builtin; refine wpList_append_row (w := w5) rfl _ _ rfl w.heap.size gO2 cO2 t w5.heap.size ((ps4.take t).map (·.2)) (bd, cd, y) _ Hll2.out rfl rfl hE5.r2 hrows5 Hne2.out rfl rfl (by omega) ?_)
              intro g6 c6 w6 hO6 hg6 hor6
              have hE6 := HA2.out _ _ _ _ _ _ _ _ _ hE5 (by simpa only [List.map_take] using hO6) hg6 hor6
              clear hO6 hg6 hor6 hE5 hrows5 hcp5
              go_wp2_with fail
              go_roundw
              case rel => exact ⟨t + 1, g5, c5, g6, c6, by omega, by go_num, rfl, rfl, hE6⟩
              case measure => simp [intOf]; omega
            · obtain rfl : t = k := by omega
              have hfull : (ps4.take t).map (·.1) = ps4.map (·.1) := by rw [List.take_of_length_le (by rw [hl4]; exact Nat.le_refl _)]
              have hfull2 : (ps4.take t).map (·.2) = ps4.map (·.2) := by rw [List.take_of_length_le (by rw [hl4]; exact Nat.le_refl _)]
              have hR1 := hE.r1
              have hR2 := hE.r2
              rw [hfull] at hR1
              rw [hfull2] at hR2
              have hBe := hE.below
              have hc1 : contents (ps4.map (·.1)) = posL c := by rw [← HposL.out]; simp [contents, rootsQ]
              have hc2 : (contents (ps4.map (·.2))).length = (posL c).length := by rw [Hkl.out, contents_length, List.length_map, hl4]
              have hc3 : ∀ k, k < (posL c).length → R ((posL c).getD k []) ((contents (ps4.map (·.2))).getD k []) := by
                intro k hk
                have hkp : k < ps4.length := by rw [hl4, ← Hkl.out]; exact hk
                have h1 := HRel.out _ (List.getElem_mem hkp)
                have e1 : (posL c).getD k [] = ps4[k].1.2.2 := by rw [← HposL.out]; simp [rootsQ, List.getD, hkp]
                have e2 : (contents (ps4.map (·.2))).getD k [] = ps4[k].2.2.2 := by simp [contents, List.getD, hkp]
                rw [e1, e2]; exact h1
              have Hc1 := Lib.hid hc1; have Hc2 := Lib.hid hc2; have Hc3 := Lib.hid hc3
              clear hfull hfull2 hE hc1 hc2 hc3
              go_wp2_with fail
              go_ret2
              refine ⟨gO, cO, _, gO2, cO2, _, ?_, Hc1.out, Hc2.out, Hc3.out, hR1, hR2, hBe⟩
              rw [Hkl.out]; rfl
end Go.Proofs.YtnpechcnmchneaaGreatDoor
