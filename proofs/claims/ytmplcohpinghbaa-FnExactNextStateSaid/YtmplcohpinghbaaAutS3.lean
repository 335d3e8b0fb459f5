/- The automaton by the reference: the state behind a letter, behind a word: contracts. -/
import Derived.Test.YtmplcohpinghbaaAutS2
import Derived.Test.YtmplcohpinghbaaRootT
namespace Go.Proofs.Ytmplcohpinghbaa
open Go.RowKit Game

set_option maxHeartbeats 4000000 in
theorem spec_l32Next_any (gc oc n cc gs os ns cs g o m cp i : Nat) (c S : List (List Int)) (st : List Int) (w : World) (hn : c.length = n) (hns : S.length = ns) (hm : st.length = m) (hC : IsC c) (hS : SmallOk c S) (hst : FineS S.length st) (hi : i < c.length)
    (hgc : gc < w.heap.size) (hgs : gs < w.heap.size) (hg : g < w.heap.size) (hc : Rows2 w gc oc c) (hs : Rows2 w gs os S) (hcl : Cells w g o st) :
    Calls Try.prog 41 #[(Value.slice (some ⟨gc, oc, none⟩) n cc), (Value.slice (some ⟨gs, os, none⟩) ns cs), (Value.slice (some ⟨g, o, none⟩) m cp), .int .i64 i] w (GotInts w (nextL c S i st)) := by
  subst hn; subst hns; subst hm
  have hlS := hS.len
  have hlst := hst.len
  have hn4 := hC.2.1
  have Hc := Lib.hid hc; have Hs := Lib.hid hs; have Hcl := Lib.hid hcl
  clear hc hs hcl
  have hcall := spec_SimpleRoot_any gc oc _ cc i c w rfl hC hi Hc.out
  have hsl := simpL_length c.length i
  have hown : ownI c S i = idxL S (simpL c.length i) := rfl
  have Hfin : Hid (nextTo c S i st st.length = nextL c S i st) := rfl
  have H0 : Hid (nextTo c S i st 0 = [ownI c S i]) := rfl
  generalize simpL c.length i = r0 at *
  have Hsl := Lib.hid hsl; have Hcall := Lib.hid hcall; have Hown := Lib.hid hown
  clear hsl hcall hown
  go_enter Try.func41, Try.ntmps41
  go_wp2_with fail
  refine Hcall.out.mono ?_
  rintro e w1 ⟨g1, c1, rfl, ho1, hb1⟩
  rw [Hsl.out]
  have hidx := spec_IndexOf_any gs os _ cs g1 0 _ c1 S r0 w1 rfl Hsl.out (by omega) (fun j hj => by rw [hS.lenAt hj]; omega) (Hs.out.below hb1 hgs) ho1.cells
  rw [← Hown.out] at hidx
  have Hidx := Lib.hid hidx
  clear hidx ho1 Hcall
  generalize ownI c S i = ow at *
  go_wp2_with fail
  refine Hidx.out.mono ?_
  rintro e w2 ⟨rfl, hs2⟩
  have hb2 := below_still hb1 hs2
  clear hs2 hb1 Hidx
  go_wp2_with fail
  go_loopw [9, 10, 11] (fun ov kv _ wr => ∃ (k a g2 c2 : Nat), k ≤ st.length ∧ kv = .int .i64 k ∧ ov = (Value.slice (some ⟨g2, 0, none⟩) a c2) ∧ Hid ((nextTo c S i st k).length = a) ∧ a ≤ 41 ∧ Own wr w.heap.size g2 c2 (nextTo c S i st k) ∧ Below w.heap.size w wr) (fun _ kv _ _ => st.length - (intOf kv).toNat)
  case atStart => exact ⟨0, 1, _, 1, Nat.zero_le _, rfl, rfl, by show _ = _; rw [H0.out]; rfl, by omega, by rw [H0.out]; exact Own.new (w := w2) ow hb2.size, hb2.alloc hb2.size _⟩
  case round =>
    clear hb2
    obtain ⟨k, a, g2, c2, hk, rfl, rfl, ha, hal, ho, hb⟩ := hrel
    by_cases hlt : k < st.length
    · have q1 := (hb.cell (p := ⟨g, o + k, none⟩) hg).trans (Hcl.out k hlt)
      obtain ⟨hy0, hy1⟩ := hst.at' hlt
      obtain ⟨j, hj⟩ : ∃ j : Nat, st.getD k 0 = (j : Int) := ⟨_, (Int.toNat_of_nonneg hy0).symm⟩
      have hjl : j < S.length := by omega
      have hto : toI c S i (st.getD k 0) = idxL S (mirL c i (S.getD j [])) := by rw [hj]; rfl
      have hstep : nextTo c S i st (k + 1) = if 0 ≤ toI c S i (st.getD k 0) then put5 (nextTo c S i st k) (toI c S i (st.getD k 0)) else nextTo c S i st k := rfl
      rw [hto] at hstep
      rw [hj] at q1
      have hrl := hS.lenAt hjl
      obtain ⟨ga, oa, ca, p1, p2, p3, p4⟩ := Hs.out j hjl
      replace p1 := (hb.cell (p := ⟨gs, os + j, none⟩) hgs).trans p1
      rw [hrl] at p1
      have hjI : (j : Int) < (S.length : Int) := by omega
      have hj0 : (0 : Int) ≤ (j : Int) := by omega
      have hcall := spec_l7Reflect_any gc oc _ cc i ga oa c.length ca c (S.getD j []) wr rfl hrl hi (by rw [hrl]; exact hi) (by rw [hrl, hC.2.2.1 i hi]; exact Nat.le_refl _) (by rw [hC.2.2.1 i hi]; omega) (Nat.lt_of_lt_of_le hgc hb.size) (Nat.lt_of_lt_of_le p3 hb.size) (Hc.out.below hb hgc) (p4.below hb p3)
      have hml := mirL_length c i (S.getD j [])
      rw [hrl] at hml
      have hnl : (put5 (nextTo c S i st k) (idxL S (mirL c i (S.getD j [])))).length ≤ 41 ∨ ¬ 0 ≤ idxL S (mirL c i (S.getD j [])) := by
        by_cases h0 : 0 ≤ idxL S (mirL c i (S.getD j []))
        · left
          have hu : UpI (put5 (nextTo c S i st k) (idxL S (mirL c i (S.getD j [])))) := put5_up (nextTo_up k)
          have := upI_len (m := S.length) hu (fun x hx => by
            rcases mem_put5.1 hx with e | e
            · rw [e]; exact ⟨h0, idx_lt⟩
            · exact rawTo_in (hS.simp' i hi) k ((nextTo_mem x k).1 e))
          omega
        · exact .inr h0
      clear hto hj hy0 hy1 p4
      generalize mirL c i (S.getD j []) = r at *
      have Hcall := Lib.hid hcall; have Hml := Lib.hid hml; have Hstep := Lib.hid hstep; have Hnl := Lib.hid hnl; have Hrl := Lib.hid hrl
      clear hcall hml hstep hnl hrl
      go_wp2_with fail
      refine Hcall.out.mono ?_
      rintro e w3 ⟨g3, c3, rfl, ho3, hb3⟩
      rw [Hml.out]
      have hB3 := hb.trans (hb3.mono hb.size)
      have hidx := spec_IndexOf_any gs os _ cs g3 0 _ c3 S r w3 rfl Hml.out (by omega) (fun j hj => by rw [hS.lenAt hj]; omega) (Hs.out.below hB3 hgs) ho3.cells
      have hO3 := ho.below hb3 ho.lt
      generalize idxL S r = x at *
      have Hidx := Lib.hid hidx
      clear hidx ho3 Hcall ho hb3 hb q1 p1
      go_wp2_with fail
      refine Hidx.out.mono ?_
      rintro e w4 ⟨rfl, hs4⟩
      have hB4 := below_still hB3 hs4
      have hO4 := hO3.still hs4
      clear hs4 hB3 hO3 Hidx
      by_cases hx : 0 ≤ x
      · have hst2 : put5 (nextTo c S i st k) x = nextTo c S i st (k + 1) := by rw [Hstep.out, if_pos hx]
        have hle : (put5 (nextTo c S i st k) x).length ≤ 41 := by
          rcases Hnl.out with h | h
          · exact h
          · exact absurd hx (by omega)
        have hput := spec_l5Put_any g2 0 a c2 (nextTo c S i st k) x w4 ha.out (by rw [ha.out]; omega) hO4.lt hO4.cells
        rw [hst2] at hput hle
        have Hput := Lib.hid hput; have Hle := Lib.hid hle
        clear hput hle hst2 hO4
        go_wp2_with fail
        refine Hput.out.mono ?_
        rintro e w5 ⟨g5, c5, rfl, ho5, hb5⟩
        obtain ⟨b, hbl⟩ : ∃ b, (nextTo c S i st (k + 1)).length = b := ⟨_, rfl⟩
        rw [hbl]
        have Hbl := Lib.hid hbl
        have hb41 : b ≤ 41 := by rw [← hbl]; exact Hle.out
        clear hbl
        go_wp2_with fail
        go_roundw
        case rel => exact ⟨k + 1, b, g5, c5, by omega, by go_num, rfl, Hbl.out, hb41, ho5.mono hB4.size, hB4.trans (hb5.mono hB4.size)⟩
        case measure => simp [intOf]; omega
      · have hst2 : nextTo c S i st (k + 1) = nextTo c S i st k := by rw [Hstep.out, if_neg hx]
        have Hst2 := Lib.hid hst2
        have hxn : x < 0 := by omega
        clear hst2 hx
        go_wp2_with fail
        go_roundw
        case rel => exact ⟨k + 1, a, g2, c2, by omega, by go_num, rfl, by show _ = _; rw [Hst2.out]; exact ha.out, hal, by rw [Hst2.out]; exact hO4, hB4⟩
        case measure => simp [intOf]; omega
    · obtain rfl : k = st.length := by omega
      rw [Hfin.out] at ha ho
      go_wp2_with fail
      go_ret
      exact GotInts.mk' g2 c2 ha.out ho hb

/-- a state, or none -/
def WalkPost (w : World) (R : Option (List Int)) (e : Ending) (w' : World) : Prop :=
  (R = none ∧ GotIntsB w [] false e w') ∨ ∃ st, R = some st ∧ GotIntsB w st true e w'
theorem walkL_drop {c S : List (List Int)} {st l : List Int} {k : Nat} (hk : k < l.length) : walkL c S st (l.drop k) = if ownI c S (l.getD k 0).toNat ∈ st then none else walkL c S (nextL c S (l.getD k 0).toNat st) (l.drop (k + 1)) := by
  have e : l.getD k 0 = l[k] := by simp [List.getD, hk]
  rw [List.drop_eq_getElem_cons hk, e]; rfl

set_option maxHeartbeats 4000000 in
theorem spec_l32Walk_any (gc oc n cc gs os ns cs g o m cp : Nat) (c S : List (List Int)) (l : List Int) (w : World) (hn : c.length = n) (hns : S.length = ns) (hm : l.length = m) (hC : IsC c) (hS : SmallOk c S) (hl : l.length ≤ 1048576) (hw : ∀ x ∈ l, 0 ≤ x ∧ x < (c.length : Int))
    (hgc : gc < w.heap.size) (hgs : gs < w.heap.size) (hg : g < w.heap.size) (hc : Rows2 w gc oc c) (hs : Rows2 w gs os S) (hcl : Cells w g o l) :
    Calls Try.prog 35 #[(Value.slice (some ⟨gc, oc, none⟩) n cc), (Value.slice (some ⟨gs, os, none⟩) ns cs), (Value.slice (some ⟨g, o, none⟩) m cp)] w (WalkPost w (walkL c S [] l)) := by
  subst hn; subst hns; subst hm
  have hlS := hS.len
  have hn4 := hC.2.1
  have Hc := Lib.hid hc; have Hs := Lib.hid hs; have Hcl := Lib.hid hcl; have Hw := Lib.hid hw
  clear hc hs hcl hw
  obtain ⟨R, hR⟩ : ∃ R, walkL c S [] l = R := ⟨_, rfl⟩
  rw [hR]
  have HR := Lib.hid hR
  clear hR
  go_enter Try.func35, Try.ntmps35
  go_wp2
  go_loopw [8, 9] (fun sv kv wr => ∃ (k a g2 c2 : Nat) (st : List Int), k ≤ l.length ∧ kv = .int .i64 k ∧ sv = (Value.slice (some ⟨g2, 0, none⟩) a c2) ∧ Hid (st.length = a) ∧ a ≤ 40 ∧ Hid (FineS S.length st) ∧ Hid (walkL c S st (l.drop k) = R) ∧ Own wr w.heap.size g2 c2 st ∧ Below w.heap.size w wr) (fun _ kv _ => l.length - (intOf kv).toNat)
  case atStart => exact ⟨0, 0, _, 0, [], Nat.zero_le _, rfl, rfl, rfl, by omega, FineS.nil _, HR.out, Own.empty (Nat.le_refl _), (Below.refl _ _).alloc (Nat.le_refl _) _⟩
  case round =>
    obtain ⟨k, a, g2, c2, st, hk, rfl, rfl, ha, hal, hst, hwk, ho, hb⟩ := hrel
    by_cases hlt : k < l.length
    · have q1 := (hb.cell (p := ⟨g, o + k, none⟩) hg).trans (Hcl.out k hlt)
      obtain ⟨hy0, hy1⟩ := Hw.out (l.getD k 0) (by simp [List.getD, hlt])
      have hwd := walkL_drop (c := c) (S := S) (st := st) hlt
      obtain ⟨i, hi⟩ : ∃ i : Nat, l.getD k 0 = (i : Int) := ⟨_, (Int.toNat_of_nonneg hy0).symm⟩
      have Hq : Hid (∀ W, Below w.heap.size w W → W.cell? ⟨g, o + k, none⟩ = some (.int .i64 (i : Int))) := fun W hW => by rw [← hi]; exact (hW.cell (p := ⟨g, o + k, none⟩) hg).trans (Hcl.out k hlt)
      rw [hi] at q1 hwd hy1
      rw [Int.toNat_natCast] at hwd
      have hil : i < c.length := by omega
      have hcall := spec_SimpleRoot_any gc oc _ cc i c wr rfl hC hil (Hc.out.below hb hgc)
      have hsl := simpL_length c.length i
      have hown : ownI c S i = idxL S (simpL c.length i) := rfl
      have hno : ownI c S i ∉ st → walkL c S (nextL c S i st) (l.drop (k + 1)) = R := fun h => by rw [← hwk.out, hwd, if_neg h]
      have hin : ownI c S i ∈ st → R = none := fun h => by rw [← hwk.out, hwd, if_pos h]
      clear hwd hi hy0
      generalize simpL c.length i = r0 at *
      have Hsl := Lib.hid hsl; have Hcall := Lib.hid hcall; have Hown := Lib.hid hown; have Hno := Lib.hid hno; have Hin := Lib.hid hin
      clear hsl hcall hown hno hin
      go_wp2_with fail
      refine Hcall.out.mono ?_
      rintro e w1 ⟨g1, c1, rfl, ho1, hb1⟩
      rw [Hsl.out]
      have hB1 := hb.trans (hb1.mono hb.size)
      have hO1 := ho.below hb1 ho.lt
      have hidx := spec_IndexOf_any gs os _ cs g1 0 _ c1 S r0 w1 rfl Hsl.out (by omega) (fun j hj => by rw [hS.lenAt hj]; omega) (Hs.out.below hB1 hgs) ho1.cells
      rw [← Hown.out] at hidx
      have Hidx := Lib.hid hidx
      clear hidx ho1 Hcall hb hb1 ho
      generalize ownI c S i = ow at *
      go_wp2_with fail
      refine Hidx.out.mono ?_
      rintro e w2 ⟨rfl, hs2⟩
      have hB2 := below_still hB1 hs2
      have hO2 := hO1.still hs2
      have hhas := aut_l3Has g2 0 a c2 st ow w2 ha.out (by rw [ha.out]; omega) hO2.cells
      clear hs2 hB1 Hidx hO1
      by_cases hmem : ow ∈ st
      · have hr := Hin.out hmem
        rw [decide_eq_true hmem] at hhas
        have Hhas := Lib.hid hhas; have Hr := Lib.hid hr
        clear hhas hr hmem q1
        go_wp2_with fail
        refine Hhas.out.mono ?_
        rintro e w3 ⟨rfl, hs3⟩
        have hB3 := below_still hB2 hs3
        clear hs3
        go_wp2_with fail
        go_ret2
        exact .inl ⟨Hr.out, GotIntsB.mk' w3.heap.size 0 rfl (Own.empty hB3.size) (hB3.alloc hB3.size _)⟩
      · have hr := Hno.out hmem
        rw [decide_eq_false hmem] at hhas
        have Hhas := Lib.hid hhas; have Hr := Lib.hid hr
        clear hhas hr hmem
        go_wp2_with fail
        refine Hhas.out.mono ?_
        rintro e w3 ⟨rfl, hs3⟩
        have hB3 := below_still hB2 hs3
        have hO3 := hO2.still hs3
        have q3 := Hq.out w3 hB3
        have hnx := spec_l32Next_any gc oc _ cc gs os _ cs g2 0 a c2 i c S st w3 rfl rfl ha.out hC hS hst.out hil (Nat.lt_of_lt_of_le hgc hB3.size) (Nat.lt_of_lt_of_le hgs hB3.size) hO3.lt (Hc.out.below hB3 hgc) (Hs.out.below hB3 hgs) hO3.cells
        have hfn := nextL_fine (c := c) (S := S) (i := i) (st := st) (hS.simp' i hil)
        have Hnx := Lib.hid hnx; have Hfn := Lib.hid hfn
        clear hs3 hnx hfn q1 hB2 hO2 hO3
        go_wp2_with fail
        refine Hnx.out.mono ?_
        rintro e w4 ⟨g4, c4, rfl, ho4, hb4⟩
        obtain ⟨b, hbl⟩ : ∃ b, (nextL c S i st).length = b := ⟨_, rfl⟩
        have hb40 : b ≤ 40 := by have := Hfn.out.len; omega
        rw [hbl]
        have Hbl := Lib.hid hbl
        clear hbl Hnx
        go_wp2_with fail
        go_roundw
        case rel => exact ⟨k + 1, b, g4, c4, nextL c S i st, by omega, by go_num, rfl, Hbl.out, hb40, Hfn.out, Hr.out, ho4.mono hB3.size, hB3.trans (hb4.mono hB3.size)⟩
        case measure => simp [intOf]; omega
    · obtain rfl : k = l.length := by omega
      have hd := hwk.out
      rw [List.drop_length] at hd
      have Hd : Hid (R = some st) := hd.symm
      clear hd
      go_wp2
      go_ret2
      exact .inr ⟨st, Hd.out, GotIntsB.mk' g2 c2 ha.out ho hb⟩
end Go.Proofs.Ytmplcohpinghbaa
