/- The automaton by the reference: the state behind a letter, behind a word: contracts. -/
import Derived.Test.YtmplcohpinghbaaGreatDoorAutS
import Derived.Test.YtmplcohpinghbaaGreatDoorRootT
namespace Go.Proofs.YtmplcohpinghbaaGreatDoor
open Go.RowKit Game

set_option maxHeartbeats 4000000 in
theorem spec_l32Next_any (gc oc n cc gs os ns cs g o m cp i : Nat) (c S : List (List Int)) (st : List Int) (w : World) (hn : c.length = n) (hns : S.length = ns) (hm : st.length = m) (hC : IsC c) (hS : SmallOk c S) (hst : FineS S.length st) (hi : i < c.length)
    (hgc : gc < w.heap.size) (hgs : gs < w.heap.size) (hg : g < w.heap.size) (hc : Rows2 w gc oc c) (hs : Rows2 w gs os S) (hcl : Cells w g o st) :
    Calls Tryz.prog 19 #[(Value.slice (some ⟨gc, oc, none⟩) n cc), (Value.slice (some ⟨gs, os, none⟩) ns cs), (Value.slice (some ⟨g, o, none⟩) m cp), .int .i64 i] w (GotInts w (nextL c S i st)) := by
  subst hn; subst hns; subst hm
  have hlS := hS.len
  have hlst := hst.len
  have hn4 := hC.2.1
  have Hc := Lib.hid hc; have Hs := Lib.hid hs; have Hcl := Lib.hid hcl
  clear hc hs hcl
  have hcall := spec_SimpleRoot_any gc oc _ cc i c w rfl hC hi Hc.out
  have hsl := simpL_length c.length i
  have hown : ownI c S i = idxL S (simpL c.length i) := rfl
  have Hfin : Hid (nextTo c S i st st.length = nextL c S i st) := rfl
  have H0 : Hid (nextTo c S i st 0 = [ownI c S i]) := rfl
  generalize simpL c.length i = r0 at *
  have Hsl := Lib.hid hsl; have Hcall := Lib.hid hcall; have Hown := Lib.hid hown
  clear hsl hcall hown
  go_enter Tryz.func19, Tryz.ntmps19
  go_wp2_with fail
  refine Hcall.out.mono ?_
  rintro e w1 ⟨g1, c1, rfl, ho1, hb1⟩
  rw [Hsl.out]
  have hidx := spec_IndexOf_any gs os _ cs g1 0 _ c1 S r0 w1 rfl Hsl.out (by omega) (fun j hj => by rw [hS.lenAt hj]; omega) (Hs.out.below hb1 hgs) ho1.cells
  rw [← Hown.out] at hidx
  have Hidx := Lib.hid hidx
  clear hidx ho1 Hcall
  generalize ownI c S i = ow at *
  go_wp2_with fail
  refine Hidx.out.mono ?_
  rintro e w2 ⟨rfl, hs2⟩
  have hb2 := below_still hb1 hs2
  clear hs2 hb1 Hidx
  go_wp2_with fail
  go_loopw [9, 10, 11] (fun ov kv _ wr => ∃ (k a g2 c2 : Nat), k ≤ st.length ∧ kv = .int .i64 k ∧ ov = (Value.slice (some ⟨g2, 0, none⟩) a c2) ∧ Hid ((nextTo c S i st k).length = a) ∧ a ≤ 41 ∧ Own wr w.heap.size g2 c2 (nextTo c S i st k) ∧ Below w.heap.size w wr) (fun _ kv _ _ => st.length - (intOf kv).toNat)
  case atStart => exact ⟨0, 1, _, 1, Nat.zero_le _, rfl, rfl, by show _ = _; rw [H0.out]; rfl, by omega, by rw [H0.out]; exact Own.new (w := w2) ow hb2.size, hb2.alloc hb2.size _⟩
  case round =>
    clear hb2
    obtain ⟨k, a, g2, c2, hk, rfl, rfl, ha, hal, ho, hb⟩ := hrel
    by_cases hlt : k < st.length
    · have q1 := (hb.cell (p := ⟨g, o + k, none⟩) hg).trans (Hcl.out k hlt)
      obtain ⟨hy0, hy1⟩ := hst.at' hlt
      obtain ⟨j, hj⟩ : ∃ j : Nat, st.getD k 0 = (j : Int) := ⟨_, (Int.toNat_of_nonneg hy0).symm⟩
      have hjl : j < S.length := by omega
      have hto : toI c S i (st.getD k 0) = idxL S (mirL c i (S.getD j [])) := by rw [hj]; rfl
      have hstep : nextTo c S i st (k + 1) = if 0 ≤ toI c S i (st.getD k 0) then put5 (nextTo c S i st k) (toI c S i (st.getD k 0)) else nextTo c S i st k := rfl
      rw [hto] at hstep
      rw [hj] at q1
      have hrl := hS.lenAt hjl
      obtain ⟨ga, oa, ca, p1, p2, p3, p4⟩ := Hs.out j hjl
      replace p1 := (hb.cell (p := ⟨gs, os + j, none⟩) hgs).trans p1
      rw [hrl] at p1
      have hjI : (j : Int) < (S.length : Int) := by omega
      have hj0 : (0 : Int) ≤ (j : Int) := by omega
      have hcall := spec_l7Reflect_any gc oc _ cc i ga oa c.length ca c (S.getD j []) wr rfl hrl hi (by rw [hrl]; exact hi) (by rw [hrl, hC.2.2.1 i hi]; exact Nat.le_refl _) (by rw [hC.2.2.1 i hi]; omega) (Nat.lt_of_lt_of_le hgc hb.size) (Nat.lt_of_lt_of_le p3 hb.size) (Hc.out.below hb hgc) (p4.below hb p3)
      have hml := mirL_length c i (S.getD j [])
      rw [hrl] at hml
      have hnl : (put5 (nextTo c S i st k) (idxL S (mirL c i (S.getD j [])))).length ≤ 41 ∨ ¬ 0 ≤ idxL S (mirL c i (S.getD j [])) := by
        by_cases h0 : 0 ≤ idxL S (mirL c i (S.getD j []))
        · left
          have hu : UpI (put5 (nextTo c S i st k) (idxL S (mirL c i (S.getD j [])))) := put5_up (nextTo_up k)
          have := upI_len (m := S.length) hu (fun x hx => by
            rcases mem_put5.1 hx with e | e
            · rw [e]; exact ⟨h0, idx_lt⟩
            · exact rawTo_in (hS.simp' i hi) k ((nextTo_mem x k).1 e))
          omega
        · exact .inr h0
      clear hto hj hy0 hy1 p4
      generalize mirL c i (S.getD j []) = r at *
      have Hcall := Lib.hid hcall; have Hml := Lib.hid hml; have Hstep := Lib.hid hstep; have Hnl := Lib.hid hnl; have Hrl := Lib.hid hrl
      clear hcall hml hstep hnl hrl
      go_wp2_with fail
      refine Hcall.out.mono ?_
      rintro e w3 ⟨g3, c3, rfl, ho3, hb3⟩
      rw [Hml.out]
      have hB3 := hb.trans (hb3.mono hb.size)
      have hidx := spec_IndexOf_any gs os _ cs g3 0 _ c3 S r w3 rfl Hml.out (by omega) (fun j hj => by rw [hS.lenAt hj]; omega) (Hs.out.below hB3 hgs) ho3.cells
      have hO3 := ho.below hb3 ho.lt
      generalize idxL S r = x at *
      have Hidx := Lib.hid hidx
      clear hidx ho3 Hcall ho hb3 hb q1 p1
      go_wp2_with fail
      refine Hidx.out.mono ?_
      rintro e w4 ⟨rfl, hs4⟩
      have hB4 := below_still hB3 hs4
      have hO4 := hO3.still hs4
      clear hs4 hB3 hO3 Hidx
      by_cases hx : 0 ≤ x
      · have hst2 : put5 (nextTo c S i st k) x = nextTo c S i st (k + 1) := by rw [Hstep.out, if_pos hx]
        have hle : (put5 (nextTo c S i st k) x).length ≤ 41 := by
          rcases Hnl.out with h | h
          · exact h
          · exact absurd hx (by omega)
        have hput := spec_l5Put_any g2 0 a c2 (nextTo c S i st k) x w4 ha.out (by rw [ha.out]; omega) hO4.lt hO4.cells
        rw [hst2] at hput hle
        have Hput := Lib.hid hput; have Hle := Lib.hid hle
        clear hput hle hst2 hO4
        go_wp2_with fail
        refine Hput.out.mono ?_
        rintro e w5 ⟨g5, c5, rfl, ho5, hb5⟩
        obtain ⟨b, hbl⟩ : ∃ b, (nextTo c S i st (k + 1)).length = b := ⟨_, rfl⟩
        rw [hbl]
        have Hbl := Lib.hid hbl
        have hb41 : b ≤ 41 := by rw [← hbl]; exact Hle.out
        clear hbl
        go_wp2_with fail
        go_roundw
        case rel => exact ⟨k + 1, b, g5, c5, by omega, by go_num, rfl, Hbl.out, hb41, ho5.mono hB4.size, hB4.trans (hb5.mono hB4.size)⟩
        case measure => simp [intOf]; omega
      · have hst2 : nextTo c S i st (k + 1) = nextTo c S i st k := by rw [Hstep.out, if_neg hx]
        have Hst2 := Lib.hid hst2
        have hxn : x < 0 := by omega
        clear hst2 hx
        go_wp2_with fail
        go_roundw
        case rel => exact ⟨k + 1, a, g2, c2, by omega, by go_num, rfl, by show _ = _; rw [Hst2.out]; exact ha.out, hal, by rw [Hst2.out]; exact hO4, hB4⟩
        case measure => simp [intOf]; omega
    · obtain rfl : k = st.length := by omega
      rw [Hfin.out] at ha ho
      go_wp2_with fail
      go_ret
      exact GotInts.mk' g2 c2 ha.out ho hb

/-- a state, or none -/
def WalkPost (w : World) (R : Option (List Int)) (e : Ending) (w' : World) : Prop :=
  (R = none ∧ GotIntsB w [] false e w') ∨ ∃ st, R = some st ∧ GotIntsB w st true e w'
theorem walkL_drop {c S : List (List Int)} {st l : List Int} {k : Nat} (hk : k < l.length) : walkL c S st (l.drop k) = if ownI c S (l.getD k 0).toNat ∈ st then none else walkL c S (nextL c S (l.getD k 0).toNat st) (l.drop (k + 1)) := by
  have e : l.getD k 0 = l[k] := by simp [List.getD, hk]
  rw [List.drop_eq_getElem_cons hk, e]; rfl

end Go.Proofs.YtmplcohpinghbaaGreatDoor
