/- Transposed matrices: contracts. -/
import Derived.Test.YtmjneokgnnbekaaG20
namespace Go.Proofs.Ytmjneokgnnbekaa
set_option maxRecDepth 100000
open Go.RowKit Game

/-- new rows -/
def NewRows (w : World) (rows : List (List Int)) (e : Ending) (w' : World) : Prop :=
  ∃ g cap rs, e = .returned (Value.slice (some ⟨g, 0, none⟩) rows.length cap) ∧ contents rs = rows ∧ OwnRows w' w.heap.size g cap rs ∧ Below w.heap.size w w'
theorem NewRows.mk' {w w' : World} {rows : List (List Int)} {n : Nat} (g cap : Nat) (rs : List RowRef) (hl : rs.length = n) (hc : contents rs = rows) (ho : OwnRows w' w.heap.size g cap rs) (hb : Below w.heap.size w w') :
    NewRows w rows (.returned (Value.slice (some ⟨g, 0, none⟩) n cap)) w' := by
  subst hl; subst hc
  exact ⟨g, cap, rs, by rw [contents_length], rfl, ho, hb⟩
def transRow (c : List (List Int)) (i k : Nat) : List Int := (List.range k).map fun j => ent c j i
theorem transRow_succ (c : List (List Int)) (i k : Nat) : transRow c i (k + 1) = transRow c i k ++ [ent c k i] := by unfold transRow; rw [List.range_succ, List.map_append]; rfl
theorem transRow_length (c : List (List Int)) (i k : Nat) : (transRow c i k).length = k := by simp [transRow]
def transTo (c : List (List Int)) (k : Nat) : List (List Int) := (List.range k).map fun i => transRow c i c.length
theorem transTo_succ (c : List (List Int)) (k : Nat) : transTo c (k + 1) = transTo c k ++ [transRow c k c.length] := by unfold transTo; rw [List.range_succ, List.map_append]; rfl

set_option maxHeartbeats 2000000 in
theorem impl_TransposeCartan_any (gc oc n cc : Nat) (c : List (List Int)) (w : World) (hn : c.length = n) (hC : IsC c) (hgc : gc < w.heap.size) (hc : Rows2 w gc oc c) :
    Calls Try.prog 113 #[(Value.slice (some ⟨gc, oc, none⟩) n cc)] w (NewRows w (transL c)) := by
  subst hn
  have hn4 := hC.2.1
  have hcl : ∀ j, j < c.length → (c.getD j []).length = c.length := hC.2.2.1
  have Hcl := Lib.hid hcl; clear hcl
  have hcall := impl_IsCartan gc oc _ cc c w rfl (by omega) (fun j hj => by rw [Hcl.out j hj]; omega) hc
  rw [decide_eq_true hC] at hcall
  have Hcall := Lib.hid hcall
  clear hcall
  go_enter Try.func113, Try.ntmps113
  go_wp2_with fail
  refine Hcall.out.mono ?_
  rintro e w1 ⟨rfl, hs1⟩
  have hb1 := below_still (Below.refl w.heap.size w) hs1
  clear hs1 Hcall
  go_wp2
  go_loopw [3, 14] (fun ov kv wr => ∃ (k g cp : Nat) (rs : List RowRef), k ≤ c.length ∧ kv = .int .i64 k ∧ ov = (Value.slice (some ⟨g, 0, none⟩) k cp) ∧ Hid (rs.length = k) ∧ Hid (contents rs = transTo c k) ∧ OwnRows wr w.heap.size g cp rs ∧ Below w.heap.size w wr) (fun _ kv _ => c.length - (intOf kv).toNat)
  case atStart => exact ⟨0, _, 0, [], Nat.zero_le _, rfl, rfl, rfl, rfl, OwnRows.empty hb1.size, hb1.alloc hb1.size _⟩
  case round =>
    obtain ⟨k, g, cp, rs, hk, rfl, rfl, hrl, hcn, hO, hb⟩ := hrel
    obtain ⟨wo, rfl⟩ : ∃ wo : World, wo = wr := ⟨_, rfl⟩
    by_cases hlt : k < c.length
    · go_wp2
      go_loopw [5, 20] (fun ov jv wi => ∃ (j g2 cp2 : Nat), j ≤ c.length ∧ jv = .int .i64 j ∧ ov = (Value.slice (some ⟨g2, 0, none⟩) j cp2) ∧ Own wi wo.heap.size g2 cp2 (transRow c k j) ∧ Below wo.heap.size wo wi) (fun _ jv _ => c.length - (intOf jv).toNat)
      case atStart => exact ⟨0, wo.heap.size, 0, Nat.zero_le _, rfl, rfl, Own.empty (Nat.le_refl _), (Below.refl _ _).alloc (Nat.le_refl _) _⟩
      case round =>
        obtain ⟨j, g2, cp2, hj, rfl, rfl, ho, hbi⟩ := hrel
        by_cases hjl : j < c.length
        · obtain ⟨ga, oa, ca, q1, q2, q3, q4⟩ := hc j hjl
          have hB := hb.trans (hbi.mono hb.size)
          replace q1 := (hB.cell (p := ⟨gc, oc + j, none⟩) hgc).trans q1
          have e1 := q4.below hB q3 k (by rw [Hcl.out j hjl]; exact hlt)
          have hee : (c.getD j []).getD k 0 = ent c j k := rfl
          rw [hee] at e1
          have hts := transRow_succ c k j
          have htl := transRow_length c k j
          rw [Hcl.out j hjl] at q1
          generalize ent c j k = y at *
          have Hts := Lib.hid hts; have Htl := Lib.hid htl
          clear hts htl hee
          go_wp2_with (at_builtin; refine wpList_append_int_n (w := wr) rfl _ _ rfl wo.heap.size g2 cp2 j (transRow c k j) y Htl.out ho rfl rfl (by omega) ?_)
          intro g3 c3 w3 ho3 hg3 hor
          rw [← Hts.out] at ho3
          have hb3 : Below wo.heap.size wo w3 := hbi.grown hg3 hbi.size (by intro t ht; cases ht; exact ho.base)
          clear hor hg3
          go_wp2
          go_roundw
          case rel => exact ⟨j + 1, g3, c3, by omega, by go_num, rfl, ho3, hb3⟩
          case measure => simp [intOf]; omega
        · obtain rfl : j = c.length := by omega
          have hOi := hO.below hbi
          have hne : ∀ s ∈ rs, s.1 ≠ g2 := fun s hs e => by
            have h1 := (hO.2.1 s hs).lt
            have h2 := ho.base
            omega
          have ho' := ho.mono hb.size
          have hB := hb.trans (hbi.mono hb.size)
          have htl := transRow_length c k c.length
          have htt := transTo_succ c k
          have Htl := Lib.hid htl; have Htt := Lib.hid htt
          clear htl htt ho
          go_wp2_with (at_builtin; refine wpList_append_row rfl _ _ rfl w.heap.size g cp k wr.heap.size rs (g2, cp2, transRow c k c.length) _ hrl.out (by unfold rowVal; rw [Htl.out]) rfl hOi ho' hne rfl rfl (by omega) ?_)
          intro g5 c5 w5 hO5 hg5 hor5
          have hB5 : Below w.heap.size w w5 := hB.grown hg5 hB.size (by intro t ht; cases ht; exact hOi.base)
          clear hg5 hor5 hOi hB
          go_wp2
          go_roundw
          case rel =>
            refine ⟨k + 1, g5, c5, rs ++ [(g2, cp2, transRow c k c.length)], by omega, by go_num, rfl, ?_, ?_, hO5, hB5⟩
            · show _ = _
              rw [List.length_append, hrl.out]; rfl
            · show _ = _
              rw [contents_append, hcn.out, Htt.out]
          case measure => simp [intOf]; omega
    · obtain rfl : k = c.length := by omega
      go_wp2
      go_ret
      exact NewRows.mk' g cp rs hrl.out hcn.out hO hb

set_option maxHeartbeats 2000000 in
theorem spec_TransposeCartan_any (gc oc n cc : Nat) (c : List (List Int)) (w : World) (hn : c.length = n) (hC : IsC c) (hgc : gc < w.heap.size) (hc : Rows2 w gc oc c) :
    Calls Try.prog 108 #[(Value.slice (some ⟨gc, oc, none⟩) n cc)] w (NewRows w (transL c)) := by
  subst hn
  have hn4 := hC.2.1
  have hcl : ∀ j, j < c.length → (c.getD j []).length = c.length := hC.2.2.1
  have Hcl := Lib.hid hcl; clear hcl
  go_enter Try.func108, Try.ntmps108
  go_wp2
  go_loopw [3, 4] (fun ov kv wr => ∃ (k g cp : Nat) (rs : List RowRef), k ≤ c.length ∧ kv = .int .i64 k ∧ ov = (Value.slice (some ⟨g, 0, none⟩) k cp) ∧ Hid (rs.length = k) ∧ Hid (contents rs = transTo c k) ∧ OwnRows wr w.heap.size g cp rs ∧ Below w.heap.size w wr) (fun _ kv _ => c.length - (intOf kv).toNat)
  case atStart => exact ⟨0, _, 0, [], Nat.zero_le _, rfl, rfl, rfl, rfl, OwnRows.empty (Nat.le_refl _), (Below.refl _ _).alloc (Nat.le_refl _) _⟩
  case round =>
    obtain ⟨k, g, cp, rs, hk, rfl, rfl, hrl, hcn, hO, hb⟩ := hrel
    by_cases hlt : k < c.length
    · have hcall := spec_IsCartan gc oc _ cc c wr rfl (by omega) (fun j hj => by rw [Hcl.out j hj]; omega) (hc.below hb hgc)
      rw [decide_eq_true hC] at hcall
      have Hcall := Lib.hid hcall
      clear hcall
      go_wp2_with fail
      refine Hcall.out.mono ?_
      rintro e wo ⟨rfl, hs1⟩
      replace hb := below_still hb hs1
      replace hO := hO.still hs1
      clear hs1 Hcall
      go_wp2
      go_loopw [5, 6] (fun ov jv wi => ∃ (j g2 cp2 : Nat), j ≤ c.length ∧ jv = .int .i64 j ∧ ov = (Value.slice (some ⟨g2, 0, none⟩) j cp2) ∧ Own wi wo.heap.size g2 cp2 (transRow c k j) ∧ Below wo.heap.size wo wi) (fun _ jv _ => c.length - (intOf jv).toNat)
      case atStart => exact ⟨0, wo.heap.size, 0, Nat.zero_le _, rfl, rfl, Own.empty (Nat.le_refl _), (Below.refl _ _).alloc (Nat.le_refl _) _⟩
      case round =>
        obtain ⟨j, g2, cp2, hj, rfl, rfl, ho, hbi⟩ := hrel
        by_cases hjl : j < c.length
        · obtain ⟨ga, oa, ca, q1, q2, q3, q4⟩ := hc j hjl
          have hB := hb.trans (hbi.mono hb.size)
          replace q1 := (hB.cell (p := ⟨gc, oc + j, none⟩) hgc).trans q1
          have e1 := q4.below hB q3 k (by rw [Hcl.out j hjl]; exact hlt)
          have hee : (c.getD j []).getD k 0 = ent c j k := rfl
          rw [hee] at e1
          have hts := transRow_succ c k j
          have htl := transRow_length c k j
          rw [Hcl.out j hjl] at q1
          generalize ent c j k = y at *
          have Hts := Lib.hid hts; have Htl := Lib.hid htl
          clear hts htl hee
          go_wp2_with (at_builtin; refine wpList_append_int_n (w := wr) rfl _ _ rfl wo.heap.size g2 cp2 j (transRow c k j) y Htl.out ho rfl rfl (by omega) ?_)
          intro g3 c3 w3 ho3 hg3 hor
          rw [← Hts.out] at ho3
          have hb3 : Below wo.heap.size wo w3 := hbi.grown hg3 hbi.size (by intro t ht; cases ht; exact ho.base)
          clear hor hg3
          go_wp2
          go_roundw
          case rel => exact ⟨j + 1, g3, c3, by omega, by go_num, rfl, ho3, hb3⟩
          case measure => simp [intOf]; omega
        · obtain rfl : j = c.length := by omega
          have hOi := hO.below hbi
          have hne : ∀ s ∈ rs, s.1 ≠ g2 := fun s hs e => by
            have h1 := (hO.2.1 s hs).lt
            have h2 := ho.base
            omega
          have ho' := ho.mono hb.size
          have hB := hb.trans (hbi.mono hb.size)
          have htl := transRow_length c k c.length
          have htt := transTo_succ c k
          have Htl := Lib.hid htl; have Htt := Lib.hid htt
          clear htl htt ho
          go_wp2_with (at_builtin; refine wpList_append_row rfl _ _ rfl w.heap.size g cp k wr.heap.size rs (g2, cp2, transRow c k c.length) _ hrl.out (by unfold rowVal; rw [Htl.out]) rfl hOi ho' hne rfl rfl (by omega) ?_)
          intro g5 c5 w5 hO5 hg5 hor5
          have hB5 : Below w.heap.size w w5 := hB.grown hg5 hB.size (by intro t ht; cases ht; exact hOi.base)
          clear hg5 hor5 hOi hB
          go_wp2
          go_roundw
          case rel =>
            refine ⟨k + 1, g5, c5, rs ++ [(g2, cp2, transRow c k c.length)], by omega, by go_num, rfl, ?_, ?_, hO5, hB5⟩
            · show _ = _
              rw [List.length_append, hrl.out]; rfl
            · show _ = _
              rw [contents_append, hcn.out, Htt.out]
          case measure => simp [intOf]; omega
    · obtain rfl : k = c.length := by omega
      go_wp2
      go_ret
      exact NewRows.mk' g cp rs hrl.out hcn.out hO hb
end Go.Proofs.Ytmjneokgnnbekaa
