/- Transposed matrices: contracts. The reference's insertion into a list of roots: contract. -/
import Derived.Test.YtmjneokgnnbekaaGreatDoorG23
import Derived.Test.YtmjneokgnnbekaaGreatDoorG19
namespace Go.Proofs.YtmjneokgnnbekaaGreatDoor
set_option maxRecDepth 100000
open Go.RowKit Game

/-- new rows -/
def NewRows (w : World) (rows : List (List Int)) (e : Ending) (w' : World) : Prop :=
  ∃ g cap rs, e = .returned (Value.slice (some ⟨g, 0, none⟩) rows.length cap) ∧ contents rs = rows ∧ OwnRows w' w.heap.size g cap rs ∧ Below w.heap.size w w'
theorem NewRows.mk' {w w' : World} {rows : List (List Int)} {n : Nat} (g cap : Nat) (rs : List RowRef) (hl : rs.length = n) (hc : contents rs = rows) (ho : OwnRows w' w.heap.size g cap rs) (hb : Below w.heap.size w w') :
    NewRows w rows (.returned (Value.slice (some ⟨g, 0, none⟩) n cap)) w' := by
  subst hl; subst hc
  exact ⟨g, cap, rs, by rw [contents_length], rfl, ho, hb⟩
def transRow (c : List (List Int)) (i k : Nat) : List Int := (List.range k).map fun j => ent c j i
theorem transRow_succ (c : List (List Int)) (i k : Nat) : transRow c i (k + 1) = transRow c i k ++ [ent c k i] := by unfold transRow; rw [List.range_succ, List.map_append]; rfl
theorem transRow_length (c : List (List Int)) (i k : Nat) : (transRow c i k).length = k := by simp [transRow]
def transTo (c : List (List Int)) (k : Nat) : List (List Int) := (List.range k).map fun i => transRow c i c.length
theorem transTo_succ (c : List (List Int)) (k : Nat) : transTo c (k + 1) = transTo c k ++ [transRow c k c.length] := by unfold transTo; rw [List.range_succ, List.map_append]; rfl

set_option maxHeartbeats 2000000 in
theorem impl_TransposeCartan_any (gc oc n cc : Nat) (c : List (List Int)) (w : World) (hn : c.length = n) (hC : IsC c) (hgc : gc < w.heap.size) (hc : Rows2 w gc oc c) :
    Calls Tryz.prog 84 #[(Value.slice (some ⟨gc, oc, none⟩) n cc)] w (NewRows w (transL c)) := by
  subst hn
  have hn4 := hC.2.1
  have hcl : ∀ j, j < c.length → (c.getD j []).length = c.length := hC.2.2.1
  have Hcl := Lib.hid hcl; clear hcl
  have hcall := impl_IsCartan gc oc _ cc c w rfl (by omega) (fun j hj => by rw [Hcl.out j hj]; omega) hc
  rw [decide_eq_true hC] at hcall
  have Hcall := Lib.hid hcall
  clear hcall
  go_enter Tryz.func84, Tryz.ntmps84
  go_wp2_with fail
  refine Hcall.out.mono ?_
  rintro e w1 ⟨rfl, hs1⟩
  have hb1 := below_still (Below.refl w.heap.size w) hs1
  clear hs1 Hcall
  go_wp2
  go_loopw [3, 14] (fun ov kv wr => ∃ (k g cp : Nat) (rs : List RowRef), k ≤ c.length ∧ kv = .int .i64 k ∧ ov = (Value.slice (some ⟨g, 0, none⟩) k cp) ∧ Hid (rs.length = k) ∧ Hid (contents rs = transTo c k) ∧ OwnRows wr w.heap.size g cp rs ∧ Below w.heap.size w wr) (fun _ kv _ => c.length - (intOf kv).toNat)
  case atStart => exact ⟨0, _, 0, [], Nat.zero_le _, rfl, rfl, rfl, rfl, OwnRows.empty hb1.size, hb1.alloc hb1.size _⟩
  case round =>
    obtain ⟨k, g, cp, rs, hk, rfl, rfl, hrl, hcn, hO, hb⟩ := hrel
    obtain ⟨wo, rfl⟩ : ∃ wo : World, wo = wr := ⟨_, rfl⟩
    by_cases hlt : k < c.length
    · go_wp2
      go_loopw [5, 20] (fun ov jv wi => ∃ (j g2 cp2 : Nat), j ≤ c.length ∧ jv = .int .i64 j ∧ ov = (Value.slice (some ⟨g2, 0, none⟩) j cp2) ∧ Own wi wo.heap.size g2 cp2 (transRow c k j) ∧ Below wo.heap.size wo wi) (fun _ jv _ => c.length - (intOf jv).toNat)
      case atStart => exact ⟨0, wo.heap.size, 0, Nat.zero_le _, rfl, rfl, Own.empty (Nat.le_refl _), (Below.refl _ _).alloc (Nat.le_refl _) _⟩
      case round =>
        obtain ⟨j, g2, cp2, hj, rfl, rfl, ho, hbi⟩ := hrel
        by_cases hjl : j < c.length
        · obtain ⟨ga, oa, ca, q1, q2, q3, q4⟩ := hc j hjl
          have hB := hb.trans (hbi.mono hb.size)
          replace q1 := (hB.cell (p := ⟨gc, oc + j, none⟩) hgc).trans q1
          have e1 := q4.below hB q3 k (by rw [Hcl.out j hjl]; exact hlt)
          have hee : (c.getD j []).getD k 0 = ent c j k := rfl
          rw [hee] at e1
          have hts := transRow_succ c k j
          have htl := transRow_length c k j
          rw [Hcl.out j hjl] at q1
          generalize ent c j k = y at *
          have Hts := Lib.hid hts; have Htl := Lib.hid htl
          clear hts htl hee
          go_wp2_with (at_builtin; refine wpList_append_int_n (w := wr) rfl _ _ rfl wo.heap.size g2 cp2 j (transRow c k j) y Htl.out ho rfl rfl (by omega) ?_)
          intro g3 c3 w3 ho3 hg3 hor
          rw [← Hts.out] at ho3
          have hb3 : Below wo.heap.size wo w3 := hbi.grown hg3 hbi.size (by intro t ht; cases ht; exact ho.base)
          clear hor hg3
          go_wp2
          go_roundw
          case rel => exact ⟨j + 1, g3, c3, by omega, by go_num, rfl, ho3, hb3⟩
          case measure => simp [intOf]; omega
        · obtain rfl : j = c.length := by omega
          have hOi := hO.below hbi
          have hne : ∀ s ∈ rs, s.1 ≠ g2 := fun s hs e => by
            have h1 := (hO.2.1 s hs).lt
            have h2 := ho.base
            omega
          have ho' := ho.mono hb.size
          have hB := hb.trans (hbi.mono hb.size)
          have htl := transRow_length c k c.length
          have htt := transTo_succ c k
          have Htl := Lib.hid htl; have Htt := Lib.hid htt
          clear htl htt ho
          go_wp2_with (at_builtin; refine wpList_append_row rfl _ _ rfl w.heap.size g cp k wr.heap.size rs (g2, cp2, transRow c k c.length) _ hrl.out (by unfold rowVal; rw [Htl.out]) rfl hOi ho' hne rfl rfl (by omega) ?_)
          intro g5 c5 w5 hO5 hg5 hor5
          have hB5 : Below w.heap.size w w5 := hB.grown hg5 hB.size (by intro t ht; cases ht; exact hOi.base)
          clear hg5 hor5 hOi hB
          go_wp2
          go_roundw
          case rel =>
            refine ⟨k + 1, g5, c5, rs ++ [(g2, cp2, transRow c k c.length)], by omega, by go_num, rfl, ?_, ?_, hO5, hB5⟩
            · show _ = _
              rw [List.length_append, hrl.out]; rfl
            · show _ = _
              rw [contents_append, hcn.out, Htt.out]
          case measure => simp [intOf]; omega
    · obtain rfl : k = c.length := by omega
      go_wp2
      go_ret
      exact NewRows.mk' g cp rs hrl.out hcn.out hO hb

set_option maxHeartbeats 2000000 in
theorem spec_TransposeCartan_any (gc oc n cc : Nat) (c : List (List Int)) (w : World) (hn : c.length = n) (hC : IsC c) (hgc : gc < w.heap.size) (hc : Rows2 w gc oc c) :
    Calls Tryz.prog 77 #[(Value.slice (some ⟨gc, oc, none⟩) n cc)] w (NewRows w (transL c)) := by
  subst hn
  have hn4 := hC.2.1
  have hcl : ∀ j, j < c.length → (c.getD j []).length = c.length := hC.2.2.1
  have Hcl := Lib.hid hcl; clear hcl
  go_enter Tryz.func77, Tryz.ntmps77
  go_wp2
  go_loopw [3, 4] (fun ov kv wr => ∃ (k g cp : Nat) (rs : List RowRef), k ≤ c.length ∧ kv = .int .i64 k ∧ ov = (Value.slice (some ⟨g, 0, none⟩) k cp) ∧ Hid (rs.length = k) ∧ Hid (contents rs = transTo c k) ∧ OwnRows wr w.heap.size g cp rs ∧ Below w.heap.size w wr) (fun _ kv _ => c.length - (intOf kv).toNat)
  case atStart => exact ⟨0, _, 0, [], Nat.zero_le _, rfl, rfl, rfl, rfl, OwnRows.empty (Nat.le_refl _), (Below.refl _ _).alloc (Nat.le_refl _) _⟩
  case round =>
    obtain ⟨k, g, cp, rs, hk, rfl, rfl, hrl, hcn, hO, hb⟩ := hrel
    by_cases hlt : k < c.length
    · have hcall := spec_IsCartan gc oc _ cc c wr rfl (by omega) (fun j hj => by rw [Hcl.out j hj]; omega) (hc.below hb hgc)
      rw [decide_eq_true hC] at hcall
      have Hcall := Lib.hid hcall
      clear hcall
      go_wp2_with fail
      refine Hcall.out.mono ?_
      rintro e wo ⟨rfl, hs1⟩
      replace hb := below_still hb hs1
      replace hO := hO.still hs1
      clear hs1 Hcall
      go_wp2
      go_loopw [5, 6] (fun ov jv wi => ∃ (j g2 cp2 : Nat), j ≤ c.length ∧ jv = .int .i64 j ∧ ov = (Value.slice (some ⟨g2, 0, none⟩) j cp2) ∧ Own wi wo.heap.size g2 cp2 (transRow c k j) ∧ Below wo.heap.size wo wi) (fun _ jv _ => c.length - (intOf jv).toNat)
      case atStart => exact ⟨0, wo.heap.size, 0, Nat.zero_le _, rfl, rfl, Own.empty (Nat.le_refl _), (Below.refl _ _).alloc (Nat.le_refl _) _⟩
      case round =>
        obtain ⟨j, g2, cp2, hj, rfl, rfl, ho, hbi⟩ := hrel
        by_cases hjl : j < c.length
        · obtain ⟨ga, oa, ca, q1, q2, q3, q4⟩ := hc j hjl
          have hB := hb.trans (hbi.mono hb.size)
          replace q1 := (hB.cell (p := ⟨gc, oc + j, none⟩) hgc).trans q1
          have e1 := q4.below hB q3 k (by rw [Hcl.out j hjl]; exact hlt)
          have hee : (c.getD j []).getD k 0 = ent c j k := rfl
          rw [hee] at e1
          have hts := transRow_succ c k j
          have htl := transRow_length c k j
          rw [Hcl.out j hjl] at q1
          generalize ent c j k = y at *
          have Hts := Lib.hid hts; have Htl := Lib.hid htl
          clear hts htl hee
          go_wp2_with (at_builtin; refine wpList_append_int_n (w := wr) rfl _ _ rfl wo.heap.size g2 cp2 j (transRow c k j) y Htl.out ho rfl rfl (by omega) ?_)
          intro g3 c3 w3 ho3 hg3 hor
          rw [← Hts.out] at ho3
          have hb3 : Below wo.heap.size wo w3 := hbi.grown hg3 hbi.size (by intro t ht; cases ht; exact ho.base)
          clear hor hg3
          go_wp2
          go_roundw
          case rel => exact ⟨j + 1, g3, c3, by omega, by go_num, rfl, ho3, hb3⟩
          case measure => simp [intOf]; omega
        · obtain rfl : j = c.length := by omega
          have hOi := hO.below hbi
          have hne : ∀ s ∈ rs, s.1 ≠ g2 := fun s hs e => by
            have h1 := (hO.2.1 s hs).lt
            have h2 := ho.base
            omega
          have ho' := ho.mono hb.size
          have hB := hb.trans (hbi.mono hb.size)
          have htl := transRow_length c k c.length
          have htt := transTo_succ c k
          have Htl := Lib.hid htl; have Htt := Lib.hid htt
          clear htl htt ho
          go_wp2_with (at_builtin; refine wpList_append_row rfl _ _ rfl w.heap.size g cp k wr.heap.size rs (g2, cp2, transRow c k c.length) _ hrl.out (by unfold rowVal; rw [Htl.out]) rfl hOi ho' hne rfl rfl (by omega) ?_)
          intro g5 c5 w5 hO5 hg5 hor5
          have hB5 : Below w.heap.size w w5 := hB.grown hg5 hB.size (by intro t ht; cases ht; exact hOi.base)
          clear hg5 hor5 hOi hB
          go_wp2
          go_roundw
          case rel =>
            refine ⟨k + 1, g5, c5, rs ++ [(g2, cp2, transRow c k c.length)], by omega, by go_num, rfl, ?_, ?_, hO5, hB5⟩
            · show _ = _
              rw [List.length_append, hrl.out]; rfl
            · show _ = _
              rw [contents_append, hcn.out, Htt.out]
          case measure => simp [intOf]; omega
    · obtain rfl : k = c.length := by omega
      go_wp2
      go_ret
      exact NewRows.mk' g cp rs hrl.out hcn.out hO hb
end Go.Proofs.YtmjneokgnnbekaaGreatDoor
namespace Go.Proofs.YtmjneokgnnbekaaGreatDoor
set_option maxRecDepth 100000
open Go.RowKit Game

theorem putR_lt {x word : List Int} {l : List (List Int)} (h : rootCmp word x < 0) : putR (x :: l) word = word :: x :: l := by simp [putR, h]
theorem putR_ge {x word : List Int} {l : List (List Int)} (h : 0 ≤ rootCmp word x) : putR (x :: l) word = x :: putR l word := by simp only [putR]; rw [if_neg (by omega)]

set_option maxHeartbeats 4000000 in
theorem spec_l7Put_any (B0 g cap n g1 o1 n1 c1 : Nat) (rs : List RowRef) (word : List Int) (w : World) (hn : rs.length = n) (hn1 : word.length = n1) (hl : rs.length ≤ 1000000) (hwl : word.length ≤ 1048576)
    (hsame : ∀ r ∈ rs, r.2.2.length = word.length) (ho : OwnRows w B0 g cap rs) (hg1 : g1 < w.heap.size) (hc1 : Cells w g1 o1 word) :
    Calls Tryz.prog 100 #[(Value.slice (some ⟨g, 0, none⟩) n cap), (Value.slice (some ⟨g1, o1, none⟩) n1 c1)] w (GotPut w B0 (putR (contents rs) word)) := by
  subst hn; subst hn1
  have hB0 : B0 ≤ w.heap.size := by have := ho.base; have := ho.lt; omega
  have hg := ho.lt
  have Hsame := Lib.hid hsame; clear hsame
  go_enter Tryz.func100, Tryz.ntmps100
  go_wp2
  go_loopw [5, 6, 7] (fun ov pv iv wr => ∃ (i p g' c' : Nat) (acc : List RowRef) (pl : Bool), i ≤ rs.length ∧ iv = .int .i64 i ∧ pv = .bool pl ∧ ov = (Value.slice (some ⟨g', 0, none⟩) p c') ∧ Hid (acc.length = p) ∧ p ≤ i + 1 ∧ Hid (PutSt (fun l => putR l word) w.heap.size rs i acc pl) ∧ OwnRows wr B0 g' c' acc ∧ w.heap.size ≤ g' ∧ Below w.heap.size w wr) (fun _ _ iv _ => rs.length - (intOf iv).toNat)
  case atStart =>
    exact ⟨0, 0, w.heap.size, 0, [], false, Nat.zero_le _, rfl, rfl, rfl, rfl, by omega, PutSt.start, OwnRows.empty hB0, Nat.le_refl _, (Below.refl _ _).alloc (Nat.le_refl _) _⟩
  case round =>
    obtain ⟨i, p, g', c', acc, pl, hi, rfl, rfl, rfl, hp, hpi, hst, hO, hgn, hb⟩ := hrel
    by_cases hlt : i < rs.length
    · have hm : rs[i] ∈ rs := List.getElem_mem hlt
      have hoi := ho.2.1 _ hm
      have hneI := hst.out.ne ho.2.2 hlt hoi.lt
      have hxl := Hsame.out _ hm
      have hq : wr.cell? ⟨g, i, none⟩ = some (rowVal rs[i]) := by
        rw [hb.cell (p := ⟨g, i, none⟩) hg, ho.1.cell i (by simpa using hlt)]; simp
      have HS : ∀ (new : List RowRef) (pl' : Bool), (∀ s ∈ new, w.heap.size ≤ s.1) → acc.length + new.length ≤ i + 1 → (pl' = false → pl = false ∧ new = []) → (if pl then contents (rs.drop i) else putR (contents (rs.drop i)) word) = contents new ++ rs[i].2.2 :: (if pl' then contents (rs.drop (i + 1)) else putR (contents (rs.drop (i + 1))) word) → PutSt (fun l => putR l word) w.heap.size rs (i + 1) (acc ++ new ++ [rs[i]]) pl' :=
        fun new pl' h1 h2 h3 h4 => hst.out.step hlt new pl' h1 h2 h3 h4
      have HS' := Lib.hid HS
      have hcd := contents_drop rs hlt
      have Hcd := Lib.hid hcd
      have hlen := hst.out.lenF
      have Hlen := Lib.hid hlen
      clear HS hcd hlen
      generalize rs[i] = r at *
      obtain ⟨bi, ci, xi⟩ := r
      have hq' : wr.cell? ⟨g, i, none⟩ = some (Value.slice (some ⟨bi, 0, none⟩) xi.length ci) := hq
      have hoi' : Own wr B0 bi ci xi := hoi.below hb hoi.lt
      have hxl' : xi.length = word.length := hxl
      have hcW := hc1.below hb hg1
      have hcX := hoi'.cells
      have hcallG := spec_l7Before_any g1 o1 _ c1 bi 0 _ ci word xi wr rfl rfl hxl'.symm hwl hcW hcX
      have HneI := Lib.hid hneI
      have hbi : bi < w.heap.size := hoi.lt
      have hpl : p ≤ i + 1 := hpi
      have Ho := Lib.hid ho
      have Hst := Lib.hid hst
      clear hq hoi hm hneI ho hst hcW hcX hxl hxl'
      cases pl with
      | true =>
        clear hcallG
        clear Hlen
        have hs2 : ∃ n, wr = wr.drewN n := ⟨0, rfl⟩
        have hq9 : wr.cell? ⟨g, i, none⟩ = some (Value.slice (some ⟨bi, 0, none⟩) xi.length ci) := (cell_still hs2 _).trans hq'
        have hB9 := below_still hb hs2
        have hO9 := hO.still hs2
        have hoi9 := hoi'.still hs2
        have hgn9 := hgn
        clear hb hO hoi' hq' hs2
        have hne9 := HneI.out
        go_wp2_with (at_builtin; refine wpList_append_row rfl _ _ rfl B0 g' _ (p) wr.heap.size (acc) (bi, ci, xi) _ hp.out rfl rfl hO9 hoi9 hne9 rfl rfl (by omega) ?_)
        intro g5 c5 w5 hO5 hg5 hor5
        have hB5 : Below w.heap.size w w5 := hB9.grown hg5 hB9.size (by intro j hj; cases hj; exact hgn9)
        have hg5n : w.heap.size ≤ g5 := by
          rcases hor5 with h | h
          · omega
          · have := hB9.size; omega
        go_wp2
        go_roundw
        case rel =>
          refine ⟨i + 1, p + 1, g5, c5, acc ++ [(bi, ci, xi)], true, by omega, by go_num, by first | rfl | trivial, by first | rfl | trivial, ?_, by omega, ?_, hO5, hg5n, hB5⟩
          · show _ = _
            have := hp.out
            simp at this ⊢; omega
          · show PutSt _ _ _ _ _ _
            have := HS'.out [] true (by simp) (by rw [hp.out]; simpa using hpl) (by simp) (by simp only [if_true]; rw [Hcd.out]; rfl); simpa using this
        case measure => simp [intOf]; omega
      | false =>
        by_cases hv : rootCmp word xi < 0
        · rw [decide_eq_true hv] at hcallG
          have HG := Lib.hid hcallG; have Hv := Lib.hid hv; clear hv hcallG
          have hpi : p ≤ i := by have := Hlen.out rfl; have := hp.out; omega
          clear Hlen
          have HcallG := HG
          go_wp2_with fail
          refine HcallG.out.mono ?_
          rintro e w6 ⟨rfl, hs2⟩
          clear HcallG HG
          have hq9 : w6.cell? ⟨g, i, none⟩ = some (Value.slice (some ⟨bi, 0, none⟩) xi.length ci) := (cell_still hs2 _).trans hq'
          have hB9 := below_still hb hs2
          have hO9 := hO.still hs2
          have hoi9 := hoi'.still hs2
          have hgn9 := hgn
          clear hb hO hoi' hq' hs2
          go_wp2_with (at_builtin; refine wpList_clone (w := w6) rfl _ _ rfl g1 o1 _ c1 word rfl (Nat.lt_of_lt_of_le hg1 hB9.size) (hc1.below hB9 hg1) rfl rfl (by omega) ?_)
          intro g3 c3 w3 ho3 hb3
          have hB3 : Below w.heap.size w w3 := hB9.trans (hb3.mono hB9.size)
          have hO3 : OwnRows w3 B0 g' c' acc := hO9.below hb3
          have hne3 : ∀ s ∈ acc, s.1 ≠ g3 := fun s hs e => by
            have h1 := (hO9.2.1 s hs).lt
            have h2 := ho3.base
            omega
          have hg3 : w.heap.size ≤ g3 := by have := ho3.base; have := hB9.size; omega
          have ho3' : Own w3 B0 g3 c3 word := ho3.mono (by have := hB9.size; omega)
          have hoi3 : Own w3 B0 bi ci xi := hoi9.below hb3 hoi9.lt
          have hq3 : w3.cell? ⟨g, i, none⟩ = some (Value.slice (some ⟨bi, 0, none⟩) xi.length ci) := (hb3.cell (p := ⟨g, i, none⟩) (Nat.lt_of_lt_of_le hg hB9.size)).trans hq9
          clear hq9 hoi9 hO9 hB9 hb3
          go_wp2_with (at_builtin; refine wpList_append_row rfl _ _ rfl B0 g' c' p w3.heap.size acc (g3, c3, word) _ hp.out rfl rfl hO3 ho3' hne3 rfl rfl (by omega) ?_)
          intro g4 c4 w4 hO9 hg4 hor4
          have hB9 : Below w.heap.size w w4 := hB3.grown hg4 hB3.size (by intro j hj; cases hj; exact hgn)
          have hoi9 : Own w4 B0 bi ci xi := hoi3.grown hg4 (fun e => hO3.1.ne hoi3.toV (by decide) (Option.some.inj e).symm)
          have hgn9 : w.heap.size ≤ g4 := by
            rcases hor4 with h | h
            · omega
            · have := hB3.size; omega
          have hq9 : w4.cell? ⟨g, i, none⟩ = some (Value.slice (some ⟨bi, 0, none⟩) xi.length ci) := hg4.cell (a := ⟨g, i, none⟩) hq3 (by simp; omega)
          have hne9 : ∀ s ∈ acc ++ [(g3, c3, word)], s.1 ≠ bi := fun s hs => by
            rcases List.mem_append.1 hs with h | h
            · exact HneI.out s h
            · simp at h; subst h; show g3 ≠ bi; omega
          have hl9 : (acc ++ [(g3, c3, word)]).length = p + 1 := by rw [List.length_append, hp.out]; rfl
          have Hl9 := Lib.hid hl9
          clear hq3 hoi3 hO3 hB3 hg4 hor4 ho3 ho3' hne3 hl9
          go_wp2_with (at_builtin; refine wpList_append_row rfl _ _ rfl B0 g4 _ (p + 1) w4.heap.size (acc ++ [(g3, c3, word)]) (bi, ci, xi) _ Hl9.out rfl rfl hO9 hoi9 hne9 rfl rfl (by omega) ?_)
          intro g5 c5 w5 hO5 hg5 hor5
          have hB5 : Below w.heap.size w w5 := hB9.grown hg5 hB9.size (by intro j hj; cases hj; exact hgn9)
          have hg5n : w.heap.size ≤ g5 := by
            rcases hor5 with h | h
            · omega
            · have := hB9.size; omega
          go_wp2
          go_roundw
          case rel =>
            refine ⟨i + 1, p + 1 + 1, g5, c5, acc ++ [(g3, c3, word), (bi, ci, xi)], true, by omega, by go_num, by first | rfl | trivial, by first | rfl | trivial, ?_, by omega, ?_, hO5, hg5n, hB5⟩
            · show _ = _
              have := Hl9.out
              simp at this ⊢; omega
            · show PutSt _ _ _ _ _ _
              have := HS'.out [(g3, c3, word)] true (by intro s hs; simp at hs; subst hs; exact hg3) (by rw [hp.out]; simpa using hpi) (by intro e; simp at e) (by simp only [if_true]; rw [Hcd.out]; exact (putR_lt Hv.out)); simpa using this
          case measure => simp [intOf]; omega
        · rw [decide_eq_false hv] at hcallG
          have HG := Lib.hid hcallG; have Hv := Lib.hid hv; clear hv hcallG
          have hpi : p ≤ i := by have := Hlen.out rfl; have := hp.out; omega
          clear Hlen
          have HcallG := HG
          go_wp2_with fail
          refine HcallG.out.mono ?_
          rintro e w6 ⟨rfl, hs2⟩
          clear HcallG HG
          have hq9 : w6.cell? ⟨g, i, none⟩ = some (Value.slice (some ⟨bi, 0, none⟩) xi.length ci) := (cell_still hs2 _).trans hq'
          have hB9 := below_still hb hs2
          have hO9 := hO.still hs2
          have hoi9 := hoi'.still hs2
          have hgn9 := hgn
          clear hb hO hoi' hq' hs2
          have hne9 := HneI.out
          go_wp2_with (at_builtin; refine wpList_append_row rfl _ _ rfl B0 g' _ (p) w6.heap.size (acc) (bi, ci, xi) _ hp.out rfl rfl hO9 hoi9 hne9 rfl rfl (by omega) ?_)
          intro g5 c5 w5 hO5 hg5 hor5
          have hB5 : Below w.heap.size w w5 := hB9.grown hg5 hB9.size (by intro j hj; cases hj; exact hgn9)
          have hg5n : w.heap.size ≤ g5 := by
            rcases hor5 with h | h
            · omega
            · have := hB9.size; omega
          go_wp2
          go_roundw
          case rel =>
            refine ⟨i + 1, p + 1, g5, c5, acc ++ [(bi, ci, xi)], false, by omega, by go_num, by first | rfl | trivial, by first | rfl | trivial, ?_, by omega, ?_, hO5, hg5n, hB5⟩
            · show _ = _
              have := hp.out
              simp at this ⊢; omega
            · show PutSt _ _ _ _ _ _
              have := HS'.out [] false (by simp) (by rw [hp.out]; simpa using hpl) (by simp) (by rw [Hcd.out]; exact (putR_ge Hv.out)); simpa using this
          case measure => simp [intOf]; omega
    · obtain rfl : i = rs.length := by omega
      cases pl with
      | true =>
        go_wp2_with fail
        go_ret
        have hd := hst.out.done
        exact GotPut.mk' g' c' acc hp.out hd hO hgn hb
      | false =>
        go_wp2_with (at_builtin; refine wpList_clone (w := wr) rfl _ _ rfl g1 o1 _ c1 word rfl (Nat.lt_of_lt_of_le hg1 hb.size) (hc1.below hb hg1) rfl rfl (by omega) ?_)
        intro g3 c3 w3 ho3 hb3
        have hB3 : Below w.heap.size w w3 := hb.trans (hb3.mono hb.size)
        have hO3 : OwnRows w3 B0 g' c' acc := hO.below hb3
        have hne3 : ∀ s ∈ acc, s.1 ≠ g3 := fun s hs e => by
          have h1 := (hO.2.1 s hs).lt
          have h2 := ho3.base
          omega
        have ho3' : Own w3 B0 g3 c3 word := ho3.mono (by have := hb.size; omega)
        go_wp2_with (at_builtin; refine wpList_append_row rfl _ _ rfl B0 g' c' p w3.heap.size acc (g3, c3, word) _ hp.out rfl rfl hO3 ho3' hne3 rfl rfl (by omega) ?_)
        intro g4 c4 w4 hO4 hg4 hor4
        have hB4 : Below w.heap.size w w4 := hB3.grown hg4 hB3.size (by intro j hj; cases hj; exact hgn)
        have hg4n : w.heap.size ≤ g4 := by
          rcases hor4 with h | h
          · omega
          · have := hB3.size; omega
        go_wp2_with fail
        go_ret
        have hd := hst.out.last (g3, c3, word) rfl
        exact GotPut.mk' g4 c4 (acc ++ [(g3, c3, word)]) (by rw [List.length_append, hp.out]; rfl) hd hO4 hg4n hB4
end Go.Proofs.YtmjneokgnnbekaaGreatDoor
