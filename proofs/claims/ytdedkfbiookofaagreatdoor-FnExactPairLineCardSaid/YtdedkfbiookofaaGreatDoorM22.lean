/- AreIsomorphic, SymmetriesOf of both: contracts. The reference's copy of a matrix: contract. (Split off Rdc.) The reference's matrices of types: contracts. New rows and a bool; small laws of sets of vectors. -/
import Derived.Test.YtdedkfbiookofaaGreatDoorM21
import Derived.Test.YtdedkfbiookofaaGreatDoorM07
import Derived.Test.YtdedkfbiookofaaGreatDoorM06
import Derived.Test.YtdedkfbiookofaaGreatDoorM19
import Derived.Test.YtdedkfbiookofaaGreatDoorM18
import Derived.Test.YtdedkfbiookofaaGreatDoorM20
import Derived.Test.YtdedkfbiookofaaGreatDoorM03
namespace Go.Proofs.YtdedkfbiookofaaGreatDoor
set_option maxRecDepth 100000
open Go.RowKit
def isoV (a b : List (List Int)) : List Int := ((isoO a b).map intsOf).getD []
theorem sqOf {c : List (List Int)} {n : Nat} (hn : c.length = n) (hC : IsC c) : SqN n c := ⟨hn, fun k hk => by rw [hC.2.2.1 k (by omega)]; exact hn⟩
set_option maxHeartbeats 2000000 in
theorem spec_AreIsomorphic_ok (ga oa na ca gb ob nb cb : Nat) (a b : List (List Int)) (w : World) (hna : a.length = na) (hnb : b.length = nb) (ha : IsC a) (hb : IsC b) (hga : ga < w.heap.size) (hgb : gb < w.heap.size) (hra : Rows2 w ga oa a) (hrb : Rows2 w gb ob b) :
    Calls Tryz.prog 163 #[(Value.slice (some ⟨ga, oa, none⟩) na ca), (Value.slice (some ⟨gb, ob, none⟩) nb cb)] w (GotIntsB w (isoV a b) (isoB a b)) := by
  have hCa := spec_IsCartan ga oa na ca a w hna (by have := ha.2.1; omega) (fun j hj => by have := ha.2.2.1 j hj; have := ha.2.1; omega) hra
  have hCb := fun W (hW : ∃ q, W = w.drewN q) => spec_IsCartan gb ob nb cb b W hnb (by have := hb.2.1; omega) (fun j hj => by have := hb.2.2.1 j hj; have := hb.2.1; omega) (hrb.still hW)
  rw [decide_eq_true ha] at hCa
  rw [decide_eq_true hb] at hCb
  have HCa := Lib.hid hCa; have HCb := Lib.hid hCb
  clear hCa hCb
  by_cases hl : na = nb
  · subst hl
    have hn4 : na ≤ 4 := by have := ha.2.1; omega
    have HO := Lib.hid (fun W => spec_l3Orders_ok na W hn4)
    have Hha := Lib.hid ha
    have Hhb := Lib.hid hb
    have Hna := Lib.hid hna; have Hnb := Lib.hid hnb
    have Hra := Lib.hid hra; have Hrb := Lib.hid hrb
    have hL24 := ords_len (n := na) (i := na) hn4 (Nat.le_refl _)
    have Hmem : Hid (∀ k, k < (ordsN na na).length → ((ordsN na na).getD k []).length = na ∧ ((ordsN na na).getD k []).Nodup ∧ ∀ x ∈ (ordsN na na).getD k [], x < na) := Lib.hid (fun k hk => ordsN_mem (by simp [List.getD, hk]))
    have Hto : Hid (∀ i, i < (ordsN na na).length → ((ordsN na na).take i).find? (agr a b) = none → agr a b ((ordsN na na).getD i []) = true → isoO a b = some ((ordsN na na).getD i [])) := Lib.hid (fun i hi h1 h2 => by
      have := iso_to (a := a) (b := b) (hna.trans hnb.symm) (i := i) (by rw [hna]; exact hi) (by rw [hna]; exact h1) (by rw [hna]; exact h2)
      rwa [hna] at this)
    have Hnone : Hid ((ordsN na na).find? (agr a b) = none → isoO a b = none) := Lib.hid (fun h => by unfold isoO; rw [if_pos (hna.trans hnb.symm), hna]; exact h)
    generalize ordsN na na = L at *
    clear ha hb hna hnb hra hrb
    go_enter Tryz.func163, Tryz.ntmps163
    go_wp2_with fail
    refine HCa.out.mono ?_
    rintro e w1 ⟨rfl, hs1⟩
    have Hcb := Lib.hid (HCb.out _ hs1)
    go_wp2_with fail
    refine Hcb.out.mono ?_
    rintro e w2 ⟨rfl, hs2⟩
    have hb2 := below_still (Below.refl w.heap.size w) (still_trans hs1 hs2)
    have Ho := Lib.hid (HO.out w2)
    clear HCa HCb Hcb hs1 hs2 HO
    go_wp2_with fail
    refine Ho.out.mono ?_
    rintro e w3 ⟨gl, cl, rl, rfl, hcl, hol, hbl⟩
    rw [List.length_map]
    have hb3 := hb2.trans (hbl.mono hb2.size)
    have hol' := hol.mono hb2.size
    have Hcl := Lib.hid hcl
    have Hrl : Hid (rl.length = L.length) := Lib.hid (by rw [← contents_length, hcl, List.length_map])
    clear Ho hol hbl hb2 hcl
    go_wp2_with fail
    go_loopw [7, 8, 9] (fun iv _ _ wr => ∃ i : Nat, i ≤ L.length ∧ iv = .int .i64 i ∧ Hid ((L.take i).find? (agr a b) = none) ∧ Below w3.heap.size w3 wr) (fun iv _ _ _ => L.length - (intOf iv).toNat)
    case atStart => exact ⟨0, Nat.zero_le _, rfl, rfl, Below.refl _ _⟩
    case round =>
      obtain ⟨i, hi, rfl, hf, hb⟩ := hrel
      have hbw := hb3.trans (hb.mono hb3.size)
      by_cases hlt : i < L.length
      · obtain ⟨m1, m2, m3⟩ := Hmem.out i hlt
        have hir : i < rl.length := by rw [Hrl.out]; exact hlt
        have hrow : rl[i].2.2 = intsOf (L.getD i []) := by
          rw [← contents_getD rl i hir, Hcl.out]
          simp [List.getD, hlt]
        have hok := hol'.2.1 _ (List.getElem_mem hir)
        have hcell := hol'.1.cell i (by simpa using hir)
        rw [hrow] at hok
        have hrv : rowVal rl[i] = (Value.slice (some ⟨(rl[i].1), 0, none⟩) na (rl[i].2.1)) := by unfold rowVal; rw [hrow, intsOf_length, m1]
        simp only [List.getElem_map, hrv] at hcell
        have hcap : na ≤ rl[i].2.1 := by have := hok.capLe; rw [intsOf_length, m1] at this; exact this
        generalize rl[i].1 = gk at *
        generalize rl[i].2.1 = ck at *
        have hto := Hto.out i hlt hf.out
        have hfs := fun h => find_step (p := agr a b) (d := []) hlt hf.out h
        have hpa := pick_agr (a := a) (b := b) (o := L.getD i []) (by rw [m1, Hnb.out]) (fun k hk => by exact Hhb.out.2.2.1 k hk)
        generalize L.getD i [] = o at *
        have hokr := hok.below hb hok.lt
        have hcellr := (hb.cell (p := ⟨gl, i, none⟩) hol'.lt).trans hcell
        have hrel := spec_Relabel_ok ga oa na ca gk 0 na ck a o wr Hna.out m1 rfl Hha.out m2 m3 hcap (Nat.lt_of_lt_of_le hga hbw.size) hokr.lt (Hra.out.below hbw hga) hokr.cells
        have Hrel := Lib.hid hrel
        have Hto2 := Lib.hid hto; have Hfs := Lib.hid hfs; have Hpa := Lib.hid hpa; have Hm1 := Lib.hid m1
        have Hok := Lib.hid hok
        have Hcell := Lib.hid hcell
        clear hrow hrv hrel hto hfs hpa hokr hcell m1 m2 m3 hok
        go_wp2_with fail
        refine Hrel.out.mono ?_
        rintro e w5 ⟨g5, c5, rs5, rfl, hc5, ho5, hb5⟩
        have hbw5 := hbw.trans (hb5.mono hbw.size)
        have hb35 := hb.trans (hb5.mono hb.size)
        have hpl : (pickL a (intsOf o)).length = na := by rw [← hc5, contents_length]; have := Hm1.out; have h9 := congrArg List.length hc5; rw [contents_length] at h9; rw [h9]; simp [pickL, intsOf, this]
        have heq := spec_EqualCartans_any g5 0 na c5 gb ob na cb (pickL a (intsOf o)) b w5 hpl Hnb.out (by omega) (fun j hj => by
          have : (pickL a (intsOf o)).getD j [] = o.map fun q => ent a (o.getD j 0) q := pick_getD a o j (by rw [Hm1.out, ← hpl]; exact hj)
          rw [this, List.length_map, Hm1.out]; omega) (fun j hj => by have := Hhb.out.2.2.1 j hj; have := Hnb.out; omega) (by rw [← hc5]; exact ho5.rows2) (Hrb.out.below hbw5 hgb)
        have Heq := Lib.hid heq
        clear Hrel heq hpl hc5 ho5 hb5 hbw hb
        cases hag : agr a b o with
        | true =>
          have hdec : decide (pickL a (intsOf o) = b) = true := decide_eq_true (Hpa.out.2 hag)
          have Hiso := Lib.hid (Hto2.out hag)
          rw [hdec] at Heq
          clear hdec hag
          go_wp2_with fail
          refine Heq.out.mono ?_
          rintro e w6 ⟨rfl, hs6⟩
          have hb36 := below_still hb35 hs6
          have hcell6 := (hb36.cell (p := ⟨gl, i, none⟩) hol'.lt).trans Hcell.out
          have ho6 := (Hok.out.below hb36 Hok.out.lt)
          have hb6 := hb3.trans (hb36.mono hb3.size)
          clear Heq hs6 hb35 hbw5
          go_wp2_with fail
          go_ret2
          have e1 : isoV a b = intsOf o := by unfold isoV; rw [Hiso.out]; rfl
          have e2 : isoB a b = true := by unfold isoB; rw [Hiso.out]; rfl
          rw [e1, e2]
          exact GotIntsB.mk' gk ck (by rw [intsOf_length]; exact Hm1.out) ho6 hb6
        | false =>
          have hdec : decide (pickL a (intsOf o) = b) = false := decide_eq_false (fun h => by rw [Hpa.out.1 h] at hag; cases hag)
          have Hf2 := Lib.hid (Hfs.out hag)
          rw [hdec] at Heq
          clear hdec hag
          go_wp2_with fail
          refine Heq.out.mono ?_
          rintro e w6 ⟨rfl, hs6⟩
          have hb36 := below_still hb35 hs6
          clear Heq hs6 hb35 hbw5
          go_wp2_with fail
          go_roundw
          case rel => exact ⟨i + 1, by omega, by go_num, Hf2, hb36⟩
          case measure => simp [intOf]; omega
      · obtain rfl : i = L.length := by omega
        have hf2 := hf.out
        rw [List.take_length] at hf2
        have Hiso := Lib.hid (Hnone.out hf2)
        clear hf hf2
        go_wp2_with fail
        go_ret2
        have e1 : isoV a b = [] := by unfold isoV; rw [Hiso.out]; rfl
        have e2 : isoB a b = false := by unfold isoB; rw [Hiso.out]; rfl
        rw [e1, e2]
        exact GotIntsB.mk' _ 0 rfl (Own.empty hbw.size) (hbw.alloc hbw.size _)
  · have e0 : isoO a b = none := by unfold isoO; rw [if_neg (by omega)]
    have e1 : isoV a b = [] := by unfold isoV; rw [e0]; rfl
    have e2 : isoB a b = false := by unfold isoB; rw [e0]; rfl
    rw [e1, e2]
    have hne : ((na : Int) != (nb : Int)) = true := by rw [bne_iff_ne]; omega
    clear e0 e1 e2 hl hna hnb
    go_enter Tryz.func163, Tryz.ntmps163
    go_wp2_with fail
    refine HCa.out.mono ?_
    rintro e w1 ⟨rfl, hs1⟩
    have Hcb := Lib.hid (HCb.out _ hs1)
    go_wp2_with fail
    refine Hcb.out.mono ?_
    rintro e w2 ⟨rfl, hs2⟩
    have hb2 := below_still (Below.refl w.heap.size w) (still_trans hs1 hs2)
    clear hs1 hs2
    go_wp2_with fail
    go_ret2
    exact GotIntsB.mk' _ 0 rfl (Own.empty hb2.size) (hb2.alloc hb2.size _)
set_option maxHeartbeats 2000000 in
theorem impl_AreIsomorphic_ok (ga oa na ca gb ob nb cb : Nat) (a b : List (List Int)) (w : World) (hna : a.length = na) (hnb : b.length = nb) (ha : IsC a) (hb : IsC b) (hga : ga < w.heap.size) (hgb : gb < w.heap.size) (hra : Rows2 w ga oa a) (hrb : Rows2 w gb ob b) :
    Calls Tryz.prog 205 #[(Value.slice (some ⟨ga, oa, none⟩) na ca), (Value.slice (some ⟨gb, ob, none⟩) nb cb)] w (GotIntsB w (isoV a b) (isoB a b)) := by
  have hCa := impl_IsCartan ga oa na ca a w hna (by have := ha.2.1; omega) (fun j hj => by have := ha.2.2.1 j hj; have := ha.2.1; omega) hra
  have hCb := fun W (hW : ∃ q, W = w.drewN q) => impl_IsCartan gb ob nb cb b W hnb (by have := hb.2.1; omega) (fun j hj => by have := hb.2.2.1 j hj; have := hb.2.1; omega) (hrb.still hW)
  rw [decide_eq_true ha] at hCa
  rw [decide_eq_true hb] at hCb
  have HCa := Lib.hid hCa; have HCb := Lib.hid hCb
  clear hCa hCb
  by_cases hl : na = nb
  · subst hl
    have hn4 : na ≤ 4 := by have := ha.2.1; omega
    have hn1 : 1 ≤ na := by have := ha.1; omega
    have hT := iso_mt ha hb (hna.trans hnb.symm)
    rw [hnb] at hT
    have HM := Lib.hid (fun W (hW : Below w.heap.size w W) => impl_matches_ok a b na hn1 hn4 (sqOf hna ha) (sqOf hnb hb) na ga oa ca gb ob cb none 0 0 0 [] 1 W (by simp) rfl (by simp) (Nat.le_refl _) (by omega) (Nat.lt_of_lt_of_le hga hW.size) (Nat.lt_of_lt_of_le hgb hW.size) (hra.below hW hga) (hrb.below hW hgb) (.inl ⟨rfl, rfl⟩))
    rw [hT] at HM
    have hm := fun o (h : isoO a b = some o) => (iso_mem h).trans hna
    have Hm := Lib.hid hm
    have e1 : isoV a b = ((isoO a b).map intsOf).getD [] := rfl
    have e2 : isoB a b = (isoO a b).isSome := rfl
    rw [e1, e2]
    clear hT hna hnb ha hb hra hrb hm e1 e2
    generalize isoO a b = R at *
    cases R with
    | none =>
      show Calls _ _ _ _ (GotIntsB w [] false)
      go_enter Tryz.func205, Tryz.ntmps205
      go_wp2_with fail
      refine HCa.out.mono ?_
      rintro e w1 ⟨rfl, hs1⟩
      have Hcb := Lib.hid (HCb.out _ hs1)
      go_wp2_with fail
      refine Hcb.out.mono ?_
      rintro e w2 ⟨rfl, hs2⟩
      have hb2 := below_still (Below.refl w.heap.size w) (still_trans hs1 hs2)
      have Hmm := Lib.hid (HM.out w2 hb2)
      clear hs1 hs2 Hcb HM HCa HCb
      go_wp2_with fail
      refine Hmm.out.mono ?_
      rintro e w3 ⟨g3, c3, r3, rfl, hc3, ho3, hb3⟩
      have hb4 := hb2.trans (hb3.mono hb2.size)
      clear Hmm hc3 ho3 hb3
      go_wp2_with fail
      go_ret2
      exact GotIntsB.mk' _ 0 rfl (Own.empty hb4.size) (hb4.alloc hb4.size _)
    | some o =>
      show Calls _ _ _ _ (GotIntsB w (intsOf o) true)
      have hol := Lib.hid (Hm.out o rfl)
      go_enter Tryz.func205, Tryz.ntmps205
      go_wp2_with fail
      refine HCa.out.mono ?_
      rintro e w1 ⟨rfl, hs1⟩
      have Hcb := Lib.hid (HCb.out _ hs1)
      go_wp2_with fail
      refine Hcb.out.mono ?_
      rintro e w2 ⟨rfl, hs2⟩
      have hb2 := below_still (Below.refl w.heap.size w) (still_trans hs1 hs2)
      have Hmm := Lib.hid (HM.out w2 hb2)
      clear hs1 hs2 Hcb HM HCa HCb
      go_wp2_with fail
      refine Hmm.out.mono ?_
      rintro e w3 ⟨g3, c3, r3, rfl, hc3, ho3, hb3⟩
      have hb4 := hb2.trans (hb3.mono hb2.size)
      have hl3 : r3.length = 1 := by rw [← contents_length, hc3]; rfl
      have hr3 : r3[0].2.2 = intsOf o := by
        rw [← contents_getD r3 0 (by omega), hc3]; rfl
      have hok := ho3.2.1 _ (List.getElem_mem (show 0 < r3.length by omega))
      have hcell := ho3.1.cell 0 (by simp; omega)
      rw [hr3] at hok
      have hrv : rowVal r3[0] = (Value.slice (some ⟨(r3[0].1), 0, none⟩) na (r3[0].2.1)) := by unfold rowVal; rw [hr3, intsOf_length, hol.out]
      simp only [List.getElem_map, hrv] at hcell
      generalize r3[0].1 = gk at *
      generalize r3[0].2.1 = ck at *
      have hok' := hok.mono hb2.size
      have HB4 := Lib.hid hb4; have HOK := Lib.hid hok'
      clear Hmm hc3 ho3 hb3 hl3 hr3 hrv hok hok' hb4 hb2
      go_wp2_with fail
      go_ret2
      exact GotIntsB.mk' gk ck (by rw [intsOf_length]; exact hol.out) HOK.out HB4.out
  · have e0 : isoO a b = none := by unfold isoO; rw [if_neg (by omega)]
    have e1 : isoV a b = [] := by unfold isoV; rw [e0]; rfl
    have e2 : isoB a b = false := by unfold isoB; rw [e0]; rfl
    rw [e1, e2]
    have hne : ((na : Int) != (nb : Int)) = true := by rw [bne_iff_ne]; omega
    clear e0 e1 e2 hl hna hnb
    go_enter Tryz.func205, Tryz.ntmps205
    go_wp2_with fail
    refine HCa.out.mono ?_
    rintro e w1 ⟨rfl, hs1⟩
    have Hcb := Lib.hid (HCb.out _ hs1)
    go_wp2_with fail
    refine Hcb.out.mono ?_
    rintro e w2 ⟨rfl, hs2⟩
    have hb2 := below_still (Below.refl w.heap.size w) (still_trans hs1 hs2)
    clear hs1 hs2
    go_wp2_with fail
    go_ret2
    exact GotIntsB.mk' _ 0 rfl (Own.empty hb2.size) (hb2.alloc hb2.size _)
end Go.Proofs.YtdedkfbiookofaaGreatDoor
namespace Go.Proofs.YtdedkfbiookofaaGreatDoor
set_option maxRecDepth 100000
open Go.RowKit
set_option maxHeartbeats 2000000 in
theorem spec_l2Copy_any (g o n cp : Nat) (rows : List (List Int)) (w : World) (hn : rows.length = n) (hx : rows.length ≤ 1048576) (hrl : ∀ j, j < rows.length → (rows.getD j []).length ≤ 1048576) (hg : g < w.heap.size) (hr : Rows2 w g o rows) :
    Calls Tryz.prog 172 #[(Value.slice (some ⟨g, o, none⟩) n cp)] w (GotRows w rows) := by
  subst hn
  go_enter Tryz.func172, Tryz.ntmps172
  go_wp2
  go_loopw [3, 4] (fun ov kv wr => ∃ (k g2 c2 : Nat) (rs : List RowRef), k ≤ rows.length ∧ kv = .int .i64 k ∧ ov = (Value.slice (some ⟨g2, 0, none⟩) k c2) ∧ Hid (rs.length = k) ∧ Hid (contents rs = rows.take k) ∧ OwnRows wr w.heap.size g2 c2 rs ∧ Below w.heap.size w wr) (fun _ kv _ => rows.length - (intOf kv).toNat)
  case atStart => exact ⟨0, w.heap.size, 0, [], Nat.zero_le _, rfl, rfl, rfl, rfl, OwnRows.empty (Nat.le_refl _), (Below.refl _ _).alloc (Nat.le_refl _) _⟩
  case round =>
    obtain ⟨k, g2, c2, rs, hk, rfl, rfl, hrk, hcon, hO, hb⟩ := hrel
    by_cases hlt : k < rows.length
    · obtain ⟨gj, oj, cj, q1, q2, q3, q4⟩ := (hr.below hb hg) k hlt
      have hlk := hrl k hlt
      have ht : rows.take (k + 1) = rows.take k ++ [rows.getD k []] := by
        rw [List.take_succ_eq_append_getElem hlt]; simp [List.getD, hlt]
      generalize rows.getD k [] = x at *
      obtain ⟨lx, hlx⟩ : ∃ lx, x.length = lx := ⟨_, rfl⟩
      rw [hlx] at q1 q2 hlk
      have Ht := Lib.hid ht; have Hlx := Lib.hid hlx; have Q4 := Lib.hid q4
      have hE := (Below.refl wr.heap.size wr).alloc (Nat.le_refl _) (.cells #[] 3)
      have q1' := (hE.cell (p := ⟨g, o + k, none⟩) (Nat.lt_of_lt_of_le hg hb.size)).trans q1
      clear ht hlx q4 hE
      go_wp2_with (at_builtin; refine wpList_clone rfl _ _ rfl gj oj lx cj x Hlx.out q3 Q4.out rfl rfl (by rw [Hlx.out]; omega) ?_)
      intro g3 c3 w3 ho3 hb3
      have hO3 := hO.below hb3
      have hB3 := hb.trans (hb3.mono hb.size)
      have hne : ∀ s ∈ rs, s.1 ≠ g3 := fun s hs e => by have h1 := (hO.2.1 s hs).lt; have h2 := ho3.base; omega
      have Hne := Lib.hid hne
      clear hO hne q1 q1' q3 hb3
      go_wp2_with (at_builtin; refine wpList_append_row (w := w3) rfl _ _ rfl w.heap.size g2 c2 k w3.heap.size rs (g3, c3, x) _ hrk.out (by unfold rowVal; rw [Hlx.out]) rfl hO3 (ho3.mono hb.size) Hne.out rfl rfl (by omega) ?_)
      intro g4 c4 w4 hO4 hg4 hor4
      have hB4 : Below w.heap.size w w4 := hB3.grown hg4 hB3.size (by intro t ht; cases ht; exact hO3.base)
      have hl4 : Hid ((rs ++ [(g3, c3, x)]).length = k + 1) := Lib.hid (by rw [List.length_append, hrk.out]; rfl)
      have hc4 : Hid (contents (rs ++ [(g3, c3, x)]) = rows.take (k + 1)) := Lib.hid (by rw [Ht.out, ← hcon.out]; simp [contents])
      clear hO3 hB3 hg4 hor4 hb
      go_wp2_with fail
      go_roundw
      case rel => exact ⟨k + 1, g4, c4, _, by omega, by go_num, rfl, hl4.out, hc4.out, hO4, hB4⟩
      case measure => simp [intOf]; omega
    · obtain rfl : k = rows.length := by omega
      have hc := hcon.out
      rw [List.take_length] at hc
      have Hc := Lib.hid hc
      clear hc
      go_wp2_with fail
      go_ret
      exact ⟨g2, c2, rs, rfl, Hc.out, hO, hb⟩
end Go.Proofs.YtdedkfbiookofaaGreatDoor
namespace Go.Proofs.YtdedkfbiookofaaGreatDoor
set_option maxRecDepth 100000
open Go.RowKit
set_option maxHeartbeats 1000000 in
theorem spec_l2Set_ok (gc oc n cc i j : Nat) (a b : Int) (c : List (List Int)) (w : World) (hn : c.length = n) (hn4 : n ≤ 4) (hsq : ∀ k, k < c.length → (c.getD k []).length = n) (hi : i < n) (hj : j < n) (hij : i ≠ j) (hgc : gc < w.heap.size) (hr : Rows2 w gc oc c) :
    Calls Tryz.prog 151 #[(Value.slice (some ⟨gc, oc, none⟩) n cc), .int .i64 i, .int .i64 j, .int .i64 a, .int .i64 b] w (GotRows w (setM (setM c i j a) j i b)) := by
  have H := Lib.hid (spec_l2Copy_any gc oc n cc c w hn (by omega) (fun k hk => by have := hsq k hk; omega) hgc hr)
  have Hn := Lib.hid hn; have Hsq := Lib.hid hsq
  clear hr hsq hgc hn
  go_enter Tryz.func151, Tryz.ntmps151
  go_wp2_with fail
  refine H.out.mono ?_
  rintro e w1 ⟨g1, c1, rs, rfl, hc, ho, hb⟩
  obtain ⟨gr, cr, -, hbr, hlr, hne, q1, q2, q3⟩ := ho.setMat hc i (by rw [Hn.out]; exact hi)
  rw [Hsq.out i (by rw [Hn.out]; exact hi)] at q1 q2
  obtain ⟨q4, q5⟩ := q2 j hj
  obtain ⟨rs2, -, hc2, hl2, ho2, hg2⟩ := q3 j a
  have hb2 := hb.grown hg2 hb.size (by intro t ht; cases ht; exact hbr)
  have hlen2 : (setM c i j a).length = n := by rw [setM_length]; exact Hn.out
  obtain ⟨gs, cs, -, hbs, hls, hne2, r1, r2, r3⟩ := ho2.setMat hc2 j (by rw [hlen2]; exact hj)
  have hrow : (setM c i j a).getD j [] = c.getD j [] := by simp [setM, List.getD, hij]
  rw [hrow, Hsq.out j (by rw [Hn.out]; exact hj)] at r1 r2
  obtain ⟨r4, r5⟩ := r2 i hi
  obtain ⟨rs3, -, hc3, hl3, ho3, hg3⟩ := r3 i b
  have hb3 := hb2.grown hg3 hb2.size (by intro t ht; cases ht; exact hbs)
  have hl : c.length = n := Hn.out
  rw [hl]
  have HO := Lib.hid ho3; have HC := Lib.hid hc3; have HB := Lib.hid hb3
  have Hlen : Hid ((setM (setM c i j a) j i b).length = n) := Lib.hid (by rw [setM_length]; exact hlen2)
  clear q2 q3 r2 r3 ho ho2 ho3 hb hb2 hb3 hc hc2 hc3 hg2 hg3 hrow hlen2 hl H hl2 hl3
  generalize (c.getD j []).getD i 0 = y1 at *
  generalize (c.getD i []).getD j 0 = y2 at *
  go_wp2_with fail
  go_ret
  exact ⟨g1, c1, rs3, congrArg (fun z => Ending.returned (Value.slice (some ⟨g1, 0, none⟩) z c1)) Hlen.out.symm, HC.out, HO.out, HB.out⟩
end Go.Proofs.YtdedkfbiookofaaGreatDoor
namespace Go.Proofs.YtdedkfbiookofaaGreatDoor
set_option maxRecDepth 100000
open Go.RowKit Game
theorem SeenM.neOwn {w : World} {b n m g cap B : Nat} {ks : List (List Int)} {xs : List Int} (h : SeenM w b n m ks) (ho : Own w B g cap xs) : b ≠ g := by
  rintro rfl
  obtain ⟨D, ⟨es, clock, hh, -⟩, -⟩ := h
  obtain ⟨cur, h2, -⟩ := ho.toV.row
  rw [hh] at h2
  simp at h2
theorem wfV_refl (c : List (List Int)) (i : Nat) (v : List Int) : WfV (refl c i v) := by
  intro j _
  by_cases h : j < v.length
  · have e : (refl c i v).getD j 0 = reflAt c i v j := by simp [refl, List.getD, h]
    rw [e]; exact wrap64_wf _
  · have e : (refl c i v).getD j 0 = 0 := by simp [refl, List.getD, h]
    rw [e]; decide
/-- new rows and a bool -/
def GotRowsB (w : World) (rows : List (List Int)) (b : Bool) (e : Ending) (w' : World) : Prop :=
  ∃ g cap rs, e = .returned (.tuple #[(Value.slice (some ⟨g, 0, none⟩) rows.length cap), .bool b]) ∧ contents rs = rows ∧ OwnRows w' w.heap.size g cap rs ∧ Below w.heap.size w w'
theorem GotRowsB.mk' {w w' : World} {rows : List (List Int)} {b : Bool} {n : Nat} (g cap : Nat) (rs : List RowRef) (hl : rs.length = n) (hc : contents rs = rows) (ho : OwnRows w' w.heap.size g cap rs) (hb : Below w.heap.size w w') :
    GotRowsB w rows b (.returned (.tuple #[(Value.slice (some ⟨g, 0, none⟩) n cap), .bool b])) w' := by
  subst hl; subst hc
  exact ⟨g, cap, rs, by rw [contents_length], rfl, ho, hb⟩
theorem start_rows (w : World) : OwnRows ((w.alloc (.cells #[] 3)).alloc (.cells #[(Value.slice (some ⟨w.heap.size, 0, none⟩) 0 0)] 25)) w.heap.size (w.heap.size + 1) 1 [(w.heap.size, 0, [])] := by
  have h1 : Own (w.alloc (.cells #[] 3)) w.heap.size w.heap.size 0 [] := Own.empty (w := w) (Nat.le_refl _)
  have h2 : OwnV ((w.alloc (.cells #[] 3)).alloc (.cells #[(Value.slice (some ⟨w.heap.size, 0, none⟩) 0 0)] 25)) w.heap.size 25 (w.heap.size + 1) 1 [(Value.slice (some ⟨w.heap.size, 0, none⟩) 0 0)] := by
    have := OwnV.new (w := w.alloc (.cells #[] 3)) (B := w.heap.size) (E := 25) (Value.slice (some ⟨w.heap.size, 0, none⟩) 0 0) rfl (by simp)
    simpa using this
  exact ⟨h2, ⟨fun r hr => by rw [List.mem_singleton] at hr; subst hr; exact h1.alloc _, by simp⟩⟩
end Go.Proofs.YtdedkfbiookofaaGreatDoor
