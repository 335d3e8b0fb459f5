/- AreIsomorphic, SymmetriesOf of both: contracts. Braid moves by the reference: contract. BraidAt by the program, ApplyBraids of both: contracts. Plain law: the places of braid moves of a word, and the search for a path of braid moves. -/
import Derived.Test.YtnpechcnmchneaaGreatDoorG31
import Derived.Test.YtnpechcnmchneaaGreatDoorG17
import Derived.Test.YtnpechcnmchneaaGreatDoorG19
namespace Go.Proofs.YtnpechcnmchneaaGreatDoor
set_option maxRecDepth 100000
open Go.RowKit

def isoV (a b : List (List Int)) : List Int := ((isoO a b).map intsOf).getD []
theorem sqOf {c : List (List Int)} {n : Nat} (hn : c.length = n) (hC : IsC c) : SqN n c := ⟨hn, fun k hk => by rw [hC.2.2.1 k (by omega)]; exact hn⟩

set_option maxHeartbeats 2000000 in
theorem spec_AreIsomorphic_ok (ga oa na ca gb ob nb cb : Nat) (a b : List (List Int)) (w : World) (hna : a.length = na) (hnb : b.length = nb) (ha : IsC a) (hb : IsC b) (hga : ga < w.heap.size) (hgb : gb < w.heap.size) (hra : Rows2 w ga oa a) (hrb : Rows2 w gb ob b) :
    Calls Tryz.prog 111 #[(Value.slice (some ⟨ga, oa, none⟩) na ca), (Value.slice (some ⟨gb, ob, none⟩) nb cb)] w (GotIntsB w (isoV a b) (isoB a b)) := by
  have hCa := spec_IsCartan ga oa na ca a w hna (by have := ha.2.1; omega) (fun j hj => by have := ha.2.2.1 j hj; have := ha.2.1; omega) hra
  have hCb := fun W (hW : ∃ q, W = w.drewN q) => spec_IsCartan gb ob nb cb b W hnb (by have := hb.2.1; omega) (fun j hj => by have := hb.2.2.1 j hj; have := hb.2.1; omega) (hrb.still hW)
  rw [decide_eq_true ha] at hCa
  rw [decide_eq_true hb] at hCb
  have HCa := Lib.hid hCa; have HCb := Lib.hid hCb
  clear hCa hCb
  by_cases hl : na = nb
  · subst hl
    have hn4 : na ≤ 4 := by have := ha.2.1; omega
    have HO := Lib.hid (fun W => spec_l3Orders_ok na W hn4)
    have Hha := Lib.hid ha
    have Hhb := Lib.hid hb
    have Hna := Lib.hid hna; have Hnb := Lib.hid hnb
    have Hra := Lib.hid hra; have Hrb := Lib.hid hrb
    have hL24 := ords_len (n := na) (i := na) hn4 (Nat.le_refl _)
    have Hmem : Hid (∀ k, k < (ordsN na na).length → ((ordsN na na).getD k []).length = na ∧ ((ordsN na na).getD k []).Nodup ∧ ∀ x ∈ (ordsN na na).getD k [], x < na) := Lib.hid (fun k hk => ordsN_mem (by simp [List.getD, hk]))
    have Hto : Hid (∀ i, i < (ordsN na na).length → ((ordsN na na).take i).find? (agr a b) = none → agr a b ((ordsN na na).getD i []) = true → isoO a b = some ((ordsN na na).getD i [])) := Lib.hid (fun i hi h1 h2 => by
      have := iso_to (a := a) (b := b) (hna.trans hnb.symm) (i := i) (by rw [hna]; exact hi) (by rw [hna]; exact h1) (by rw [hna]; exact h2)
      rwa [hna] at this)
    have Hnone : Hid ((ordsN na na).find? (agr a b) = none → isoO a b = none) := Lib.hid (fun h => by unfold isoO; rw [if_pos (hna.trans hnb.symm), hna]; exact h)
    generalize ordsN na na = L at *
    clear ha hb hna hnb hra hrb
    go_enter Tryz.func111, Tryz.ntmps111
    go_wp2_with fail
    refine HCa.out.mono ?_
    rintro e w1 ⟨rfl, hs1⟩
    have Hcb := Lib.hid (HCb.out _ hs1)
    go_wp2_with fail
    refine Hcb.out.mono ?_
    rintro e w2 ⟨rfl, hs2⟩
    have hb2 := below_still (Below.refl w.heap.size w) (still_trans hs1 hs2)
    have Ho := Lib.hid (HO.out w2)
    clear HCa HCb Hcb hs1 hs2 HO
    go_wp2_with fail
    refine Ho.out.mono ?_
    rintro e w3 ⟨gl, cl, rl, rfl, hcl, hol, hbl⟩
    rw [List.length_map]
    have hb3 := hb2.trans (hbl.mono hb2.size)
    have hol' := hol.mono hb2.size
    have Hcl := Lib.hid hcl
    have Hrl : Hid (rl.length = L.length) := Lib.hid (by rw [← contents_length, hcl, List.length_map])
    clear Ho hol hbl hb2 hcl
    go_wp2_with fail
    go_loopw [7, 8, 9] (fun iv _ _ wr => ∃ i : Nat, i ≤ L.length ∧ iv = .int .i64 i ∧ Hid ((L.take i).find? (agr a b) = none) ∧ Below w3.heap.size w3 wr) (fun iv _ _ _ => L.length - (intOf iv).toNat)
    case atStart => exact ⟨0, Nat.zero_le _, rfl, rfl, Below.refl _ _⟩
    case round =>
      obtain ⟨i, hi, rfl, hf, hb⟩ := hrel
      have hbw := hb3.trans (hb.mono hb3.size)
      by_cases hlt : i < L.length
      · obtain ⟨m1, m2, m3⟩ := Hmem.out i hlt
        have hir : i < rl.length := by rw [Hrl.out]; exact hlt
        have hrow : rl[i].2.2 = intsOf (L.getD i []) := by
          rw [← contents_getD rl i hir, Hcl.out]
          simp [List.getD, hlt]
        have hok := hol'.2.1 _ (List.getElem_mem hir)
        have hcell := hol'.1.cell i (by simpa using hir)
        rw [hrow] at hok
        have hrv : rowVal rl[i] = (Value.slice (some ⟨(rl[i].1), 0, none⟩) na (rl[i].2.1)) := by unfold rowVal; rw [hrow, intsOf_length, m1]
        simp only [List.getElem_map, hrv] at hcell
        have hcap : na ≤ rl[i].2.1 := by have := hok.capLe; rw [intsOf_length, m1] at this; exact this
        generalize rl[i].1 = gk at *
        generalize rl[i].2.1 = ck at *
        have hto := Hto.out i hlt hf.out
        have hfs := fun h => find_step (p := agr a b) (d := []) hlt hf.out h
        have hpa := pick_agr (a := a) (b := b) (o := L.getD i []) (by rw [m1, Hnb.out]) (fun k hk => by exact Hhb.out.2.2.1 k hk)
        generalize L.getD i [] = o at *
        have hokr := hok.below hb hok.lt
        have hcellr := (hb.cell (p := ⟨gl, i, none⟩) hol'.lt).trans hcell
        have hrel := spec_Relabel_ok ga oa na ca gk 0 na ck a o wr Hna.out m1 rfl Hha.out m2 m3 hcap (Nat.lt_of_lt_of_le hga hbw.size) hokr.lt (Hra.out.below hbw hga) hokr.cells
        have Hrel := Lib.hid hrel
        have Hto2 := Lib.hid hto; have Hfs := Lib.hid hfs; have Hpa := Lib.hid hpa; have Hm1 := Lib.hid m1
        have Hok := Lib.hid hok
        have Hcell := Lib.hid hcell
        clear hrow hrv hrel hto hfs hpa hokr hcell m1 m2 m3 hok
        go_wp2_with fail
        refine Hrel.out.mono ?_
        rintro e w5 ⟨g5, c5, rs5, rfl, hc5, ho5, hb5⟩
        have hbw5 := hbw.trans (hb5.mono hbw.size)
        have hb35 := hb.trans (hb5.mono hb.size)
        have hpl : (pickL a (intsOf o)).length = na := by rw [← hc5, contents_length]; have := Hm1.out; have h9 := congrArg List.length hc5; rw [contents_length] at h9; rw [h9]; simp [pickL, intsOf, this]
        have heq := spec_EqualCartans_any g5 0 na c5 gb ob na cb (pickL a (intsOf o)) b w5 hpl Hnb.out (by omega) (fun j hj => by
          have : (pickL a (intsOf o)).getD j [] = o.map fun q => ent a (o.getD j 0) q := pick_getD a o j (by rw [Hm1.out, ← hpl]; exact hj)
          rw [this, List.length_map, Hm1.out]; omega) (fun j hj => by have := Hhb.out.2.2.1 j hj; have := Hnb.out; omega) (by rw [← hc5]; exact ho5.rows2) (Hrb.out.below hbw5 hgb)
        have Heq := Lib.hid heq
        clear Hrel heq hpl hc5 ho5 hb5 hbw hb
        cases hag : agr a b o with
        | true =>
          have hdec : decide (pickL a (intsOf o) = b) = true := decide_eq_true (Hpa.out.2 hag)
          have Hiso := Lib.hid (Hto2.out hag)
          rw [hdec] at Heq
          clear hdec hag
          go_wp2_with fail
          refine Heq.out.mono ?_
          rintro e w6 ⟨rfl, hs6⟩
          have hb36 := below_still hb35 hs6
          have hcell6 := (hb36.cell (p := ⟨gl, i, none⟩) hol'.lt).trans Hcell.out
          have ho6 := (Hok.out.below hb36 Hok.out.lt)
          have hb6 := hb3.trans (hb36.mono hb3.size)
          clear Heq hs6 hb35 hbw5
          go_wp2_with fail
          go_ret2
          have e1 : isoV a b = intsOf o := by unfold isoV; rw [Hiso.out]; rfl
          have e2 : isoB a b = true := by unfold isoB; rw [Hiso.out]; rfl
          rw [e1, e2]
          exact GotIntsB.mk' gk ck (by rw [intsOf_length]; exact Hm1.out) ho6 hb6
        | false =>
          have hdec : decide (pickL a (intsOf o) = b) = false := decide_eq_false (fun h => by rw [Hpa.out.1 h] at hag; cases hag)
          have Hf2 := Lib.hid (Hfs.out hag)
          rw [hdec] at Heq
          clear hdec hag
          go_wp2_with fail
          refine Heq.out.mono ?_
          rintro e w6 ⟨rfl, hs6⟩
          have hb36 := below_still hb35 hs6
          clear Heq hs6 hb35 hbw5
          go_wp2_with fail
          go_roundw
          case rel => exact ⟨i + 1, by omega, by go_num, Hf2, hb36⟩
          case measure => simp [intOf]; omega
      · obtain rfl : i = L.length := by omega
        have hf2 := hf.out
        rw [List.take_length] at hf2
        have Hiso := Lib.hid (Hnone.out hf2)
        clear hf hf2
        go_wp2_with fail
        go_ret2
        have e1 : isoV a b = [] := by unfold isoV; rw [Hiso.out]; rfl
        have e2 : isoB a b = false := by unfold isoB; rw [Hiso.out]; rfl
        rw [e1, e2]
        exact GotIntsB.mk' _ 0 rfl (Own.empty hbw.size) (hbw.alloc hbw.size _)
  · have e0 : isoO a b = none := by unfold isoO; rw [if_neg (by omega)]
    have e1 : isoV a b = [] := by unfold isoV; rw [e0]; rfl
    have e2 : isoB a b = false := by unfold isoB; rw [e0]; rfl
    rw [e1, e2]
    have hne : ((na : Int) != (nb : Int)) = true := by rw [bne_iff_ne]; omega
    clear e0 e1 e2 hl hna hnb
    go_enter Tryz.func111, Tryz.ntmps111
    go_wp2_with fail
    refine HCa.out.mono ?_
    rintro e w1 ⟨rfl, hs1⟩
    have Hcb := Lib.hid (HCb.out _ hs1)
    go_wp2_with fail
    refine Hcb.out.mono ?_
    rintro e w2 ⟨rfl, hs2⟩
    have hb2 := below_still (Below.refl w.heap.size w) (still_trans hs1 hs2)
    clear hs1 hs2
    go_wp2_with fail
    go_ret2
    exact GotIntsB.mk' _ 0 rfl (Own.empty hb2.size) (hb2.alloc hb2.size _)

set_option maxHeartbeats 2000000 in
theorem impl_AreIsomorphic_ok (ga oa na ca gb ob nb cb : Nat) (a b : List (List Int)) (w : World) (hna : a.length = na) (hnb : b.length = nb) (ha : IsC a) (hb : IsC b) (hga : ga < w.heap.size) (hgb : gb < w.heap.size) (hra : Rows2 w ga oa a) (hrb : Rows2 w gb ob b) :
    Calls Tryz.prog 124 #[(Value.slice (some ⟨ga, oa, none⟩) na ca), (Value.slice (some ⟨gb, ob, none⟩) nb cb)] w (GotIntsB w (isoV a b) (isoB a b)) := by
  have hCa := impl_IsCartan ga oa na ca a w hna (by have := ha.2.1; omega) (fun j hj => by have := ha.2.2.1 j hj; have := ha.2.1; omega) hra
  have hCb := fun W (hW : ∃ q, W = w.drewN q) => impl_IsCartan gb ob nb cb b W hnb (by have := hb.2.1; omega) (fun j hj => by have := hb.2.2.1 j hj; have := hb.2.1; omega) (hrb.still hW)
  rw [decide_eq_true ha] at hCa
  rw [decide_eq_true hb] at hCb
  have HCa := Lib.hid hCa; have HCb := Lib.hid hCb
  clear hCa hCb
  by_cases hl : na = nb
  · subst hl
    have hn4 : na ≤ 4 := by have := ha.2.1; omega
    have hn1 : 1 ≤ na := by have := ha.1; omega
    have hT := iso_mt ha hb (hna.trans hnb.symm)
    rw [hnb] at hT
    have HM := Lib.hid (fun W (hW : Below w.heap.size w W) => impl_matches_ok a b na hn1 hn4 (sqOf hna ha) (sqOf hnb hb) na ga oa ca gb ob cb none 0 0 0 [] 1 W (by simp) rfl (by simp) (Nat.le_refl _) (by omega) (Nat.lt_of_lt_of_le hga hW.size) (Nat.lt_of_lt_of_le hgb hW.size) (hra.below hW hga) (hrb.below hW hgb) (.inl ⟨rfl, rfl⟩))
    rw [hT] at HM
    have hm := fun o (h : isoO a b = some o) => (iso_mem h).trans hna
    have Hm := Lib.hid hm
    have e1 : isoV a b = ((isoO a b).map intsOf).getD [] := rfl
    have e2 : isoB a b = (isoO a b).isSome := rfl
    rw [e1, e2]
    clear hT hna hnb ha hb hra hrb hm e1 e2
    generalize isoO a b = R at *
    cases R with
    | none =>
      show Calls _ _ _ _ (GotIntsB w [] false)
      go_enter Tryz.func124, Tryz.ntmps124
      go_wp2_with fail
      refine HCa.out.mono ?_
      rintro e w1 ⟨rfl, hs1⟩
      have Hcb := Lib.hid (HCb.out _ hs1)
      go_wp2_with fail
      refine Hcb.out.mono ?_
      rintro e w2 ⟨rfl, hs2⟩
      have hb2 := below_still (Below.refl w.heap.size w) (still_trans hs1 hs2)
      have Hmm := Lib.hid (HM.out w2 hb2)
      clear hs1 hs2 Hcb HM HCa HCb
      go_wp2_with fail
      refine Hmm.out.mono ?_
      rintro e w3 ⟨g3, c3, r3, rfl, hc3, ho3, hb3⟩
      have hb4 := hb2.trans (hb3.mono hb2.size)
      clear Hmm hc3 ho3 hb3
      go_wp2_with fail
      go_ret2
      exact GotIntsB.mk' _ 0 rfl (Own.empty hb4.size) (hb4.alloc hb4.size _)
    | some o =>
      show Calls _ _ _ _ (GotIntsB w (intsOf o) true)
      have hol := Lib.hid (Hm.out o rfl)
      go_enter Tryz.func124, Tryz.ntmps124
      go_wp2_with fail
      refine HCa.out.mono ?_
      rintro e w1 ⟨rfl, hs1⟩
      have Hcb := Lib.hid (HCb.out _ hs1)
      go_wp2_with fail
      refine Hcb.out.mono ?_
      rintro e w2 ⟨rfl, hs2⟩
      have hb2 := below_still (Below.refl w.heap.size w) (still_trans hs1 hs2)
      have Hmm := Lib.hid (HM.out w2 hb2)
      clear hs1 hs2 Hcb HM HCa HCb
      go_wp2_with fail
      refine Hmm.out.mono ?_
      rintro e w3 ⟨g3, c3, r3, rfl, hc3, ho3, hb3⟩
      have hb4 := hb2.trans (hb3.mono hb2.size)
      have hl3 : r3.length = 1 := by rw [← contents_length, hc3]; rfl
      have hr3 : r3[0].2.2 = intsOf o := by
        rw [← contents_getD r3 0 (by omega), hc3]; rfl
      have hok := ho3.2.1 _ (List.getElem_mem (show 0 < r3.length by omega))
      have hcell := ho3.1.cell 0 (by simp; omega)
      rw [hr3] at hok
      have hrv : rowVal r3[0] = (Value.slice (some ⟨(r3[0].1), 0, none⟩) na (r3[0].2.1)) := by unfold rowVal; rw [hr3, intsOf_length, hol.out]
      simp only [List.getElem_map, hrv] at hcell
      generalize r3[0].1 = gk at *
      generalize r3[0].2.1 = ck at *
      have hok' := hok.mono hb2.size
      have HB4 := Lib.hid hb4; have HOK := Lib.hid hok'
      clear Hmm hc3 ho3 hb3 hl3 hr3 hrv hok hok' hb4 hb2
      go_wp2_with fail
      go_ret2
      exact GotIntsB.mk' gk ck (by rw [intsOf_length]; exact hol.out) HOK.out HB4.out
  · have e0 : isoO a b = none := by unfold isoO; rw [if_neg (by omega)]
    have e1 : isoV a b = [] := by unfold isoV; rw [e0]; rfl
    have e2 : isoB a b = false := by unfold isoB; rw [e0]; rfl
    rw [e1, e2]
    have hne : ((na : Int) != (nb : Int)) = true := by rw [bne_iff_ne]; omega
    clear e0 e1 e2 hl hna hnb
    go_enter Tryz.func124, Tryz.ntmps124
    go_wp2_with fail
    refine HCa.out.mono ?_
    rintro e w1 ⟨rfl, hs1⟩
    have Hcb := Lib.hid (HCb.out _ hs1)
    go_wp2_with fail
    refine Hcb.out.mono ?_
    rintro e w2 ⟨rfl, hs2⟩
    have hb2 := below_still (Below.refl w.heap.size w) (still_trans hs1 hs2)
    clear hs1 hs2
    go_wp2_with fail
    go_ret2
    exact GotIntsB.mk' _ 0 rfl (Own.empty hb2.size) (hb2.alloc hb2.size _)
end Go.Proofs.YtnpechcnmchneaaGreatDoor
namespace Go.Proofs.YtnpechcnmchneaaGreatDoor
set_option maxRecDepth 100000
open Go.RowKit

def braidA (c : List (List Int)) (v : List Int) (a : Int) : Option (List Int) := if isWordB c v = true then braidM c v a else none
theorem braidA_word {c : List (List Int)} {v : List Int} {a : Int} (h : isWordB c v = true) : braidA c v a = braidM c v a := if_pos h
theorem braidA_not {c : List (List Int)} {v : List Int} {a : Int} (h : isWordB c v = false) : braidA c v a = none := if_neg (by rw [h]; decide)
theorem braidK_length {c : List (List Int)} {v y : List Int} {k : Nat} (h : braidK c v k = some y) : y.length = v.length := by
  unfold braidK at h
  dsimp only at h
  split at h
  · rename_i hc
    have e := Option.some.inj h
    rw [← e]
    simp only [List.length_append, List.length_take, List.length_drop, altL_length]
    omega
  · cases h
theorem braidA_length {c : List (List Int)} {v y : List Int} {a : Int} (h : braidA c v a = some y) : y.length = v.length := by
  unfold braidA at h
  split at h
  · unfold braidM at h
    split at h
    · exact braidK_length h
    · cases h
  · cases h

end Go.Proofs.YtnpechcnmchneaaGreatDoor
namespace Go.Proofs.YtnpechcnmchneaaGreatDoor
set_option maxRecDepth 100000
open Go.RowKit

/-- braid moves, one after the other -/
def applyA (c : List (List Int)) : List Int → List Int → Option (List Int)
  | v, [] => some v
  | v, a :: ps => match braidA c v a with
    | none => none
    | some y => applyA c y ps
def applyB (c : List (List Int)) (v ps : List Int) : Option (List Int) := if isWordB c v = true then applyA c v ps else none
theorem applyA_none {c : List (List Int)} {y ps : List Int} {k : Nat} (hk : k < ps.length) (h : braidA c y (ps.getD k 0) = none) : applyA c y (ps.drop k) = none := by
  rw [List.drop_eq_getElem_cons hk]
  have e : ps.getD k 0 = ps[k] := by simp [List.getD, hk]
  rw [e] at h
  simp only [applyA, h]
theorem applyA_some {c : List (List Int)} {y z ps : List Int} {k : Nat} (hk : k < ps.length) (h : braidA c y (ps.getD k 0) = some z) : applyA c y (ps.drop k) = applyA c z (ps.drop (k + 1)) := by
  rw [List.drop_eq_getElem_cons hk]
  have e : ps.getD k 0 = ps[k] := by simp [List.getD, hk]
  rw [e] at h
  simp only [applyA, h]
theorem applyA_end (c : List (List Int)) (y ps : List Int) : applyA c y (ps.drop ps.length) = some y := by rw [List.drop_length]; rfl
theorem applyB_true {c : List (List Int)} {v ps : List Int} (h : isWordB c v = true) : applyB c v ps = applyA c v ps := if_pos h
theorem applyB_false {c : List (List Int)} {v ps : List Int} (h : isWordB c v = false) : applyB c v ps = none := if_neg (by rw [h]; decide)

end Go.Proofs.YtnpechcnmchneaaGreatDoor
namespace Go.Proofs.YtnpechcnmchneaaGreatDoor
set_option maxRecDepth 100000
open Go.RowKit

/-- the places of braid moves ahead of a place -/
def placesTo (c : List (List Int)) (v : List Int) (k : Nat) : List Int := ((List.range k).filter fun t : Nat => (braidA c v (t : Int)).isSome).map fun t : Nat => (t : Int)
def placesL (c : List (List Int)) (v : List Int) : List Int := placesTo c v v.length
theorem placesTo_yes {c : List (List Int)} {v : List Int} {k : Nat} (h : (braidA c v (k : Int)).isSome = true) : placesTo c v (k + 1) = placesTo c v k ++ [(k : Int)] := by
  unfold placesTo
  rw [List.range_succ, List.filter_append, List.map_append]
  simp [h]
theorem placesTo_no {c : List (List Int)} {v : List Int} {k : Nat} (h : (braidA c v (k : Int)).isSome = false) : placesTo c v (k + 1) = placesTo c v k := by
  unfold placesTo
  rw [List.range_succ, List.filter_append, List.map_append]
  simp [h]
theorem placesTo_len (c : List (List Int)) (v : List Int) (k : Nat) : (placesTo c v k).length ≤ k := by
  unfold placesTo
  rw [List.length_map]
  exact Nat.le_trans (List.length_filter_le _ _) (by simp)
theorem placesL_mem {c : List (List Int)} {v : List Int} {x : Int} (h : x ∈ placesL c v) : (0 ≤ x ∧ x < (v.length : Int)) ∧ (braidA c v x).isSome = true := by
  unfold placesL placesTo at h
  obtain ⟨t, ht, rfl⟩ := List.mem_map.1 h
  obtain ⟨h1, h2⟩ := List.mem_filter.1 ht
  have := List.mem_range.1 h1
  exact ⟨⟨by omega, by omega⟩, h2⟩

theorem altL_mem {i j x : Int} {n : Nat} (h : x ∈ altL i j n) : x = i ∨ x = j := by
  unfold altL at h
  obtain ⟨k, -, rfl⟩ := List.mem_map.1 h
  split
  · exact .inl rfl
  · exact .inr rfl
theorem braidK_mem {c : List (List Int)} {v y : List Int} {k : Nat} (h : braidK c v k = some y) : ∀ x ∈ y, x ∈ v := by
  unfold braidK at h
  simp only at h
  split at h
  · rename_i hc
    injection h with h
    subst h
    have e1 : v.getD k 0 ∈ v := by simp [List.getD, show k < v.length by omega]
    have e2 : v.getD (k + 1) 0 ∈ v := by simp [List.getD, hc.1]
    intro x hx
    rcases List.mem_append.1 hx with g | g
    · rcases List.mem_append.1 g with g | g
      · exact List.mem_of_mem_take g
      · rcases altL_mem g with g | g
        · rw [g]; exact e2
        · rw [g]; exact e1
    · exact List.mem_of_mem_drop g
  · cases h
theorem braidA_mem {c : List (List Int)} {v y : List Int} {a : Int} (h : braidA c v a = some y) : ∀ x ∈ y, x ∈ v := by
  unfold braidA at h
  split at h
  · unfold braidM at h
    split at h
    · exact braidK_mem h
    · cases h
  · cases h
theorem braidA_ok {c : List (List Int)} {v y : List Int} {a : Int} (hW : WordOk c v) (h : braidA c v a = some y) : WordOk c y := by
  have h1 := braidA_length h
  have h2 := braidA_mem h
  refine ⟨hW.isC, by have := hW.few; omega, fun k hk => ?_⟩
  have hm : y.getD k 0 ∈ v := h2 _ (by simp [List.getD, hk])
  obtain ⟨t, ht, e⟩ := List.mem_iff_getElem.1 hm
  have := hW.inr t ht
  rw [← e]
  simpa [List.getD, ht] using this

/-! ### the search -/
abbrev BNode := List Int × List Int
def wordsB (Q : List BNode) : List (List Int) := Q.map (·.1)
def pathsB (Q : List BNode) : List (List Int) := Q.map (·.2)
def bpStep (c : List (List Int)) (N : BNode) (Q : List BNode) (a : Int) : List BNode :=
  if (braidA c N.1 a).getD N.1 ∈ wordsB Q ∨ 120 ≤ Q.length then Q else Q ++ [((braidA c N.1 a).getD N.1, N.2 ++ [a])]
def bpRow (c : List (List Int)) (N : BNode) (Q : List BNode) (t : Nat) : List BNode := ((placesL c N.1).take t).foldl (bpStep c N) Q
def bpGo (c : List (List Int)) (b : List Int) : Nat → Nat → List BNode → Option (List Int)
  | 0, _, _ => none
  | f + 1, k, Q => if k < Q.length then (if (Q.getD k ([], [])).1 = b then some (Q.getD k ([], [])).2 else bpGo c b f (k + 1) (bpRow c (Q.getD k ([], [])) Q (placesL c (Q.getD k ([], [])).1).length)) else none
def bpR (c : List (List Int)) (a b : List Int) : Option (List Int) := bpGo c b 121 0 [(a, [])]
theorem bpRow_zero (c : List (List Int)) (N : BNode) (Q : List BNode) : bpRow c N Q 0 = Q := rfl
theorem bpRow_succ {c : List (List Int)} {N : BNode} {Q : List BNode} {t : Nat} (ht : t < (placesL c N.1).length) : bpRow c N Q (t + 1) = bpStep c N (bpRow c N Q t) ((placesL c N.1).getD t 0) := by
  unfold bpRow
  rw [List.take_succ_eq_append_getElem ht, List.foldl_append]
  have e : (placesL c N.1).getD t 0 = (placesL c N.1)[t] := by simp [List.getD, ht]
  rw [e]
  rfl
/-- what the list of the search is -/
structure BpOk (c : List (List Int)) (l : Nat) (Q : List BNode) : Prop where
  few : Q.length ≤ 120
  word : ∀ N ∈ Q, WordOk c N.1 ∧ N.1.length = l
  path : ∀ k, k < Q.length → (Q.getD k ([], [])).2.length ≤ k
  places : ∀ N ∈ Q, ∀ x ∈ N.2, 0 ≤ x ∧ x < 16
theorem getD_memI {l : List Int} {t : Nat} (h : t < l.length) : l.getD t 0 ∈ l := by simp [List.getD, h]
theorem getD_mem {Q : List BNode} {k : Nat} (hk : k < Q.length) : Q.getD k ([], []) ∈ Q := by simp [List.getD, hk]
theorem bpStep_cases (c : List (List Int)) (N : BNode) (Q : List BNode) (a : Int) : (bpStep c N Q a = Q ∧ ((braidA c N.1 a).getD N.1 ∈ wordsB Q ∨ 120 ≤ Q.length)) ∨ (bpStep c N Q a = Q ++ [((braidA c N.1 a).getD N.1, N.2 ++ [a])] ∧ (braidA c N.1 a).getD N.1 ∉ wordsB Q ∧ Q.length < 120) := by
  unfold bpStep
  split
  · exact .inl ⟨rfl, by assumption⟩
  · rename_i h
    exact .inr ⟨rfl, fun g => h (.inl g), by have : ¬ 120 ≤ Q.length := fun g => h (.inr g); omega⟩
theorem BpOk.step {c : List (List Int)} {l : Nat} {Q : List BNode} (h : BpOk c l Q) {k : Nat} (hk : k < Q.length) {a : Int} (ha : a ∈ placesL c (Q.getD k ([], [])).1) : BpOk c l (bpStep c (Q.getD k ([], [])) Q a) := by
  have hN := h.word _ (getD_mem hk)
  have hP := h.path k hk
  have hPl := h.places _ (getD_mem hk)
  obtain ⟨ha1, ha2⟩ := placesL_mem ha
  rcases bpStep_cases c (Q.getD k ([], [])) Q a with ⟨e, -⟩ | ⟨e, h1, h2⟩
  · rw [e]; exact h
  · rw [e]
    obtain ⟨y, hy⟩ := Option.isSome_iff_exists.1 ha2
    rw [hy]
    refine ⟨by simp; omega, fun N hm => ?_, fun t ht => ?_, fun N hm => ?_⟩
    · rcases List.mem_append.1 hm with g | g
      · exact h.word N g
      · rw [List.mem_singleton] at g
        subst g
        exact ⟨braidA_ok hN.1 hy, by rw [← hN.2]; exact braidA_length hy⟩
    · by_cases e : t < Q.length
      · have := h.path t e
        simpa [List.getD, List.getElem?_append_left e] using this
      · have : t = Q.length := by simp at ht; omega
        subst this
        simp [List.getD] at hP ⊢
        omega
    · rcases List.mem_append.1 hm with g | g
      · exact h.places N g
      · rw [List.mem_singleton] at g
        subst g
        intro x hx
        rcases List.mem_append.1 hx with g | g
        · exact hPl x g
        · rw [List.mem_singleton] at g
          subst g
          have := hN.1.few
          omega
theorem bpStep_pre (c : List (List Int)) (N : BNode) (Q : List BNode) (a : Int) : ∃ L, bpStep c N Q a = Q ++ L := by
  rcases bpStep_cases c N Q a with ⟨e, -⟩ | ⟨e, -⟩
  · exact ⟨[], by rw [e]; simp⟩
  · exact ⟨_, e⟩
theorem getD_pre {Q L : List BNode} {k : Nat} (hk : k < Q.length) : (Q ++ L).getD k ([], []) = Q.getD k ([], []) := by
  simp [List.getD, List.getElem?_append_left hk]
/-- along a row of places -/
theorem BpOk.row {c : List (List Int)} {l : Nat} {Q : List BNode} (h : BpOk c l Q) {k : Nat} (hk : k < Q.length) : ∀ t, t ≤ (placesL c (Q.getD k ([], [])).1).length → BpOk c l (bpRow c (Q.getD k ([], [])) Q t) ∧ k < (bpRow c (Q.getD k ([], [])) Q t).length ∧ (bpRow c (Q.getD k ([], [])) Q t).getD k ([], []) = Q.getD k ([], [])
  | 0, _ => ⟨h, hk, rfl⟩
  | t + 1, ht => by
    obtain ⟨h1, h2, h3⟩ := h.row hk t (by omega)
    rw [bpRow_succ (by omega)]
    have hm : (placesL c (Q.getD k ([], [])).1).getD t 0 ∈ placesL c (Q.getD k ([], [])).1 := getD_memI (by omega)
    have h4 := h1.step h2 (a := (placesL c (Q.getD k ([], [])).1).getD t 0) (by rw [h3]; exact hm)
    rw [h3] at h4
    obtain ⟨L, hL⟩ := bpStep_pre c (Q.getD k ([], [])) (bpRow c (Q.getD k ([], [])) Q t) ((placesL c (Q.getD k ([], [])).1).getD t 0)
    refine ⟨h4, ?_, ?_⟩
    · rw [hL, List.length_append]; omega
    · rw [hL, getD_pre h2, h3]
theorem BpOk.start {c : List (List Int)} {a : List Int} (h : WordOk c a) : BpOk c a.length [(a, [])] :=
  ⟨by simp, fun N hm => by rw [List.mem_singleton] at hm; subst hm; exact ⟨h, rfl⟩, fun k hk => by simp at hk; subst hk; simp [List.getD], fun N hm => by rw [List.mem_singleton] at hm; subst hm; simp⟩
theorem bpGo_found {c : List (List Int)} {b : List Int} {f k : Nat} {Q : List BNode} (hk : k < Q.length) (h : (Q.getD k ([], [])).1 = b) : bpGo c b (f + 1) k Q = some (Q.getD k ([], [])).2 := by
  unfold bpGo; rw [if_pos hk, if_pos h]
theorem bpGo_next {c : List (List Int)} {b : List Int} {f k : Nat} {Q : List BNode} (hk : k < Q.length) (h : (Q.getD k ([], [])).1 ≠ b) : bpGo c b (f + 1) k Q = bpGo c b f (k + 1) (bpRow c (Q.getD k ([], [])) Q (placesL c (Q.getD k ([], [])).1).length) := by
  rw [bpGo, if_pos hk, if_neg h]
theorem bpGo_done {c : List (List Int)} {b : List Int} {f k : Nat} {Q : List BNode} (hk : Q.length ≤ k) : bpGo c b f k Q = none := by
  cases f with
  | zero => rfl
  | succ f => rw [bpGo, if_neg (by omega)]
theorem bpGo_len {c : List (List Int)} {b : List Int} {l : Nat} : ∀ (f k : Nat) (Q : List BNode) (p : List Int), BpOk c l Q → bpGo c b f k Q = some p → p.length ≤ 120 ∧ ∀ x ∈ p, 0 ≤ x ∧ x < 16
  | 0, _, _, _, _, h => by cases h
  | f + 1, k, Q, p, hok, h => by
    by_cases hk : k < Q.length
    · by_cases e : (Q.getD k ([], [])).1 = b
      · rw [bpGo_found hk e] at h
        injection h with h
        subst h
        have := hok.path k hk
        have := hok.few
        exact ⟨by omega, hok.places _ (getD_mem hk)⟩
      · rw [bpGo_next hk e] at h
        exact bpGo_len f (k + 1) _ p (hok.row hk _ (Nat.le_refl _)).1 h
    · rw [bpGo_done (by omega)] at h
      cases h

end Go.Proofs.YtnpechcnmchneaaGreatDoor
