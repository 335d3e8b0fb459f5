/- SymmetriesOf of both: contracts. CoversAll of both, at words: contracts. GroupLine: the line (plain), and what the reference does. -/
import Derived.Test.YtnpechcnmchneaaGreatDoorG32
import Derived.Test.YtnpechcnmchneaaGreatDoorG22
import Derived.Test.YtnpechcnmchneaaGreatDoorG24
import Derived.Test.YtnpechcnmchneaaGreatDoorG47
import Derived.Test.YtnpechcnmchneaaGreatDoorG36
import Derived.Test.YtnpechcnmchneaaGreatDoorG38
namespace Go.Proofs.YtnpechcnmchneaaGreatDoor
set_option maxRecDepth 100000
open Go.RowKit

/-- all orders in which a matrix is itself -/
def symO (c : List (List Int)) : List (List Nat) := (ordsN c.length c.length).filter (agr c c)
theorem sym_mt {c : List (List Int)} (hC : IsC c) : (mtF c c c.length []).take 24 = symO c := by
  have h := mtF_orders c c rfl (fun i j hi hj => by rw [dg hC hi, dg hC hj])
  rw [h]
  refine List.take_of_length_le (Nat.le_trans (List.length_filter_le _ _) ?_)
  exact ords24 hC.2.1
theorem filt_step {α : Type} (p : α → Bool) (l : List α) (i : Nat) (d : α) (hi : i < l.length) : (l.take (i + 1)).filter p = (l.take i).filter p ++ (if p (l.getD i d) = true then [l.getD i d] else []) := by
  have e : l.take (i + 1) = l.take i ++ [l[i]] := List.take_succ_eq_append_getElem hi
  have e2 : l.getD i d = l[i] := by simp [List.getD, hi]
  rw [e, e2, List.filter_append]
  congr 1
  cases h : p l[i] <;> simp [h]

set_option maxHeartbeats 2000000 in
theorem impl_SymmetriesOf_ok (ga oa na ca : Nat) (a : List (List Int)) (w : World) (hna : a.length = na) (ha : IsC a) (hga : ga < w.heap.size) (hra : Rows2 w ga oa a) :
    Calls Tryz.prog 38 #[(Value.slice (some ⟨ga, oa, none⟩) na ca)] w (GotRows w ((symO a).map intsOf)) := by
  have hCa := impl_IsCartan ga oa na ca a w hna (by have := ha.2.1; omega) (fun j hj => by have := ha.2.2.1 j hj; have := ha.2.1; omega) hra
  rw [decide_eq_true ha] at hCa
  have HCa := Lib.hid hCa
  clear hCa
  have hn4 : na ≤ 4 := by have := ha.2.1; omega
  have hn1 : 1 ≤ na := by have := ha.1; omega
  have hT := sym_mt ha
  rw [hna] at hT
  have HM := Lib.hid (fun W (hW : Below w.heap.size w W) => impl_matches_ok a a na hn1 hn4 (sqOf hna ha) (sqOf hna ha) na ga oa ca ga oa ca none 0 0 0 [] 24 W (by simp) rfl (by simp) (by omega) (by omega) (Nat.lt_of_lt_of_le hga hW.size) (Nat.lt_of_lt_of_le hga hW.size) (hra.below hW hga) (hra.below hW hga) (.inl ⟨rfl, rfl⟩))
  rw [hT] at HM
  clear hT hna ha hra
  generalize (symO a).map intsOf = R at *
  go_enter Tryz.func38, Tryz.ntmps38
  go_wp2_with fail
  refine HCa.out.mono ?_
  rintro e w1 ⟨rfl, hs1⟩
  have hb2 := below_still (Below.refl w.heap.size w) hs1
  have Hmm := Lib.hid (HM.out w1 hb2)
  clear hs1 HM HCa
  go_wp2_with fail
  refine Hmm.out.mono ?_
  rintro e w3 ⟨g3, c3, r3, rfl, hc3, ho3, hb3⟩
  have HC3 := Lib.hid hc3
  have hb4 := hb2.trans (hb3.mono hb2.size)
  have ho4 := ho3.mono hb2.size
  clear Hmm hc3 ho3 hb3
  go_wp2_with fail
  go_ret
  exact ⟨g3, c3, r3, rfl, HC3.out, ho4, hb4⟩

set_option maxHeartbeats 2000000 in
theorem spec_SymmetriesOf_ok (ga oa na ca : Nat) (a : List (List Int)) (w : World) (hna : a.length = na) (ha : IsC a) (hga : ga < w.heap.size) (hra : Rows2 w ga oa a) :
    Calls Tryz.prog 26 #[(Value.slice (some ⟨ga, oa, none⟩) na ca)] w (GotRows w ((symO a).map intsOf)) := by
  have hb0 : Below w.heap.size w (w.alloc (.cells #[] 28)) := (Below.refl _ _).alloc (Nat.le_refl _) _
  have hCa := spec_IsCartan ga oa na ca a _ hna (by have := ha.2.1; omega) (fun j hj => by have := ha.2.2.1 j hj; have := ha.2.1; omega) (hra.below hb0 hga)
  rw [decide_eq_true ha] at hCa
  have HCa := Lib.hid hCa
  have hn4 : na ≤ 4 := by have := ha.2.1; omega
  have HO := Lib.hid (fun W => spec_l3Orders_ok na W hn4)
  have Hha := Lib.hid ha
  have Hna := Lib.hid hna
  have Hra := Lib.hid hra
  have HE0 := Lib.hid (OwnRows.empty (w := w) (B := w.heap.size) (Nat.le_refl _))
  have hL24 := ords_len (n := na) (i := na) hn4 (Nat.le_refl _)
  have Hmem : Hid (∀ k, k < (ordsN na na).length → ((ordsN na na).getD k []).length = na ∧ ((ordsN na na).getD k []).Nodup ∧ ∀ x ∈ (ordsN na na).getD k [], x < na) := Lib.hid (fun k hk => ordsN_mem (by simp [List.getD, hk]))
  have Hsym : Hid (symO a = (ordsN na na).filter (agr a a)) := Lib.hid (by unfold symO; rw [hna])
  rw [Hsym.out]
  generalize ordsN na na = L at *
  clear ha hna hra hCa
  go_enter Tryz.func26, Tryz.ntmps26
  go_wp2_with fail
  refine HCa.out.mono ?_
  rintro e w1 ⟨rfl, hs1⟩
  have hb2 := below_still hb0 hs1
  have hE2 := HE0.out.still hs1
  have Ho := Lib.hid (HO.out w1)
  clear HCa hs1 HO hb0 HE0
  go_wp2_with fail
  refine Ho.out.mono ?_
  rintro e w3 ⟨gl, cl, rl, rfl, hcl, hol, hbl⟩
  rw [List.length_map]
  have hb3 := hb2.trans (hbl.mono hb2.size)
  have hE3 := hE2.below hbl
  have hol' := hol.mono hb2.size
  have hbase := hol.base
  have hrbase : Hid (∀ r ∈ rl, w1.heap.size ≤ r.1) := Lib.hid (fun r hr => (hol.2.1 r hr).base)
  have Hrlt : Hid (∀ r ∈ rl, r.1 < w3.heap.size) := Lib.hid (fun r hr => (hol.2.1 r hr).lt)
  have hgl3 := hol.lt
  have hw1 : w.heap.size < w1.heap.size := by have := hE2.lt; omega
  have Hcl := Lib.hid hcl
  have Hrl : Hid (rl.length = L.length) := Lib.hid (by rw [← contents_length, hcl, List.length_map])
  clear Ho hol hbl hb2 hcl hE2
  go_wp2_with fail
  go_loopw [3, 5, 6, 7] (fun ov iv _ _ wr => ∃ (i p gO cO : Nat) (rs : List RowRef), i ≤ L.length ∧ p ≤ i ∧ iv = .int .i64 i ∧ ov = (Value.slice (some ⟨gO, 0, none⟩) p cO) ∧ Hid (rs.length = p) ∧ Hid (contents rs = ((L.take i).filter (agr a a)).map intsOf) ∧ Hid (∀ r ∈ rs, r ∈ rl.take i) ∧ OwnRows wr w.heap.size gO cO rs ∧ (gO = w.heap.size ∨ w3.heap.size ≤ gO) ∧ OwnRows wr w.heap.size gl cl rl ∧ w3.heap.size ≤ wr.heap.size ∧ Below w.heap.size w wr) (fun _ iv _ _ _ => L.length - (intOf iv).toNat)
  case atStart => exact ⟨0, 0, w.heap.size, 0, [], Nat.zero_le _, Nat.le_refl _, rfl, rfl, rfl, rfl, Lib.hid (by simp), hE3, .inl rfl, hol', Nat.le_refl _, hb3⟩
  case round =>
    clear hol' hb3 hE3
    obtain ⟨i, p, gO, cO, rs, hi, hpi, rfl, rfl, hp, hcont, hsub, ho, hgO, hol, hsz, hbw⟩ := hrel
    by_cases hlt : i < L.length
    · obtain ⟨m1, m2, m3⟩ := Hmem.out i hlt
      have hir : i < rl.length := by rw [Hrl.out]; exact hlt
      have hrow : rl[i].2.2 = intsOf (L.getD i []) := by
        rw [← contents_getD rl i hir, Hcl.out]
        simp [List.getD, hlt]
      have hok := hol.2.1 _ (List.getElem_mem hir)
      have hcell := hol.1.cell i (by simpa using hir)
      have hfil := filt_step (agr a a) L i [] hlt
      have hne : ∀ s ∈ rs, s.1 ≠ rl[i].1 := fun s hs e => by
        obtain ⟨t, ht, e2⟩ := List.mem_iff_getElem.1 (hsub.out s hs)
        rw [List.length_take] at ht
        rw [List.getElem_take] at e2
        have ht' : t < rl.length := by omega
        have h3 : (rl.map (·.1))[t]'(by simpa using ht') = (rl.map (·.1))[i]'(by simpa using hir) := by simpa [e2] using e
        have := (List.getElem_inj hol.2.2).1 h3
        omega
      have hsub2 : ∀ r ∈ rs ++ [rl[i]], r ∈ rl.take (i + 1) := fun r hr => by
        have et : rl.take (i + 1) = rl.take i ++ [rl[i]] := List.take_succ_eq_append_getElem hir
        rw [et]
        rcases List.mem_append.1 hr with h | h
        · exact List.mem_append_left _ (hsub.out r h)
        · exact List.mem_append_right _ h
      have hsub3 : ∀ r ∈ rs, r ∈ rl.take (i + 1) := fun r hr => hsub2 r (List.mem_append_left _ hr)
      have hgne : ∀ r ∈ rl, r.1 ≠ gO := fun r hr e => by
        have h1 := hrbase.out r hr
        have h2 := Hrlt.out r hr
        rcases hgO with h | h <;> omega
      have hglO : gl ≠ gO := by
        rcases hgO with h | h <;> omega
      rw [hrow] at hok
      have hcap : na ≤ rl[i].2.1 := by have := hok.capLe; rw [intsOf_length, m1] at this; exact this
      have hrv : rowVal rl[i] = (Value.slice (some ⟨(rl[i].1), 0, none⟩) na (rl[i].2.1)) := by unfold rowVal; rw [hrow, intsOf_length, m1]
      simp only [List.getElem_map, hrv] at hcell
      have hok2 : Own wr w.heap.size rl[i].1 rl[i].2.1 rl[i].2.2 := by rw [hrow]; exact hok
      have hrow' : (rl[i].1, rl[i].2.1, rl[i].2.2) = rl[i] := rfl
      have Hrow := Lib.hid hrow
      generalize hR : rl[i] = R at *
      obtain ⟨gk, ck, xk⟩ := R
      have Hsub2 := Lib.hid hsub2; have Hsub3 := Lib.hid hsub3; have Hne := Lib.hid hne; have Hgne := Lib.hid hgne
      have hpa := pick_agr (a := a) (b := a) (o := L.getD i []) (by rw [m1, Hna.out]) (fun k hk => by exact Hha.out.2.2.1 k hk)
      generalize L.getD i [] = o at *
      have hcap' : na ≤ ck := hcap
      have hokI : Own wr w.heap.size gk ck (intsOf o) := hok
      have hcell' : wr.cell? ⟨gl, i, none⟩ = some (Value.slice (some ⟨gk, 0, none⟩) na ck) := hcell
      have hrel := spec_Relabel_ok ga oa na ca gk 0 na ck a o wr Hna.out m1 rfl Hha.out m2 m3 hcap' (Nat.lt_of_lt_of_le hga hbw.size) hokI.lt (Hra.out.below hbw hga) hokI.cells
      have Hrel := Lib.hid hrel
      have Hpa := Lib.hid hpa; have Hm1 := Lib.hid m1; have Hfil := Lib.hid hfil
      have HokI := Lib.hid hokI
      have Hrow2 : Hid (xk = intsOf o) := Hrow
      clear hrow hrow' hrv hrel hpa hcell m1 m2 m3 hok hok2 hokI hne hsub2 hsub3 hgne hcap hfil Hrow hR hir hsub
      go_wp2_with fail
      refine Hrel.out.mono ?_
      rintro e w5 ⟨g5, c5, rs5, rfl, hc5, ho5, hb5⟩
      have hbw5 := hbw.trans (hb5.mono hbw.size)
      have hpl : (pickL a (intsOf o)).length = na := by have h9 : (pickL a (intsOf o)).length = o.length := by simp [pickL, intsOf]
                                                        rw [h9]; exact Hm1.out
      have heq := spec_EqualCartans_any g5 0 na c5 ga oa na ca (pickL a (intsOf o)) a w5 hpl Hna.out (by omega) (fun j hj => by
        have : (pickL a (intsOf o)).getD j [] = o.map fun q => ent a (o.getD j 0) q := pick_getD a o j (by rw [Hm1.out, ← hpl]; exact hj)
        rw [this, List.length_map, Hm1.out]; omega) (fun j hj => by have := Hha.out.2.2.1 j hj; have := Hna.out; omega) (by rw [← hc5]; exact ho5.rows2) (Hra.out.below hbw5 hga)
      have Heq := Lib.hid heq
      have ho6 := ho.below hb5
      have hsz5 := Nat.le_trans hsz hb5.size
      have hol6 := hol.below hb5
      have hcell6 := (hb5.cell (p := ⟨gl, i, none⟩) hol.lt).trans hcell'
      have hok6 := HokI.out.below hb5 HokI.out.lt
      clear Hrel heq hpl hc5 ho5 hb5 hbw hcell' ho hol HokI
      cases hag : agr a a o with
      | true =>
        have hdec : decide (pickL a (intsOf o) = a) = true := decide_eq_true (Hpa.out.2 hag)
        rw [hdec] at Heq
        have Hf2 : Hid ((L.take (i + 1)).filter (agr a a) = (L.take i).filter (agr a a) ++ [o]) := Lib.hid (by rw [Hfil.out, hag]; rfl)
        clear hdec hag
        go_wp2_with fail
        refine Heq.out.mono ?_
        rintro e w6 ⟨rfl, hs6⟩
        have hbw6 := below_still hbw5 hs6
        have hsz6 : w3.heap.size ≤ w6.heap.size := by obtain ⟨q, rfl⟩ := hs6; exact hsz5
        have ho7 := ho6.still hs6
        have hol7 := hol6.still hs6
        have hcell7 := (cell_still hs6 _).trans hcell6
        have hok7 : Own w6 w.heap.size gk ck xk := by rw [Hrow2.out]; exact hok6.still hs6
        have hl7 : Hid (xk.length = na) := Lib.hid (by rw [Hrow2.out, intsOf_length]; exact Hm1.out)
        clear Heq hs6 hbw5 ho6 hol6 hcell6 hok6
        go_wp2_with (at_builtin; refine wpList_append_row (w := w6) rfl _ _ rfl w.heap.size gO cO p w6.heap.size rs (gk, ck, xk) _ hp.out (by unfold rowVal; rw [hl7.out]) rfl ho7 hok7 Hne.out rfl rfl (by omega) ?_)
        intro g8 c8 w8 ho8 hg8 hor8
        have hbw8 := hbw6.grown hg8 hbw6.size (by intro t ht; cases ht; exact ho7.base)
        have hsz8 := Nat.le_trans hsz6 hg8.size
        have hol8 := hol7.grownK2 hg8 hglO Hgne.out
        have hgO8 : g8 = w.heap.size ∨ w3.heap.size ≤ g8 := by
          rcases hor8 with h | h
          · rw [h]; exact hgO
          · right; omega
        have hcont8 : Hid (contents (rs ++ [(gk, ck, xk)]) = ((L.take (i + 1)).filter (agr a a)).map intsOf) := Lib.hid (by
          rw [Hf2.out, List.map_append, ← hcont.out]
          simp [contents, Hrow2.out])
        clear ho7 hol7 hg8 hor8 hbw6 hok7 hcell7
        go_wp2_with fail
        go_roundw
        case rel => exact ⟨i + 1, p + 1, g8, c8, _, by omega, by omega, by go_num, rfl, by show _ = _; rw [List.length_append, hp.out]; rfl, hcont8, Hsub2, ho8, hgO8, hol8, hsz8, hbw8⟩
        case measure => simp [intOf]; omega
      | false =>
        have hdec : decide (pickL a (intsOf o) = a) = false := decide_eq_false (fun h => by rw [Hpa.out.1 h] at hag; cases hag)
        have Hf2 : Hid ((L.take (i + 1)).filter (agr a a) = (L.take i).filter (agr a a)) := Lib.hid (by rw [Hfil.out, hag]; simp)
        rw [hdec] at Heq
        clear hdec hag
        go_wp2_with fail
        refine Heq.out.mono ?_
        rintro e w6 ⟨rfl, hs6⟩
        have hbw6 := below_still hbw5 hs6
        have hsz6 : w3.heap.size ≤ w6.heap.size := by obtain ⟨q, rfl⟩ := hs6; exact hsz5
        have ho7 := ho6.still hs6
        have hol7 := hol6.still hs6
        clear Heq hs6 hbw5 ho6 hol6 hcell6 hok6
        go_wp2_with fail
        go_roundw
        case rel => exact ⟨i + 1, p, gO, cO, rs, by omega, by omega, by go_num, rfl, hp, by rw [Hf2.out]; exact hcont, Hsub3, ho7, hgO, hol7, hsz6, hbw6⟩
        case measure => simp [intOf]; omega
    · obtain rfl : i = L.length := by omega
      have hcc := hcont.out
      rw [List.take_length] at hcc
      have Hcc := Lib.hid hcc
      clear hcont hcc
      go_wp2_with fail
      go_ret
      exact GotRows.mk' gO cO rs hp.out Hcc.out ho hbw
end Go.Proofs.YtnpechcnmchneaaGreatDoor
namespace Go.Proofs.YtnpechcnmchneaaGreatDoor
set_option maxRecDepth 100000
open Go.RowKit Game

def longN (c : List (List Int)) : List Int := (normG c 30 (negL c.length)).getD []
def coversB (c : List (List Int)) (v : List Int) : Bool := finB c && decide (starL c v = longN c)
theorem longN_ok {c : List (List Int)} (hC : IsC c) (hf : finB c = true) : normG c 30 (negL c.length) = some (longN c) ∧ (longN c).length ≤ 24 := by
  obtain ⟨long, opp, hL, h24⟩ := longOf_fin24 hC hf
  have e : longN c = long := by unfold longN; rw [hL.norm]; rfl
  rw [e]
  exact ⟨hL.norm, h24⟩

theorem spec_LongestElement_inf (gc oc n cc : Nat) (w : World) (hf : Calls Tryz.prog 18 #[(Value.slice (some ⟨gc, oc, none⟩) n cc)] w (Gives w (.bool false))) :
    Calls Tryz.prog 19 #[(Value.slice (some ⟨gc, oc, none⟩) n cc)] w (GotIntsB w [] false) := by
  have Hf := Lib.hid hf
  clear hf
  go_enter Tryz.func19, Tryz.ntmps19
  go_wp2_with fail
  refine Hf.out.mono ?_
  rintro e w1 ⟨rfl, hb1⟩
  go_wp2_with fail
  go_ret2
  exact ⟨_, 0, rfl, Own.empty hb1.size, hb1.alloc hb1.size _⟩

end Go.Proofs.YtnpechcnmchneaaGreatDoor
namespace Go.Proofs.YtnpechcnmchneaaGreatDoor
set_option maxRecDepth 100000
open Go.RowKit Game
open Go.Lib (join itoa)

def growL (c : List (List Int)) : List UInt8 := if finB c = true then [102, 105, 110, 105, 116, 101] else if (partsL c).any (badP c) = true then [101, 120, 112, 111, 110, 101, 110, 116, 105, 97, 108] else [112, 111, 108, 121, 110, 111, 109, 105, 97, 108]
theorem growS_L {c : List (List Int)} (hC : IsC c) : growS c = ⟨(growL c).toArray⟩ := by
  unfold growS growL
  rw [if_pos hC]
  split
  · rfl
  · split <;> rfl
theorem growL_len (c : List (List Int)) : (growL c).length ≤ 11 := by
  unfold growL
  split
  · decide
  · split <;> decide
def glF (N G S L X D Y : List UInt8) : List (List UInt8) := [N, G, [115, 105, 122, 101], S, [108, 111, 110, 103, 101, 115, 116], L, [99, 111, 120, 101, 116, 101, 114], X, [100, 101, 116, 101, 114, 109, 105, 110, 97, 110, 116], D, [115, 121, 109, 109, 101, 116, 114, 105, 101, 115], Y]
def glI (N G W D Y : List UInt8) : List (List UInt8) := [N, G, [119, 105, 116, 110, 101, 115, 115], W, [100, 101, 116, 101, 114, 109, 105, 110, 97, 110, 116], D, [115, 121, 109, 109, 101, 116, 114, 105, 101, 115], Y]
def groupL (c : List (List Int)) : List UInt8 :=
  if IsC c then (if finB c = true then join (glF (join (nameL c) [120]) (growL c) (itoa (szO c)) (itoa ((longN c).length : Int)) (itoa (coxN c : Int)) (itoa (det c.length c)) (itoa ((symO c).length : Int))) [32]
    else join (glI (join (nameL c) [120]) (growL c) (weightL (witness c)) (itoa (det c.length c)) (itoa ((symO c).length : Int))) [32]) else []
def glFS (N G S L X D Y : List UInt8) : List UInt8 := N ++ [32] ++ G ++ [32, 115, 105, 122, 101, 32] ++ S ++ [32, 108, 111, 110, 103, 101, 115, 116, 32] ++ L ++ [32, 99, 111, 120, 101, 116, 101, 114, 32] ++ X ++ [32, 100, 101, 116, 101, 114, 109, 105, 110, 97, 110, 116, 32] ++ D ++ [32, 115, 121, 109, 109, 101, 116, 114, 105, 101, 115, 32] ++ Y
def glIS (N G W D Y : List UInt8) : List UInt8 := N ++ [32] ++ G ++ [32, 119, 105, 116, 110, 101, 115, 115, 32] ++ W ++ [32, 100, 101, 116, 101, 114, 109, 105, 110, 97, 110, 116, 32] ++ D ++ [32, 115, 121, 109, 109, 101, 116, 114, 105, 101, 115, 32] ++ Y
theorem glF_eq (N G S L X D Y : List UInt8) : join (glF N G S L X D Y) [32] = glFS N G S L X D Y := by
  simp [glF, glFS, join, List.intercalate, List.intersperse]
theorem glI_eq (N G W D Y : List UInt8) : join (glI N G W D Y) [32] = glIS N G W D Y := by
  simp [glI, glIS, join, List.intercalate, List.intersperse]
theorem wf_big {x : Int} (h : -4000000000000000 ≤ x) (h2 : x ≤ 4000000000000000) : (Lit.int .i64 x).wf = true := by
  simp [Lit.wf, IntKind.min, IntKind.max, IntKind.signed, IntKind.bits]
  omega
theorem itoa_b {x : Int} (h : -4000000000000000 ≤ x) (h2 : x ≤ 4000000000000000) : (itoa x).length ≤ 100 := by
  have := Lib.itoa_length_le x (by omega) (by omega)
  omega
theorem witFrom_i64 (c : List (List Int)) : ∀ (f m : Nat), I64s (witFrom c m f)
  | 0, m => by simp [witFrom, I64s]
  | f + 1, m => by
    unfold witFrom
    split
    · intro x hx
      have h16 : ∀ x ∈ setL m, 0 ≤ x ∧ x ≤ 1000 := by
        intro x hx
        unfold setL setTo at hx
        obtain ⟨i, hi, rfl⟩ := List.mem_map.1 hx
        have := (setNat_mem hi).2
        omega
      have := h16 x hx
      exact wf_big (by omega) (by omega)
    · exact witFrom_i64 c f (m + 1)
theorem witness_i64 (c : List (List Int)) : I64s (witness c) := by
  unfold witness
  split
  · exact witFrom_i64 c _ _
  · simp [I64s]
theorem symO_len {c : List (List Int)} (hC : IsC c) : (symO c).length ≤ 24 := by
  unfold symO
  exact Nat.le_trans (List.length_filter_le _ _) (ords24 hC.2.1)
theorem det_b {c : List (List Int)} (hC : IsC c) : -2000 ≤ det c.length c ∧ det c.length c ≤ 2000 := by
  have h := det_bound c.length c (isC_sq hC)
  have h4 := hC.2.1
  have hB : detB c.length ≤ 1944 := by
    have : c.length = 0 ∨ c.length = 1 ∨ c.length = 2 ∨ c.length = 3 ∨ c.length = 4 := by omega
    rcases this with e | e | e | e | e <;> rw [e] <;> decide
  omega
theorem addG (a : List UInt8) (s : Array UInt8) (hs : s = a.toArray) (b : List UInt8) (h : (a ++ b).length ≤ 9223372036854775807) : ∃ s2 : Array UInt8, s2 = (a ++ b).toArray ∧ ∀ W, (Op.stringOp .add ⟨s⟩ ⟨b.toArray⟩).run Tryz.prog W = .ok (.string ⟨s2⟩) W := by
  subst hs
  exact ⟨_, rfl, fun W => addS W a b _ rfl h⟩
end Go.Proofs.YtnpechcnmchneaaGreatDoor
