/- NameOf of both: contracts. -/
import Derived.Test.YtnpechcnmchneaaGreatDoorG44
namespace Go.Proofs.YtnpechcnmchneaaGreatDoor
set_option maxRecDepth 100000
open Go.RowKit
open Go.Lib (join)

theorem joinx_snoc (c : UInt8) (x : List UInt8) : ∀ A : List (List UInt8), A ≠ [] → join (A ++ [x]) [c] = join A [c] ++ [c] ++ x
  | [], h => absurd rfl h
  | [a], _ => by simp [join, List.intercalate, List.intersperse]
  | a :: b :: A, _ => by
    have ih := joinx_snoc c x (b :: A) (by simp)
    have e1 : join (a :: b :: A) [c] = a ++ c :: join (b :: A) [c] := by simp [join, List.intercalate, List.intersperse]
    have e2 : join (a :: b :: A ++ [x]) [c] = a ++ c :: join (b :: A ++ [x]) [c] := by simp [join, List.intercalate, List.intersperse]
    rw [e2, ih, e1]
    simp
theorem join_len (c : UInt8) : ∀ L : List (List UInt8), (∀ x ∈ L, x.length ≤ 3) → (join L [c]).length ≤ 4 * L.length
  | [], _ => by simp [join, List.intercalate]
  | [a], h => by have := h a (by simp); simp [join, List.intercalate]; omega
  | a :: b :: L, h => by
    have ih := join_len c (b :: L) fun x hx => h x (by simp [hx])
    have ha := h a (by simp)
    have e1 : join (a :: b :: L) [c] = a ++ c :: join (b :: L) [c] := by simp [join, List.intercalate, List.intersperse]
    rw [e1]
    simp only [List.length_append, List.length_cons] at ih ⊢
    omega
/-- the names of all parts -/
def nameL (c : List (List Int)) : List Bs := (partsL c).map fun p => nameP (pickL c (intsOf p))
def nameTo2 (c : List (List Int)) (k : Nat) : List Bs := ((partsL c).take k).map fun p => nameP (pickL c (intsOf p))
theorem name_succ (c : List (List Int)) (k : Nat) (hk : k < (partsL c).length) : nameTo2 c (k + 1) = nameTo2 c k ++ [nameP (pickL c (intsOf ((partsL c).getD k [])))] := by
  have e : (partsL c).take (k + 1) = (partsL c).take k ++ [(partsL c)[k]] := List.take_succ_eq_append_getElem hk
  have e2 : (partsL c).getD k [] = (partsL c)[k] := by simp [List.getD, hk]
  unfold nameTo2
  rw [e, e2, List.map_append]
  rfl
theorem name_len (c : List (List Int)) (k : Nat) (hk : k ≤ (partsL c).length) : (nameTo2 c k).length = k := by unfold nameTo2; rw [List.length_map, List.length_take]; omega
theorem name_three (c : List (List Int)) (k : Nat) : ∀ x ∈ nameTo2 c k, x.length ≤ 3 := fun x hx => by
  obtain ⟨p, -, rfl⟩ := List.mem_map.1 hx
  exact (names_noX _ (nameP_mem _)).2.1
theorem name_all (c : List (List Int)) : nameTo2 c (partsL c).length = nameL c := by unfold nameTo2 nameL; rw [List.take_length]
theorem joinSx {w : World} {B g c n : Nat} {L : List (List UInt8)} (x : UInt8) (ho : OwnStrs w B g c (strs L)) (hn : L.length = n) (hN : n ≤ 1048576) (hl : (join L [x]).length ≤ 140737488355328) :
    Calls Tryz.prog 75 #[(Value.slice (some ⟨g, 0, none⟩) n c), .string ⟨#[x]⟩] w (Gives w (.string ⟨(join L [x]).toArray⟩)) := by
  subst hn
  have e44 : (⟨#[x]⟩ : ByteArray).data.toList = [x] := rfl
  have hsl : (strs L).length = L.length := by simp [strs]
  have hj := Any.strings_Join Tryz.lays156 Tryz.Builder_Extra_156 g 0 c (strs L) ⟨#[x]⟩ w ho.cell (OwnK.lt ho) (by omega) ho.capLe (by rw [strs_data, e44]; exact hl)
  change Calls Tryz.prog 75 _ _ _ at hj
  rw [strs_data, e44, hsl] at hj
  exact hj
theorem part_facts {c : List (List Int)} (hC : IsC c) : ∀ k, k < (partsL c).length → GoodS c.length ((partsL c).getD k []) ∧ (partsL (pickL c (intsOf ((partsL c).getD k [])))).length = 1 ∧ IsC (pickL c (intsOf ((partsL c).getD k []))) := fun k hk => by
  obtain ⟨seen, hP⟩ := parts_are hC
  have hm : (partsL c).getD k [] ∈ partsL c := by simp [List.getD, hk]
  exact ⟨hP.g _ hm, conn_all hC _ hm, pick_isC hC (hP.g _ hm)⟩
set_option maxHeartbeats 2000000 in
theorem impl_NameOf_ok (gc oc n cc : Nat) (c : List (List Int)) (w : World) (hn : c.length = n) (hC : IsC c) (hgc : gc < w.heap.size) (hr : Rows2 w gc oc c) (hm : MaxL w) :
    Calls Tryz.prog 28 #[(Value.slice (some ⟨gc, oc, none⟩) n cc)] w (Gives w (.string ⟨(join (nameL c) [120]).toArray⟩)) := by
  obtain ⟨seen, hPA⟩ := parts_are hC
  have hb0 : Below w.heap.size w (w.alloc (.cells #[] 9)) := (Below.refl _ _).alloc (Nat.le_refl _) _
  have hpo := impl_PartsOf_ok gc oc n cc c (partsL c) seen _ hn hC hPA.i (fun p hp => (hPA.g p hp).l4) (Nat.lt_of_lt_of_le hgc hb0.size) (hr.below hb0 hgc)
  have HO := Lib.hid hpo
  have hlen4 := hPA.len
  have HP := Lib.hid (part_facts hC)
  have HPk := Lib.hid (fun W (hW : Below w.heap.size w W) gk ck (p : List Nat) (hp : GoodS c.length p) (hg : gk < W.heap.size) (hc : Cells W gk 0 (intsOf p)) => impl_picked_any gc oc n cc gk 0 p.length ck c (intsOf p) W hn (intsOf_length p) (by rw [intsOf_length]; exact hp.l4) (fun j hj => hC.2.2.1 j hj) hp.in (Nat.lt_of_lt_of_le hgc hW.size) hg (hr.below hW hgc) hc)
  have HNP := Lib.hid (fun W (hW : Below w.heap.size w W) gk m ck (c2 : List (List Int)) (hm2 : c2.length = m) (h2 : IsC c2) (h1 : (partsL c2).length = 1) (hg : gk < W.heap.size) (hr2 : Rows2 W gk 0 c2) => impl_NameOfPart_ok gk 0 m ck c2 W hm2 h2 h1 hg hr2 (hm.below hW))
  have HE := Lib.hid (OwnStrs.empty (w := w) (B := w.heap.size) (Nat.le_refl _))
  clear hpo hn hC hr hm hPA
  go_enter Tryz.func28, Tryz.ntmps28
  go_wp2_with fail
  refine HO.out.mono ?_
  rintro e w3 ⟨gp, cp, rp, rfl, hcp, hop, hbp⟩
  rw [List.length_map]
  have hb3 := hb0.trans (hbp.mono hb0.size)
  have hE3 : OwnStrs w3 w.heap.size w.heap.size 0 (strs (nameTo2 c 0)) := OwnK.below HE.out hbp (OwnK.lt HE.out)
  have Hcp := Lib.hid hcp
  have Hrp : Hid (rp.length = (partsL c).length) := Lib.hid (by rw [← contents_length, hcp, List.length_map])
  have hwl : w.heap.size < w3.heap.size := OwnK.lt hE3
  have hgp : w.heap.size < gp := by have := hop.base; simp at this; omega
  have hrbase : Hid (∀ r ∈ rp, w.heap.size < r.1 ∧ r.1 < w3.heap.size) := Lib.hid (fun r hr => by have h1 := (hop.2.1 r hr).base; have h2 := (hop.2.1 r hr).lt; simp at h1; omega)
  have hgp3 := hop.lt
  clear HO hb0 HE hbp hcp
  go_wp2_with fail
  go_loopw [3, 5, 10] (fun ov _ kv wr => ∃ k gO cO : Nat, k ≤ (partsL c).length ∧ kv = .int .i64 k ∧ ov = (Value.slice (some ⟨gO, 0, none⟩) k cO) ∧ OwnStrs wr w.heap.size gO cO (strs (nameTo2 c k)) ∧ (gO = w.heap.size ∨ w3.heap.size ≤ gO) ∧ OwnRows wr w.heap.size gp cp rp ∧ w3.heap.size ≤ wr.heap.size ∧ Below w.heap.size w wr) (fun _ _ kv _ => (partsL c).length - (intOf kv).toNat)
  case atStart => exact ⟨0, w.heap.size, 0, Nat.zero_le _, rfl, rfl, hE3, .inl rfl, hop.mono (by simp), Nat.le_refl _, hb3⟩
  case round =>
    clear hE3 hop hb3
    obtain ⟨k, gO, cO, hk, rfl, rfl, ho, hgO, hop, hsz, hb⟩ := hrel
    by_cases hlt : k < (partsL c).length
    · obtain ⟨hgP, hcP, hiP⟩ := HP.out k hlt
      have hkr : k < rp.length := by rw [Hrp.out]; exact hlt
      have hrow : rp[k].2.2 = intsOf ((partsL c).getD k []) := by
        rw [← contents_getD rp k hkr, Hcp.out]
        simp [List.getD, hlt]
      have hok := hop.2.1 _ (List.getElem_mem hkr)
      have hcell := hop.1.cell k (by simpa using hkr)
      have Hsucc := Lib.hid (name_succ c k hlt)
      have hno1 : ∀ r ∈ rp, r.1 ≠ gO := fun r hr e => by
        have := hrbase.out r hr
        rcases hgO with h | h <;> omega
      have hno2 : gp ≠ gO := by rcases hgO with h | h <;> omega
      rw [hrow] at hok
      have hrv : rowVal rp[k] = (Value.slice (some ⟨(rp[k].1), 0, none⟩) (((partsL c).getD k []).length) (rp[k].2.1)) := by unfold rowVal; rw [hrow, intsOf_length]
      simp only [List.getElem_map, hrv] at hcell
      generalize rp[k].1 = gk at *
      generalize rp[k].2.1 = ck at *
      generalize (partsL c).getD k [] = p at *
      have Hpk := Lib.hid (HPk.out wr hb gk ck p hgP hok.lt hok.cells)
      have hpl : (pickL c (intsOf p)).length = p.length := by simp [pickL, intsOf]
      have hcP' := Lib.hid hcP; have hiP' := Lib.hid hiP; have Hpl := Lib.hid hpl; have Hno1 := Lib.hid hno1
      have Hnk := Lib.hid (name_len c k (by omega))
      clear hrow hrv hok hgP hcP hiP hkr hno1 hpl
      go_wp2_with fail
      refine Hpk.out.mono ?_
      rintro e w5 ⟨g5, c5, r5, rfl, hc5, ho5, hb5⟩
      have hb6 := hb.trans (hb5.mono hb.size)
      have Hnp := Lib.hid (HNP.out w5 hb6 g5 p.length c5 (pickL c (intsOf p)) Hpl.out hiP'.out hcP'.out ho5.lt (by rw [← hc5]; exact ho5.rows2))
      rw [Hpl.out]
      have ho6 : OwnStrs w5 w.heap.size gO cO (strs (nameTo2 c k)) := OwnK.below ho hb5 (OwnK.lt ho)
      have hop6 := hop.below hb5
      have hsz6 := Nat.le_trans hsz hb5.size
      clear Hpk hc5 ho5 hb5 ho hop hsz hb hcell
      generalize nameP (pickL c (intsOf p)) = S at *
      go_wp2_with fail
      refine Hnp.out.mono ?_
      rintro e w7 ⟨rfl, hb7⟩
      have hb8 := hb6.trans (hb7.mono hb6.size)
      have ho8 : OwnStrs w7 w.heap.size gO cO (strs (nameTo2 c k)) := OwnK.below ho6 hb7 (OwnK.lt ho6)
      have hop8 := hop6.below hb7
      have hsz8 := Nat.le_trans hsz6 hb7.size
      clear Hnp hb6 hb7 ho6 hop6 hsz6
      go_wp2_with (at_builtin; refine wpList_append_str rfl _ _ rfl w.heap.size gO cO k w7.heap.size (strs (nameTo2 c k)) ⟨S.toArray⟩ w7 _ (by unfold strs; rw [List.length_map]; exact Hnk.out) rfl rfl ho8 rfl rfl (by omega) ?_)
      intro g9 c9 w9 ho9 hg9 hor9
      have hb9 := hb8.grown hg9 hb8.size (by intro t ht; cases ht; exact OwnK.base ho8)
      have hop9 := hop8.grownK2 hg9 hno2 Hno1.out
      have hsz9 := Nat.le_trans hsz8 hg9.size
      have hgO9 : g9 = w.heap.size ∨ w3.heap.size ≤ g9 := by
        rcases hor9 with h | h
        · rw [h]; exact hgO
        · right; omega
      have ho10 : OwnStrs w9 w.heap.size g9 c9 (strs (nameTo2 c (k + 1))) := by
        rw [Hsucc.out]
        have e : strs (nameTo2 c k ++ [S]) = strs (nameTo2 c k) ++ [⟨S.toArray⟩] := by simp [strs]
        rw [e]
        exact ho9
      clear hb8 ho8 hop8 hsz8 ho9 hg9 hor9
      go_wp2_with fail
      go_roundw
      case rel => exact ⟨k + 1, g9, c9, by omega, by go_num, rfl, ho10, hgO9, hop9, hsz9, hb9⟩
      case measure => simp [intOf]; omega
    · obtain rfl : k = (partsL c).length := by omega
      have hj := joinSx 120 ho (name_len c _ (Nat.le_refl _)) (by omega) (by have := join_len 120 _ (name_three c (partsL c).length); rw [name_len c _ (Nat.le_refl _)] at this; omega)
      rw [name_all] at hj
      have Hj := Lib.hid hj
      clear hj ho hop
      go_wp2_with fail
      refine Hj.out.mono ?_
      rintro e w9 ⟨rfl, hb9⟩
      have hb10 := hb.trans (hb9.mono hb.size)
      clear Hj hb hb9
      go_wp2_with fail
      go_ret
      exact ⟨rfl, hb10⟩

set_option maxHeartbeats 2000000 in
theorem spec_NameOf_ok (gc oc n cc : Nat) (c : List (List Int)) (w : World) (hn : c.length = n) (hC : IsC c) (hgc : gc < w.heap.size) (hr : Rows2 w gc oc c) :
    Calls Tryz.prog 16 #[(Value.slice (some ⟨gc, oc, none⟩) n cc)] w (Gives w (.string ⟨(join (nameL c) [120]).toArray⟩)) := by
  obtain ⟨seen, hPA⟩ := parts_are hC
  have HO := Lib.hid (spec_PartsOf_ok gc oc n cc c (partsL c) w hn hC hPA.s hPA.p hgc hr)
  have hlen4 := hPA.len
  have HP := Lib.hid (part_facts hC)
  have HPk := Lib.hid (fun W (hW : Below w.heap.size w W) gk ck (p : List Nat) (hp : GoodS c.length p) (hg : gk < W.heap.size) (hc : Cells W gk 0 (intsOf p)) => spec_SubCartan_ok gc oc n cc gk 0 p.length ck c (intsOf p) W hn (intsOf_length p) hC (by rw [intsOf_length]; exact hp.l4) (by rw [intsOf_length]; exact hp.l1) hp.in hp.asc2 (Nat.lt_of_lt_of_le hgc hW.size) hg (hr.below hW hgc) hc)
  have HNP := Lib.hid (fun W (hW : Below w.heap.size w W) gk m ck (c2 : List (List Int)) (hm2 : c2.length = m) (h2 : IsC c2) (h1 : (partsL c2).length = 1) (hg : gk < W.heap.size) (hr2 : Rows2 W gk 0 c2) => spec_NameOfPart_ok gk 0 m ck c2 W hm2 h2 h1 hg hr2)
  have Hlen := Lib.hid (fun k (hk : k ≤ (partsL c).length) => show (join (nameTo2 c k) [120]).length ≤ 16 from by have := join_len 120 _ (name_three c k); rw [name_len c k hk] at this; omega)
  have hall := name_all c
  have Hall := Lib.hid hall
  clear hn hC hr hPA hall
  go_enter Tryz.func16, Tryz.ntmps16
  go_wp2_with fail
  refine HO.out.mono ?_
  rintro e w3 ⟨gp, cp, rp, rfl, hcp, hop, hb3⟩
  rw [List.length_map]
  have Hcp := Lib.hid hcp
  have Hrp : Hid (rp.length = (partsL c).length) := Lib.hid (by rw [← contents_length, hcp, List.length_map])
  clear HO hcp
  go_wp2_with fail
  go_loopw [4, 5, 6, 7] (fun sv kv _ _ wr => ∃ k : Nat, k ≤ (partsL c).length ∧ kv = .int .i64 k ∧ sv = .string ⟨(join (nameTo2 c k) [120]).toArray⟩ ∧ OwnRows wr w.heap.size gp cp rp ∧ Below w.heap.size w wr) (fun _ kv _ _ _ => (partsL c).length - (intOf kv).toNat)
  case atStart => exact ⟨0, Nat.zero_le _, rfl, rfl, hop, hb3⟩
  case round =>
    clear hop hb3
    obtain ⟨k, hk, rfl, rfl, hop, hb⟩ := hrel
    by_cases hlt : k < (partsL c).length
    · obtain ⟨hgP, hcP, hiP⟩ := HP.out k hlt
      have hkr : k < rp.length := by rw [Hrp.out]; exact hlt
      have hrow : rp[k].2.2 = intsOf ((partsL c).getD k []) := by
        rw [← contents_getD rp k hkr, Hcp.out]
        simp [List.getD, hlt]
      have hok := hop.2.1 _ (List.getElem_mem hkr)
      have hcell := hop.1.cell k (by simpa using hkr)
      have hsucc := name_succ c k hlt
      rw [hrow] at hok
      have hrv : rowVal rp[k] = (Value.slice (some ⟨(rp[k].1), 0, none⟩) (((partsL c).getD k []).length) (rp[k].2.1)) := by unfold rowVal; rw [hrow, intsOf_length]
      simp only [List.getElem_map, hrv] at hcell
      generalize rp[k].1 = gk at *
      generalize rp[k].2.1 = ck at *
      generalize (partsL c).getD k [] = p at *
      have Hpk := Lib.hid (HPk.out wr hb gk ck p hgP hok.lt hok.cells)
      have hpl : (pickL c (intsOf p)).length = p.length := by simp [pickL, intsOf]
      have hcP' := Lib.hid hcP; have hiP' := Lib.hid hiP; have Hpl := Lib.hid hpl
      have Hpl2 : Hid ((intsOf p).length = p.length) := Lib.hid (intsOf_length p)
      have hl1 := Hlen.out (k + 1) hlt
      rw [hsucc] at hl1
      have Hsucc := Lib.hid hsucc
      by_cases h0 : k = 0
      · subst h0
        have Hadd : Hid (∀ W, (Op.stringOp .add ⟨(join (nameTo2 c 0) [120]).toArray⟩ ⟨(nameP (pickL c (intsOf p))).toArray⟩).run Tryz.prog W = .ok (.string ⟨(join (nameTo2 c (0 + 1)) [120]).toArray⟩) W) := Lib.hid (fun W => addS W _ _ _ (by rw [Hsucc.out]; simp [nameTo2, join, List.intercalate]) (by rw [Hsucc.out]; omega))
        clear hrow hrv hok hgP hcP hiP hkr hpl hsucc hl1
        generalize join (nameTo2 c 0) [120] = S0 at *
        generalize hS1 : join (nameTo2 c (0 + 1)) [120] = S1 at *
        have HS1 := Lib.hid hS1
        clear hS1
        go_wp2_with fail
        refine Hpk.out.mono ?_
        rintro e w5 ⟨g5, c5, r5, rfl, hc5, ho5, hb5⟩
        rw [Hpl2.out]
        have hb6 := hb.trans (hb5.mono hb.size)
        have Hnp := Lib.hid (HNP.out w5 hb6 g5 p.length c5 (pickL c (intsOf p)) Hpl.out hiP'.out hcP'.out ho5.lt (by rw [← hc5]; exact ho5.rows2))
        have hop6 := hop.below hb5
        clear Hpk hc5 ho5 hb5 hop hb hcell
        generalize nameP (pickL c (intsOf p)) = S at *
        go_wp2_with fail
        refine Hnp.out.mono ?_
        rintro e w7 ⟨rfl, hb7⟩
        have hb8 := hb6.trans (hb7.mono hb6.size)
        have hop8 := hop6.below hb7
        have e2 := Hadd.out w7
        clear Hnp hb6 hb7 hop6
        go_wp2_with fail
        go_roundw
        case rel => exact ⟨0 + 1, by omega, by go_num, by rw [HS1.out], hop8, hb8⟩
        case measure => simp [intOf]; omega
      · have Hadd1 : Hid (∀ W, (Op.stringOp .add ⟨(join (nameTo2 c k) [120]).toArray⟩ ⟨#[120]⟩).run Tryz.prog W = .ok (.string ⟨(join (nameTo2 c k) [120] ++ [120]).toArray⟩) W) := Lib.hid (fun W => addS W _ [120] _ rfl (by have := Hlen.out k hk; rw [List.length_append]; simp; omega))
        have Hadd : Hid (∀ W, (Op.stringOp .add ⟨(join (nameTo2 c k) [120] ++ [120]).toArray⟩ ⟨(nameP (pickL c (intsOf p))).toArray⟩).run Tryz.prog W = .ok (.string ⟨(join (nameTo2 c (k + 1)) [120]).toArray⟩) W) := Lib.hid (fun W => addS W _ _ _ (by
          rw [Hsucc.out, joinx_snoc 120 _ _ (fun e => by have h9 := congrArg List.length e; rw [name_len c k hk] at h9; exact h0 h9)]) (by rw [Hsucc.out]; omega))
        have hkz : (0 : Int) < (k : Int) := by omega
        have e1 := Hadd1.out wr
        clear hrow hrv hok hgP hcP hiP hkr hpl hsucc hl1 Hadd1
        generalize hS0 : join (nameTo2 c k) [120] = S0 at *
        generalize hS1 : join (nameTo2 c (k + 1)) [120] = S1 at *
        have HS1 := Lib.hid hS1
        clear hS0 hS1
        go_wp2_with fail
        refine Hpk.out.mono ?_
        rintro e w5 ⟨g5, c5, r5, rfl, hc5, ho5, hb5⟩
        rw [Hpl2.out]
        have hb6 := hb.trans (hb5.mono hb.size)
        have Hnp := Lib.hid (HNP.out w5 hb6 g5 p.length c5 (pickL c (intsOf p)) Hpl.out hiP'.out hcP'.out ho5.lt (by rw [← hc5]; exact ho5.rows2))
        have hop6 := hop.below hb5
        clear Hpk hc5 ho5 hb5 hop hb hcell
        generalize nameP (pickL c (intsOf p)) = S at *
        go_wp2_with fail
        refine Hnp.out.mono ?_
        rintro e w7 ⟨rfl, hb7⟩
        have hb8 := hb6.trans (hb7.mono hb6.size)
        have hop8 := hop6.below hb7
        have e2 := Hadd.out w7
        clear Hnp hb6 hb7 hop6
        go_wp2_with fail
        go_roundw
        case rel => exact ⟨k + 1, by omega, by go_num, by rw [HS1.out], hop8, hb8⟩
        case measure => simp [intOf]; omega
    · obtain rfl : k = (partsL c).length := by omega
      rw [Hall.out]
      go_wp2_with fail
      go_ret
      exact ⟨rfl, hb⟩
end Go.Proofs.YtnpechcnmchneaaGreatDoor
