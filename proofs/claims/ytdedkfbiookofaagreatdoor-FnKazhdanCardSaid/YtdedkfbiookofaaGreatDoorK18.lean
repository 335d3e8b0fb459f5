/- GrowthKind: contracts. The parts of a diagram are connected: by enumeration of zero patterns. Plain law. NameOfPart of both: contracts. NameOf of both: contracts. SizeByName of the program at names of parts: contract. The reference's l2Cut: contract. -/
import Derived.Test.YtdedkfbiookofaaGreatDoorK17
import Derived.Test.YtdedkfbiookofaaGreatDoorK11
import Derived.Test.YtdedkfbiookofaaGreatDoorK14
import Derived.Test.YtdedkfbiookofaaGreatDoorK15
import Derived.Test.YtdedkfbiookofaaGreatDoorK04
namespace Go.Proofs.YtdedkfbiookofaaGreatDoor
set_option maxRecDepth 100000
open Go.RowKit
theorem ent_pick (c : List (List Int)) (s : List Int) (i j : Nat) (hi : i < s.length) (hj : j < s.length) : ent (pickL c s) i j = ent c (s.getD i 0).toNat (s.getD j 0).toNat := by
  unfold pickL
  conv => lhs; unfold ent
  simp [List.getD, hi, hj, pickRow]
theorem goodP_asc {l : List Nat} (h : ascB l = true) : l.Pairwise (· < ·) := by
  induction l with
  | nil => simp
  | cons x l ih =>
    cases l with
    | nil => simp
    | cons y l =>
      unfold ascB at h
      rw [Bool.and_eq_true, decide_eq_true_eq] at h
      have h2 := ih h.2
      rw [List.pairwise_cons]
      refine ⟨fun z hz => ?_, h2⟩
      rcases List.mem_cons.1 hz with e | e
      · omega
      · have := (List.pairwise_cons.1 h2).1 z e; omega
structure GoodS (n : Nat) (p : List Nat) : Prop where
  asc : p.Pairwise (· < ·)
  l1 : 1 ≤ p.length
  l4 : p.length ≤ 4
  lt : ∀ x ∈ p, x < n
theorem goodP_s {n : Nat} {p : List Nat} (h : goodP n p = true) : GoodS n p := by
  unfold goodP at h
  simp only [Bool.and_eq_true, decide_eq_true_eq] at h
  exact ⟨goodP_asc h.1, h.2.1, h.2.2.1, fun x hx => of_decide_eq_true (List.all_eq_true.1 h.2.2.2 x hx)⟩
theorem GoodS.at {n : Nat} {p : List Nat} (h : GoodS n p) {t : Nat} (ht : t < p.length) : (intsOf p).getD t 0 = (p[t] : Int) ∧ p[t] < n :=
  ⟨by simp [intsOf, List.getD, ht], h.lt _ (List.getElem_mem _)⟩
theorem GoodS.in {n : Nat} {p : List Nat} (h : GoodS n p) (t : Nat) (ht : t < (intsOf p).length) : 0 ≤ (intsOf p).getD t 0 ∧ (intsOf p).getD t 0 < n := by
  rw [intsOf_length] at ht
  have := h.at ht
  rw [this.1]; omega
theorem GoodS.asc2 {n : Nat} {p : List Nat} (h : GoodS n p) (t : Nat) (ht : t + 1 < (intsOf p).length) : (intsOf p).getD t 0 < (intsOf p).getD (t + 1) 0 := by
  rw [intsOf_length] at ht
  rw [(h.at (t := t) (by omega)).1, (h.at ht).1]
  have := List.pairwise_iff_getElem.1 h.asc t (t + 1) (by omega) ht (by omega)
  omega
theorem pick_isC {c : List (List Int)} (hC : IsC c) {p : List Nat} (h : GoodS c.length p) : IsC (pickL c (intsOf p)) := by
  have hl : (pickL c (intsOf p)).length = p.length := by simp [pickL, intsOf]
  refine ⟨by rw [hl]; exact h.l1, by rw [hl]; exact h.l4, fun i hi => ?_, fun i hi j hj => ?_⟩
  · have hi' : i < (intsOf p).length := by rw [intsOf_length]; omega
    rw [hl]
    simp only [pickL, List.getD, List.getElem?_map]
    rw [List.getElem?_eq_getElem hi']
    simp [pickRow, intsOf_length]
  · rw [hl] at hi hj
    have e1 := h.at hi
    have e2 := h.at hj
    unfold EntOk
    rw [ent_pick _ _ _ _ (by rw [intsOf_length]; exact hi) (by rw [intsOf_length]; exact hj), ent_pick _ _ _ _ (by rw [intsOf_length]; exact hj) (by rw [intsOf_length]; exact hi), e1.1, e2.1, Int.toNat_natCast, Int.toNat_natCast]
    have hc := hC.2.2.2 p[i] e1.2 p[j] e2.2
    unfold EntOk at hc
    by_cases e : i = j
    · subst e
      rw [if_pos rfl] at hc ⊢
      exact hc
    · rw [if_neg e]
      have hne : p[i] ≠ p[j] := by
        intro e3
        rcases Nat.lt_or_gt_of_ne e with h1 | h1
        · have := List.pairwise_iff_getElem.1 h.asc i j hi hj h1; omega
        · have := List.pairwise_iff_getElem.1 h.asc j i hj hi h1; omega
      rw [if_neg hne] at hc
      exact hc
def partsL (c : List (List Int)) : List (List Nat) := (partsSG (nbTab c) c.length).getD []
structure PartsAre (c : List (List Int)) (seen : List Bool) (P : List (List Nat)) : Prop where
  i : partsIG (nbTab c) c.length = some (seen, P)
  s : partsSG (nbTab c) c.length = some P
  g : ∀ p ∈ P, GoodS c.length p
  p : ∀ i, i < c.length → ∃ p, partS (nbTab c) i = some p ∧ 1 ≤ p.length ∧ p.length ≤ 4
  e : partsL c = P
  len : P.length ≤ 4
theorem partsSG_len {tab : List (List Nat)} : ∀ {t : Nat} {out : List (List Nat)}, partsSG tab t = some out → out.length ≤ t := by
  intro t
  induction t with
  | zero => intro out h; simp [partsSG] at h; simp [← h]
  | succ t ih =>
    intro out h
    unfold partsSG at h
    split at h
    · rename_i o p h1 h2
      have := ih h1
      simp only [Option.some.injEq] at h
      rw [← h]
      split <;> simp <;> omega
    · simp at h
theorem parts_are {c : List (List Int)} (hC : IsC c) : ∃ seen, PartsAre c seen (partsL c) := by
  obtain ⟨seen, P, h1, h2, h3, h4⟩ := parts_of hC
  have e : partsL c = P := by unfold partsL; rw [h2]; rfl
  rw [e]
  exact ⟨seen, h1, h2, fun p hp => goodP_s (h3 p hp), h4, e, Nat.le_trans (partsSG_len h2) hC.2.1⟩
abbrev sFinite : ByteArray := ⟨#[102, 105, 110, 105, 116, 101]⟩
abbrev sExp : ByteArray := ⟨#[101, 120, 112, 111, 110, 101, 110, 116, 105, 97, 108]⟩
abbrev sPoly : ByteArray := ⟨#[112, 111, 108, 121, 110, 111, 109, 105, 97, 108]⟩
abbrev sNone : ByteArray := ⟨#[]⟩
end Go.Proofs.YtdedkfbiookofaaGreatDoor
namespace Go.Proofs.YtdedkfbiookofaaGreatDoor
set_option maxRecDepth 100000
theorem zo_all (F : List (List Int) → Bool) (f1 : F [[1]] = true) (f2 : (Z2.all fun a => F (zm2 a)) = true) (f3 : (Z2.all fun a => Z2.all fun b => Z2.all fun e => F (zm3 a b e)) = true)
    (f4 : (Z2.all fun a => Z2.all fun b => Z2.all fun d => Z2.all fun e => Z2.all fun f => Z2.all fun g => F (zm4 a b d e f g)) = true) {c : List (List Int)} (hC : IsC c) : F (zo c) = true := by
  have : c.length = 1 ∨ c.length = 2 ∨ c.length = 3 ∨ c.length = 4 := by have := hC.1; have := hC.2.1; omega
  rcases this with hn | hn | hn | hn
  · obtain ⟨r0, rfl⟩ := lst1 hn
    obtain ⟨x00, rfl⟩ := lst1 (hC.2.2.1 0 (by simp))
    have d0 : x00 = 2 := dg hC (i := 0) (by simp)
    subst d0
    exact f1
  · obtain ⟨r0, r1, rfl⟩ := lst2 hn
    obtain ⟨x00, x01, rfl⟩ := lst2 (hC.2.2.1 0 (by simp))
    obtain ⟨x10, x11, rfl⟩ := lst2 (hC.2.2.1 1 (by simp))
    have d0 : x00 = 2 := dg hC (i := 0) (by simp)
    have d1 : x11 = 2 := dg hC (i := 1) (by simp)
    subst d0; subst d1
    have s10 : (if x10 = 0 then (0 : Int) else 1) = if x01 = 0 then 0 else 1 := zsym hC (i := 1) (j := 0) (by simp) (by simp) (by decide)
    have e : zo [[2, x01], [x10, 2]] = zm2 (if x01 = 0 then 0 else 1) := by simp [zo, zm2, s10]
    rw [e]
    exact List.all_eq_true.1 f2 _ (z_in x01)
  · obtain ⟨r0, r1, r2, rfl⟩ := lst3 hn
    obtain ⟨x00, x01, x02, rfl⟩ := lst3 (hC.2.2.1 0 (by simp))
    obtain ⟨x10, x11, x12, rfl⟩ := lst3 (hC.2.2.1 1 (by simp))
    obtain ⟨x20, x21, x22, rfl⟩ := lst3 (hC.2.2.1 2 (by simp))
    have d0 : x00 = 2 := dg hC (i := 0) (by simp)
    have d1 : x11 = 2 := dg hC (i := 1) (by simp)
    have d2 : x22 = 2 := dg hC (i := 2) (by simp)
    subst d0; subst d1; subst d2
    have s10 : (if x10 = 0 then (0 : Int) else 1) = if x01 = 0 then 0 else 1 := zsym hC (i := 1) (j := 0) (by simp) (by simp) (by decide)
    have s20 : (if x20 = 0 then (0 : Int) else 1) = if x02 = 0 then 0 else 1 := zsym hC (i := 2) (j := 0) (by simp) (by simp) (by decide)
    have s21 : (if x21 = 0 then (0 : Int) else 1) = if x12 = 0 then 0 else 1 := zsym hC (i := 2) (j := 1) (by simp) (by simp) (by decide)
    have e : zo [[2, x01, x02], [x10, 2, x12], [x20, x21, 2]] = zm3 (if x01 = 0 then 0 else 1) (if x02 = 0 then 0 else 1) (if x12 = 0 then 0 else 1) := by simp [zo, zm3, s10, s20, s21]
    rw [e]
    exact List.all_eq_true.1 (List.all_eq_true.1 (List.all_eq_true.1 f3 _ (z_in x01)) _ (z_in x02)) _ (z_in x12)
  · obtain ⟨r0, r1, r2, r3, rfl⟩ := lst4 hn
    obtain ⟨x00, x01, x02, x03, rfl⟩ := lst4 (hC.2.2.1 0 (by simp))
    obtain ⟨x10, x11, x12, x13, rfl⟩ := lst4 (hC.2.2.1 1 (by simp))
    obtain ⟨x20, x21, x22, x23, rfl⟩ := lst4 (hC.2.2.1 2 (by simp))
    obtain ⟨x30, x31, x32, x33, rfl⟩ := lst4 (hC.2.2.1 3 (by simp))
    have d0 : x00 = 2 := dg hC (i := 0) (by simp)
    have d1 : x11 = 2 := dg hC (i := 1) (by simp)
    have d2 : x22 = 2 := dg hC (i := 2) (by simp)
    have d3 : x33 = 2 := dg hC (i := 3) (by simp)
    subst d0; subst d1; subst d2; subst d3
    have s10 : (if x10 = 0 then (0 : Int) else 1) = if x01 = 0 then 0 else 1 := zsym hC (i := 1) (j := 0) (by simp) (by simp) (by decide)
    have s20 : (if x20 = 0 then (0 : Int) else 1) = if x02 = 0 then 0 else 1 := zsym hC (i := 2) (j := 0) (by simp) (by simp) (by decide)
    have s30 : (if x30 = 0 then (0 : Int) else 1) = if x03 = 0 then 0 else 1 := zsym hC (i := 3) (j := 0) (by simp) (by simp) (by decide)
    have s21 : (if x21 = 0 then (0 : Int) else 1) = if x12 = 0 then 0 else 1 := zsym hC (i := 2) (j := 1) (by simp) (by simp) (by decide)
    have s31 : (if x31 = 0 then (0 : Int) else 1) = if x13 = 0 then 0 else 1 := zsym hC (i := 3) (j := 1) (by simp) (by simp) (by decide)
    have s32 : (if x32 = 0 then (0 : Int) else 1) = if x23 = 0 then 0 else 1 := zsym hC (i := 3) (j := 2) (by simp) (by simp) (by decide)
    have e : zo [[2, x01, x02, x03], [x10, 2, x12, x13], [x20, x21, 2, x23], [x30, x31, x32, 2]] = zm4 (if x01 = 0 then 0 else 1) (if x02 = 0 then 0 else 1) (if x03 = 0 then 0 else 1) (if x12 = 0 then 0 else 1) (if x13 = 0 then 0 else 1) (if x23 = 0 then 0 else 1) := by simp [zo, zm4, s10, s20, s30, s21, s31, s32]
    rw [e]
    exact List.all_eq_true.1 (List.all_eq_true.1 (List.all_eq_true.1 (List.all_eq_true.1 (List.all_eq_true.1 (List.all_eq_true.1 f4 _ (z_in x01)) _ (z_in x02)) _ (z_in x03)) _ (z_in x12)) _ (z_in x13)) _ (z_in x23)
theorem partsL_zo (c : List (List Int)) : partsL (zo c) = partsL c := by unfold partsL; rw [nbTab_zo, zo_length]
theorem pick_zo (c : List (List Int)) (s : List Int) : pickL (zo c) s = zo (pickL c s) := by
  simp only [pickL, pickRow, zo, List.map_map]
  apply List.map_congr_left
  intro i _
  simp only [Function.comp, List.map_map]
  apply List.map_congr_left
  intro j _
  exact ent_zo c i.toNat j.toNat
def conn1 (c : List (List Int)) : Bool := (partsL c).all fun p => (partsL (pickL c (intsOf p))).length == 1
theorem conn_1 : conn1 [[1]] = true := by kernel_rfl
theorem conn_2 : (Z2.all fun a => conn1 (zm2 a)) = true := by kernel_rfl
theorem conn_3 : (Z2.all fun a => Z2.all fun b => Z2.all fun e => conn1 (zm3 a b e)) = true := by kernel_rfl
theorem conn_4 : (Z2.all fun a => Z2.all fun b => Z2.all fun d => Z2.all fun e => Z2.all fun f => Z2.all fun g => conn1 (zm4 a b d e f g)) = true := by kernel_rfl
theorem conn_all {c : List (List Int)} (hC : IsC c) : ∀ p ∈ partsL c, (partsL (pickL c (intsOf p))).length = 1 := by
  have h := zo_all conn1 conn_1 conn_2 conn_3 conn_4 hC
  unfold conn1 at h
  rw [partsL_zo] at h
  intro p hp
  have := List.all_eq_true.1 h p hp
  rw [pick_zo, partsL_zo] at this
  simpa using this
end Go.Proofs.YtdedkfbiookofaaGreatDoor
namespace Go.Proofs.YtdedkfbiookofaaGreatDoor
set_option maxRecDepth 100000
open Go.RowKit
open Go.Lib (join)
def nm17 : List Bs := types17.map (·.1)
theorem nm17_len : nm17.length = 17 := rfl
theorem names_at {k : Nat} (hk : k < 17) : (strs nm17)[k]? = some ⟨(types17.getD k tyD).1.toArray⟩ := by
  have hl : k < types17.length := hk
  unfold strs nm17
  simp [List.getD, hl]
theorem names_lit : (⟨(join nm17 [32]).toArray⟩ : ByteArray) = ⟨#[65, 49, 32, 65, 50, 32, 65, 51, 32, 65, 52, 32, 66, 50, 32, 66, 51, 32, 66, 52, 32, 67, 51, 32, 67, 52, 32, 68, 52, 32, 70, 52, 32, 71, 50, 32, 65, 49, 126, 32, 65, 50, 126, 32, 65, 51, 126, 32, 67, 50, 126, 32, 71, 50, 126]⟩ := by kernel_rfl
theorem names_32 : ∀ x ∈ nm17, (32 : UInt8) ∉ x := by decide
theorem names_ne : nm17 ≠ [] := by decide
theorem split_names (w : World) (hm : MaxL w) : Calls Tryz.prog 177 #[.string ⟨#[65, 49, 32, 65, 50, 32, 65, 51, 32, 65, 52, 32, 66, 50, 32, 66, 51, 32, 66, 52, 32, 67, 51, 32, 67, 52, 32, 68, 52, 32, 70, 52, 32, 71, 50, 32, 65, 49, 126, 32, 65, 50, 126, 32, 65, 51, 126, 32, 67, 50, 126, 32, 71, 50, 126]⟩, .string ⟨#[32]⟩] w fun e w' => ∃ g cap, e = .returned (Value.slice (some ⟨g, 0, none⟩) 17 cap) ∧ OwnStrs w' w.heap.size g cap (strs nm17) ∧ Below w.heap.size w w' := by
  have h := split_ok 32 nm17 w names_ne (by rw [nm17_len]; omega) names_32 (by decide) hm
  rw [names_lit] at h
  exact h.mono fun e w' ⟨g, h1, h2, h3⟩ => ⟨g, 17, h1, h2, h3⟩
theorem spec_l4Names_ok (w : World) : Calls Tryz.prog 162 #[] w fun e w' => ∃ g cap, e = .returned (Value.slice (some ⟨g, 0, none⟩) 17 cap) ∧ OwnStrs w' w.heap.size g cap (strs nm17) ∧ Below w.heap.size w w' := by
  have ho : OwnStrs (w.alloc (.cells ((strs nm17).map Value.string).toArray 9)) w.heap.size w.heap.size 17 (strs nm17) := World.ownsRow_lit w ((strs nm17).map Value.string).toArray 17 (Nat.le_refl _) (by decide) rfl
  have hb : Below w.heap.size w (w.alloc (.cells ((strs nm17).map Value.string).toArray 9)) := (Below.refl _ _).alloc (Nat.le_refl _) _
  have HO := Lib.hid ho; have HB := Lib.hid hb
  clear ho hb
  go_enter Tryz.func162, Tryz.ntmps162
  go_wp2_with fail
  go_ret
  exact ⟨_, 17, rfl, HO.out, HB.out⟩
set_option maxHeartbeats 2000000 in
theorem spec_NameOfPart_ok (gc oc n cc : Nat) (c : List (List Int)) (w : World) (hn : c.length = n) (hC : IsC c) (hconn : (partsL c).length = 1) (hgc : gc < w.heap.size) (hr : Rows2 w gc oc c) :
    Calls Tryz.prog 138 #[(Value.slice (some ⟨gc, oc, none⟩) n cc)] w (Gives w (.string ⟨(nameP c).toArray⟩)) := by
  obtain ⟨seen, hP⟩ := parts_are hC
  have HA := Lib.hid (fun W (hW : Below w.heap.size w W) k (hk : k < 17) gt ct (hg : gt < W.heap.size) (ht : Rows2 W gt 0 (types17.getD k tyD).2) => spec_AreIsomorphic_ok gc oc n cc gt 0 _ ct c (types17.getD k tyD).2 W hn rfl hC (types_isC' hk) (Nat.lt_of_lt_of_le hgc hW.size) hg (hr.below hW hgc) ht)
  have HT := Lib.hid (fun k (hk : k < 17) W => spec_TypeCartan_ok k hk W)
  have hcn := fun W (hW : Below w.heap.size w W) => spec_IsConnected_ok gc oc n cc c (partsL c) W hn hC hP.s hP.p (Nat.lt_of_lt_of_le hgc hW.size) (hr.below hW hgc)
  rw [show ((partsL c).length == 1) = true by rw [hconn]; rfl] at hcn
  have Hcn := Lib.hid hcn
  have Hfound := Lib.hid (fun k (hk : k < 17) h => nameP_found (c := c) hk h)
  have Hstep := Lib.hid (fun k (hk : k < 17) h => nameTo_step (c := c) hk h)
  have Hnone := Lib.hid (fun h => nameP_none (c := c) h)
  have HS := Lib.hid (fun W => spec_l4Names_ok W)
  clear hr hC hconn hP hcn hn
  generalize nameP c = R at *
  go_enter Tryz.func138, Tryz.ntmps138
  go_wp2_with fail
  have hb1 := Below.refl w.heap.size w
  have Hs := Lib.hid (HS.out w)
  clear HS
  refine Hs.out.mono ?_
  rintro e w3 ⟨gN, cN, rfl, hoN, hbN⟩
  have hb3 := hb1.trans (hbN.mono hb1.size)
  clear hbN Hs hb1
  go_wp2_with fail
  go_loopw [4, 5, 6, 7, 8] (fun kv _ _ _ _ wr => ∃ k : Nat, k ≤ 17 ∧ kv = .int .i64 k ∧ Hid (nameTo c k = none) ∧ Below w3.heap.size w3 wr) (fun kv _ _ _ _ _ => 17 - (intOf kv).toNat)
  case atStart => exact ⟨0, by omega, rfl, rfl, Below.refl _ _⟩
  case round =>
    obtain ⟨k, hk, rfl, hno, hb⟩ := hrel
    have hbw := hb3.trans (hb.mono hb3.size)
    by_cases hlt : k < 17
    · have Hf := Lib.hid (Hfound.out k hlt hno.out)
      have hst := Hstep.out k hlt hno.out
      have hcell0 := hoN.cell k _ (names_at hlt)
      rw [Nat.zero_add] at hcell0
      have Hcell := Lib.hid hcell0
      have hcell := (hb.cell (p := ⟨gN, k, none⟩) (OwnK.lt hoN)).trans hcell0
      have HTk := Lib.hid (HT.out k hlt wr)
      have HAk := Lib.hid (fun W hW => HA.out W hW k hlt)
      have Hst := Lib.hid hst
      clear hst hno hcell0
      generalize types17.getD k tyD = T at *
      obtain ⟨nm, mt⟩ := T
      have HTk' : Hid (Calls Tryz.prog 120 #[.string ⟨nm.toArray⟩] wr (GotRowsB wr mt true)) := HTk
      have hcell' : wr.cell? ⟨gN, k, none⟩ = some (.string ⟨nm.toArray⟩) := hcell
      have Hcell' : Hid (w3.cell? ⟨gN, k, none⟩ = some (.string ⟨nm.toArray⟩)) := Hcell
      clear HTk hcell Hcell
      go_wp2_with fail
      refine HTk'.out.mono ?_
      rintro e w4 ⟨g4, c4, r4, rfl, hc4, ho4, hb4⟩
      have hbw4 := hbw.trans (hb4.mono hbw.size)
      have hb34 := hb.trans (hb4.mono hb.size)
      have hrt : Rows2 w4 g4 0 mt := by rw [← hc4]; exact ho4.rows2
      have Hiso := Lib.hid (HAk.out w4 hbw4 g4 c4 ho4.lt hrt)
      have Hiso' : Hid (Calls Tryz.prog 163 #[(Value.slice (some ⟨gc, oc, none⟩) n cc), (Value.slice (some ⟨g4, 0, none⟩) mt.length c4)] w4 (GotIntsB w4 (isoV c mt) (isoB c mt))) := Hiso
      have Hf' : Hid (isoB c mt = true → R = nm) := Hf
      have Hst' : Hid (nameTo c (k + 1) = if isoB c mt = true then some nm else none) := Hst
      clear HTk' HAk hc4 ho4 hb4 hrt Hiso Hf Hst hbw hb hcell'
      cases hi : isoB c mt with
      | true =>
        rw [hi] at Hiso'
        have Hr := Lib.hid (Hf'.out hi)
        clear hi
        go_wp2_with fail
        refine Hiso'.out.mono ?_
        rintro e w5 ⟨g5, c5, rfl, ho5, hb5⟩
        have hb35 := hb34.trans (hb5.mono hb34.size)
        have hcell5 := (hb35.cell (p := ⟨gN, k, none⟩) (OwnK.lt hoN)).trans Hcell'.out
        have hbw5 := hbw4.trans (hb5.mono hbw4.size)
        clear Hiso' ho5 hb5 hb34 hbw4
        go_wp2_with fail
        go_ret
        rw [Hr.out]
        exact ⟨rfl, hbw5⟩
      | false =>
        rw [hi] at Hiso'
        have hn2 := Hst'.out
        rw [hi] at hn2
        have Hn2 : Hid (nameTo c (k + 1) = none) := Lib.hid (by simpa using hn2)
        clear hi hn2
        go_wp2_with fail
        refine Hiso'.out.mono ?_
        rintro e w5 ⟨g5, c5, rfl, ho5, hb5⟩
        have hb35 := hb34.trans (hb5.mono hb34.size)
        clear Hiso' ho5 hb5 hb34 hbw4
        go_wp2_with fail
        go_roundw
        case rel => exact ⟨k + 1, by omega, by go_num, Hn2, hb35⟩
        case measure => simp [intOf]; omega
    · obtain rfl : 17 = k := by omega
      have Hr : Hid (R = [63]) := Lib.hid (Hnone.out hno.out)
      have Hcc := Lib.hid (Hcn.out wr hbw)
      go_wp2_with fail
      refine Hcc.out.mono ?_
      rintro e w5 ⟨rfl, hb5⟩
      have hbw5 := hbw.trans (hb5.mono hbw.size)
      clear hbw hb5 Hcc hb
      go_wp2_with fail
      go_ret
      rw [Hr.out]
      exact ⟨rfl, hbw5⟩
set_option maxHeartbeats 2000000 in
theorem impl_NameOfPart_ok (gc oc n cc : Nat) (c : List (List Int)) (w : World) (hn : c.length = n) (hC : IsC c) (hconn : (partsL c).length = 1) (hgc : gc < w.heap.size) (hr : Rows2 w gc oc c) (hm : MaxL w) :
    Calls Tryz.prog 180 #[(Value.slice (some ⟨gc, oc, none⟩) n cc)] w (Gives w (.string ⟨(nameP c).toArray⟩)) := by
  obtain ⟨seen, hP⟩ := parts_are hC
  have HA := Lib.hid (fun W (hW : Below w.heap.size w W) k (hk : k < 17) gt ct (hg : gt < W.heap.size) (ht : Rows2 W gt 0 (types17.getD k tyD).2) => impl_AreIsomorphic_ok gc oc n cc gt 0 _ ct c (types17.getD k tyD).2 W hn rfl hC (types_isC' hk) (Nat.lt_of_lt_of_le hgc hW.size) hg (hr.below hW hgc) ht)
  have HT := Lib.hid (fun k (hk : k < 17) W => impl_TypeCartan_ok k hk W)
  have hcn := impl_IsConnected_ok gc oc n cc c (partsL c) seen w hn hC hP.i (fun p hp => (hP.g p hp).l4) hgc hr
  rw [show ((partsL c).length == 1) = true by rw [hconn]; rfl] at hcn
  have Hcn := Lib.hid hcn
  have Hfound := Lib.hid (fun k (hk : k < 17) h => nameP_found (c := c) hk h)
  have Hstep := Lib.hid (fun k (hk : k < 17) h => nameTo_step (c := c) hk h)
  have Hnone := Lib.hid (fun h => nameP_none (c := c) h)
  have HS := Lib.hid (fun W (hW : Below w.heap.size w W) => split_names W (hm.below hW))
  clear hr hC hconn hP hcn hn hm
  generalize nameP c = R at *
  go_enter Tryz.func180, Tryz.ntmps180
  go_wp2_with fail
  refine Hcn.out.mono ?_
  rintro e w1 ⟨rfl, hb1⟩
  have Hs := Lib.hid (HS.out w1 hb1)
  clear Hcn HS
  go_wp2_with fail
  refine Hs.out.mono ?_
  rintro e w3 ⟨gN, cN, rfl, hoN, hbN⟩
  have hb3 := hb1.trans (hbN.mono hb1.size)
  clear hbN Hs hb1
  go_wp2_with fail
  go_loopw [4, 5, 6, 7, 8, 14] (fun _ _ _ _ _ kv wr => ∃ k : Nat, k ≤ 17 ∧ kv = .int .i64 k ∧ Hid (nameTo c k = none) ∧ Below w3.heap.size w3 wr) (fun _ _ _ _ _ kv _ => 17 - (intOf kv).toNat)
  case atStart => exact ⟨0, by omega, rfl, rfl, Below.refl _ _⟩
  case round =>
    obtain ⟨k, hk, rfl, hno, hb⟩ := hrel
    have hbw := hb3.trans (hb.mono hb3.size)
    by_cases hlt : k < 17
    · have Hf := Lib.hid (Hfound.out k hlt hno.out)
      have hst := Hstep.out k hlt hno.out
      have hcell0 := hoN.cell k _ (names_at hlt)
      rw [Nat.zero_add] at hcell0
      have Hcell := Lib.hid hcell0
      have hcell := (hb.cell (p := ⟨gN, k, none⟩) (OwnK.lt hoN)).trans hcell0
      have HTk := Lib.hid (HT.out k hlt wr)
      have HAk := Lib.hid (fun W hW => HA.out W hW k hlt)
      have Hst := Lib.hid hst
      clear hst hno hcell0
      generalize types17.getD k tyD = T at *
      obtain ⟨nm, mt⟩ := T
      have HTk' : Hid (Calls Tryz.prog 204 #[.string ⟨nm.toArray⟩] wr (GotRowsB wr mt true)) := HTk
      have hcell' : wr.cell? ⟨gN, k, none⟩ = some (.string ⟨nm.toArray⟩) := hcell
      have Hcell' : Hid (w3.cell? ⟨gN, k, none⟩ = some (.string ⟨nm.toArray⟩)) := Hcell
      clear HTk hcell Hcell
      go_wp2_with fail
      refine HTk'.out.mono ?_
      rintro e w4 ⟨g4, c4, r4, rfl, hc4, ho4, hb4⟩
      have hbw4 := hbw.trans (hb4.mono hbw.size)
      have hb34 := hb.trans (hb4.mono hb.size)
      have hrt : Rows2 w4 g4 0 mt := by rw [← hc4]; exact ho4.rows2
      have Hiso := Lib.hid (HAk.out w4 hbw4 g4 c4 ho4.lt hrt)
      have Hiso' : Hid (Calls Tryz.prog 205 #[(Value.slice (some ⟨gc, oc, none⟩) n cc), (Value.slice (some ⟨g4, 0, none⟩) mt.length c4)] w4 (GotIntsB w4 (isoV c mt) (isoB c mt))) := Hiso
      have Hf' : Hid (isoB c mt = true → R = nm) := Hf
      have Hst' : Hid (nameTo c (k + 1) = if isoB c mt = true then some nm else none) := Hst
      clear HTk' HAk hc4 ho4 hb4 hrt Hiso Hf Hst hbw hb hcell'
      cases hi : isoB c mt with
      | true =>
        rw [hi] at Hiso'
        have Hr := Lib.hid (Hf'.out hi)
        clear hi
        go_wp2_with fail
        refine Hiso'.out.mono ?_
        rintro e w5 ⟨g5, c5, rfl, ho5, hb5⟩
        have hb35 := hb34.trans (hb5.mono hb34.size)
        have hcell5 := (hb35.cell (p := ⟨gN, k, none⟩) (OwnK.lt hoN)).trans Hcell'.out
        have hbw5 := hbw4.trans (hb5.mono hbw4.size)
        clear Hiso' ho5 hb5 hb34 hbw4
        go_wp2_with fail
        go_ret
        rw [Hr.out]
        exact ⟨rfl, hbw5⟩
      | false =>
        rw [hi] at Hiso'
        have hn2 := Hst'.out
        rw [hi] at hn2
        have Hn2 : Hid (nameTo c (k + 1) = none) := Lib.hid (by simpa using hn2)
        clear hi hn2
        go_wp2_with fail
        refine Hiso'.out.mono ?_
        rintro e w5 ⟨g5, c5, rfl, ho5, hb5⟩
        have hb35 := hb34.trans (hb5.mono hb34.size)
        clear Hiso' ho5 hb5 hb34 hbw4
        go_wp2_with fail
        go_roundw
        case rel => exact ⟨k + 1, by omega, by go_num, Hn2, hb35⟩
        case measure => simp [intOf]; omega
    · obtain rfl : 17 = k := by omega
      have Hr : Hid (R = [63]) := Lib.hid (Hnone.out hno.out)
      go_wp2_with fail
      go_ret
      rw [Hr.out]
      exact ⟨rfl, hbw⟩
end Go.Proofs.YtdedkfbiookofaaGreatDoor
namespace Go.Proofs.YtdedkfbiookofaaGreatDoor
set_option maxRecDepth 100000
open Go.RowKit
open Go.Lib (join)
theorem joinx_snoc (c : UInt8) (x : List UInt8) : ∀ A : List (List UInt8), A ≠ [] → join (A ++ [x]) [c] = join A [c] ++ [c] ++ x
  | [], h => absurd rfl h
  | [a], _ => by simp [join, List.intercalate, List.intersperse]
  | a :: b :: A, _ => by
    have ih := joinx_snoc c x (b :: A) (by simp)
    have e1 : join (a :: b :: A) [c] = a ++ c :: join (b :: A) [c] := by simp [join, List.intercalate, List.intersperse]
    have e2 : join (a :: b :: A ++ [x]) [c] = a ++ c :: join (b :: A ++ [x]) [c] := by simp [join, List.intercalate, List.intersperse]
    rw [e2, ih, e1]
    simp
theorem join_len (c : UInt8) : ∀ L : List (List UInt8), (∀ x ∈ L, x.length ≤ 3) → (join L [c]).length ≤ 4 * L.length
  | [], _ => by simp [join, List.intercalate]
  | [a], h => by have := h a (by simp); simp [join, List.intercalate]; omega
  | a :: b :: L, h => by
    have ih := join_len c (b :: L) fun x hx => h x (by simp [hx])
    have ha := h a (by simp)
    have e1 : join (a :: b :: L) [c] = a ++ c :: join (b :: L) [c] := by simp [join, List.intercalate, List.intersperse]
    rw [e1]
    simp only [List.length_append, List.length_cons] at ih ⊢
    omega
/-- the names of all parts -/
def nameL (c : List (List Int)) : List Bs := (partsL c).map fun p => nameP (pickL c (intsOf p))
def nameTo2 (c : List (List Int)) (k : Nat) : List Bs := ((partsL c).take k).map fun p => nameP (pickL c (intsOf p))
theorem name_succ (c : List (List Int)) (k : Nat) (hk : k < (partsL c).length) : nameTo2 c (k + 1) = nameTo2 c k ++ [nameP (pickL c (intsOf ((partsL c).getD k [])))] := by
  have e : (partsL c).take (k + 1) = (partsL c).take k ++ [(partsL c)[k]] := List.take_succ_eq_append_getElem hk
  have e2 : (partsL c).getD k [] = (partsL c)[k] := by simp [List.getD, hk]
  unfold nameTo2
  rw [e, e2, List.map_append]
  rfl
theorem name_len (c : List (List Int)) (k : Nat) (hk : k ≤ (partsL c).length) : (nameTo2 c k).length = k := by unfold nameTo2; rw [List.length_map, List.length_take]; omega
theorem name_three (c : List (List Int)) (k : Nat) : ∀ x ∈ nameTo2 c k, x.length ≤ 3 := fun x hx => by
  obtain ⟨p, -, rfl⟩ := List.mem_map.1 hx
  exact (names_noX _ (nameP_mem _)).2.1
theorem name_all (c : List (List Int)) : nameTo2 c (partsL c).length = nameL c := by unfold nameTo2 nameL; rw [List.take_length]
theorem joinSx {w : World} {B g c n : Nat} {L : List (List UInt8)} (x : UInt8) (ho : OwnStrs w B g c (strs L)) (hn : L.length = n) (hN : n ≤ 1048576) (hl : (join L [x]).length ≤ 140737488355328) :
    Calls Tryz.prog 119 #[(Value.slice (some ⟨g, 0, none⟩) n c), .string ⟨#[x]⟩] w (Gives w (.string ⟨(join L [x]).toArray⟩)) := by
  subst hn
  have e44 : (⟨#[x]⟩ : ByteArray).data.toList = [x] := rfl
  have hsl : (strs L).length = L.length := by simp [strs]
  have hj := Any.strings_Join Tryz.lays156 Tryz.Builder_Extra_156 g 0 c (strs L) ⟨#[x]⟩ w ho.cell (OwnK.lt ho) (by omega) ho.capLe (by rw [strs_data, e44]; exact hl)
  change Calls Tryz.prog 119 _ _ _ at hj
  rw [strs_data, e44, hsl] at hj
  exact hj
theorem part_facts {c : List (List Int)} (hC : IsC c) : ∀ k, k < (partsL c).length → GoodS c.length ((partsL c).getD k []) ∧ (partsL (pickL c (intsOf ((partsL c).getD k [])))).length = 1 ∧ IsC (pickL c (intsOf ((partsL c).getD k []))) := fun k hk => by
  obtain ⟨seen, hP⟩ := parts_are hC
  have hm : (partsL c).getD k [] ∈ partsL c := by simp [List.getD, hk]
  exact ⟨hP.g _ hm, conn_all hC _ hm, pick_isC hC (hP.g _ hm)⟩
set_option maxHeartbeats 2000000 in
theorem impl_NameOf_ok (gc oc n cc : Nat) (c : List (List Int)) (w : World) (hn : c.length = n) (hC : IsC c) (hgc : gc < w.heap.size) (hr : Rows2 w gc oc c) (hm : MaxL w) :
    Calls Tryz.prog 157 #[(Value.slice (some ⟨gc, oc, none⟩) n cc)] w (Gives w (.string ⟨(join (nameL c) [120]).toArray⟩)) := by
  obtain ⟨seen, hPA⟩ := parts_are hC
  have hb0 : Below w.heap.size w (w.alloc (.cells #[] 9)) := (Below.refl _ _).alloc (Nat.le_refl _) _
  have hpo := impl_PartsOf_ok gc oc n cc c (partsL c) seen _ hn hC hPA.i (fun p hp => (hPA.g p hp).l4) (Nat.lt_of_lt_of_le hgc hb0.size) (hr.below hb0 hgc)
  have HO := Lib.hid hpo
  have hlen4 := hPA.len
  have HP := Lib.hid (part_facts hC)
  have HPk := Lib.hid (fun W (hW : Below w.heap.size w W) gk ck (p : List Nat) (hp : GoodS c.length p) (hg : gk < W.heap.size) (hc : Cells W gk 0 (intsOf p)) => impl_picked_any gc oc n cc gk 0 p.length ck c (intsOf p) W hn (intsOf_length p) (by rw [intsOf_length]; exact hp.l4) (fun j hj => hC.2.2.1 j hj) hp.in (Nat.lt_of_lt_of_le hgc hW.size) hg (hr.below hW hgc) hc)
  have HNP := Lib.hid (fun W (hW : Below w.heap.size w W) gk m ck (c2 : List (List Int)) (hm2 : c2.length = m) (h2 : IsC c2) (h1 : (partsL c2).length = 1) (hg : gk < W.heap.size) (hr2 : Rows2 W gk 0 c2) => impl_NameOfPart_ok gk 0 m ck c2 W hm2 h2 h1 hg hr2 (hm.below hW))
  have HE := Lib.hid (OwnStrs.empty (w := w) (B := w.heap.size) (Nat.le_refl _))
  clear hpo hn hC hr hm hPA
  go_enter Tryz.func157, Tryz.ntmps157
  go_wp2_with fail
  refine HO.out.mono ?_
  rintro e w3 ⟨gp, cp, rp, rfl, hcp, hop, hbp⟩
  rw [List.length_map]
  have hb3 := hb0.trans (hbp.mono hb0.size)
  have hE3 : OwnStrs w3 w.heap.size w.heap.size 0 (strs (nameTo2 c 0)) := OwnK.below HE.out hbp (OwnK.lt HE.out)
  have Hcp := Lib.hid hcp
  have Hrp : Hid (rp.length = (partsL c).length) := Lib.hid (by rw [← contents_length, hcp, List.length_map])
  have hwl : w.heap.size < w3.heap.size := OwnK.lt hE3
  have hgp : w.heap.size < gp := by have := hop.base; simp at this; omega
  have hrbase : Hid (∀ r ∈ rp, w.heap.size < r.1 ∧ r.1 < w3.heap.size) := Lib.hid (fun r hr => by have h1 := (hop.2.1 r hr).base; have h2 := (hop.2.1 r hr).lt; simp at h1; omega)
  have hgp3 := hop.lt
  clear HO hb0 HE hbp hcp
  go_wp2_with fail
  go_loopw [3, 5, 10] (fun ov _ kv wr => ∃ k gO cO : Nat, k ≤ (partsL c).length ∧ kv = .int .i64 k ∧ ov = (Value.slice (some ⟨gO, 0, none⟩) k cO) ∧ OwnStrs wr w.heap.size gO cO (strs (nameTo2 c k)) ∧ (gO = w.heap.size ∨ w3.heap.size ≤ gO) ∧ OwnRows wr w.heap.size gp cp rp ∧ w3.heap.size ≤ wr.heap.size ∧ Below w.heap.size w wr) (fun _ _ kv _ => (partsL c).length - (intOf kv).toNat)
  case atStart => exact ⟨0, w.heap.size, 0, Nat.zero_le _, rfl, rfl, hE3, .inl rfl, hop.mono (by simp), Nat.le_refl _, hb3⟩
  case round =>
    clear hE3 hop hb3
    obtain ⟨k, gO, cO, hk, rfl, rfl, ho, hgO, hop, hsz, hb⟩ := hrel
    by_cases hlt : k < (partsL c).length
    · obtain ⟨hgP, hcP, hiP⟩ := HP.out k hlt
      have hkr : k < rp.length := by rw [Hrp.out]; exact hlt
      have hrow : rp[k].2.2 = intsOf ((partsL c).getD k []) := by
        rw [← contents_getD rp k hkr, Hcp.out]
        simp [List.getD, hlt]
      have hok := hop.2.1 _ (List.getElem_mem hkr)
      have hcell := hop.1.cell k (by simpa using hkr)
      have Hsucc := Lib.hid (name_succ c k hlt)
      have hno1 : ∀ r ∈ rp, r.1 ≠ gO := fun r hr e => by
        have := hrbase.out r hr
        rcases hgO with h | h <;> omega
      have hno2 : gp ≠ gO := by rcases hgO with h | h <;> omega
      rw [hrow] at hok
      have hrv : rowVal rp[k] = (Value.slice (some ⟨(rp[k].1), 0, none⟩) (((partsL c).getD k []).length) (rp[k].2.1)) := by unfold rowVal; rw [hrow, intsOf_length]
      simp only [List.getElem_map, hrv] at hcell
      generalize rp[k].1 = gk at *
      generalize rp[k].2.1 = ck at *
      generalize (partsL c).getD k [] = p at *
      have Hpk := Lib.hid (HPk.out wr hb gk ck p hgP hok.lt hok.cells)
      have hpl : (pickL c (intsOf p)).length = p.length := by simp [pickL, intsOf]
      have hcP' := Lib.hid hcP; have hiP' := Lib.hid hiP; have Hpl := Lib.hid hpl; have Hno1 := Lib.hid hno1
      have Hnk := Lib.hid (name_len c k (by omega))
      clear hrow hrv hok hgP hcP hiP hkr hno1 hpl
      go_wp2_with fail
      refine Hpk.out.mono ?_
      rintro e w5 ⟨g5, c5, r5, rfl, hc5, ho5, hb5⟩
      have hb6 := hb.trans (hb5.mono hb.size)
      have Hnp := Lib.hid (HNP.out w5 hb6 g5 p.length c5 (pickL c (intsOf p)) Hpl.out hiP'.out hcP'.out ho5.lt (by rw [← hc5]; exact ho5.rows2))
      rw [Hpl.out]
      have ho6 : OwnStrs w5 w.heap.size gO cO (strs (nameTo2 c k)) := OwnK.below ho hb5 (OwnK.lt ho)
      have hop6 := hop.below hb5
      have hsz6 := Nat.le_trans hsz hb5.size
      clear Hpk hc5 ho5 hb5 ho hop hsz hb hcell
      generalize nameP (pickL c (intsOf p)) = S at *
      go_wp2_with fail
      refine Hnp.out.mono ?_
      rintro e w7 ⟨rfl, hb7⟩
      have hb8 := hb6.trans (hb7.mono hb6.size)
      have ho8 : OwnStrs w7 w.heap.size gO cO (strs (nameTo2 c k)) := OwnK.below ho6 hb7 (OwnK.lt ho6)
      have hop8 := hop6.below hb7
      have hsz8 := Nat.le_trans hsz6 hb7.size
      clear Hnp hb6 hb7 ho6 hop6 hsz6
      go_wp2_with (at_builtin; refine wpList_append_str rfl _ _ rfl w.heap.size gO cO k w7.heap.size (strs (nameTo2 c k)) ⟨S.toArray⟩ w7 _ (by unfold strs; rw [List.length_map]; exact Hnk.out) rfl rfl ho8 rfl rfl (by omega) ?_)
      intro g9 c9 w9 ho9 hg9 hor9
      have hb9 := hb8.grown hg9 hb8.size (by intro t ht; cases ht; exact OwnK.base ho8)
      have hop9 := hop8.grownK2 hg9 hno2 Hno1.out
      have hsz9 := Nat.le_trans hsz8 hg9.size
      have hgO9 : g9 = w.heap.size ∨ w3.heap.size ≤ g9 := by
        rcases hor9 with h | h
        · rw [h]; exact hgO
        · right; omega
      have ho10 : OwnStrs w9 w.heap.size g9 c9 (strs (nameTo2 c (k + 1))) := by
        rw [Hsucc.out]
        have e : strs (nameTo2 c k ++ [S]) = strs (nameTo2 c k) ++ [⟨S.toArray⟩] := by simp [strs]
        rw [e]
        exact ho9
      clear hb8 ho8 hop8 hsz8 ho9 hg9 hor9
      go_wp2_with fail
      go_roundw
      case rel => exact ⟨k + 1, g9, c9, by omega, by go_num, rfl, ho10, hgO9, hop9, hsz9, hb9⟩
      case measure => simp [intOf]; omega
    · obtain rfl : k = (partsL c).length := by omega
      have hj := joinSx 120 ho (name_len c _ (Nat.le_refl _)) (by omega) (by have := join_len 120 _ (name_three c (partsL c).length); rw [name_len c _ (Nat.le_refl _)] at this; omega)
      rw [name_all] at hj
      have Hj := Lib.hid hj
      clear hj ho hop
      go_wp2_with fail
      refine Hj.out.mono ?_
      rintro e w9 ⟨rfl, hb9⟩
      have hb10 := hb.trans (hb9.mono hb.size)
      clear Hj hb hb9
      go_wp2_with fail
      go_ret
      exact ⟨rfl, hb10⟩
set_option maxHeartbeats 2000000 in
theorem spec_NameOf_ok (gc oc n cc : Nat) (c : List (List Int)) (w : World) (hn : c.length = n) (hC : IsC c) (hgc : gc < w.heap.size) (hr : Rows2 w gc oc c) :
    Calls Tryz.prog 99 #[(Value.slice (some ⟨gc, oc, none⟩) n cc)] w (Gives w (.string ⟨(join (nameL c) [120]).toArray⟩)) := by
  obtain ⟨seen, hPA⟩ := parts_are hC
  have HO := Lib.hid (spec_PartsOf_ok gc oc n cc c (partsL c) w hn hC hPA.s hPA.p hgc hr)
  have hlen4 := hPA.len
  have HP := Lib.hid (part_facts hC)
  have HPk := Lib.hid (fun W (hW : Below w.heap.size w W) gk ck (p : List Nat) (hp : GoodS c.length p) (hg : gk < W.heap.size) (hc : Cells W gk 0 (intsOf p)) => spec_SubCartan_ok gc oc n cc gk 0 p.length ck c (intsOf p) W hn (intsOf_length p) hC (by rw [intsOf_length]; exact hp.l4) (by rw [intsOf_length]; exact hp.l1) hp.in hp.asc2 (Nat.lt_of_lt_of_le hgc hW.size) hg (hr.below hW hgc) hc)
  have HNP := Lib.hid (fun W (hW : Below w.heap.size w W) gk m ck (c2 : List (List Int)) (hm2 : c2.length = m) (h2 : IsC c2) (h1 : (partsL c2).length = 1) (hg : gk < W.heap.size) (hr2 : Rows2 W gk 0 c2) => spec_NameOfPart_ok gk 0 m ck c2 W hm2 h2 h1 hg hr2)
  have Hlen := Lib.hid (fun k (hk : k ≤ (partsL c).length) => show (join (nameTo2 c k) [120]).length ≤ 16 from by have := join_len 120 _ (name_three c k); rw [name_len c k hk] at this; omega)
  have hall := name_all c
  have Hall := Lib.hid hall
  clear hn hC hr hPA hall
  go_enter Tryz.func99, Tryz.ntmps99
  go_wp2_with fail
  refine HO.out.mono ?_
  rintro e w3 ⟨gp, cp, rp, rfl, hcp, hop, hb3⟩
  rw [List.length_map]
  have Hcp := Lib.hid hcp
  have Hrp : Hid (rp.length = (partsL c).length) := Lib.hid (by rw [← contents_length, hcp, List.length_map])
  clear HO hcp
  go_wp2_with fail
  go_loopw [4, 5, 6, 7] (fun sv kv _ _ wr => ∃ k : Nat, k ≤ (partsL c).length ∧ kv = .int .i64 k ∧ sv = .string ⟨(join (nameTo2 c k) [120]).toArray⟩ ∧ OwnRows wr w.heap.size gp cp rp ∧ Below w.heap.size w wr) (fun _ kv _ _ _ => (partsL c).length - (intOf kv).toNat)
  case atStart => exact ⟨0, Nat.zero_le _, rfl, rfl, hop, hb3⟩
  case round =>
    clear hop hb3
    obtain ⟨k, hk, rfl, rfl, hop, hb⟩ := hrel
    by_cases hlt : k < (partsL c).length
    · obtain ⟨hgP, hcP, hiP⟩ := HP.out k hlt
      have hkr : k < rp.length := by rw [Hrp.out]; exact hlt
      have hrow : rp[k].2.2 = intsOf ((partsL c).getD k []) := by
        rw [← contents_getD rp k hkr, Hcp.out]
        simp [List.getD, hlt]
      have hok := hop.2.1 _ (List.getElem_mem hkr)
      have hcell := hop.1.cell k (by simpa using hkr)
      have hsucc := name_succ c k hlt
      rw [hrow] at hok
      have hrv : rowVal rp[k] = (Value.slice (some ⟨(rp[k].1), 0, none⟩) (((partsL c).getD k []).length) (rp[k].2.1)) := by unfold rowVal; rw [hrow, intsOf_length]
      simp only [List.getElem_map, hrv] at hcell
      generalize rp[k].1 = gk at *
      generalize rp[k].2.1 = ck at *
      generalize (partsL c).getD k [] = p at *
      have Hpk := Lib.hid (HPk.out wr hb gk ck p hgP hok.lt hok.cells)
      have hpl : (pickL c (intsOf p)).length = p.length := by simp [pickL, intsOf]
      have hcP' := Lib.hid hcP; have hiP' := Lib.hid hiP; have Hpl := Lib.hid hpl
      have Hpl2 : Hid ((intsOf p).length = p.length) := Lib.hid (intsOf_length p)
      have hl1 := Hlen.out (k + 1) hlt
      rw [hsucc] at hl1
      have Hsucc := Lib.hid hsucc
      by_cases h0 : k = 0
      · subst h0
        have Hadd : Hid (∀ W, (Op.stringOp .add ⟨(join (nameTo2 c 0) [120]).toArray⟩ ⟨(nameP (pickL c (intsOf p))).toArray⟩).run Tryz.prog W = .ok (.string ⟨(join (nameTo2 c (0 + 1)) [120]).toArray⟩) W) := Lib.hid (fun W => addS W _ _ _ (by rw [Hsucc.out]; simp [nameTo2, join, List.intercalate]) (by rw [Hsucc.out]; omega))
        clear hrow hrv hok hgP hcP hiP hkr hpl hsucc hl1
        generalize join (nameTo2 c 0) [120] = S0 at *
        generalize hS1 : join (nameTo2 c (0 + 1)) [120] = S1 at *
        have HS1 := Lib.hid hS1
        clear hS1
        go_wp2_with fail
        refine Hpk.out.mono ?_
        rintro e w5 ⟨g5, c5, r5, rfl, hc5, ho5, hb5⟩
        rw [Hpl2.out]
        have hb6 := hb.trans (hb5.mono hb.size)
        have Hnp := Lib.hid (HNP.out w5 hb6 g5 p.length c5 (pickL c (intsOf p)) Hpl.out hiP'.out hcP'.out ho5.lt (by rw [← hc5]; exact ho5.rows2))
        have hop6 := hop.below hb5
        clear Hpk hc5 ho5 hb5 hop hb hcell
        generalize nameP (pickL c (intsOf p)) = S at *
        go_wp2_with fail
        refine Hnp.out.mono ?_
        rintro e w7 ⟨rfl, hb7⟩
        have hb8 := hb6.trans (hb7.mono hb6.size)
        have hop8 := hop6.below hb7
        have e2 := Hadd.out w7
        clear Hnp hb6 hb7 hop6
        go_wp2_with fail
        go_roundw
        case rel => exact ⟨0 + 1, by omega, by go_num, by rw [HS1.out], hop8, hb8⟩
        case measure => simp [intOf]; omega
      · have Hadd1 : Hid (∀ W, (Op.stringOp .add ⟨(join (nameTo2 c k) [120]).toArray⟩ ⟨#[120]⟩).run Tryz.prog W = .ok (.string ⟨(join (nameTo2 c k) [120] ++ [120]).toArray⟩) W) := Lib.hid (fun W => addS W _ [120] _ rfl (by have := Hlen.out k hk; rw [List.length_append]; simp; omega))
        have Hadd : Hid (∀ W, (Op.stringOp .add ⟨(join (nameTo2 c k) [120] ++ [120]).toArray⟩ ⟨(nameP (pickL c (intsOf p))).toArray⟩).run Tryz.prog W = .ok (.string ⟨(join (nameTo2 c (k + 1)) [120]).toArray⟩) W) := Lib.hid (fun W => addS W _ _ _ (by
          rw [Hsucc.out, joinx_snoc 120 _ _ (fun e => by have h9 := congrArg List.length e; rw [name_len c k hk] at h9; exact h0 h9)]) (by rw [Hsucc.out]; omega))
        have hkz : (0 : Int) < (k : Int) := by omega
        have e1 := Hadd1.out wr
        clear hrow hrv hok hgP hcP hiP hkr hpl hsucc hl1 Hadd1
        generalize hS0 : join (nameTo2 c k) [120] = S0 at *
        generalize hS1 : join (nameTo2 c (k + 1)) [120] = S1 at *
        have HS1 := Lib.hid hS1
        clear hS0 hS1
        go_wp2_with fail
        refine Hpk.out.mono ?_
        rintro e w5 ⟨g5, c5, r5, rfl, hc5, ho5, hb5⟩
        rw [Hpl2.out]
        have hb6 := hb.trans (hb5.mono hb.size)
        have Hnp := Lib.hid (HNP.out w5 hb6 g5 p.length c5 (pickL c (intsOf p)) Hpl.out hiP'.out hcP'.out ho5.lt (by rw [← hc5]; exact ho5.rows2))
        have hop6 := hop.below hb5
        clear Hpk hc5 ho5 hb5 hop hb hcell
        generalize nameP (pickL c (intsOf p)) = S at *
        go_wp2_with fail
        refine Hnp.out.mono ?_
        rintro e w7 ⟨rfl, hb7⟩
        have hb8 := hb6.trans (hb7.mono hb6.size)
        have hop8 := hop6.below hb7
        have e2 := Hadd.out w7
        clear Hnp hb6 hb7 hop6
        go_wp2_with fail
        go_roundw
        case rel => exact ⟨k + 1, by omega, by go_num, by rw [HS1.out], hop8, hb8⟩
        case measure => simp [intOf]; omega
    · obtain rfl : k = (partsL c).length := by omega
      rw [Hall.out]
      go_wp2_with fail
      go_ret
      exact ⟨rfl, hb⟩
end Go.Proofs.YtdedkfbiookofaaGreatDoor
namespace Go.Proofs.YtdedkfbiookofaaGreatDoor
set_option maxRecDepth 100000
open Go.RowKit
open Go.Lib (join)
set_option maxHeartbeats 400000 in
theorem impl_sizeT_0 (w : World) : Calls Tryz.prog 178 #[.string ⟨#[65, 49]⟩] w (Reads w (.int .i64 (sizeT (names17.getD 0 [])))) := by
  have e : sizeT (names17.getD 0 []) = 2 := by decide
  rw [e]
  clear e
  go_enter Tryz.func178, Tryz.ntmps178
  go_wp2_with fail
  go_ret
  exact ⟨rfl, 0, rfl⟩
set_option maxHeartbeats 400000 in
theorem impl_sizeT_1 (w : World) : Calls Tryz.prog 178 #[.string ⟨#[65, 50]⟩] w (Reads w (.int .i64 (sizeT (names17.getD 1 [])))) := by
  have e : sizeT (names17.getD 1 []) = 6 := by decide
  rw [e]
  clear e
  go_enter Tryz.func178, Tryz.ntmps178
  go_wp2_with fail
  go_ret
  exact ⟨rfl, 0, rfl⟩
set_option maxHeartbeats 400000 in
theorem impl_sizeT_2 (w : World) : Calls Tryz.prog 178 #[.string ⟨#[65, 51]⟩] w (Reads w (.int .i64 (sizeT (names17.getD 2 [])))) := by
  have e : sizeT (names17.getD 2 []) = 24 := by decide
  rw [e]
  clear e
  go_enter Tryz.func178, Tryz.ntmps178
  go_wp2_with fail
  go_ret
  exact ⟨rfl, 0, rfl⟩
set_option maxHeartbeats 400000 in
theorem impl_sizeT_3 (w : World) : Calls Tryz.prog 178 #[.string ⟨#[65, 52]⟩] w (Reads w (.int .i64 (sizeT (names17.getD 3 [])))) := by
  have e : sizeT (names17.getD 3 []) = 120 := by decide
  rw [e]
  clear e
  go_enter Tryz.func178, Tryz.ntmps178
  go_wp2_with fail
  go_ret
  exact ⟨rfl, 0, rfl⟩
set_option maxHeartbeats 400000 in
theorem impl_sizeT_4 (w : World) : Calls Tryz.prog 178 #[.string ⟨#[66, 50]⟩] w (Reads w (.int .i64 (sizeT (names17.getD 4 [])))) := by
  have e : sizeT (names17.getD 4 []) = 8 := by decide
  rw [e]
  clear e
  go_enter Tryz.func178, Tryz.ntmps178
  go_wp2_with fail
  go_ret
  exact ⟨rfl, 0, rfl⟩
set_option maxHeartbeats 400000 in
theorem impl_sizeT_5 (w : World) : Calls Tryz.prog 178 #[.string ⟨#[66, 51]⟩] w (Reads w (.int .i64 (sizeT (names17.getD 5 [])))) := by
  have e : sizeT (names17.getD 5 []) = 48 := by decide
  rw [e]
  clear e
  go_enter Tryz.func178, Tryz.ntmps178
  go_wp2_with fail
  go_ret
  exact ⟨rfl, 0, rfl⟩
set_option maxHeartbeats 400000 in
theorem impl_sizeT_6 (w : World) : Calls Tryz.prog 178 #[.string ⟨#[66, 52]⟩] w (Reads w (.int .i64 (sizeT (names17.getD 6 [])))) := by
  have e : sizeT (names17.getD 6 []) = 384 := by decide
  rw [e]
  clear e
  go_enter Tryz.func178, Tryz.ntmps178
  go_wp2_with fail
  go_ret
  exact ⟨rfl, 0, rfl⟩
set_option maxHeartbeats 400000 in
theorem impl_sizeT_7 (w : World) : Calls Tryz.prog 178 #[.string ⟨#[67, 51]⟩] w (Reads w (.int .i64 (sizeT (names17.getD 7 [])))) := by
  have e : sizeT (names17.getD 7 []) = 48 := by decide
  rw [e]
  clear e
  go_enter Tryz.func178, Tryz.ntmps178
  go_wp2_with fail
  go_ret
  exact ⟨rfl, 0, rfl⟩
set_option maxHeartbeats 400000 in
theorem impl_sizeT_8 (w : World) : Calls Tryz.prog 178 #[.string ⟨#[67, 52]⟩] w (Reads w (.int .i64 (sizeT (names17.getD 8 [])))) := by
  have e : sizeT (names17.getD 8 []) = 384 := by decide
  rw [e]
  clear e
  go_enter Tryz.func178, Tryz.ntmps178
  go_wp2_with fail
  go_ret
  exact ⟨rfl, 0, rfl⟩
set_option maxHeartbeats 400000 in
theorem impl_sizeT_9 (w : World) : Calls Tryz.prog 178 #[.string ⟨#[68, 52]⟩] w (Reads w (.int .i64 (sizeT (names17.getD 9 [])))) := by
  have e : sizeT (names17.getD 9 []) = 192 := by decide
  rw [e]
  clear e
  go_enter Tryz.func178, Tryz.ntmps178
  go_wp2_with fail
  go_ret
  exact ⟨rfl, 0, rfl⟩
set_option maxHeartbeats 400000 in
theorem impl_sizeT_10 (w : World) : Calls Tryz.prog 178 #[.string ⟨#[70, 52]⟩] w (Reads w (.int .i64 (sizeT (names17.getD 10 [])))) := by
  have e : sizeT (names17.getD 10 []) = 1152 := by decide
  rw [e]
  clear e
  go_enter Tryz.func178, Tryz.ntmps178
  go_wp2_with fail
  go_ret
  exact ⟨rfl, 0, rfl⟩
set_option maxHeartbeats 400000 in
theorem impl_sizeT_11 (w : World) : Calls Tryz.prog 178 #[.string ⟨#[71, 50]⟩] w (Reads w (.int .i64 (sizeT (names17.getD 11 [])))) := by
  have e : sizeT (names17.getD 11 []) = 12 := by decide
  rw [e]
  clear e
  go_enter Tryz.func178, Tryz.ntmps178
  go_wp2_with fail
  go_ret
  exact ⟨rfl, 0, rfl⟩
set_option maxHeartbeats 400000 in
theorem impl_sizeT_12 (w : World) : Calls Tryz.prog 178 #[.string ⟨#[65, 49, 126]⟩] w (Reads w (.int .i64 (sizeT (names17.getD 12 [])))) := by
  have e : sizeT (names17.getD 12 []) = 0 := by decide
  rw [e]
  clear e
  go_enter Tryz.func178, Tryz.ntmps178
  go_wp2_with fail
  go_ret
  exact ⟨rfl, 0, rfl⟩
set_option maxHeartbeats 400000 in
theorem impl_sizeT_13 (w : World) : Calls Tryz.prog 178 #[.string ⟨#[65, 50, 126]⟩] w (Reads w (.int .i64 (sizeT (names17.getD 13 [])))) := by
  have e : sizeT (names17.getD 13 []) = 0 := by decide
  rw [e]
  clear e
  go_enter Tryz.func178, Tryz.ntmps178
  go_wp2_with fail
  go_ret
  exact ⟨rfl, 0, rfl⟩
set_option maxHeartbeats 400000 in
theorem impl_sizeT_14 (w : World) : Calls Tryz.prog 178 #[.string ⟨#[65, 51, 126]⟩] w (Reads w (.int .i64 (sizeT (names17.getD 14 [])))) := by
  have e : sizeT (names17.getD 14 []) = 0 := by decide
  rw [e]
  clear e
  go_enter Tryz.func178, Tryz.ntmps178
  go_wp2_with fail
  go_ret
  exact ⟨rfl, 0, rfl⟩
set_option maxHeartbeats 400000 in
theorem impl_sizeT_15 (w : World) : Calls Tryz.prog 178 #[.string ⟨#[67, 50, 126]⟩] w (Reads w (.int .i64 (sizeT (names17.getD 15 [])))) := by
  have e : sizeT (names17.getD 15 []) = 0 := by decide
  rw [e]
  clear e
  go_enter Tryz.func178, Tryz.ntmps178
  go_wp2_with fail
  go_ret
  exact ⟨rfl, 0, rfl⟩
set_option maxHeartbeats 400000 in
theorem impl_sizeT_16 (w : World) : Calls Tryz.prog 178 #[.string ⟨#[71, 50, 126]⟩] w (Reads w (.int .i64 (sizeT (names17.getD 16 [])))) := by
  have e : sizeT (names17.getD 16 []) = 0 := by decide
  rw [e]
  clear e
  go_enter Tryz.func178, Tryz.ntmps178
  go_wp2_with fail
  go_ret
  exact ⟨rfl, 0, rfl⟩
set_option maxHeartbeats 400000 in
theorem impl_sizeT_17 (w : World) : Calls Tryz.prog 178 #[.string ⟨#[63]⟩] w (Reads w (.int .i64 (sizeT (names17.getD 17 [])))) := by
  have e : sizeT (names17.getD 17 []) = 0 := by decide
  rw [e]
  clear e
  go_enter Tryz.func178, Tryz.ntmps178
  go_wp2_with fail
  go_ret
  exact ⟨rfl, 0, rfl⟩
theorem impl_sizeOfType_ok (s : Bs) (hs : s ∈ names17) (w : World) : Calls Tryz.prog 178 #[.string ⟨s.toArray⟩] w (Reads w (.int .i64 (sizeT s))) := by
  have hl : names17.length = 18 := rfl
  obtain ⟨k, hk, e⟩ := List.mem_iff_getElem.1 hs
  have e2 : names17.getD k [] = s := by simp [List.getD, hk, e]
  rw [hl] at hk
  have : k = 0 ∨ k = 1 ∨ k = 2 ∨ k = 3 ∨ k = 4 ∨ k = 5 ∨ k = 6 ∨ k = 7 ∨ k = 8 ∨ k = 9 ∨ k = 10 ∨ k = 11 ∨ k = 12 ∨ k = 13 ∨ k = 14 ∨ k = 15 ∨ k = 16 ∨ k = 17 := by omega
  rw [← e2]
  clear e e2 hs hl
  rcases this with rfl | rfl | rfl | rfl | rfl | rfl | rfl | rfl | rfl | rfl | rfl | rfl | rfl | rfl | rfl | rfl | rfl | rfl
  · exact impl_sizeT_0 w
  · exact impl_sizeT_1 w
  · exact impl_sizeT_2 w
  · exact impl_sizeT_3 w
  · exact impl_sizeT_4 w
  · exact impl_sizeT_5 w
  · exact impl_sizeT_6 w
  · exact impl_sizeT_7 w
  · exact impl_sizeT_8 w
  · exact impl_sizeT_9 w
  · exact impl_sizeT_10 w
  · exact impl_sizeT_11 w
  · exact impl_sizeT_12 w
  · exact impl_sizeT_13 w
  · exact impl_sizeT_14 w
  · exact impl_sizeT_15 w
  · exact impl_sizeT_16 w
  · exact impl_sizeT_17 w
/-- the product of the sizes -/
def prodT (L : List Bs) : Int := L.foldl (fun a s => a * sizeT s) 1
theorem prodT_succ (L : List Bs) (k : Nat) (hk : k < L.length) : prodT (L.take (k + 1)) = prodT (L.take k) * sizeT (L.getD k []) := by
  have e : L.take (k + 1) = L.take k ++ [L[k]] := List.take_succ_eq_append_getElem hk
  have e2 : L.getD k [] = L[k] := by simp [List.getD, hk]
  rw [e, e2]
  unfold prodT
  rw [List.foldl_append]
  rfl
def pw : Nat → Int
  | 0 => 1
  | k + 1 => pw k * 1152
theorem pw_le {k : Nat} (h : k ≤ 4) : pw k ≤ 1761205026816 ∧ 1 ≤ pw k := by
  have : k = 0 ∨ k = 1 ∨ k = 2 ∨ k = 3 ∨ k = 4 := by omega
  rcases this with rfl | rfl | rfl | rfl | rfl <;> decide
theorem mulT {x y p : Int} (hx : 0 ≤ x ∧ x ≤ p) (hy : 0 ≤ y ∧ y ≤ 1152) : 0 ≤ x * y ∧ x * y ≤ p * 1152 := by
  refine ⟨Int.mul_nonneg hx.1 hy.1, ?_⟩
  have h1 : x * y ≤ x * 1152 := Int.mul_le_mul_of_nonneg_left hy.2 hx.1
  have h2 : x * 1152 ≤ p * 1152 := Int.mul_le_mul_of_nonneg_right hx.2 (by omega)
  omega
theorem prodT_bound {L : List Bs} (h : ∀ s ∈ L, s ∈ names17) : ∀ k, k ≤ L.length → 0 ≤ prodT (L.take k) ∧ prodT (L.take k) ≤ pw k
  | 0, _ => by simp [prodT, pw]
  | k + 1, hk => by
    have ih := prodT_bound h k (by omega)
    rw [prodT_succ L k (by omega)]
    have hm : L.getD k [] ∈ names17 := h _ (by simp [List.getD, show k < L.length by omega])
    have h2 := names_noX _ hm
    exact mulT ih ⟨h2.2.2.2.1, h2.2.2.2.2⟩
set_option maxHeartbeats 1000000 in
theorem impl_SizeByName_ok (L : List Bs) (w : World) (hL : L ≠ []) (hl4 : L.length ≤ 4) (h : ∀ s ∈ L, s ∈ names17) (hm : MaxL w) :
    Calls Tryz.prog 156 #[.string ⟨(join L [120]).toArray⟩] w (Gives w (.int .i64 (prodT L))) := by
  have hs := split_ok 120 L w hL (by omega) (fun x hx => (names_noX _ (h x hx)).1) (by have := join_len 120 L (fun x hx => (names_noX _ (h x hx)).2.1); omega) hm
  have HS := Lib.hid hs
  have HZ := Lib.hid (fun k (hk : k < L.length) W => impl_sizeOfType_ok (L.getD k []) (h _ (by simp [List.getD, hk])) W)
  have HB := Lib.hid (fun k (hk : k ≤ L.length) => prodT_bound h k hk)
  have HP := Lib.hid (fun k (hk : k < L.length) => prodT_succ L k hk)
  have HA : Hid (prodT (L.take L.length) = prodT L) := Lib.hid (by rw [List.take_length])
  have hz4 : ¬ (4 : Int) < (L.length : Int) := by omega
  clear hs hm h
  generalize prodT L = R at *
  generalize (⟨(join L [120]).toArray⟩ : ByteArray) = nm at *
  go_enter Tryz.func156, Tryz.ntmps156
  go_wp2_with fail
  refine HS.out.mono ?_
  rintro e w1 ⟨g1, rfl, ho1, hb1⟩
  clear HS
  go_wp2_with fail
  go_loopw [4, 6, 14] (fun zv _ kv wr => ∃ k : Nat, k ≤ L.length ∧ kv = .int .i64 k ∧ zv = .int .i64 (prodT (L.take k)) ∧ Below w1.heap.size w1 wr) (fun _ _ kv _ => L.length - (intOf kv).toNat)
  case atStart => exact ⟨0, Nat.zero_le _, rfl, rfl, Below.refl _ _⟩
  case round =>
    obtain ⟨k, hk, rfl, rfl, hb⟩ := hrel
    by_cases hlt : k < L.length
    · have hcell := ho1.cell k ⟨(L.getD k []).toArray⟩ (by simp [strs, List.getD, hlt])
      rw [Nat.zero_add] at hcell
      have hcellr := (hb.cell (p := ⟨g1, k, none⟩) (OwnK.lt ho1)).trans hcell
      have HZk := Lib.hid (HZ.out k hlt)
      have hpk := HP.out k hlt
      have hbk := HB.out (k + 1) hlt
      have hpw := pw_le (k := k + 1) (by omega)
      rw [hpk] at hbk
      have Hpk := Lib.hid hpk
      clear hpk hcell
      generalize L.getD k [] = s at *
      generalize sizeT s = z at *
      generalize prodT (L.take k) = x at *
      generalize pw (k + 1) = P at *
      have hw : IntKind.i64.wrap (x * z) = x * z := IntWalk.i64_in _ ⟨by omega, by omega⟩
      go_wp2_with fail
      refine (HZk.out _).mono ?_
      rintro e w2 ⟨rfl, hs2⟩
      have hb2 := below_still hb hs2
      clear hb hs2 HZk hcellr
      go_wp2_with fail
      go_roundw
      case rel => exact ⟨k + 1, by omega, by go_num, by rw [Hpk.out], hb2⟩
      case measure => simp [intOf]; omega
    · obtain rfl : k = L.length := by omega
      rw [HA.out]
      have hb9 := hb1.trans (hb.mono hb1.size)
      go_wp2_with fail
      go_ret
      exact ⟨rfl, hb9⟩
end Go.Proofs.YtdedkfbiookofaaGreatDoor
namespace Go.Proofs.YtdedkfbiookofaaGreatDoor
set_option maxRecDepth 100000
open Go.RowKit
open Go.Lib (join)
def cutG (c : UInt8) (st : List Bs × Bs) (b : UInt8) : List Bs × Bs := if b = c then (st.1 ++ [st.2], []) else (st.1, st.2 ++ [b])
def cutN (c : UInt8) (s : Bs) (k : Nat) : List Bs × Bs := (s.take k).foldl (cutG c) ([], [])
theorem cutN_succ (c : UInt8) (s : Bs) (k : Nat) (hk : k < s.length) : cutN c s (k + 1) = cutG c (cutN c s k) s[k] := by
  unfold cutN
  rw [List.take_succ_eq_append_getElem hk, List.foldl_append]
  rfl
theorem cut_plain (c : UInt8) : ∀ (x : Bs) (st : List Bs × Bs), c ∉ x → x.foldl (cutG c) st = (st.1, st.2 ++ x)
  | [], st, _ => by simp
  | b :: x, st, h => by
    have hb : b ≠ c := fun e => h (by simp [e])
    rw [List.foldl_cons, show cutG c st b = (st.1, st.2 ++ [b]) from if_neg hb, cut_plain c x _ (fun hm => h (by simp [hm]))]
    simp
theorem cut_join (c : UInt8) : ∀ (L : List Bs) (out : List Bs), L ≠ [] → (∀ x ∈ L, c ∉ x) → ((join L [c]).foldl (cutG c) (out, [])).1 ++ [((join L [c]).foldl (cutG c) (out, [])).2] = out ++ L
  | [], _, h, _ => absurd rfl h
  | [x], out, _, h => by
    have e : join [x] [c] = x := by simp [join, List.intercalate]
    rw [e, cut_plain c x _ (h x (by simp))]
    simp
  | x :: y :: L, out, _, h => by
    have ih := cut_join c (y :: L) (out ++ [x]) (by simp) fun z hz => h z (by simp [hz])
    have e : join (x :: y :: L) [c] = x ++ c :: join (y :: L) [c] := by simp [join, List.intercalate, List.intersperse]
    rw [e, List.foldl_append, cut_plain c x _ (h x (by simp)), List.foldl_cons, show cutG c (out, [] ++ x) c = (out ++ [x], []) from by simp [cutG]]
    rw [ih]
    simp
theorem cutN_len (c : UInt8) (s : Bs) : ∀ k, k ≤ s.length → (cutN c s k).1.length ≤ k ∧ (cutN c s k).2.length ≤ k
  | 0, _ => by simp [cutN]
  | k + 1, hk => by
    have ih := cutN_len c s k (by omega)
    rw [cutN_succ c s k (by omega)]
    unfold cutG
    split
    · simp; omega
    · simp; omega
set_option maxHeartbeats 1000000 in
theorem spec_l2Cut_ok (s : Bs) (c : UInt8) (w : World) (hl : s.length ≤ 100000) :
    Calls Tryz.prog 135 #[.string ⟨s.toArray⟩, .int .u8 (c.toNat : Int)] w fun e w' => ∃ g cap, e = .returned (Value.slice (some ⟨g, 0, none⟩) ((cutN c s s.length).1.length + 1) cap) ∧ OwnStrs w' w.heap.size g cap (strs ((cutN c s s.length).1 ++ [(cutN c s s.length).2])) ∧ Below w.heap.size w w' := by
  go_enter Tryz.func135, Tryz.ntmps135
  go_wp2_with fail
  go_loopw [5, 6, 7] (fun ov pv iv wr => ∃ (k gO cO p : Nat), k ≤ s.length ∧ p ≤ k ∧ iv = .int .i64 k ∧ pv = .string ⟨(cutN c s k).2.toArray⟩ ∧ ov = (Value.slice (some ⟨gO, 0, none⟩) p cO) ∧ Hid ((cutN c s k).1.length = p) ∧ OwnStrs wr w.heap.size gO cO (strs (cutN c s k).1) ∧ Below w.heap.size w wr) (fun _ _ iv _ => s.length - (intOf iv).toNat)
  case atStart => exact ⟨0, w.heap.size, 0, 0, Nat.zero_le _, Nat.le_refl _, rfl, rfl, rfl, rfl, OwnStrs.empty (Nat.le_refl _), (Below.refl _ _).alloc (Nat.le_refl _) _⟩
  case round =>
    obtain ⟨k, gO, cO, p, hk, hpk, rfl, rfl, rfl, hp, ho, hb⟩ := hrel
    by_cases hlt : k < s.length
    · have hsucc := cutN_succ c s k hlt
      have hx : (⟨s.toArray⟩ : ByteArray)[k]'(by simpa [ByteArray.size] using hlt) = s[k] := by
        show s.toArray[k] = s[k]
        simp
      by_cases hc : s[k] = c
      · have hl2 : Hid ((strs (cutN c s k).1).length = p) := Lib.hid (by unfold strs; rw [List.length_map]; exact hp.out)
        have hB : ((s[k].toNat : Int) == (c.toNat : Int)) = true := by
          rw [beq_iff_eq, hc]
        go_wp2_with (at_builtin; refine wpList_append_str rfl _ _ rfl w.heap.size gO cO p wr.heap.size (strs (cutN c s k).1) ⟨(cutN c s k).2.toArray⟩ wr _ hl2.out rfl rfl ho rfl rfl (by omega) ?_)
        intro g9 c9 w9 ho9 hg9 hor9
        have hb9 := hb.grown hg9 hb.size (by intro t ht; cases ht; exact OwnK.base ho)
        have hn : cutN c s (k + 1) = ((cutN c s k).1 ++ [(cutN c s k).2], []) := by rw [hsucc]; unfold cutG; rw [if_pos hc]
        have ho10 : OwnStrs w9 w.heap.size g9 c9 (strs (cutN c s (k + 1)).1) := by
          have e : strs (cutN c s (k + 1)).1 = strs (cutN c s k).1 ++ [⟨(cutN c s k).2.toArray⟩] := by rw [hn]; simp [strs]
          rw [e]
          exact ho9
        clear ho9 hg9 hor9 hb ho
        go_wp2_with fail
        refine ⟨⟨k + 1, g9, c9, p + 1, by omega, by omega, rfl, by rw [hn], rfl, Lib.hid (by rw [hn, List.length_append, hp.out, List.length_singleton]), ho10, hb9⟩, ?_⟩
        simp only [intOf]
        omega
      · have hn : cutN c s (k + 1) = ((cutN c s k).1, (cutN c s k).2 ++ [s[k]]) := by rw [hsucc]; unfold cutG; rw [if_neg hc]
        have hB : ((s[k].toNat : Int) == (c.toNat : Int)) = false := by
          rw [beq_eq_false_iff_ne]
          intro h
          exact hc (UInt8.toNat_inj.mp (by omega))
        have e1 := addS wr (cutN c s k).2 [s[k]] _ rfl (by have := (cutN_len c s k hk).2; simp only [List.length_append, List.length_cons, List.length_nil]; omega)
        have e2 : (⟨s.toArray⟩ : ByteArray).extract k (k + 1) = ⟨([s[k]] : Bs).toArray⟩ := by
          apply ByteArray.ext
          simp [ByteArray.data_extract]
          rw [List.drop_eq_getElem_cons hlt]
          rfl
        go_wp2_with fail
        refine ⟨⟨k + 1, gO, cO, p, by omega, by omega, rfl, by rw [hn], rfl, Lib.hid (by rw [hn]; exact hp.out), by rw [hn]; exact ho, hb⟩, ?_⟩
        simp only [intOf]
        omega
    · obtain rfl : k = s.length := by omega
      have hl2 : Hid ((strs (cutN c s s.length).1).length = p) := Lib.hid (by unfold strs; rw [List.length_map]; exact hp.out)
      go_wp2_with (at_builtin; refine wpList_append_str rfl _ _ rfl w.heap.size gO cO p wr.heap.size (strs (cutN c s s.length).1) ⟨(cutN c s s.length).2.toArray⟩ wr _ hl2.out rfl rfl ho rfl rfl (by omega) ?_)
      intro g9 c9 w9 ho9 hg9 hor9
      have hb9 := hb.grown hg9 hb.size (by intro t ht; cases ht; exact OwnK.base ho)
      have ho10 : OwnStrs w9 w.heap.size g9 c9 (strs ((cutN c s s.length).1 ++ [(cutN c s s.length).2])) := by
        have e : strs ((cutN c s s.length).1 ++ [(cutN c s s.length).2]) = strs (cutN c s s.length).1 ++ [⟨(cutN c s s.length).2.toArray⟩] := by simp [strs]
        rw [e]
        exact ho9
      clear ho9 hg9 hor9 hb ho
      go_wp2_with fail
      go_ret
      exact ⟨g9, c9, by rw [hp.out]; rfl, ho10, hb9⟩
end Go.Proofs.YtdedkfbiookofaaGreatDoor
