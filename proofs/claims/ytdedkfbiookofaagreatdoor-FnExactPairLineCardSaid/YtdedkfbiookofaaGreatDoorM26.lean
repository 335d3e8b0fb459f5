/- GrowthKind: contracts. The parts of a diagram are connected: by enumeration of zero patterns. Plain law. NameOfPart of both: contracts. -/
import Derived.Test.YtdedkfbiookofaaGreatDoorM25
import Derived.Test.YtdedkfbiookofaaGreatDoorM18
import Derived.Test.YtdedkfbiookofaaGreatDoorM22
import Derived.Test.YtdedkfbiookofaaGreatDoorM23
import Derived.Test.YtdedkfbiookofaaGreatDoorM24
namespace Go.Proofs.YtdedkfbiookofaaGreatDoor
set_option maxRecDepth 100000
open Go.RowKit
theorem ent_pick (c : List (List Int)) (s : List Int) (i j : Nat) (hi : i < s.length) (hj : j < s.length) : ent (pickL c s) i j = ent c (s.getD i 0).toNat (s.getD j 0).toNat := by
  unfold pickL
  conv => lhs; unfold ent
  simp [List.getD, hi, hj, pickRow]
theorem goodP_asc {l : List Nat} (h : ascB l = true) : l.Pairwise (· < ·) := by
  induction l with
  | nil => simp
  | cons x l ih =>
    cases l with
    | nil => simp
    | cons y l =>
      unfold ascB at h
      rw [Bool.and_eq_true, decide_eq_true_eq] at h
      have h2 := ih h.2
      rw [List.pairwise_cons]
      refine ⟨fun z hz => ?_, h2⟩
      rcases List.mem_cons.1 hz with e | e
      · omega
      · have := (List.pairwise_cons.1 h2).1 z e; omega
structure GoodS (n : Nat) (p : List Nat) : Prop where
  asc : p.Pairwise (· < ·)
  l1 : 1 ≤ p.length
  l4 : p.length ≤ 4
  lt : ∀ x ∈ p, x < n
theorem goodP_s {n : Nat} {p : List Nat} (h : goodP n p = true) : GoodS n p := by
  unfold goodP at h
  simp only [Bool.and_eq_true, decide_eq_true_eq] at h
  exact ⟨goodP_asc h.1, h.2.1, h.2.2.1, fun x hx => of_decide_eq_true (List.all_eq_true.1 h.2.2.2 x hx)⟩
theorem GoodS.at {n : Nat} {p : List Nat} (h : GoodS n p) {t : Nat} (ht : t < p.length) : (intsOf p).getD t 0 = (p[t] : Int) ∧ p[t] < n :=
  ⟨by simp [intsOf, List.getD, ht], h.lt _ (List.getElem_mem _)⟩
theorem GoodS.in {n : Nat} {p : List Nat} (h : GoodS n p) (t : Nat) (ht : t < (intsOf p).length) : 0 ≤ (intsOf p).getD t 0 ∧ (intsOf p).getD t 0 < n := by
  rw [intsOf_length] at ht
  have := h.at ht
  rw [this.1]; omega
theorem GoodS.asc2 {n : Nat} {p : List Nat} (h : GoodS n p) (t : Nat) (ht : t + 1 < (intsOf p).length) : (intsOf p).getD t 0 < (intsOf p).getD (t + 1) 0 := by
  rw [intsOf_length] at ht
  rw [(h.at (t := t) (by omega)).1, (h.at ht).1]
  have := List.pairwise_iff_getElem.1 h.asc t (t + 1) (by omega) ht (by omega)
  omega
theorem pick_isC {c : List (List Int)} (hC : IsC c) {p : List Nat} (h : GoodS c.length p) : IsC (pickL c (intsOf p)) := by
  have hl : (pickL c (intsOf p)).length = p.length := by simp [pickL, intsOf]
  refine ⟨by rw [hl]; exact h.l1, by rw [hl]; exact h.l4, fun i hi => ?_, fun i hi j hj => ?_⟩
  · have hi' : i < (intsOf p).length := by rw [intsOf_length]; omega
    rw [hl]
    simp only [pickL, List.getD, List.getElem?_map]
    rw [List.getElem?_eq_getElem hi']
    simp [pickRow, intsOf_length]
  · rw [hl] at hi hj
    have e1 := h.at hi
    have e2 := h.at hj
    unfold EntOk
    rw [ent_pick _ _ _ _ (by rw [intsOf_length]; exact hi) (by rw [intsOf_length]; exact hj), ent_pick _ _ _ _ (by rw [intsOf_length]; exact hj) (by rw [intsOf_length]; exact hi), e1.1, e2.1, Int.toNat_natCast, Int.toNat_natCast]
    have hc := hC.2.2.2 p[i] e1.2 p[j] e2.2
    unfold EntOk at hc
    by_cases e : i = j
    · subst e
      rw [if_pos rfl] at hc ⊢
      exact hc
    · rw [if_neg e]
      have hne : p[i] ≠ p[j] := by
        intro e3
        rcases Nat.lt_or_gt_of_ne e with h1 | h1
        · have := List.pairwise_iff_getElem.1 h.asc i j hi hj h1; omega
        · have := List.pairwise_iff_getElem.1 h.asc j i hj hi h1; omega
      rw [if_neg hne] at hc
      exact hc
def partsL (c : List (List Int)) : List (List Nat) := (partsSG (nbTab c) c.length).getD []
structure PartsAre (c : List (List Int)) (seen : List Bool) (P : List (List Nat)) : Prop where
  i : partsIG (nbTab c) c.length = some (seen, P)
  s : partsSG (nbTab c) c.length = some P
  g : ∀ p ∈ P, GoodS c.length p
  p : ∀ i, i < c.length → ∃ p, partS (nbTab c) i = some p ∧ 1 ≤ p.length ∧ p.length ≤ 4
  e : partsL c = P
  len : P.length ≤ 4
theorem partsSG_len {tab : List (List Nat)} : ∀ {t : Nat} {out : List (List Nat)}, partsSG tab t = some out → out.length ≤ t := by
  intro t
  induction t with
  | zero => intro out h; simp [partsSG] at h; simp [← h]
  | succ t ih =>
    intro out h
    unfold partsSG at h
    split at h
    · rename_i o p h1 h2
      have := ih h1
      simp only [Option.some.injEq] at h
      rw [← h]
      split <;> simp <;> omega
    · simp at h
theorem parts_are {c : List (List Int)} (hC : IsC c) : ∃ seen, PartsAre c seen (partsL c) := by
  obtain ⟨seen, P, h1, h2, h3, h4⟩ := parts_of hC
  have e : partsL c = P := by unfold partsL; rw [h2]; rfl
  rw [e]
  exact ⟨seen, h1, h2, fun p hp => goodP_s (h3 p hp), h4, e, Nat.le_trans (partsSG_len h2) hC.2.1⟩
abbrev sFinite : ByteArray := ⟨#[102, 105, 110, 105, 116, 101]⟩
abbrev sExp : ByteArray := ⟨#[101, 120, 112, 111, 110, 101, 110, 116, 105, 97, 108]⟩
abbrev sPoly : ByteArray := ⟨#[112, 111, 108, 121, 110, 111, 109, 105, 97, 108]⟩
abbrev sNone : ByteArray := ⟨#[]⟩
end Go.Proofs.YtdedkfbiookofaaGreatDoor
namespace Go.Proofs.YtdedkfbiookofaaGreatDoor
set_option maxRecDepth 100000
theorem zo_all (F : List (List Int) → Bool) (f1 : F [[1]] = true) (f2 : (Z2.all fun a => F (zm2 a)) = true) (f3 : (Z2.all fun a => Z2.all fun b => Z2.all fun e => F (zm3 a b e)) = true)
    (f4 : (Z2.all fun a => Z2.all fun b => Z2.all fun d => Z2.all fun e => Z2.all fun f => Z2.all fun g => F (zm4 a b d e f g)) = true) {c : List (List Int)} (hC : IsC c) : F (zo c) = true := by
  have : c.length = 1 ∨ c.length = 2 ∨ c.length = 3 ∨ c.length = 4 := by have := hC.1; have := hC.2.1; omega
  rcases this with hn | hn | hn | hn
  · obtain ⟨r0, rfl⟩ := lst1 hn
    obtain ⟨x00, rfl⟩ := lst1 (hC.2.2.1 0 (by simp))
    have d0 : x00 = 2 := dg hC (i := 0) (by simp)
    subst d0
    exact f1
  · obtain ⟨r0, r1, rfl⟩ := lst2 hn
    obtain ⟨x00, x01, rfl⟩ := lst2 (hC.2.2.1 0 (by simp))
    obtain ⟨x10, x11, rfl⟩ := lst2 (hC.2.2.1 1 (by simp))
    have d0 : x00 = 2 := dg hC (i := 0) (by simp)
    have d1 : x11 = 2 := dg hC (i := 1) (by simp)
    subst d0; subst d1
    have s10 : (if x10 = 0 then (0 : Int) else 1) = if x01 = 0 then 0 else 1 := zsym hC (i := 1) (j := 0) (by simp) (by simp) (by decide)
    have e : zo [[2, x01], [x10, 2]] = zm2 (if x01 = 0 then 0 else 1) := by simp [zo, zm2, s10]
    rw [e]
    exact List.all_eq_true.1 f2 _ (z_in x01)
  · obtain ⟨r0, r1, r2, rfl⟩ := lst3 hn
    obtain ⟨x00, x01, x02, rfl⟩ := lst3 (hC.2.2.1 0 (by simp))
    obtain ⟨x10, x11, x12, rfl⟩ := lst3 (hC.2.2.1 1 (by simp))
    obtain ⟨x20, x21, x22, rfl⟩ := lst3 (hC.2.2.1 2 (by simp))
    have d0 : x00 = 2 := dg hC (i := 0) (by simp)
    have d1 : x11 = 2 := dg hC (i := 1) (by simp)
    have d2 : x22 = 2 := dg hC (i := 2) (by simp)
    subst d0; subst d1; subst d2
    have s10 : (if x10 = 0 then (0 : Int) else 1) = if x01 = 0 then 0 else 1 := zsym hC (i := 1) (j := 0) (by simp) (by simp) (by decide)
    have s20 : (if x20 = 0 then (0 : Int) else 1) = if x02 = 0 then 0 else 1 := zsym hC (i := 2) (j := 0) (by simp) (by simp) (by decide)
    have s21 : (if x21 = 0 then (0 : Int) else 1) = if x12 = 0 then 0 else 1 := zsym hC (i := 2) (j := 1) (by simp) (by simp) (by decide)
    have e : zo [[2, x01, x02], [x10, 2, x12], [x20, x21, 2]] = zm3 (if x01 = 0 then 0 else 1) (if x02 = 0 then 0 else 1) (if x12 = 0 then 0 else 1) := by simp [zo, zm3, s10, s20, s21]
    rw [e]
    exact List.all_eq_true.1 (List.all_eq_true.1 (List.all_eq_true.1 f3 _ (z_in x01)) _ (z_in x02)) _ (z_in x12)
  · obtain ⟨r0, r1, r2, r3, rfl⟩ := lst4 hn
    obtain ⟨x00, x01, x02, x03, rfl⟩ := lst4 (hC.2.2.1 0 (by simp))
    obtain ⟨x10, x11, x12, x13, rfl⟩ := lst4 (hC.2.2.1 1 (by simp))
    obtain ⟨x20, x21, x22, x23, rfl⟩ := lst4 (hC.2.2.1 2 (by simp))
    obtain ⟨x30, x31, x32, x33, rfl⟩ := lst4 (hC.2.2.1 3 (by simp))
    have d0 : x00 = 2 := dg hC (i := 0) (by simp)
    have d1 : x11 = 2 := dg hC (i := 1) (by simp)
    have d2 : x22 = 2 := dg hC (i := 2) (by simp)
    have d3 : x33 = 2 := dg hC (i := 3) (by simp)
    subst d0; subst d1; subst d2; subst d3
    have s10 : (if x10 = 0 then (0 : Int) else 1) = if x01 = 0 then 0 else 1 := zsym hC (i := 1) (j := 0) (by simp) (by simp) (by decide)
    have s20 : (if x20 = 0 then (0 : Int) else 1) = if x02 = 0 then 0 else 1 := zsym hC (i := 2) (j := 0) (by simp) (by simp) (by decide)
    have s30 : (if x30 = 0 then (0 : Int) else 1) = if x03 = 0 then 0 else 1 := zsym hC (i := 3) (j := 0) (by simp) (by simp) (by decide)
    have s21 : (if x21 = 0 then (0 : Int) else 1) = if x12 = 0 then 0 else 1 := zsym hC (i := 2) (j := 1) (by simp) (by simp) (by decide)
    have s31 : (if x31 = 0 then (0 : Int) else 1) = if x13 = 0 then 0 else 1 := zsym hC (i := 3) (j := 1) (by simp) (by simp) (by decide)
    have s32 : (if x32 = 0 then (0 : Int) else 1) = if x23 = 0 then 0 else 1 := zsym hC (i := 3) (j := 2) (by simp) (by simp) (by decide)
    have e : zo [[2, x01, x02, x03], [x10, 2, x12, x13], [x20, x21, 2, x23], [x30, x31, x32, 2]] = zm4 (if x01 = 0 then 0 else 1) (if x02 = 0 then 0 else 1) (if x03 = 0 then 0 else 1) (if x12 = 0 then 0 else 1) (if x13 = 0 then 0 else 1) (if x23 = 0 then 0 else 1) := by simp [zo, zm4, s10, s20, s30, s21, s31, s32]
    rw [e]
    exact List.all_eq_true.1 (List.all_eq_true.1 (List.all_eq_true.1 (List.all_eq_true.1 (List.all_eq_true.1 (List.all_eq_true.1 f4 _ (z_in x01)) _ (z_in x02)) _ (z_in x03)) _ (z_in x12)) _ (z_in x13)) _ (z_in x23)
theorem partsL_zo (c : List (List Int)) : partsL (zo c) = partsL c := by unfold partsL; rw [nbTab_zo, zo_length]
theorem pick_zo (c : List (List Int)) (s : List Int) : pickL (zo c) s = zo (pickL c s) := by
  simp only [pickL, pickRow, zo, List.map_map]
  apply List.map_congr_left
  intro i _
  simp only [Function.comp, List.map_map]
  apply List.map_congr_left
  intro j _
  exact ent_zo c i.toNat j.toNat
def conn1 (c : List (List Int)) : Bool := (partsL c).all fun p => (partsL (pickL c (intsOf p))).length == 1
theorem conn_1 : conn1 [[1]] = true := by kernel_rfl
theorem conn_2 : (Z2.all fun a => conn1 (zm2 a)) = true := by kernel_rfl
theorem conn_3 : (Z2.all fun a => Z2.all fun b => Z2.all fun e => conn1 (zm3 a b e)) = true := by kernel_rfl
theorem conn_4 : (Z2.all fun a => Z2.all fun b => Z2.all fun d => Z2.all fun e => Z2.all fun f => Z2.all fun g => conn1 (zm4 a b d e f g)) = true := by kernel_rfl
theorem conn_all {c : List (List Int)} (hC : IsC c) : ∀ p ∈ partsL c, (partsL (pickL c (intsOf p))).length = 1 := by
  have h := zo_all conn1 conn_1 conn_2 conn_3 conn_4 hC
  unfold conn1 at h
  rw [partsL_zo] at h
  intro p hp
  have := List.all_eq_true.1 h p hp
  rw [pick_zo, partsL_zo] at this
  simpa using this
end Go.Proofs.YtdedkfbiookofaaGreatDoor
namespace Go.Proofs.YtdedkfbiookofaaGreatDoor
set_option maxRecDepth 100000
open Go.RowKit
open Go.Lib (join)
def nm17 : List Bs := types17.map (·.1)
theorem nm17_len : nm17.length = 17 := rfl
theorem names_at {k : Nat} (hk : k < 17) : (strs nm17)[k]? = some ⟨(types17.getD k tyD).1.toArray⟩ := by
  have hl : k < types17.length := hk
  unfold strs nm17
  simp [List.getD, hl]
theorem names_lit : (⟨(join nm17 [32]).toArray⟩ : ByteArray) = ⟨#[65, 49, 32, 65, 50, 32, 65, 51, 32, 65, 52, 32, 66, 50, 32, 66, 51, 32, 66, 52, 32, 67, 51, 32, 67, 52, 32, 68, 52, 32, 70, 52, 32, 71, 50, 32, 65, 49, 126, 32, 65, 50, 126, 32, 65, 51, 126, 32, 67, 50, 126, 32, 71, 50, 126]⟩ := by kernel_rfl
theorem names_32 : ∀ x ∈ nm17, (32 : UInt8) ∉ x := by decide
theorem names_ne : nm17 ≠ [] := by decide
theorem split_names (w : World) (hm : MaxL w) : Calls Tryz.prog 177 #[.string ⟨#[65, 49, 32, 65, 50, 32, 65, 51, 32, 65, 52, 32, 66, 50, 32, 66, 51, 32, 66, 52, 32, 67, 51, 32, 67, 52, 32, 68, 52, 32, 70, 52, 32, 71, 50, 32, 65, 49, 126, 32, 65, 50, 126, 32, 65, 51, 126, 32, 67, 50, 126, 32, 71, 50, 126]⟩, .string ⟨#[32]⟩] w fun e w' => ∃ g cap, e = .returned (Value.slice (some ⟨g, 0, none⟩) 17 cap) ∧ OwnStrs w' w.heap.size g cap (strs nm17) ∧ Below w.heap.size w w' := by
  have h := split_ok 32 nm17 w names_ne (by rw [nm17_len]; omega) names_32 (by decide) hm
  rw [names_lit] at h
  exact h.mono fun e w' ⟨g, h1, h2, h3⟩ => ⟨g, 17, h1, h2, h3⟩
theorem spec_l4Names_ok (w : World) : Calls Tryz.prog 162 #[] w fun e w' => ∃ g cap, e = .returned (Value.slice (some ⟨g, 0, none⟩) 17 cap) ∧ OwnStrs w' w.heap.size g cap (strs nm17) ∧ Below w.heap.size w w' := by
  have ho : OwnStrs (w.alloc (.cells ((strs nm17).map Value.string).toArray 9)) w.heap.size w.heap.size 17 (strs nm17) := World.ownsRow_lit w ((strs nm17).map Value.string).toArray 17 (Nat.le_refl _) (by decide) rfl
  have hb : Below w.heap.size w (w.alloc (.cells ((strs nm17).map Value.string).toArray 9)) := (Below.refl _ _).alloc (Nat.le_refl _) _
  have HO := Lib.hid ho; have HB := Lib.hid hb
  clear ho hb
  go_enter Tryz.func162, Tryz.ntmps162
  go_wp2_with fail
  go_ret
  exact ⟨_, 17, rfl, HO.out, HB.out⟩
set_option maxHeartbeats 2000000 in
theorem spec_NameOfPart_ok (gc oc n cc : Nat) (c : List (List Int)) (w : World) (hn : c.length = n) (hC : IsC c) (hconn : (partsL c).length = 1) (hgc : gc < w.heap.size) (hr : Rows2 w gc oc c) :
    Calls Tryz.prog 138 #[(Value.slice (some ⟨gc, oc, none⟩) n cc)] w (Gives w (.string ⟨(nameP c).toArray⟩)) := by
  obtain ⟨seen, hP⟩ := parts_are hC
  have HA := Lib.hid (fun W (hW : Below w.heap.size w W) k (hk : k < 17) gt ct (hg : gt < W.heap.size) (ht : Rows2 W gt 0 (types17.getD k tyD).2) => spec_AreIsomorphic_ok gc oc n cc gt 0 _ ct c (types17.getD k tyD).2 W hn rfl hC (types_isC' hk) (Nat.lt_of_lt_of_le hgc hW.size) hg (hr.below hW hgc) ht)
  have HT := Lib.hid (fun k (hk : k < 17) W => spec_TypeCartan_ok k hk W)
  have hcn := fun W (hW : Below w.heap.size w W) => spec_IsConnected_ok gc oc n cc c (partsL c) W hn hC hP.s hP.p (Nat.lt_of_lt_of_le hgc hW.size) (hr.below hW hgc)
  rw [show ((partsL c).length == 1) = true by rw [hconn]; rfl] at hcn
  have Hcn := Lib.hid hcn
  have Hfound := Lib.hid (fun k (hk : k < 17) h => nameP_found (c := c) hk h)
  have Hstep := Lib.hid (fun k (hk : k < 17) h => nameTo_step (c := c) hk h)
  have Hnone := Lib.hid (fun h => nameP_none (c := c) h)
  have HS := Lib.hid (fun W => spec_l4Names_ok W)
  clear hr hC hconn hP hcn hn
  generalize nameP c = R at *
  go_enter Tryz.func138, Tryz.ntmps138
  go_wp2_with fail
  have hb1 := Below.refl w.heap.size w
  have Hs := Lib.hid (HS.out w)
  clear HS
  refine Hs.out.mono ?_
  rintro e w3 ⟨gN, cN, rfl, hoN, hbN⟩
  have hb3 := hb1.trans (hbN.mono hb1.size)
  clear hbN Hs hb1
  go_wp2_with fail
  go_loopw [4, 5, 6, 7, 8] (fun kv _ _ _ _ wr => ∃ k : Nat, k ≤ 17 ∧ kv = .int .i64 k ∧ Hid (nameTo c k = none) ∧ Below w3.heap.size w3 wr) (fun kv _ _ _ _ _ => 17 - (intOf kv).toNat)
  case atStart => exact ⟨0, by omega, rfl, rfl, Below.refl _ _⟩
  case round =>
    obtain ⟨k, hk, rfl, hno, hb⟩ := hrel
    have hbw := hb3.trans (hb.mono hb3.size)
    by_cases hlt : k < 17
    · have Hf := Lib.hid (Hfound.out k hlt hno.out)
      have hst := Hstep.out k hlt hno.out
      have hcell0 := hoN.cell k _ (names_at hlt)
      rw [Nat.zero_add] at hcell0
      have Hcell := Lib.hid hcell0
      have hcell := (hb.cell (p := ⟨gN, k, none⟩) (OwnK.lt hoN)).trans hcell0
      have HTk := Lib.hid (HT.out k hlt wr)
      have HAk := Lib.hid (fun W hW => HA.out W hW k hlt)
      have Hst := Lib.hid hst
      clear hst hno hcell0
      generalize types17.getD k tyD = T at *
      obtain ⟨nm, mt⟩ := T
      have HTk' : Hid (Calls Tryz.prog 120 #[.string ⟨nm.toArray⟩] wr (GotRowsB wr mt true)) := HTk
      have hcell' : wr.cell? ⟨gN, k, none⟩ = some (.string ⟨nm.toArray⟩) := hcell
      have Hcell' : Hid (w3.cell? ⟨gN, k, none⟩ = some (.string ⟨nm.toArray⟩)) := Hcell
      clear HTk hcell Hcell
      go_wp2_with fail
      refine HTk'.out.mono ?_
      rintro e w4 ⟨g4, c4, r4, rfl, hc4, ho4, hb4⟩
      have hbw4 := hbw.trans (hb4.mono hbw.size)
      have hb34 := hb.trans (hb4.mono hb.size)
      have hrt : Rows2 w4 g4 0 mt := by rw [← hc4]; exact ho4.rows2
      have Hiso := Lib.hid (HAk.out w4 hbw4 g4 c4 ho4.lt hrt)
      have Hiso' : Hid (Calls Tryz.prog 163 #[(Value.slice (some ⟨gc, oc, none⟩) n cc), (Value.slice (some ⟨g4, 0, none⟩) mt.length c4)] w4 (GotIntsB w4 (isoV c mt) (isoB c mt))) := Hiso
      have Hf' : Hid (isoB c mt = true → R = nm) := Hf
      have Hst' : Hid (nameTo c (k + 1) = if isoB c mt = true then some nm else none) := Hst
      clear HTk' HAk hc4 ho4 hb4 hrt Hiso Hf Hst hbw hb hcell'
      cases hi : isoB c mt with
      | true =>
        rw [hi] at Hiso'
        have Hr := Lib.hid (Hf'.out hi)
        clear hi
        go_wp2_with fail
        refine Hiso'.out.mono ?_
        rintro e w5 ⟨g5, c5, rfl, ho5, hb5⟩
        have hb35 := hb34.trans (hb5.mono hb34.size)
        have hcell5 := (hb35.cell (p := ⟨gN, k, none⟩) (OwnK.lt hoN)).trans Hcell'.out
        have hbw5 := hbw4.trans (hb5.mono hbw4.size)
        clear Hiso' ho5 hb5 hb34 hbw4
        go_wp2_with fail
        go_ret
        rw [Hr.out]
        exact ⟨rfl, hbw5⟩
      | false =>
        rw [hi] at Hiso'
        have hn2 := Hst'.out
        rw [hi] at hn2
        have Hn2 : Hid (nameTo c (k + 1) = none) := Lib.hid (by simpa using hn2)
        clear hi hn2
        go_wp2_with fail
        refine Hiso'.out.mono ?_
        rintro e w5 ⟨g5, c5, rfl, ho5, hb5⟩
        have hb35 := hb34.trans (hb5.mono hb34.size)
        clear Hiso' ho5 hb5 hb34 hbw4
        go_wp2_with fail
        go_roundw
        case rel => exact ⟨k + 1, by omega, by go_num, Hn2, hb35⟩
        case measure => simp [intOf]; omega
    · obtain rfl : 17 = k := by omega
      have Hr : Hid (R = [63]) := Lib.hid (Hnone.out hno.out)
      have Hcc := Lib.hid (Hcn.out wr hbw)
      go_wp2_with fail
      refine Hcc.out.mono ?_
      rintro e w5 ⟨rfl, hb5⟩
      have hbw5 := hbw.trans (hb5.mono hbw.size)
      clear hbw hb5 Hcc hb
      go_wp2_with fail
      go_ret
      rw [Hr.out]
      exact ⟨rfl, hbw5⟩
set_option maxHeartbeats 2000000 in
theorem impl_NameOfPart_ok (gc oc n cc : Nat) (c : List (List Int)) (w : World) (hn : c.length = n) (hC : IsC c) (hconn : (partsL c).length = 1) (hgc : gc < w.heap.size) (hr : Rows2 w gc oc c) (hm : MaxL w) :
    Calls Tryz.prog 180 #[(Value.slice (some ⟨gc, oc, none⟩) n cc)] w (Gives w (.string ⟨(nameP c).toArray⟩)) := by
  obtain ⟨seen, hP⟩ := parts_are hC
  have HA := Lib.hid (fun W (hW : Below w.heap.size w W) k (hk : k < 17) gt ct (hg : gt < W.heap.size) (ht : Rows2 W gt 0 (types17.getD k tyD).2) => impl_AreIsomorphic_ok gc oc n cc gt 0 _ ct c (types17.getD k tyD).2 W hn rfl hC (types_isC' hk) (Nat.lt_of_lt_of_le hgc hW.size) hg (hr.below hW hgc) ht)
  have HT := Lib.hid (fun k (hk : k < 17) W => impl_TypeCartan_ok k hk W)
  have hcn := impl_IsConnected_ok gc oc n cc c (partsL c) seen w hn hC hP.i (fun p hp => (hP.g p hp).l4) hgc hr
  rw [show ((partsL c).length == 1) = true by rw [hconn]; rfl] at hcn
  have Hcn := Lib.hid hcn
  have Hfound := Lib.hid (fun k (hk : k < 17) h => nameP_found (c := c) hk h)
  have Hstep := Lib.hid (fun k (hk : k < 17) h => nameTo_step (c := c) hk h)
  have Hnone := Lib.hid (fun h => nameP_none (c := c) h)
  have HS := Lib.hid (fun W (hW : Below w.heap.size w W) => split_names W (hm.below hW))
  clear hr hC hconn hP hcn hn hm
  generalize nameP c = R at *
  go_enter Tryz.func180, Tryz.ntmps180
  go_wp2_with fail
  refine Hcn.out.mono ?_
  rintro e w1 ⟨rfl, hb1⟩
  have Hs := Lib.hid (HS.out w1 hb1)
  clear Hcn HS
  go_wp2_with fail
  refine Hs.out.mono ?_
  rintro e w3 ⟨gN, cN, rfl, hoN, hbN⟩
  have hb3 := hb1.trans (hbN.mono hb1.size)
  clear hbN Hs hb1
  go_wp2_with fail
  go_loopw [4, 5, 6, 7, 8, 14] (fun _ _ _ _ _ kv wr => ∃ k : Nat, k ≤ 17 ∧ kv = .int .i64 k ∧ Hid (nameTo c k = none) ∧ Below w3.heap.size w3 wr) (fun _ _ _ _ _ kv _ => 17 - (intOf kv).toNat)
  case atStart => exact ⟨0, by omega, rfl, rfl, Below.refl _ _⟩
  case round =>
    obtain ⟨k, hk, rfl, hno, hb⟩ := hrel
    have hbw := hb3.trans (hb.mono hb3.size)
    by_cases hlt : k < 17
    · have Hf := Lib.hid (Hfound.out k hlt hno.out)
      have hst := Hstep.out k hlt hno.out
      have hcell0 := hoN.cell k _ (names_at hlt)
      rw [Nat.zero_add] at hcell0
      have Hcell := Lib.hid hcell0
      have hcell := (hb.cell (p := ⟨gN, k, none⟩) (OwnK.lt hoN)).trans hcell0
      have HTk := Lib.hid (HT.out k hlt wr)
      have HAk := Lib.hid (fun W hW => HA.out W hW k hlt)
      have Hst := Lib.hid hst
      clear hst hno hcell0
      generalize types17.getD k tyD = T at *
      obtain ⟨nm, mt⟩ := T
      have HTk' : Hid (Calls Tryz.prog 204 #[.string ⟨nm.toArray⟩] wr (GotRowsB wr mt true)) := HTk
      have hcell' : wr.cell? ⟨gN, k, none⟩ = some (.string ⟨nm.toArray⟩) := hcell
      have Hcell' : Hid (w3.cell? ⟨gN, k, none⟩ = some (.string ⟨nm.toArray⟩)) := Hcell
      clear HTk hcell Hcell
      go_wp2_with fail
      refine HTk'.out.mono ?_
      rintro e w4 ⟨g4, c4, r4, rfl, hc4, ho4, hb4⟩
      have hbw4 := hbw.trans (hb4.mono hbw.size)
      have hb34 := hb.trans (hb4.mono hb.size)
      have hrt : Rows2 w4 g4 0 mt := by rw [← hc4]; exact ho4.rows2
      have Hiso := Lib.hid (HAk.out w4 hbw4 g4 c4 ho4.lt hrt)
      have Hiso' : Hid (Calls Tryz.prog 205 #[(Value.slice (some ⟨gc, oc, none⟩) n cc), (Value.slice (some ⟨g4, 0, none⟩) mt.length c4)] w4 (GotIntsB w4 (isoV c mt) (isoB c mt))) := Hiso
      have Hf' : Hid (isoB c mt = true → R = nm) := Hf
      have Hst' : Hid (nameTo c (k + 1) = if isoB c mt = true then some nm else none) := Hst
      clear HTk' HAk hc4 ho4 hb4 hrt Hiso Hf Hst hbw hb hcell'
      cases hi : isoB c mt with
      | true =>
        rw [hi] at Hiso'
        have Hr := Lib.hid (Hf'.out hi)
        clear hi
        go_wp2_with fail
        refine Hiso'.out.mono ?_
        rintro e w5 ⟨g5, c5, rfl, ho5, hb5⟩
        have hb35 := hb34.trans (hb5.mono hb34.size)
        have hcell5 := (hb35.cell (p := ⟨gN, k, none⟩) (OwnK.lt hoN)).trans Hcell'.out
        have hbw5 := hbw4.trans (hb5.mono hbw4.size)
        clear Hiso' ho5 hb5 hb34 hbw4
        go_wp2_with fail
        go_ret
        rw [Hr.out]
        exact ⟨rfl, hbw5⟩
      | false =>
        rw [hi] at Hiso'
        have hn2 := Hst'.out
        rw [hi] at hn2
        have Hn2 : Hid (nameTo c (k + 1) = none) := Lib.hid (by simpa using hn2)
        clear hi hn2
        go_wp2_with fail
        refine Hiso'.out.mono ?_
        rintro e w5 ⟨g5, c5, rfl, ho5, hb5⟩
        have hb35 := hb34.trans (hb5.mono hb34.size)
        clear Hiso' ho5 hb5 hb34 hbw4
        go_wp2_with fail
        go_roundw
        case rel => exact ⟨k + 1, by omega, by go_num, Hn2, hb35⟩
        case measure => simp [intOf]; omega
    · obtain rfl : 17 = k := by omega
      have Hr : Hid (R = [63]) := Lib.hid (Hnone.out hno.out)
      go_wp2_with fail
      go_ret
      rw [Hr.out]
      exact ⟨rfl, hbw⟩
end Go.Proofs.YtdedkfbiookofaaGreatDoor
