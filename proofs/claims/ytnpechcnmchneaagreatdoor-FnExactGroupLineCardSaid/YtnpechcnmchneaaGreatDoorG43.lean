/- GrowthKind: contracts. -/
import Derived.Test.YtnpechcnmchneaaGreatDoorG42
namespace Go.Proofs.YtnpechcnmchneaaGreatDoor
set_option maxRecDepth 100000
open Go.RowKit

theorem ent_pick (c : List (List Int)) (s : List Int) (i j : Nat) (hi : i < s.length) (hj : j < s.length) : ent (pickL c s) i j = ent c (s.getD i 0).toNat (s.getD j 0).toNat := by
  unfold pickL
  conv => lhs; unfold ent
  simp [List.getD, hi, hj, pickRow]
theorem goodP_asc {l : List Nat} (h : ascB l = true) : l.Pairwise (· < ·) := by
  induction l with
  | nil => simp
  | cons x l ih =>
    cases l with
    | nil => simp
    | cons y l =>
      unfold ascB at h
      rw [Bool.and_eq_true, decide_eq_true_eq] at h
      have h2 := ih h.2
      rw [List.pairwise_cons]
      refine ⟨fun z hz => ?_, h2⟩
      rcases List.mem_cons.1 hz with e | e
      · omega
      · have := (List.pairwise_cons.1 h2).1 z e; omega
structure GoodS (n : Nat) (p : List Nat) : Prop where
  asc : p.Pairwise (· < ·)
  l1 : 1 ≤ p.length
  l4 : p.length ≤ 4
  lt : ∀ x ∈ p, x < n
theorem goodP_s {n : Nat} {p : List Nat} (h : goodP n p = true) : GoodS n p := by
  unfold goodP at h
  simp only [Bool.and_eq_true, decide_eq_true_eq] at h
  exact ⟨goodP_asc h.1, h.2.1, h.2.2.1, fun x hx => of_decide_eq_true (List.all_eq_true.1 h.2.2.2 x hx)⟩
theorem GoodS.at {n : Nat} {p : List Nat} (h : GoodS n p) {t : Nat} (ht : t < p.length) : (intsOf p).getD t 0 = (p[t] : Int) ∧ p[t] < n :=
  ⟨by simp [intsOf, List.getD, ht], h.lt _ (List.getElem_mem _)⟩
theorem GoodS.in {n : Nat} {p : List Nat} (h : GoodS n p) (t : Nat) (ht : t < (intsOf p).length) : 0 ≤ (intsOf p).getD t 0 ∧ (intsOf p).getD t 0 < n := by
  rw [intsOf_length] at ht
  have := h.at ht
  rw [this.1]; omega
theorem GoodS.asc2 {n : Nat} {p : List Nat} (h : GoodS n p) (t : Nat) (ht : t + 1 < (intsOf p).length) : (intsOf p).getD t 0 < (intsOf p).getD (t + 1) 0 := by
  rw [intsOf_length] at ht
  rw [(h.at (t := t) (by omega)).1, (h.at ht).1]
  have := List.pairwise_iff_getElem.1 h.asc t (t + 1) (by omega) ht (by omega)
  omega
theorem pick_isC {c : List (List Int)} (hC : IsC c) {p : List Nat} (h : GoodS c.length p) : IsC (pickL c (intsOf p)) := by
  have hl : (pickL c (intsOf p)).length = p.length := by simp [pickL, intsOf]
  refine ⟨by rw [hl]; exact h.l1, by rw [hl]; exact h.l4, fun i hi => ?_, fun i hi j hj => ?_⟩
  · have hi' : i < (intsOf p).length := by rw [intsOf_length]; omega
    rw [hl]
    simp only [pickL, List.getD, List.getElem?_map]
    rw [List.getElem?_eq_getElem hi']
    simp [pickRow, intsOf_length]
  · rw [hl] at hi hj
    have e1 := h.at hi
    have e2 := h.at hj
    unfold EntOk
    rw [ent_pick _ _ _ _ (by rw [intsOf_length]; exact hi) (by rw [intsOf_length]; exact hj), ent_pick _ _ _ _ (by rw [intsOf_length]; exact hj) (by rw [intsOf_length]; exact hi), e1.1, e2.1, Int.toNat_natCast, Int.toNat_natCast]
    have hc := hC.2.2.2 p[i] e1.2 p[j] e2.2
    unfold EntOk at hc
    by_cases e : i = j
    · subst e
      rw [if_pos rfl] at hc ⊢
      exact hc
    · rw [if_neg e]
      have hne : p[i] ≠ p[j] := by
        intro e3
        rcases Nat.lt_or_gt_of_ne e with h1 | h1
        · have := List.pairwise_iff_getElem.1 h.asc i j hi hj h1; omega
        · have := List.pairwise_iff_getElem.1 h.asc j i hj hi h1; omega
      rw [if_neg hne] at hc
      exact hc
def partsL (c : List (List Int)) : List (List Nat) := (partsSG (nbTab c) c.length).getD []
structure PartsAre (c : List (List Int)) (seen : List Bool) (P : List (List Nat)) : Prop where
  i : partsIG (nbTab c) c.length = some (seen, P)
  s : partsSG (nbTab c) c.length = some P
  g : ∀ p ∈ P, GoodS c.length p
  p : ∀ i, i < c.length → ∃ p, partS (nbTab c) i = some p ∧ 1 ≤ p.length ∧ p.length ≤ 4
  e : partsL c = P
  len : P.length ≤ 4
theorem partsSG_len {tab : List (List Nat)} : ∀ {t : Nat} {out : List (List Nat)}, partsSG tab t = some out → out.length ≤ t := by
  intro t
  induction t with
  | zero => intro out h; simp [partsSG] at h; simp [← h]
  | succ t ih =>
    intro out h
    unfold partsSG at h
    split at h
    · rename_i o p h1 h2
      have := ih h1
      simp only [Option.some.injEq] at h
      rw [← h]
      split <;> simp <;> omega
    · simp at h
theorem parts_are {c : List (List Int)} (hC : IsC c) : ∃ seen, PartsAre c seen (partsL c) := by
  obtain ⟨seen, P, h1, h2, h3, h4⟩ := parts_of hC
  have e : partsL c = P := by unfold partsL; rw [h2]; rfl
  rw [e]
  exact ⟨seen, h1, h2, fun p hp => goodP_s (h3 p hp), h4, e, Nat.le_trans (partsSG_len h2) hC.2.1⟩
def badP (c : List (List Int)) (p : List Nat) : Bool := !(finB (pickL c (intsOf p))) && !(affB (pickL c (intsOf p)) (partsL (pickL c (intsOf p))).length)
abbrev sFinite : ByteArray := ⟨#[102, 105, 110, 105, 116, 101]⟩
abbrev sExp : ByteArray := ⟨#[101, 120, 112, 111, 110, 101, 110, 116, 105, 97, 108]⟩
abbrev sPoly : ByteArray := ⟨#[112, 111, 108, 121, 110, 111, 109, 105, 97, 108]⟩
abbrev sNone : ByteArray := ⟨#[]⟩
def growS (c : List (List Int)) : ByteArray := if IsC c then (if finB c = true then sFinite else if (partsL c).any (badP c) = true then sExp else sPoly) else sNone
theorem any_found {α : Type} {l : List α} {f : α → Bool} {k : Nat} (hk : k < l.length) (h : f l[k] = true) : l.any f = true := List.any_eq_true.2 ⟨_, List.getElem_mem hk, h⟩
theorem any_step {α : Type} {l : List α} {f : α → Bool} {k : Nat} (hk : k < l.length) (h0 : (l.take k).any f = false) (h : f l[k] = false) : (l.take (k + 1)).any f = false := by
  rw [List.take_succ_eq_append_getElem hk, List.any_append, h0]; simp [h]

set_option maxHeartbeats 4000000 in
theorem impl_GrowthKind_any (gc oc n cc : Nat) (c : List (List Int)) (w : World) (hn : c.length = n) (hx : c.length ≤ 1048576) (hrl : ∀ j, j < c.length → (c.getD j []).length ≤ 1048576) (hgc : gc < w.heap.size) (hr : Rows2 w gc oc c) :
    Calls Tryz.prog 29 #[(Value.slice (some ⟨gc, oc, none⟩) n cc)] w (Gives w (.string (growS c))) := by
  subst hn
  go_enter Tryz.func29, Tryz.ntmps29
  go_wp2_with fail
  refine (impl_IsCartan gc oc _ cc c w rfl (by omega) (fun j hj => by have := hrl j hj; omega) hr).mono ?_
  rintro e w1 ⟨rfl, m1, rfl⟩
  by_cases hC : IsC c
  · have hB1 : Below w.heap.size w (w.drewN m1) := below_drewN' w m1
    rw [decide_eq_true hC]
    generalize w.drewN m1 = w1 at *
    go_wp2_with fail
    refine (impl_IsFinite_any gc oc _ cc c w1 rfl hx hrl (Nat.lt_of_lt_of_le hgc hB1.size) (hr.below hB1 hgc)).mono ?_
    rintro e w2 ⟨rfl, hb2⟩
    have hB2 := hB1.trans (hb2.mono hB1.size)
    have hg : growS c = if finB c = true then sFinite else if (partsL c).any (badP c) = true then sExp else sPoly := by unfold growS; rw [if_pos hC]
    have Hg := Lib.hid hg
    clear hg hb2 hB1
    cases hf : finB c with
    | true =>
      go_wp2_with fail
      go_ret
      exact ⟨by rw [Hg.out, hf]; rfl, hB2⟩
    | false =>
      rw [hf] at Hg
      clear hf
      obtain ⟨fs, hP⟩ := parts_are hC
      generalize hPe : partsL c = P at *
      have Hg2 : Hid (growS c = if P.any (badP c) = true then sExp else sPoly) := by
        have := Hg.out
        show _ = _
        rw [this]; rfl
      clear Hg hPe
      go_wp2_with fail
      refine (impl_PartsOf_ok gc oc _ cc c P fs w2 rfl hC hP.i (fun p hp => (hP.g p hp).l4) (Nat.lt_of_lt_of_le hgc hB2.size) (hr.below hB2 hgc)).mono ?_
      rintro e w3 ⟨g3, c3, rs3, rfl, hc3, ho3, hb3⟩
      have hB3 := hB2.trans (hb3.mono hB2.size)
      have ho3' := ho3.mono hB2.size
      rw [List.length_map]
      have hrl3 : rs3.length = P.length := by have := congrArg List.length hc3; simpa [contents] using this
      have Hrl3 := Lib.hid hrl3; have Hc3 := Lib.hid hc3; have Hgood := Lib.hid hP.g
      have hP4 := hP.len
      clear hP hrl3 hc3 ho3 hb3 hB2
      go_wp2_with fail
      go_loopw [4, 5, 14] (fun _ _ i wr => ∃ k : Nat, k ≤ P.length ∧ i = .int .i64 k ∧ Hid ((P.take k).any (badP c) = false) ∧ Below w.heap.size w wr ∧ OwnRows wr w.heap.size g3 c3 rs3) (fun _ _ i _ => P.length - (intOf i).toNat)
      case atStart => exact ⟨0, Nat.zero_le _, rfl, rfl, hB3, ho3'⟩
      case round =>
        obtain ⟨k, hk, rfl, hany, hb, ho⟩ := hrel
        by_cases hlt : k < P.length
        · have hltI : (k : Int) < (P.length : Int) := by omega
          have hkr : k < rs3.length := by rw [Hrl3.out]; exact hlt
          have hcell := ho.1.cell k (by simpa using hkr)
          have howk := ho.2.1 _ (List.getElem_mem hkr)
          have hcont : rs3[k].2.2 = intsOf P[k] := by
            have := congrArg (fun l => l.getD k []) Hc3.out
            simpa [contents, List.getD, hkr, hlt] using this
          have hgood := Hgood.out P[k] (List.getElem_mem hlt)
          obtain ⟨ga, ca, hra⟩ : ∃ ga ca, rs3[k] = (ga, ca, intsOf P[k]) := ⟨rs3[k].1, rs3[k].2.1, by rw [← hcont]⟩
          rw [hra] at howk
          have hcell' : wr.cell? ⟨g3, k, none⟩ = some (Value.slice (some ⟨ga, 0, none⟩) (P[k].length) ca) := by
            rw [hcell]
            simp only [List.getElem_map, hra, rowVal, intsOf_length]
          have howk' : Own wr w.heap.size ga ca (intsOf P[k]) := howk
          have hfound := fun h : badP c P[k] = true => any_found (f := badP c) hlt h
          have hstep := fun h : badP c P[k] = false => any_step (f := badP c) hlt hany.out h
          have Hlt := Lib.hid hlt
          have Hfound := Lib.hid hfound; have Hstep := Lib.hid hstep
          clear hcell howk hcont hra hfound hstep
          generalize P[k] = p at *
          have hl4 := hgood.l4
          have hmC := pick_isC hC hgood
          have hml : (pickL c (intsOf p)).length = p.length := by simp [pickL, intsOf]
          have Hml := Lib.hid hml; have HmC := Lib.hid hmC
          have hbad : Hid (badP c p = (!(finB (pickL c (intsOf p))) && !(affB (pickL c (intsOf p)) (partsL (pickL c (intsOf p))).length))) := rfl
          obtain ⟨fs2, hP2⟩ := parts_are hmC
          have HP2 := Lib.hid hP2
          clear hml hP2 hmC
          go_wp2_with fail
          refine (impl_picked_any gc oc _ cc ga 0 _ ca c (intsOf p) wr rfl (intsOf_length p) (by rw [intsOf_length]; exact hl4) hC.2.2.1 (fun t ht => hgood.in t ht) (Nat.lt_of_lt_of_le hgc hb.size) howk'.lt (hr.below hb hgc) howk'.cells).mono ?_
          rintro e w4 ⟨g4, c4, rs4, rfl, hc4, ho4, hb4⟩
          have hB4 := hb.trans (hb4.mono hb.size)
          have hO4 := ho.below hb4
          have hr4 : Rows2 w4 g4 0 (pickL c (intsOf p)) := by rw [← hc4]; exact ho4.rows2
          have hcap4 := ho4.capLe
          have hl4' : rs4.length = p.length := by have := congrArg List.length hc4; rw [Hml.out] at this; simpa [contents] using this
          rw [hl4'] at hcap4
          have hlt4 := ho4.lt
          clear hc4 ho4 hb4 hl4' hcell' howk' hb ho
          rw [Hml.out]
          generalize pickL c (intsOf p) = m at *
          go_wp2_with fail
          refine (impl_IsFinite_any g4 0 _ c4 m w4 Hml.out (by have := HmC.out.2.1; omega) (fun j hj => by have := HmC.out.2.2.1 j hj; have := HmC.out.2.1; omega) hlt4 hr4).mono ?_
          rintro e w5 ⟨rfl, hb5⟩
          have hB5 := hB4.trans (hb5.mono hB4.size)
          have hO5 := hO4.below hb5
          have hr5 := hr4.below hb5 hlt4
          have hlt5 := Nat.lt_of_lt_of_le hlt4 hb5.size
          generalize hfm : finB m = fm at *
          clear hB4 hO4 hr4 hlt4 hb5 hfm
          cases fm with
          | true =>
            have hbf : Hid (badP c p = false) := by show _ = _; rw [hbad.out]; rfl
            go_wp2_with fail
            go_roundw
            case rel => exact ⟨k + 1, by have := Hlt.out; omega, by go_num, Hstep.out hbf.out, hB5, hO5⟩
            case measure => have := Hlt.out; simp [intOf]; omega
          | false =>
            go_wp2_with fail
            refine (impl_IsAffine_ok g4 0 _ c4 m (partsL m) fs2 w5 Hml.out hcap4 HmC.out HP2.out.i (fun p hp => (HP2.out.g p hp).l4) hlt5 hr5).mono ?_
            rintro e w6 ⟨rfl, hb6⟩
            have hB6 := hB5.trans (hb6.mono hB5.size)
            have hO6 := hO5.below hb6
            generalize hfa : affB m (partsL m).length = fa at *
            clear hB5 hO5 hb6 hr5 hfa
            cases fa with
            | true =>
              have hbf : Hid (badP c p = false) := by show _ = _; rw [hbad.out]; rfl
              go_wp2_with fail
              go_roundw
              case rel => exact ⟨k + 1, by have := Hlt.out; omega, by go_num, Hstep.out hbf.out, hB6, hO6⟩
              case measure => have := Hlt.out; simp [intOf]; omega
            | false =>
              have hbf : Hid (badP c p = true) := by show _ = _; rw [hbad.out]; rfl
              go_wp2_with fail
              go_ret
              exact ⟨by rw [Hg2.out, if_pos (Hfound.out hbf.out)]; rfl, hB6⟩
        · obtain rfl : k = P.length := by omega
          have ha := hany.out
          rw [List.take_length] at ha
          have Ha := Lib.hid ha
          clear ha
          go_wp2_with fail
          go_ret
          exact ⟨by rw [Hg2.out, Ha.out]; rfl, hb⟩
  · have hg : growS c = sNone := by unfold growS; rw [if_neg hC]
    rw [decide_eq_false hC]
    go_wp2_with fail
    go_ret
    exact ⟨by rw [hg]; rfl, below_drewN' w m1⟩
set_option maxHeartbeats 4000000 in
theorem spec_GrowthKind_any (gc oc n cc : Nat) (c : List (List Int)) (w : World) (hn : c.length = n) (hx : c.length ≤ 1048576) (hrl : ∀ j, j < c.length → (c.getD j []).length ≤ 1048576) (hgc : gc < w.heap.size) (hr : Rows2 w gc oc c) :
    Calls Tryz.prog 17 #[(Value.slice (some ⟨gc, oc, none⟩) n cc)] w (Gives w (.string (growS c))) := by
  subst hn
  go_enter Tryz.func17, Tryz.ntmps17
  go_wp2_with fail
  refine (spec_IsCartan gc oc _ cc c w rfl (by omega) (fun j hj => by have := hrl j hj; omega) hr).mono ?_
  rintro e w1 ⟨rfl, m1, rfl⟩
  by_cases hC : IsC c
  · have hB1 : Below w.heap.size w (w.drewN m1) := below_drewN' w m1
    rw [decide_eq_true hC]
    generalize w.drewN m1 = w1 at *
    go_wp2_with fail
    refine (spec_IsFinite_any gc oc _ cc c w1 rfl hx hrl (Nat.lt_of_lt_of_le hgc hB1.size) (hr.below hB1 hgc)).mono ?_
    rintro e w2 ⟨rfl, hb2⟩
    have hB2 := hB1.trans (hb2.mono hB1.size)
    have hg : growS c = if finB c = true then sFinite else if (partsL c).any (badP c) = true then sExp else sPoly := by unfold growS; rw [if_pos hC]
    have Hg := Lib.hid hg
    clear hg hb2 hB1
    cases hf : finB c with
    | true =>
      go_wp2_with fail
      go_ret
      exact ⟨by rw [Hg.out, hf]; rfl, hB2⟩
    | false =>
      rw [hf] at Hg
      clear hf
      obtain ⟨fs, hP⟩ := parts_are hC
      generalize hPe : partsL c = P at *
      have Hg2 : Hid (growS c = if P.any (badP c) = true then sExp else sPoly) := by
        have := Hg.out
        show _ = _
        rw [this]; rfl
      clear Hg hPe
      go_wp2_with fail
      refine (spec_PartsOf_ok gc oc _ cc c P w2 rfl hC hP.s hP.p (Nat.lt_of_lt_of_le hgc hB2.size) (hr.below hB2 hgc)).mono ?_
      rintro e w3 ⟨g3, c3, rs3, rfl, hc3, ho3, hb3⟩
      have hB3 := hB2.trans (hb3.mono hB2.size)
      have ho3' := ho3.mono hB2.size
      rw [List.length_map]
      have hrl3 : rs3.length = P.length := by have := congrArg List.length hc3; simpa [contents] using this
      have Hrl3 := Lib.hid hrl3; have Hc3 := Lib.hid hc3; have Hgood := Lib.hid hP.g
      have hP4 := hP.len
      clear hP hrl3 hc3 ho3 hb3 hB2
      go_wp2_with fail
      go_loopw [4, 5, 6] (fun i _ _ wr => ∃ k : Nat, k ≤ P.length ∧ i = .int .i64 k ∧ Hid ((P.take k).any (badP c) = false) ∧ Below w.heap.size w wr ∧ OwnRows wr w.heap.size g3 c3 rs3) (fun i _ _ _ => P.length - (intOf i).toNat)
      case atStart => exact ⟨0, Nat.zero_le _, rfl, rfl, hB3, ho3'⟩
      case round =>
        obtain ⟨k, hk, rfl, hany, hb, ho⟩ := hrel
        by_cases hlt : k < P.length
        · have hltI : (k : Int) < (P.length : Int) := by omega
          have hkr : k < rs3.length := by rw [Hrl3.out]; exact hlt
          have hcell := ho.1.cell k (by simpa using hkr)
          have howk := ho.2.1 _ (List.getElem_mem hkr)
          have hcont : rs3[k].2.2 = intsOf P[k] := by
            have := congrArg (fun l => l.getD k []) Hc3.out
            simpa [contents, List.getD, hkr, hlt] using this
          have hgood := Hgood.out P[k] (List.getElem_mem hlt)
          obtain ⟨ga, ca, hra⟩ : ∃ ga ca, rs3[k] = (ga, ca, intsOf P[k]) := ⟨rs3[k].1, rs3[k].2.1, by rw [← hcont]⟩
          rw [hra] at howk
          have hcell' : wr.cell? ⟨g3, k, none⟩ = some (Value.slice (some ⟨ga, 0, none⟩) (P[k].length) ca) := by
            rw [hcell]
            simp only [List.getElem_map, hra, rowVal, intsOf_length]
          have howk' : Own wr w.heap.size ga ca (intsOf P[k]) := howk
          have hfound := fun h : badP c P[k] = true => any_found (f := badP c) hlt h
          have hstep := fun h : badP c P[k] = false => any_step (f := badP c) hlt hany.out h
          have Hlt := Lib.hid hlt
          have Hfound := Lib.hid hfound; have Hstep := Lib.hid hstep
          clear hcell howk hcont hra hfound hstep
          generalize P[k] = p at *
          have hl4 := hgood.l4
          have hl1 := hgood.l1
          have hmC := pick_isC hC hgood
          have hml : (pickL c (intsOf p)).length = p.length := by simp [pickL, intsOf]
          have Hml := Lib.hid hml; have HmC := Lib.hid hmC
          have hbad : Hid (badP c p = (!(finB (pickL c (intsOf p))) && !(affB (pickL c (intsOf p)) (partsL (pickL c (intsOf p))).length))) := rfl
          obtain ⟨fs2, hP2⟩ := parts_are hmC
          have HP2 := Lib.hid hP2
          clear hml hP2 hmC
          go_wp2_with fail
          refine (spec_SubCartan_ok gc oc _ cc ga 0 _ ca c (intsOf p) wr rfl (intsOf_length p) hC (by rw [intsOf_length]; exact hl4) (by rw [intsOf_length]; exact hl1) (fun t ht => hgood.in t ht) (fun t ht => hgood.asc2 t ht) (Nat.lt_of_lt_of_le hgc hb.size) howk'.lt (hr.below hb hgc) howk'.cells).mono ?_
          rintro e w4 ⟨g4, c4, rs4, rfl, hc4, ho4, hb4⟩
          rw [intsOf_length]
          have hB4 := hb.trans (hb4.mono hb.size)
          have hO4 := ho.below hb4
          have hr4 : Rows2 w4 g4 0 (pickL c (intsOf p)) := by rw [← hc4]; exact ho4.rows2
          have hlt4 := ho4.lt
          clear hc4 ho4 hb4 hcell' howk' hb ho
          generalize pickL c (intsOf p) = m at *
          go_wp2_with fail
          refine (spec_IsFinite_any g4 0 _ c4 m w4 Hml.out (by have := HmC.out.2.1; omega) (fun j hj => by have := HmC.out.2.2.1 j hj; have := HmC.out.2.1; omega) hlt4 hr4).mono ?_
          rintro e w5 ⟨rfl, hb5⟩
          have hB5 := hB4.trans (hb5.mono hB4.size)
          have hO5 := hO4.below hb5
          have hr5 := hr4.below hb5 hlt4
          have hlt5 := Nat.lt_of_lt_of_le hlt4 hb5.size
          generalize hfm : finB m = fm at *
          clear hB4 hO4 hr4 hlt4 hb5 hfm
          cases fm with
          | true =>
            have hbf : Hid (badP c p = false) := by show _ = _; rw [hbad.out]; rfl
            go_wp2_with fail
            go_roundw
            case rel => exact ⟨k + 1, by have := Hlt.out; omega, by go_num, Hstep.out hbf.out, hB5, hO5⟩
            case measure => have := Hlt.out; simp [intOf]; omega
          | false =>
            go_wp2_with fail
            refine (spec_IsAffine_ok g4 0 _ c4 m (partsL m) w5 Hml.out HmC.out HP2.out.s HP2.out.p hlt5 hr5).mono ?_
            rintro e w6 ⟨rfl, hb6⟩
            have hB6 := hB5.trans (hb6.mono hB5.size)
            have hO6 := hO5.below hb6
            generalize hfa : affB m (partsL m).length = fa at *
            clear hB5 hO5 hb6 hr5 hfa
            cases fa with
            | true =>
              have hbf : Hid (badP c p = false) := by show _ = _; rw [hbad.out]; rfl
              go_wp2_with fail
              go_roundw
              case rel => exact ⟨k + 1, by have := Hlt.out; omega, by go_num, Hstep.out hbf.out, hB6, hO6⟩
              case measure => have := Hlt.out; simp [intOf]; omega
            | false =>
              have hbf : Hid (badP c p = true) := by show _ = _; rw [hbad.out]; rfl
              go_wp2_with fail
              go_ret
              exact ⟨by rw [Hg2.out, if_pos (Hfound.out hbf.out)]; rfl, hB6⟩
        · obtain rfl : k = P.length := by omega
          have ha := hany.out
          rw [List.take_length] at ha
          have Ha := Lib.hid ha
          clear ha
          go_wp2_with fail
          go_ret
          exact ⟨by rw [Hg2.out, Ha.out]; rfl, hb⟩
  · have hg : growS c = sNone := by unfold growS; rw [if_neg hC]
    rw [decide_eq_false hC]
    go_wp2_with fail
    go_ret
    exact ⟨by rw [hg]; rfl, below_drewN' w m1⟩
end Go.Proofs.YtnpechcnmchneaaGreatDoor
