/- IsAffine: plain law and contracts. -/
import Derived.Test.YtnpechcnmchneaaGreatDoorG41
namespace Go.Proofs.YtnpechcnmchneaaGreatDoor
set_option maxRecDepth 100000
open Go.RowKit

theorem setL_full_len (n m : Nat) (hn : n ≤ 4) (hm : m < 2 ^ n) : (setL m).length = n ↔ m = 2 ^ n - 1 := by
  have h : ∀ n, n < 5 → ∀ m, m < 16 → m < 2 ^ n → ((setL m).length = n ↔ m = 2 ^ n - 1) := by decide
  have := pow_le16 hn
  exact h n (by omega) m (by omega) hm
theorem full1 : setL (2 ^ 1 - 1) = [0] := by decide
theorem full2 : setL (2 ^ 2 - 1) = [0, 1] := by decide
theorem full3 : setL (2 ^ 3 - 1) = [0, 1, 2] := by decide
theorem full4 : setL (2 ^ 4 - 1) = [0, 1, 2, 3] := by decide
theorem minor_full {c : List (List Int)} (hC : IsC c) : minorAt c (2 ^ c.length - 1) = det c.length c := by
  have key : (setL (2 ^ c.length - 1)).length = c.length := (setL_full_len _ _ hC.2.1 (by have := Nat.one_le_two_pow (n := c.length); omega)).2 rfl
  unfold minorAt
  rw [key]
  congr 1
  have : c.length = 1 ∨ c.length = 2 ∨ c.length = 3 ∨ c.length = 4 := by have := hC.1; have := hC.2.1; omega
  rcases this with hn | hn | hn | hn
  · rw [hn, full1]
    obtain ⟨r0, rfl⟩ := lst1 hn
    obtain ⟨x00, rfl⟩ := lst1 (hC.2.2.1 0 (by simp))
    rfl
  · rw [hn, full2]
    obtain ⟨r0, r1, rfl⟩ := lst2 hn
    obtain ⟨x00, x01, rfl⟩ := lst2 (hC.2.2.1 0 (by simp))
    obtain ⟨x10, x11, rfl⟩ := lst2 (hC.2.2.1 1 (by simp))
    rfl
  · rw [hn, full3]
    obtain ⟨r0, r1, r2, rfl⟩ := lst3 hn
    obtain ⟨x00, x01, x02, rfl⟩ := lst3 (hC.2.2.1 0 (by simp))
    obtain ⟨x10, x11, x12, rfl⟩ := lst3 (hC.2.2.1 1 (by simp))
    obtain ⟨x20, x21, x22, rfl⟩ := lst3 (hC.2.2.1 2 (by simp))
    rfl
  · rw [hn, full4]
    obtain ⟨r0, r1, r2, r3, rfl⟩ := lst4 hn
    obtain ⟨x00, x01, x02, x03, rfl⟩ := lst4 (hC.2.2.1 0 (by simp))
    obtain ⟨x10, x11, x12, x13, rfl⟩ := lst4 (hC.2.2.1 1 (by simp))
    obtain ⟨x20, x21, x22, x23, rfl⟩ := lst4 (hC.2.2.1 2 (by simp))
    obtain ⟨x30, x31, x32, x33, rfl⟩ := lst4 (hC.2.2.1 3 (by simp))
    rfl
def posTo (c : List (List Int)) (t : Nat) : Bool := (List.range t).all fun k => decide (0 < minorAt c (k + 1))
theorem posTo_succ (c : List (List Int)) (t : Nat) : posTo c (t + 1) = (posTo c t && decide (0 < minorAt c (t + 1))) := by
  unfold posTo; rw [List.range_succ, List.all_append]; simp
theorem posTo_false {c : List (List Int)} {t k : Nat} (hk : k < t) (h : minorAt c (k + 1) ≤ 0) : posTo c t = false := by
  unfold posTo
  apply Bool.eq_false_iff.2
  intro ha
  have := List.all_eq_true.1 ha k (List.mem_range.2 hk)
  simp at this; omega
theorem witFrom_full {c : List (List Int)} (hn : c.length ≤ 4) (hz : minorAt c (2 ^ c.length - 1) ≤ 0) : ∀ (f m : Nat), m + f = 2 ^ c.length → 1 ≤ f → ((witFrom c m f).length = c.length ↔ ∀ k, m ≤ k → k < 2 ^ c.length - 1 → 0 < minorAt c k) := by
  intro f
  induction f with
  | zero => intro m _ h; omega
  | succ f ih =>
    intro m hm _
    unfold witFrom
    by_cases h : minorAt c m ≤ 0
    · rw [if_pos h, setL_full_len _ _ hn (by omega)]
      constructor
      · intro e k h1 h2; omega
      · intro ha
        by_cases e : m = 2 ^ c.length - 1
        · exact e
        · have := ha m (Nat.le_refl _) (by omega); omega
    · rw [if_neg h]
      by_cases e : m = 2 ^ c.length - 1
      · rw [e] at h; exact absurd hz h
      · rw [ih (m + 1) (by omega) (by omega)]
        constructor
        · intro ha k h1 h2
          by_cases e : k = m
          · subst e; omega
          · exact ha k (by omega) h2
        · intro ha k h1 h2; exact ha k (by omega) h2
def affB (c : List (List Int)) (p : Nat) : Bool := (p == 1) && ((minorAt c (2 ^ c.length - 1) == 0) && posTo c (2 ^ c.length - 2))
theorem affB_impl {c : List (List Int)} (hC : IsC c) (p : Nat) : ((p == 1) && ((det c.length c == 0) && ((witness c).length == c.length))) = affB c p := by
  have hn1 := hC.1
  have h1 := Nat.one_le_two_pow (n := c.length)
  have h2 : 2 ≤ 2 ^ c.length := by
    have := Nat.pow_le_pow_right (n := 2) (by decide) hn1
    simpa using this
  unfold affB
  rw [minor_full hC]
  by_cases hp : p = 1
  · subst hp
    by_cases hd : det c.length c = 0
    · have hz : minorAt c (2 ^ c.length - 1) ≤ 0 := by rw [minor_full hC]; omega
      have hw : witness c = witFrom c 1 (2 ^ c.length - 1) := by unfold witness; rw [if_pos hC]
      have hk := witFrom_full hC.2.1 hz (2 ^ c.length - 1) 1 (by omega) (by omega)
      rw [← hw] at hk
      have : ((witness c).length == c.length) = posTo c (2 ^ c.length - 2) := by
        by_cases ha : ∀ k, 1 ≤ k → k < 2 ^ c.length - 1 → 0 < minorAt c k
        · have e1 : posTo c (2 ^ c.length - 2) = true := by
            unfold posTo
            apply List.all_eq_true.2
            intro k hk
            have := List.mem_range.1 hk
            exact decide_eq_true (ha (k + 1) (by omega) (by omega))
          rw [e1]
          simpa using hk.2 ha
        · have e1 : posTo c (2 ^ c.length - 2) = false := by
            apply Bool.eq_false_iff.2
            intro h
            apply ha
            intro k h1 h2
            have := List.all_eq_true.1 h (k - 1) (List.mem_range.2 (by omega))
            rw [show k - 1 + 1 = k by omega] at this
            simpa using this
          rw [e1]
          have : ¬ (witness c).length = c.length := fun e => ha (hk.1 e)
          simpa using this
      rw [this]
    · have e : (det c.length c == 0) = false := by simpa using hd
      rw [e]; rfl
  · have e : (p == 1) = false := by simpa using hp
    rw [e]; rfl

set_option maxHeartbeats 4000000 in
theorem spec_PrincipalMinors_ok (g o n cp : Nat) (c : List (List Int)) (w : World) (hn : c.length = n) (hC : IsC c) (hg : g < w.heap.size) (hr : Rows2 w g o c) :
    Calls Tryz.prog 113 #[(Value.slice (some ⟨g, o, none⟩) n cp)] w (GotInts w (minorsTo c (2 ^ c.length - 1))) := by
  subst hn
  have hb0 : Below w.heap.size w (w.alloc (.cells #[] 3)) := (by repeat (first | with_reducible exact Below.refl _ _ | with_reducible assumption | with_reducible refine below_drewN ?_ _ | with_reducible refine Below.drew ?_ | (with_reducible refine Below.alloc ?_ ?_ _; rotate_left; · first | (simp; done) | (simp; omega) | exact Below.size (by assumption) | (have hsz := Below.size (by assumption : Below _ _ _); simp at hsz ⊢; omega)) | (with_reducible refine Below.setCell ?_ ?_ _; rotate_left; · first | (simp; done) | (simp; omega))))
  have hn4 := hC.2.1
  have hn1 := hC.1
  go_enter Tryz.func113, Tryz.ntmps113
  go_wp2_with fail
  refine (spec_IsCartan g o _ cp c _ rfl (by omega) (fun j hj => by have := hC.2.2.1 j hj; omega) (hr.below hb0 hg)).mono ?_
  rintro e w1 ⟨rfl, m1, rfl⟩
  rw [decide_eq_true hC]
  have hb1 : Below w.heap.size w ((w.alloc (.cells #[] 3)).drewN m1) := below_drewN hb0 m1
  have how1 : Own ((w.alloc (.cells #[] 3)).drewN m1) w.heap.size w.heap.size 0 [] := (Own.empty (w := w) (Nat.le_refl _)).drewN m1
  generalize ((w.alloc (.cells #[] 3)).drewN m1) = w1 at *
  go_wp2_with fail
  refine (spec_l4Sets_any c.length w1 hn4).mono ?_
  rintro e w2 ⟨g2, c2, rs2, rfl, hc2, ho2, hb2⟩
  have hbb2 : Below w.heap.size w w2 := hb1.trans (hb2.mono hb1.size)
  have how2 := how1.below hb2 how1.lt
  have hQ := pow_le16 hn4
  have hsz : (setsTo c.length (2 ^ c.length - 1)).length = 2 ^ c.length - 1 := setsTo_length _ _
  obtain ⟨Q, hQe⟩ : ∃ Q, 2 ^ c.length - 1 = Q := ⟨_, rfl⟩
  rw [hQe] at hsz hc2 ⊢
  rw [hsz]
  have hQ15 : Q ≤ 15 := by omega
  have HQe := Lib.hid hQe; clear hQe hsz hQ
  have hrow : ∀ k, k < Q → (contents rs2).getD k [] = setL (k + 1) := by
    intro k hk
    rw [hc2]
    simp only [setsTo, List.getD, List.getElem?_map, List.getElem?_range hk]
    exact setTo_eq_setL hn4 (by have := HQe.out; omega)
  have hrl2 : rs2.length = Q := by have := congrArg List.length hc2; rw [setsTo_length] at this; simpa [contents] using this
  have Hrow := Lib.hid hrow; have Hrl2 := Lib.hid hrl2
  have ho2' := ho2.mono (B' := w1.heap.size) (Nat.le_refl _)
  have hlt1 := how1.lt
  clear hrow hrl2 hc2 how1 hb2
  have hge : w.heap.size ≤ w1.heap.size := hb1.size
  clear hb1 hb0
  go_wp2_with fail
  go_loopw [3, 5, 6, 7] (fun ov i _ _ wr => ∃ k g' c' : Nat, k ≤ Q ∧ i = .int .i64 k ∧ ov = (Value.slice (some ⟨g', 0, none⟩) k c') ∧ Own wr w.heap.size g' c' (minorsTo c k) ∧ Below w.heap.size w wr ∧ OwnRows wr w.heap.size g2 c2 rs2 ∧ ∀ r ∈ rs2, r.1 ≠ g') (fun _ i _ _ _ => Q - (intOf i).toNat)
  case atStart => exact ⟨0, w.heap.size, 0, Nat.zero_le _, rfl, rfl, how2, hbb2, ho2.mono hge, fun r hr => by have := (ho2.2.1 r hr).base; omega⟩
  case round =>
    obtain ⟨k, g', c', hk, rfl, rfl, hoo, hb, ho, hdd⟩ := hrel
    by_cases hlt : k < Q
    · have hltI : (k : Int) < (Q : Int) := by omega
      have hkr : k < rs2.length := by rw [Hrl2.out]; exact hlt
      have hcell := ho.1.cell k (by simpa using hkr)
      have hmem : rs2[k] ∈ rs2 := List.getElem_mem hkr
      have howk := ho.2.1 _ hmem
      have hcont : rs2[k].2.2 = setL (k + 1) := by
        have := Hrow.out k hlt
        rw [← this]
        simp [contents, List.getD, hkr]
      obtain ⟨ga, ca, hra⟩ : ∃ ga ca, rs2[k] = (ga, ca, setL (k + 1)) := ⟨rs2[k].1, rs2[k].2.1, by rw [← hcont]⟩
      rw [hra] at howk
      have hcell' : wr.cell? ⟨g2, k, none⟩ = some (Value.slice (some ⟨ga, 0, none⟩) ((setL (k + 1)).length) ca) := by
        rw [hcell]
        simp only [List.getElem_map, hra]; rfl
      have howk' : Own wr w.heap.size ga ca (setL (k + 1)) := howk
      have hmd : minorAt c (k + 1) = det (setL (k + 1)).length (pickL c (setL (k + 1))) := rfl
      have hsl := setL_len (k + 1)
      have hs1 := setL_ne (k + 1) (by omega) (by omega)
      have hsin := fun t ht => setL_in (m := k + 1) (n := c.length) (by have := HQe.out; omega) t ht
      have hasc := setL_asc (k + 1)
      have hpsq := pick_sq hC (setL (k + 1))
      have hmb := minorAt_bound hC (k + 1)
      have hpl : (pickL c (setL (k + 1))).length = (setL (k + 1)).length := by simp [pickL]
      clear hcell hmem howk hcont hra
      generalize setL (k + 1) = s at *
      have Hsin := Lib.hid hsin; have Hasc := Lib.hid hasc; have Hpsq := Lib.hid hpsq; have Hpl := Lib.hid hpl
      clear hsin hasc hpsq hpl
      go_wp2_with fail
      refine (spec_SubCartan_ok g o _ cp ga 0 _ ca c s wr rfl rfl hC hsl hs1 Hsin.out Hasc.out (Nat.lt_of_lt_of_le hg hb.size) howk'.lt (hr.below hb hg) howk'.cells).mono ?_
      rintro e w3 ⟨g3, c3, rs3, rfl, hc3, ho3, hb3⟩
      have hB3 := hb.trans (hb3.mono hb.size)
      go_wp2_with fail
      refine (spec_l4Det_any s.length hsl g3 0 c3 (pickL c s) w3 Hpsq.out ho3.lt (by rw [← hc3]; exact ho3.rows2)).mono ?_
      rintro e w4 ⟨rfl, hb4⟩
      rw [← hmd]
      have hB4 := hB3.trans (hb4.mono hB3.size)
      have ho4 := (ho.below hb3).below hb4
      have hoo4 := (hoo.below hb3 hoo.lt).below hb4 (Nat.lt_of_lt_of_le hoo.lt hb3.size)
      have hM1 := minorsTo_succ c k
      have HM1 := Lib.hid hM1
      generalize minorAt c (k + 1) = d at *
      clear hb3 hb4 ho3 hB3 hmd hcell' howk' ho hb hoo hM1
      go_wp2_with (at_builtin; refine wpList_append_int_n rfl _ _ rfl w.heap.size g' c' k (minorsTo c k) d (minorsTo_length _ _) hoo4 rfl rfl (by omega) ?_)
      intro g5 c5 w5 ho5 hg5 hor
      go_wp2
      go_roundw
      case rel =>
        rw [← HM1.out] at ho5
        have n2 : g2 ≠ g' := ho4.1.ne hoo4.toV (by decide)
        refine ⟨k + 1, g5, c5, by omega, by go_num, rfl, ho5, hB4.grown hg5 hB4.size (by intro j hj; cases hj; exact hoo4.base), ho4.grownK hg5 n2 hdd, fun r hr => ?_⟩
        rcases hor with e | e
        · rw [e]; exact hdd r hr
        · have := (ho4.2.1 r hr).lt; omega
      case measure => simp [intOf]; omega
    · obtain rfl : k = Q := by omega
      go_wp2
      go_ret
      rw [HQe.out]
      exact GotInts.mk' g' c' (minorsTo_length _ _) hoo hb

set_option maxHeartbeats 4000000 in
theorem impl_IsAffine_ok (gc oc n cc : Nat) (c : List (List Int)) (P : List (List Nat)) (fs : List Bool) (w : World) (hn : c.length = n) (hcap : n ≤ cc) (hC : IsC c) (hP : partsIG (nbTab c) c.length = some (fs, P)) (hgood : ∀ p ∈ P, p.length ≤ 4) (hgc : gc < w.heap.size) (hr : Rows2 w gc oc c) :
    Calls Tryz.prog 77 #[(Value.slice (some ⟨gc, oc, none⟩) n cc)] w (Gives w (.bool (affB c P.length))) := by
  subst hn
  have haff := affB_impl hC P.length
  have Haff := Lib.hid haff; clear haff
  have hsq : Sq c.length c := ⟨rfl, fun i hi => hC.2.2.1 i hi, ent_bound hC⟩
  have hn4 := hC.2.1
  have hwl := witness_len c
  go_enter Tryz.func77, Tryz.ntmps77
  go_wp2_with fail
  refine (impl_IsConnected_ok gc oc _ cc c P fs w rfl hC hP hgood hgc hr).mono ?_
  rintro e w1 ⟨rfl, hb1⟩
  have hdet := impl_determinant_any c.length hn4 gc oc cc c w1 hsq (Nat.lt_of_lt_of_le hgc hb1.size) hcap (hr.below hb1 hgc)
  have Hdet := Lib.hid hdet
  clear hdet
  generalize hpb : (P.length == 1) = pb at *
  generalize hdz : det c.length c = dz at *
  have hB1 : Below w.heap.size w w1 := hb1
  cases pb with
  | false =>
    go_wp2_with fail
    go_ret
    exact ⟨ret_bool (by rw [← Haff.out]; rfl), hB1⟩
  | true =>
    go_wp2_with fail
    refine Hdet.out.mono ?_
    rintro e w2 ⟨rfl, hb2⟩
    have hB2 := hB1.trans (hb2.mono hB1.size)
    by_cases hz : dz = 0
    · subst hz
      go_wp2_with fail
      refine (impl_WitnessOf_any gc oc _ cc c w2 rfl (by omega) (fun j hj => by have := hC.2.2.1 j hj; omega) (Nat.lt_of_lt_of_le hgc hB2.size) (hr.below hB2 hgc)).mono ?_
      rintro e w3 ⟨g3, c3, rfl, ho3, hb3⟩
      have hB3 := hB2.trans (hb3.mono hB2.size)
      generalize (witness c).length = L at *
      go_wp2_with fail
      go_ret
      refine ⟨ret_bool ?_, hB3⟩
      rw [← Haff.out]
      by_cases e : L = c.length
      · rw [e]; simp
      · have e1 : (L == c.length) = false := by simpa using e
        have e2 : ((L : Int) == (c.length : Int)) = false := by simp; omega
        rw [e1]; simpa using e2
    · have hzb : (dz == 0) = false := by simpa using hz
      go_wp2_with fail
      go_ret
      exact ⟨ret_bool (by rw [← Haff.out, hzb]; rfl), hB2⟩

set_option maxHeartbeats 4000000 in
theorem spec_IsAffine_ok (gc oc n cc : Nat) (c : List (List Int)) (P : List (List Nat)) (w : World) (hn : c.length = n) (hC : IsC c) (hP : partsSG (nbTab c) c.length = some P) (hpt : ∀ i, i < c.length → ∃ p, partS (nbTab c) i = some p ∧ 1 ≤ p.length ∧ p.length ≤ 4) (hgc : gc < w.heap.size) (hr : Rows2 w gc oc c) :
    Calls Tryz.prog 60 #[(Value.slice (some ⟨gc, oc, none⟩) n cc)] w (Gives w (.bool (affB c P.length))) := by
  subst hn
  have hn4 := hC.2.1
  have hn1 := hC.1
  go_enter Tryz.func60, Tryz.ntmps60
  go_wp2_with fail
  refine (spec_PrincipalMinors_ok gc oc _ cc c w rfl hC hgc hr).mono ?_
  rintro e w1 ⟨g1, c1, rfl, ho1, hb1⟩
  rw [minorsTo_length]
  go_wp2_with fail
  refine (spec_IsConnected_ok gc oc _ cc c P w1 rfl hC hP hpt (Nat.lt_of_lt_of_le hgc hb1.size) (hr.below hb1 hgc)).mono ?_
  rintro e w2 ⟨rfl, hb2⟩
  have hB2 := hb1.trans (hb2.mono hb1.size)
  have ho2 := ho1.below hb2 ho1.lt
  have h1 := Nat.one_le_two_pow (n := c.length)
  have h2 : 2 ≤ 2 ^ c.length := by
    have := Nat.pow_le_pow_right (n := 2) (by decide) hn1
    simpa using this
  have h16 := pow_le16 hn4
  obtain ⟨Q, hQ⟩ : ∃ Q, 2 ^ c.length - 1 = Q := ⟨_, rfl⟩
  have hQ1 : 1 ≤ Q := by omega
  have hQ15 : Q ≤ 15 := by omega
  have haff : affB c P.length = ((P.length == 1) && ((minorAt c Q == 0) && posTo c (Q - 1))) := by
    unfold affB
    rw [← hQ, show 2 ^ c.length - 1 - 1 = 2 ^ c.length - 2 by omega]
  rw [hQ] at ho2 ⊢
  have Haff := Lib.hid haff
  have hget : Hid (∀ k, k < Q → (minorsTo c Q).getD k 0 = minorAt c (k + 1)) := fun k hk => by simp [minorsTo, List.getD, hk]
  have ql := ho2.cell (Q - 1) (by rw [minorsTo_length]; omega)
  rw [hget.out (Q - 1) (by omega), show Q - 1 + 1 = Q by omega] at ql
  have ew : IntKind.i64.wrap ((Q : Int) - 1) = ((Q - 1 : Nat) : Int) := by rw [show ((Q - 1 : Nat) : Int) = (Q : Int) - 1 by omega]; exact IntWalk.i64_in _ (by omega)
  have hQI : ((Q - 1 : Nat) : Int) < (Q : Int) := by omega
  generalize hQm : Q - 1 = Qm at *
  have HQm := Lib.hid hQm
  clear haff hQ h16 h1 h2 hb1 hb2 ho1 hQm
  generalize hpb : (P.length == 1) = pb at *
  generalize hdz : minorAt c Q = dz at *
  clear hpb
  cases pb with
  | false =>
    go_wp2_with fail
    go_ret
    exact ⟨ret_bool (by rw [Haff.out]; rfl), hB2⟩
  | true =>
    by_cases hz : dz = 0
    · subst hz
      go_wp2_with fail
      go_loopw [4] (fun i wr => ∃ k : Nat, k ≤ Qm ∧ i = .int .i64 k ∧ Hid (posTo c k = true) ∧ Below w.heap.size w wr ∧ Own wr w.heap.size g1 c1 (minorsTo c Q)) (fun i _ => 16 - (intOf i).toNat)
      case atStart => exact ⟨0, Nat.zero_le _, rfl, rfl, hB2, ho2⟩
      case round =>
        obtain ⟨k, hk, rfl, hpos, hb, ho⟩ := hrel
        by_cases hlt : k < Qm
        · have hltI : (k : Int) + 1 < (Q : Int) := by have := HQm.out; omega
          have hkQ : k < Q := by have := HQm.out; omega
          have q1 := ho.cell k (by rw [minorsTo_length]; exact hkQ)
          rw [hget.out k hkQ] at q1
          by_cases hd : minorAt c (k + 1) ≤ 0
          · have hpf := Lib.hid (posTo_false hlt hd)
            generalize minorAt c (k + 1) = d at *
            go_wp2
            go_ret
            exact ⟨ret_bool (by rw [Haff.out, hpf.out]; rfl), hb⟩
          · have hps := posTo_succ c k
            rw [hpos.out, decide_eq_true (show 0 < minorAt c (k + 1) by omega)] at hps
            have Hps := Lib.hid hps
            clear hps
            generalize minorAt c (k + 1) = d at *
            go_wp2
            go_roundw
            case rel => exact ⟨k + 1, by omega, by go_num, Hps.out, hb, ho⟩
            case measure => simp [intOf]; omega
        · obtain rfl : k = Qm := by omega
          have hltI : ¬ (k : Int) + 1 < (Q : Int) := by have := HQm.out; omega
          go_wp2
          go_ret
          exact ⟨ret_bool (by rw [Haff.out, hpos.out]; rfl), hb⟩
    · have hzb : (dz == 0) = false := by simpa using hz
      have hzc : (dz != 0) = true := by simpa using hz
      go_wp2_with fail
      go_ret
      exact ⟨ret_bool (by rw [Haff.out, hzb]; rfl), hB2⟩
end Go.Proofs.YtnpechcnmchneaaGreatDoor
