/- IsAffine: plain law and contracts. GrowthKind: contracts. -/
import Derived.Test.YtldcmhgpppeooaaGreatDoorG29
namespace Go.Proofs.YtldcmhgpppeooaaGreatDoor
set_option maxRecDepth 100000
open Go.RowKit

theorem setL_full_len (n m : Nat) (hn : n ≤ 4) (hm : m < 2 ^ n) : (setL m).length = n ↔ m = 2 ^ n - 1 := by
  have h : ∀ n, n < 5 → ∀ m, m < 16 → m < 2 ^ n → ((setL m).length = n ↔ m = 2 ^ n - 1) := by decide
  have := pow_le16 hn
  exact h n (by omega) m (by omega) hm
theorem full1 : setL (2 ^ 1 - 1) = [0] := by decide
theorem full2 : setL (2 ^ 2 - 1) = [0, 1] := by decide
theorem full3 : setL (2 ^ 3 - 1) = [0, 1, 2] := by decide
theorem full4 : setL (2 ^ 4 - 1) = [0, 1, 2, 3] := by decide
theorem minor_full {c : List (List Int)} (hC : IsC c) : minorAt c (2 ^ c.length - 1) = det c.length c := by
  have key : (setL (2 ^ c.length - 1)).length = c.length := (setL_full_len _ _ hC.2.1 (by have := Nat.one_le_two_pow (n := c.length); omega)).2 rfl
  unfold minorAt
  rw [key]
  congr 1
  have : c.length = 1 ∨ c.length = 2 ∨ c.length = 3 ∨ c.length = 4 := by have := hC.1; have := hC.2.1; omega
  rcases this with hn | hn | hn | hn
  · rw [hn, full1]
    obtain ⟨r0, rfl⟩ := lst1 hn
    obtain ⟨x00, rfl⟩ := lst1 (hC.2.2.1 0 (by simp))
    rfl
  · rw [hn, full2]
    obtain ⟨r0, r1, rfl⟩ := lst2 hn
    obtain ⟨x00, x01, rfl⟩ := lst2 (hC.2.2.1 0 (by simp))
    obtain ⟨x10, x11, rfl⟩ := lst2 (hC.2.2.1 1 (by simp))
    rfl
  · rw [hn, full3]
    obtain ⟨r0, r1, r2, rfl⟩ := lst3 hn
    obtain ⟨x00, x01, x02, rfl⟩ := lst3 (hC.2.2.1 0 (by simp))
    obtain ⟨x10, x11, x12, rfl⟩ := lst3 (hC.2.2.1 1 (by simp))
    obtain ⟨x20, x21, x22, rfl⟩ := lst3 (hC.2.2.1 2 (by simp))
    rfl
  · rw [hn, full4]
    obtain ⟨r0, r1, r2, r3, rfl⟩ := lst4 hn
    obtain ⟨x00, x01, x02, x03, rfl⟩ := lst4 (hC.2.2.1 0 (by simp))
    obtain ⟨x10, x11, x12, x13, rfl⟩ := lst4 (hC.2.2.1 1 (by simp))
    obtain ⟨x20, x21, x22, x23, rfl⟩ := lst4 (hC.2.2.1 2 (by simp))
    obtain ⟨x30, x31, x32, x33, rfl⟩ := lst4 (hC.2.2.1 3 (by simp))
    rfl
def posTo (c : List (List Int)) (t : Nat) : Bool := (List.range t).all fun k => decide (0 < minorAt c (k + 1))
theorem posTo_succ (c : List (List Int)) (t : Nat) : posTo c (t + 1) = (posTo c t && decide (0 < minorAt c (t + 1))) := by
  unfold posTo; rw [List.range_succ, List.all_append]; simp
theorem posTo_false {c : List (List Int)} {t k : Nat} (hk : k < t) (h : minorAt c (k + 1) ≤ 0) : posTo c t = false := by
  unfold posTo
  apply Bool.eq_false_iff.2
  intro ha
  have := List.all_eq_true.1 ha k (List.mem_range.2 hk)
  simp at this; omega
theorem witFrom_full {c : List (List Int)} (hn : c.length ≤ 4) (hz : minorAt c (2 ^ c.length - 1) ≤ 0) : ∀ (f m : Nat), m + f = 2 ^ c.length → 1 ≤ f → ((witFrom c m f).length = c.length ↔ ∀ k, m ≤ k → k < 2 ^ c.length - 1 → 0 < minorAt c k) := by
  intro f
  induction f with
  | zero => intro m _ h; omega
  | succ f ih =>
    intro m hm _
    unfold witFrom
    by_cases h : minorAt c m ≤ 0
    · rw [if_pos h, setL_full_len _ _ hn (by omega)]
      constructor
      · intro e k h1 h2; omega
      · intro ha
        by_cases e : m = 2 ^ c.length - 1
        · exact e
        · have := ha m (Nat.le_refl _) (by omega); omega
    · rw [if_neg h]
      by_cases e : m = 2 ^ c.length - 1
      · rw [e] at h; exact absurd hz h
      · rw [ih (m + 1) (by omega) (by omega)]
        constructor
        · intro ha k h1 h2
          by_cases e : k = m
          · subst e; omega
          · exact ha k (by omega) h2
        · intro ha k h1 h2; exact ha k (by omega) h2
def affB (c : List (List Int)) (p : Nat) : Bool := (p == 1) && ((minorAt c (2 ^ c.length - 1) == 0) && posTo c (2 ^ c.length - 2))
theorem affB_impl {c : List (List Int)} (hC : IsC c) (p : Nat) : ((p == 1) && ((det c.length c == 0) && ((witness c).length == c.length))) = affB c p := by
  have hn1 := hC.1
  have h1 := Nat.one_le_two_pow (n := c.length)
  have h2 : 2 ≤ 2 ^ c.length := by
    have := Nat.pow_le_pow_right (n := 2) (by decide) hn1
    simpa using this
  unfold affB
  rw [minor_full hC]
  by_cases hp : p = 1
  · subst hp
    by_cases hd : det c.length c = 0
    · have hz : minorAt c (2 ^ c.length - 1) ≤ 0 := by rw [minor_full hC]; omega
      have hw : witness c = witFrom c 1 (2 ^ c.length - 1) := by unfold witness; rw [if_pos hC]
      have hk := witFrom_full hC.2.1 hz (2 ^ c.length - 1) 1 (by omega) (by omega)
      rw [← hw] at hk
      have : ((witness c).length == c.length) = posTo c (2 ^ c.length - 2) := by
        by_cases ha : ∀ k, 1 ≤ k → k < 2 ^ c.length - 1 → 0 < minorAt c k
        · have e1 : posTo c (2 ^ c.length - 2) = true := by
            unfold posTo
            apply List.all_eq_true.2
            intro k hk
            have := List.mem_range.1 hk
            exact decide_eq_true (ha (k + 1) (by omega) (by omega))
          rw [e1]
          simpa using hk.2 ha
        · have e1 : posTo c (2 ^ c.length - 2) = false := by
            apply Bool.eq_false_iff.2
            intro h
            apply ha
            intro k h1 h2
            have := List.all_eq_true.1 h (k - 1) (List.mem_range.2 (by omega))
            rw [show k - 1 + 1 = k by omega] at this
            simpa using this
          rw [e1]
          have : ¬ (witness c).length = c.length := fun e => ha (hk.1 e)
          simpa using this
      rw [this]
    · have e : (det c.length c == 0) = false := by simpa using hd
      rw [e]; rfl
  · have e : (p == 1) = false := by simpa using hp
    rw [e]; rfl

set_option maxHeartbeats 4000000 in
theorem spec_PrincipalMinors_ok (g o n cp : Nat) (c : List (List Int)) (w : World) (hn : c.length = n) (hC : IsC c) (hg : g < w.heap.size) (hr : Rows2 w g o c) :
    Calls Tryz.prog 131 #[(Value.slice (some ⟨g, o, none⟩) n cp)] w (GotInts w (minorsTo c (2 ^ c.length - 1))) := by
  subst hn
  have hb0 : Below w.heap.size w (w.alloc (.cells #[] 3)) := (by repeat (first | with_reducible exact Below.refl _ _ | with_reducible assumption | with_reducible refine below_drewN ?_ _ | with_reducible refine Below.drew ?_ | (with_reducible refine Below.alloc ?_ ?_ _; rotate_left; · first | (simp; done) | (simp; omega) | exact Below.size (by assumption) | (have hsz := Below.size (by assumption : Below _ _ _); simp at hsz ⊢; omega)) | (with_reducible refine Below.setCell ?_ ?_ _; rotate_left; · first | (simp; done) | (simp; omega))))
  have hn4 := hC.2.1
  have hn1 := hC.1
  go_enter Tryz.func131, Tryz.ntmps131
  go_wp2_with fail
  refine (spec_IsCartan g o _ cp c _ rfl (by omega) (fun j hj => by have := hC.2.2.1 j hj; omega) (hr.below hb0 hg)).mono ?_
  rintro e w1 ⟨rfl, m1, rfl⟩
  rw [decide_eq_true hC]
  have hb1 : Below w.heap.size w ((w.alloc (.cells #[] 3)).drewN m1) := below_drewN hb0 m1
  have how1 : Own ((w.alloc (.cells #[] 3)).drewN m1) w.heap.size w.heap.size 0 [] := (Own.empty (w := w) (Nat.le_refl _)).drewN m1
  generalize ((w.alloc (.cells #[] 3)).drewN m1) = w1 at *
  go_wp2_with fail
  refine (spec_l4Sets_any c.length w1 hn4).mono ?_
  rintro e w2 ⟨g2, c2, rs2, rfl, hc2, ho2, hb2⟩
  have hbb2 : Below w.heap.size w w2 := hb1.trans (hb2.mono hb1.size)
  have how2 := how1.below hb2 how1.lt
  have hQ := pow_le16 hn4
  have hsz : (setsTo c.length (2 ^ c.length - 1)).length = 2 ^ c.length - 1 := setsTo_length _ _
  obtain ⟨Q, hQe⟩ : ∃ Q, 2 ^ c.length - 1 = Q := ⟨_, rfl⟩
  rw [hQe] at hsz hc2 ⊢
  rw [hsz]
  have hQ15 : Q ≤ 15 := by omega
  have HQe := Lib.hid hQe; clear hQe hsz hQ
  have hrow : ∀ k, k < Q → (contents rs2).getD k [] = setL (k + 1) := by
    intro k hk
    rw [hc2]
    simp only [setsTo, List.getD, List.getElem?_map, List.getElem?_range hk]
    exact setTo_eq_setL hn4 (by have := HQe.out; omega)
  have hrl2 : rs2.length = Q := by have := congrArg List.length hc2; rw [setsTo_length] at this; simpa [contents] using this
  have Hrow := Lib.hid hrow; have Hrl2 := Lib.hid hrl2
  have ho2' := ho2.mono (B' := w1.heap.size) (Nat.le_refl _)
  have hlt1 := how1.lt
  clear hrow hrl2 hc2 how1 hb2
  have hge : w.heap.size ≤ w1.heap.size := hb1.size
  clear hb1 hb0
  go_wp2_with fail
  go_loopw [3, 5, 6, 7] (fun ov i _ _ wr => ∃ k g' c' : Nat, k ≤ Q ∧ i = .int .i64 k ∧ ov = (Value.slice (some ⟨g', 0, none⟩) k c') ∧ Own wr w.heap.size g' c' (minorsTo c k) ∧ Below w.heap.size w wr ∧ OwnRows wr w.heap.size g2 c2 rs2 ∧ ∀ r ∈ rs2, r.1 ≠ g') (fun _ i _ _ _ => Q - (intOf i).toNat)
  case atStart => exact ⟨0, w.heap.size, 0, Nat.zero_le _, rfl, rfl, how2, hbb2, ho2.mono hge, fun r hr => by have := (ho2.2.1 r hr).base; omega⟩
  case round =>
    obtain ⟨k, g', c', hk, rfl, rfl, hoo, hb, ho, hdd⟩ := hrel
    by_cases hlt : k < Q
    · have hltI : (k : Int) < (Q : Int) := by omega
      have hkr : k < rs2.length := by rw [Hrl2.out]; exact hlt
      have hcell := ho.1.cell k (by simpa using hkr)
      have hmem : rs2[k] ∈ rs2 := List.getElem_mem hkr
      have howk := ho.2.1 _ hmem
      have hcont : rs2[k].2.2 = setL (k + 1) := by
        have := Hrow.out k hlt
        rw [← this]
        simp [contents, List.getD, hkr]
      obtain ⟨ga, ca, hra⟩ : ∃ ga ca, rs2[k] = (ga, ca, setL (k + 1)) := ⟨rs2[k].1, rs2[k].2.1, by rw [← hcont]⟩
      rw [hra] at howk
      have hcell' : wr.cell? ⟨g2, k, none⟩ = some (Value.slice (some ⟨ga, 0, none⟩) ((setL (k + 1)).length) ca) := by
        rw [hcell]
        simp only [List.getElem_map, hra]; rfl
      have howk' : Own wr w.heap.size ga ca (setL (k + 1)) := howk
      have hmd : minorAt c (k + 1) = det (setL (k + 1)).length (pickL c (setL (k + 1))) := rfl
      have hsl := setL_len (k + 1)
      have hs1 := setL_ne (k + 1) (by omega) (by omega)
      have hsin := fun t ht => setL_in (m := k + 1) (n := c.length) (by have := HQe.out; omega) t ht
      have hasc := setL_asc (k + 1)
      have hpsq := pick_sq hC (setL (k + 1))
      have hmb := minorAt_bound hC (k + 1)
      have hpl : (pickL c (setL (k + 1))).length = (setL (k + 1)).length := by simp [pickL]
      clear hcell hmem howk hcont hra
      generalize setL (k + 1) = s at *
      have Hsin := Lib.hid hsin; have Hasc := Lib.hid hasc; have Hpsq := Lib.hid hpsq; have Hpl := Lib.hid hpl
      clear hsin hasc hpsq hpl
      go_wp2_with fail
      refine (spec_SubCartan_ok g o _ cp ga 0 _ ca c s wr rfl rfl hC hsl hs1 Hsin.out Hasc.out (Nat.lt_of_lt_of_le hg hb.size) howk'.lt (hr.below hb hg) howk'.cells).mono ?_
      rintro e w3 ⟨g3, c3, rs3, rfl, hc3, ho3, hb3⟩
      have hB3 := hb.trans (hb3.mono hb.size)
      go_wp2_with fail
      refine (spec_l4Det_any s.length hsl g3 0 c3 (pickL c s) w3 Hpsq.out ho3.lt (by rw [← hc3]; exact ho3.rows2)).mono ?_
      rintro e w4 ⟨rfl, hb4⟩
      rw [← hmd]
      have hB4 := hB3.trans (hb4.mono hB3.size)
      have ho4 := (ho.below hb3).below hb4
      have hoo4 := (hoo.below hb3 hoo.lt).below hb4 (Nat.lt_of_lt_of_le hoo.lt hb3.size)
      have hM1 := minorsTo_succ c k
      have HM1 := Lib.hid hM1
      generalize minorAt c (k + 1) = d at *
      clear hb3 hb4 ho3 hB3 hmd hcell' howk' ho hb hoo hM1
      go_wp2_with (at_builtin; refine wpList_append_int_n rfl _ _ rfl w.heap.size g' c' k (minorsTo c k) d (minorsTo_length _ _) hoo4 rfl rfl (by omega) ?_)
      intro g5 c5 w5 ho5 hg5 hor
      go_wp2
      go_roundw
      case rel =>
        rw [← HM1.out] at ho5
        have n2 : g2 ≠ g' := ho4.1.ne hoo4.toV (by decide)
        refine ⟨k + 1, g5, c5, by omega, by go_num, rfl, ho5, hB4.grown hg5 hB4.size (by intro j hj; cases hj; exact hoo4.base), ho4.grownK hg5 n2 hdd, fun r hr => ?_⟩
        rcases hor with e | e
        · rw [e]; exact hdd r hr
        · have := (ho4.2.1 r hr).lt; omega
      case measure => simp [intOf]; omega
    · obtain rfl : k = Q := by omega
      go_wp2
      go_ret
      rw [HQe.out]
      exact GotInts.mk' g' c' (minorsTo_length _ _) hoo hb

set_option maxHeartbeats 4000000 in
theorem impl_IsAffine_ok (gc oc n cc : Nat) (c : List (List Int)) (P : List (List Nat)) (fs : List Bool) (w : World) (hn : c.length = n) (hcap : n ≤ cc) (hC : IsC c) (hP : partsIG (nbTab c) c.length = some (fs, P)) (hgood : ∀ p ∈ P, p.length ≤ 4) (hgc : gc < w.heap.size) (hr : Rows2 w gc oc c) :
    Calls Tryz.prog 63 #[(Value.slice (some ⟨gc, oc, none⟩) n cc)] w (Gives w (.bool (affB c P.length))) := by
  subst hn
  have haff := affB_impl hC P.length
  have Haff := Lib.hid haff; clear haff
  have hsq : Sq c.length c := ⟨rfl, fun i hi => hC.2.2.1 i hi, ent_bound hC⟩
  have hn4 := hC.2.1
  have hwl := witness_len c
  go_enter Tryz.func63, Tryz.ntmps63
  go_wp2_with fail
  refine (impl_IsConnected_ok gc oc _ cc c P fs w rfl hC hP hgood hgc hr).mono ?_
  rintro e w1 ⟨rfl, hb1⟩
  have hdet := impl_determinant_any c.length hn4 gc oc cc c w1 hsq (Nat.lt_of_lt_of_le hgc hb1.size) hcap (hr.below hb1 hgc)
  have Hdet := Lib.hid hdet
  clear hdet
  generalize hpb : (P.length == 1) = pb at *
  generalize hdz : det c.length c = dz at *
  have hB1 : Below w.heap.size w w1 := hb1
  cases pb with
  | false =>
    go_wp2_with fail
    go_ret
    exact ⟨ret_bool (by rw [← Haff.out]; rfl), hB1⟩
  | true =>
    go_wp2_with fail
    refine Hdet.out.mono ?_
    rintro e w2 ⟨rfl, hb2⟩
    have hB2 := hB1.trans (hb2.mono hB1.size)
    by_cases hz : dz = 0
    · subst hz
      go_wp2_with fail
      refine (impl_WitnessOf_any gc oc _ cc c w2 rfl (by omega) (fun j hj => by have := hC.2.2.1 j hj; omega) (Nat.lt_of_lt_of_le hgc hB2.size) (hr.below hB2 hgc)).mono ?_
      rintro e w3 ⟨g3, c3, rfl, ho3, hb3⟩
      have hB3 := hB2.trans (hb3.mono hB2.size)
      generalize (witness c).length = L at *
      go_wp2_with fail
      go_ret
      refine ⟨ret_bool ?_, hB3⟩
      rw [← Haff.out]
      by_cases e : L = c.length
      · rw [e]; simp
      · have e1 : (L == c.length) = false := by simpa using e
        have e2 : ((L : Int) == (c.length : Int)) = false := by simp; omega
        rw [e1]; simpa using e2
    · have hzb : (dz == 0) = false := by simpa using hz
      go_wp2_with fail
      go_ret
      exact ⟨ret_bool (by rw [← Haff.out, hzb]; rfl), hB2⟩

set_option maxHeartbeats 4000000 in
theorem spec_IsAffine_ok (gc oc n cc : Nat) (c : List (List Int)) (P : List (List Nat)) (w : World) (hn : c.length = n) (hC : IsC c) (hP : partsSG (nbTab c) c.length = some P) (hpt : ∀ i, i < c.length → ∃ p, partS (nbTab c) i = some p ∧ 1 ≤ p.length ∧ p.length ≤ 4) (hgc : gc < w.heap.size) (hr : Rows2 w gc oc c) :
    Calls Tryz.prog 67 #[(Value.slice (some ⟨gc, oc, none⟩) n cc)] w (Gives w (.bool (affB c P.length))) := by
  subst hn
  have hn4 := hC.2.1
  have hn1 := hC.1
  go_enter Tryz.func67, Tryz.ntmps67
  go_wp2_with fail
  refine (spec_PrincipalMinors_ok gc oc _ cc c w rfl hC hgc hr).mono ?_
  rintro e w1 ⟨g1, c1, rfl, ho1, hb1⟩
  rw [minorsTo_length]
  go_wp2_with fail
  refine (spec_IsConnected_ok gc oc _ cc c P w1 rfl hC hP hpt (Nat.lt_of_lt_of_le hgc hb1.size) (hr.below hb1 hgc)).mono ?_
  rintro e w2 ⟨rfl, hb2⟩
  have hB2 := hb1.trans (hb2.mono hb1.size)
  have ho2 := ho1.below hb2 ho1.lt
  have h1 := Nat.one_le_two_pow (n := c.length)
  have h2 : 2 ≤ 2 ^ c.length := by
    have := Nat.pow_le_pow_right (n := 2) (by decide) hn1
    simpa using this
  have h16 := pow_le16 hn4
  obtain ⟨Q, hQ⟩ : ∃ Q, 2 ^ c.length - 1 = Q := ⟨_, rfl⟩
  have hQ1 : 1 ≤ Q := by omega
  have hQ15 : Q ≤ 15 := by omega
  have haff : affB c P.length = ((P.length == 1) && ((minorAt c Q == 0) && posTo c (Q - 1))) := by
    unfold affB
    rw [← hQ, show 2 ^ c.length - 1 - 1 = 2 ^ c.length - 2 by omega]
  rw [hQ] at ho2 ⊢
  have Haff := Lib.hid haff
  have hget : Hid (∀ k, k < Q → (minorsTo c Q).getD k 0 = minorAt c (k + 1)) := fun k hk => by simp [minorsTo, List.getD, hk]
  have ql := ho2.cell (Q - 1) (by rw [minorsTo_length]; omega)
  rw [hget.out (Q - 1) (by omega), show Q - 1 + 1 = Q by omega] at ql
  have ew : IntKind.i64.wrap ((Q : Int) - 1) = ((Q - 1 : Nat) : Int) := by rw [show ((Q - 1 : Nat) : Int) = (Q : Int) - 1 by omega]; exact IntWalk.i64_in _ (by omega)
  have hQI : ((Q - 1 : Nat) : Int) < (Q : Int) := by omega
  generalize hQm : Q - 1 = Qm at *
  have HQm := Lib.hid hQm
  clear haff hQ h16 h1 h2 hb1 hb2 ho1 hQm
  generalize hpb : (P.length == 1) = pb at *
  generalize hdz : minorAt c Q = dz at *
  clear hpb
  cases pb with
  | false =>
    go_wp2_with fail
    go_ret
    exact ⟨ret_bool (by rw [Haff.out]; rfl), hB2⟩
  | true =>
    by_cases hz : dz = 0
    · subst hz
      go_wp2_with fail
      go_loopw [4] (fun i wr => ∃ k : Nat, k ≤ Qm ∧ i = .int .i64 k ∧ Hid (posTo c k = true) ∧ Below w.heap.size w wr ∧ Own wr w.heap.size g1 c1 (minorsTo c Q)) (fun i _ => 16 - (intOf i).toNat)
      case atStart => exact ⟨0, Nat.zero_le _, rfl, rfl, hB2, ho2⟩
      case round =>
        obtain ⟨k, hk, rfl, hpos, hb, ho⟩ := hrel
        by_cases hlt : k < Qm
        · have hltI : (k : Int) + 1 < (Q : Int) := by have := HQm.out; omega
          have hkQ : k < Q := by have := HQm.out; omega
          have q1 := ho.cell k (by rw [minorsTo_length]; exact hkQ)
          rw [hget.out k hkQ] at q1
          by_cases hd : minorAt c (k + 1) ≤ 0
          · have hpf := Lib.hid (posTo_false hlt hd)
            generalize minorAt c (k + 1) = d at *
            go_wp2
            go_ret
            exact ⟨ret_bool (by rw [Haff.out, hpf.out]; rfl), hb⟩
          · have hps := posTo_succ c k
            rw [hpos.out, decide_eq_true (show 0 < minorAt c (k + 1) by omega)] at hps
            have Hps := Lib.hid hps
            clear hps
            generalize minorAt c (k + 1) = d at *
            go_wp2
            go_roundw
            case rel => exact ⟨k + 1, by omega, by go_num, Hps.out, hb, ho⟩
            case measure => simp [intOf]; omega
        · obtain rfl : k = Qm := by omega
          have hltI : ¬ (k : Int) + 1 < (Q : Int) := by have := HQm.out; omega
          go_wp2
          go_ret
          exact ⟨ret_bool (by rw [Haff.out, hpos.out]; rfl), hb⟩
    · have hzb : (dz == 0) = false := by simpa using hz
      have hzc : (dz != 0) = true := by simpa using hz
      go_wp2_with fail
      go_ret
      exact ⟨ret_bool (by rw [Haff.out, hzb]; rfl), hB2⟩
end Go.Proofs.YtldcmhgpppeooaaGreatDoor
namespace Go.Proofs.YtldcmhgpppeooaaGreatDoor
set_option maxRecDepth 100000
open Go.RowKit

theorem ent_pick (c : List (List Int)) (s : List Int) (i j : Nat) (hi : i < s.length) (hj : j < s.length) : ent (pickL c s) i j = ent c (s.getD i 0).toNat (s.getD j 0).toNat := by
  unfold pickL
  conv => lhs; unfold ent
  simp [List.getD, hi, hj, pickRow]
theorem goodP_asc {l : List Nat} (h : ascB l = true) : l.Pairwise (· < ·) := by
  induction l with
  | nil => simp
  | cons x l ih =>
    cases l with
    | nil => simp
    | cons y l =>
      unfold ascB at h
      rw [Bool.and_eq_true, decide_eq_true_eq] at h
      have h2 := ih h.2
      rw [List.pairwise_cons]
      refine ⟨fun z hz => ?_, h2⟩
      rcases List.mem_cons.1 hz with e | e
      · omega
      · have := (List.pairwise_cons.1 h2).1 z e; omega
structure GoodS (n : Nat) (p : List Nat) : Prop where
  asc : p.Pairwise (· < ·)
  l1 : 1 ≤ p.length
  l4 : p.length ≤ 4
  lt : ∀ x ∈ p, x < n
theorem goodP_s {n : Nat} {p : List Nat} (h : goodP n p = true) : GoodS n p := by
  unfold goodP at h
  simp only [Bool.and_eq_true, decide_eq_true_eq] at h
  exact ⟨goodP_asc h.1, h.2.1, h.2.2.1, fun x hx => of_decide_eq_true (List.all_eq_true.1 h.2.2.2 x hx)⟩
theorem GoodS.at {n : Nat} {p : List Nat} (h : GoodS n p) {t : Nat} (ht : t < p.length) : (intsOf p).getD t 0 = (p[t] : Int) ∧ p[t] < n :=
  ⟨by simp [intsOf, List.getD, ht], h.lt _ (List.getElem_mem _)⟩
theorem GoodS.in {n : Nat} {p : List Nat} (h : GoodS n p) (t : Nat) (ht : t < (intsOf p).length) : 0 ≤ (intsOf p).getD t 0 ∧ (intsOf p).getD t 0 < n := by
  rw [intsOf_length] at ht
  have := h.at ht
  rw [this.1]; omega
theorem GoodS.asc2 {n : Nat} {p : List Nat} (h : GoodS n p) (t : Nat) (ht : t + 1 < (intsOf p).length) : (intsOf p).getD t 0 < (intsOf p).getD (t + 1) 0 := by
  rw [intsOf_length] at ht
  rw [(h.at (t := t) (by omega)).1, (h.at ht).1]
  have := List.pairwise_iff_getElem.1 h.asc t (t + 1) (by omega) ht (by omega)
  omega
theorem pick_isC {c : List (List Int)} (hC : IsC c) {p : List Nat} (h : GoodS c.length p) : IsC (pickL c (intsOf p)) := by
  have hl : (pickL c (intsOf p)).length = p.length := by simp [pickL, intsOf]
  refine ⟨by rw [hl]; exact h.l1, by rw [hl]; exact h.l4, fun i hi => ?_, fun i hi j hj => ?_⟩
  · have hi' : i < (intsOf p).length := by rw [intsOf_length]; omega
    rw [hl]
    simp only [pickL, List.getD, List.getElem?_map]
    rw [List.getElem?_eq_getElem hi']
    simp [pickRow, intsOf_length]
  · rw [hl] at hi hj
    have e1 := h.at hi
    have e2 := h.at hj
    unfold EntOk
    rw [ent_pick _ _ _ _ (by rw [intsOf_length]; exact hi) (by rw [intsOf_length]; exact hj), ent_pick _ _ _ _ (by rw [intsOf_length]; exact hj) (by rw [intsOf_length]; exact hi), e1.1, e2.1, Int.toNat_natCast, Int.toNat_natCast]
    have hc := hC.2.2.2 p[i] e1.2 p[j] e2.2
    unfold EntOk at hc
    by_cases e : i = j
    · subst e
      rw [if_pos rfl] at hc ⊢
      exact hc
    · rw [if_neg e]
      have hne : p[i] ≠ p[j] := by
        intro e3
        rcases Nat.lt_or_gt_of_ne e with h1 | h1
        · have := List.pairwise_iff_getElem.1 h.asc i j hi hj h1; omega
        · have := List.pairwise_iff_getElem.1 h.asc j i hj hi h1; omega
      rw [if_neg hne] at hc
      exact hc
def partsL (c : List (List Int)) : List (List Nat) := (partsSG (nbTab c) c.length).getD []
structure PartsAre (c : List (List Int)) (seen : List Bool) (P : List (List Nat)) : Prop where
  i : partsIG (nbTab c) c.length = some (seen, P)
  s : partsSG (nbTab c) c.length = some P
  g : ∀ p ∈ P, GoodS c.length p
  p : ∀ i, i < c.length → ∃ p, partS (nbTab c) i = some p ∧ 1 ≤ p.length ∧ p.length ≤ 4
  e : partsL c = P
  len : P.length ≤ 4
theorem partsSG_len {tab : List (List Nat)} : ∀ {t : Nat} {out : List (List Nat)}, partsSG tab t = some out → out.length ≤ t := by
  intro t
  induction t with
  | zero => intro out h; simp [partsSG] at h; simp [← h]
  | succ t ih =>
    intro out h
    unfold partsSG at h
    split at h
    · rename_i o p h1 h2
      have := ih h1
      simp only [Option.some.injEq] at h
      rw [← h]
      split <;> simp <;> omega
    · simp at h
theorem parts_are {c : List (List Int)} (hC : IsC c) : ∃ seen, PartsAre c seen (partsL c) := by
  obtain ⟨seen, P, h1, h2, h3, h4⟩ := parts_of hC
  have e : partsL c = P := by unfold partsL; rw [h2]; rfl
  rw [e]
  exact ⟨seen, h1, h2, fun p hp => goodP_s (h3 p hp), h4, e, Nat.le_trans (partsSG_len h2) hC.2.1⟩
def badP (c : List (List Int)) (p : List Nat) : Bool := !(finB (pickL c (intsOf p))) && !(affB (pickL c (intsOf p)) (partsL (pickL c (intsOf p))).length)
abbrev sFinite : ByteArray := ⟨#[102, 105, 110, 105, 116, 101]⟩
abbrev sExp : ByteArray := ⟨#[101, 120, 112, 111, 110, 101, 110, 116, 105, 97, 108]⟩
abbrev sPoly : ByteArray := ⟨#[112, 111, 108, 121, 110, 111, 109, 105, 97, 108]⟩
abbrev sNone : ByteArray := ⟨#[]⟩
def growS (c : List (List Int)) : ByteArray := if IsC c then (if finB c = true then sFinite else if (partsL c).any (badP c) = true then sExp else sPoly) else sNone
theorem any_found {α : Type} {l : List α} {f : α → Bool} {k : Nat} (hk : k < l.length) (h : f l[k] = true) : l.any f = true := List.any_eq_true.2 ⟨_, List.getElem_mem hk, h⟩
theorem any_step {α : Type} {l : List α} {f : α → Bool} {k : Nat} (hk : k < l.length) (h0 : (l.take k).any f = false) (h : f l[k] = false) : (l.take (k + 1)).any f = false := by
  rw [List.take_succ_eq_append_getElem hk, List.any_append, h0]; simp [h]

set_option maxHeartbeats 4000000 in
theorem impl_GrowthKind_any (gc oc n cc : Nat) (c : List (List Int)) (w : World) (hn : c.length = n) (hx : c.length ≤ 1048576) (hrl : ∀ j, j < c.length → (c.getD j []).length ≤ 1048576) (hgc : gc < w.heap.size) (hr : Rows2 w gc oc c) :
    Calls Tryz.prog 10 #[(Value.slice (some ⟨gc, oc, none⟩) n cc)] w (Gives w (.string (growS c))) := by
  subst hn
  go_enter Tryz.func10, Tryz.ntmps10
  go_wp2_with fail
  refine (impl_IsCartan gc oc _ cc c w rfl (by omega) (fun j hj => by have := hrl j hj; omega) hr).mono ?_
  rintro e w1 ⟨rfl, m1, rfl⟩
  by_cases hC : IsC c
  · have hB1 : Below w.heap.size w (w.drewN m1) := below_drewN' w m1
    rw [decide_eq_true hC]
    generalize w.drewN m1 = w1 at *
    go_wp2_with fail
    refine (impl_IsFinite_any gc oc _ cc c w1 rfl hx hrl (Nat.lt_of_lt_of_le hgc hB1.size) (hr.below hB1 hgc)).mono ?_
    rintro e w2 ⟨rfl, hb2⟩
    have hB2 := hB1.trans (hb2.mono hB1.size)
    have hg : growS c = if finB c = true then sFinite else if (partsL c).any (badP c) = true then sExp else sPoly := by unfold growS; rw [if_pos hC]
    have Hg := Lib.hid hg
    clear hg hb2 hB1
    cases hf : finB c with
    | true =>
      go_wp2_with fail
      go_ret
      exact ⟨by rw [Hg.out, hf]; rfl, hB2⟩
    | false =>
      rw [hf] at Hg
      clear hf
      obtain ⟨fs, hP⟩ := parts_are hC
      generalize hPe : partsL c = P at *
      have Hg2 : Hid (growS c = if P.any (badP c) = true then sExp else sPoly) := by
        have := Hg.out
        show _ = _
        rw [this]; rfl
      clear Hg hPe
      go_wp2_with fail
      refine (impl_PartsOf_ok gc oc _ cc c P fs w2 rfl hC hP.i (fun p hp => (hP.g p hp).l4) (Nat.lt_of_lt_of_le hgc hB2.size) (hr.below hB2 hgc)).mono ?_
      rintro e w3 ⟨g3, c3, rs3, rfl, hc3, ho3, hb3⟩
      have hB3 := hB2.trans (hb3.mono hB2.size)
      have ho3' := ho3.mono hB2.size
      rw [List.length_map]
      have hrl3 : rs3.length = P.length := by have := congrArg List.length hc3; simpa [contents] using this
      have Hrl3 := Lib.hid hrl3; have Hc3 := Lib.hid hc3; have Hgood := Lib.hid hP.g
      have hP4 := hP.len
      clear hP hrl3 hc3 ho3 hb3 hB2
      go_wp2_with fail
      go_loopw [4, 5, 14] (fun _ _ i wr => ∃ k : Nat, k ≤ P.length ∧ i = .int .i64 k ∧ Hid ((P.take k).any (badP c) = false) ∧ Below w.heap.size w wr ∧ OwnRows wr w.heap.size g3 c3 rs3) (fun _ _ i _ => P.length - (intOf i).toNat)
      case atStart => exact ⟨0, Nat.zero_le _, rfl, rfl, hB3, ho3'⟩
      case round =>
        obtain ⟨k, hk, rfl, hany, hb, ho⟩ := hrel
        by_cases hlt : k < P.length
        · have hltI : (k : Int) < (P.length : Int) := by omega
          have hkr : k < rs3.length := by rw [Hrl3.out]; exact hlt
          have hcell := ho.1.cell k (by simpa using hkr)
          have howk := ho.2.1 _ (List.getElem_mem hkr)
          have hcont : rs3[k].2.2 = intsOf P[k] := by
            have := congrArg (fun l => l.getD k []) Hc3.out
            simpa [contents, List.getD, hkr, hlt] using this
          have hgood := Hgood.out P[k] (List.getElem_mem hlt)
          obtain ⟨ga, ca, hra⟩ : ∃ ga ca, rs3[k] = (ga, ca, intsOf P[k]) := ⟨rs3[k].1, rs3[k].2.1, by rw [← hcont]⟩
          rw [hra] at howk
          have hcell' : wr.cell? ⟨g3, k, none⟩ = some (Value.slice (some ⟨ga, 0, none⟩) (P[k].length) ca) := by
            rw [hcell]
            simp only [List.getElem_map, hra, rowVal, intsOf_length]
          have howk' : Own wr w.heap.size ga ca (intsOf P[k]) := howk
          have hfound := fun h : badP c P[k] = true => any_found (f := badP c) hlt h
          have hstep := fun h : badP c P[k] = false => any_step (f := badP c) hlt hany.out h
          have Hlt := Lib.hid hlt
          have Hfound := Lib.hid hfound; have Hstep := Lib.hid hstep
          clear hcell howk hcont hra hfound hstep
          generalize P[k] = p at *
          have hl4 := hgood.l4
          have hmC := pick_isC hC hgood
          have hml : (pickL c (intsOf p)).length = p.length := by simp [pickL, intsOf]
          have Hml := Lib.hid hml; have HmC := Lib.hid hmC
          have hbad : Hid (badP c p = (!(finB (pickL c (intsOf p))) && !(affB (pickL c (intsOf p)) (partsL (pickL c (intsOf p))).length))) := rfl
          obtain ⟨fs2, hP2⟩ := parts_are hmC
          have HP2 := Lib.hid hP2
          clear hml hP2 hmC
          go_wp2_with fail
          refine (impl_picked_any gc oc _ cc ga 0 _ ca c (intsOf p) wr rfl (intsOf_length p) (by rw [intsOf_length]; exact hl4) hC.2.2.1 (fun t ht => hgood.in t ht) (Nat.lt_of_lt_of_le hgc hb.size) howk'.lt (hr.below hb hgc) howk'.cells).mono ?_
          rintro e w4 ⟨g4, c4, rs4, rfl, hc4, ho4, hb4⟩
          have hB4 := hb.trans (hb4.mono hb.size)
          have hO4 := ho.below hb4
          have hr4 : Rows2 w4 g4 0 (pickL c (intsOf p)) := by rw [← hc4]; exact ho4.rows2
          have hcap4 := ho4.capLe
          have hl4' : rs4.length = p.length := by have := congrArg List.length hc4; rw [Hml.out] at this; simpa [contents] using this
          rw [hl4'] at hcap4
          have hlt4 := ho4.lt
          clear hc4 ho4 hb4 hl4' hcell' howk' hb ho
          rw [Hml.out]
          generalize pickL c (intsOf p) = m at *
          go_wp2_with fail
          refine (impl_IsFinite_any g4 0 _ c4 m w4 Hml.out (by have := HmC.out.2.1; omega) (fun j hj => by have := HmC.out.2.2.1 j hj; have := HmC.out.2.1; omega) hlt4 hr4).mono ?_
          rintro e w5 ⟨rfl, hb5⟩
          have hB5 := hB4.trans (hb5.mono hB4.size)
          have hO5 := hO4.below hb5
          have hr5 := hr4.below hb5 hlt4
          have hlt5 := Nat.lt_of_lt_of_le hlt4 hb5.size
          generalize hfm : finB m = fm at *
          clear hB4 hO4 hr4 hlt4 hb5 hfm
          cases fm with
          | true =>
            have hbf : Hid (badP c p = false) := by show _ = _; rw [hbad.out]; rfl
            go_wp2_with fail
            go_roundw
            case rel => exact ⟨k + 1, by have := Hlt.out; omega, by go_num, Hstep.out hbf.out, hB5, hO5⟩
            case measure => have := Hlt.out; simp [intOf]; omega
          | false =>
            go_wp2_with fail
            refine (impl_IsAffine_ok g4 0 _ c4 m (partsL m) fs2 w5 Hml.out hcap4 HmC.out HP2.out.i (fun p hp => (HP2.out.g p hp).l4) hlt5 hr5).mono ?_
            rintro e w6 ⟨rfl, hb6⟩
            have hB6 := hB5.trans (hb6.mono hB5.size)
            have hO6 := hO5.below hb6
            generalize hfa : affB m (partsL m).length = fa at *
            clear hB5 hO5 hb6 hr5 hfa
            cases fa with
            | true =>
              have hbf : Hid (badP c p = false) := by show _ = _; rw [hbad.out]; rfl
              go_wp2_with fail
              go_roundw
              case rel => exact ⟨k + 1, by have := Hlt.out; omega, by go_num, Hstep.out hbf.out, hB6, hO6⟩
              case measure => have := Hlt.out; simp [intOf]; omega
            | false =>
              have hbf : Hid (badP c p = true) := by show _ = _; rw [hbad.out]; rfl
              go_wp2_with fail
              go_ret
              exact ⟨by rw [Hg2.out, if_pos (Hfound.out hbf.out)]; rfl, hB6⟩
        · obtain rfl : k = P.length := by omega
          have ha := hany.out
          rw [List.take_length] at ha
          have Ha := Lib.hid ha
          clear ha
          go_wp2_with fail
          go_ret
          exact ⟨by rw [Hg2.out, Ha.out]; rfl, hb⟩
  · have hg : growS c = sNone := by unfold growS; rw [if_neg hC]
    rw [decide_eq_false hC]
    go_wp2_with fail
    go_ret
    exact ⟨by rw [hg]; rfl, below_drewN' w m1⟩
set_option maxHeartbeats 4000000 in
theorem spec_GrowthKind_any (gc oc n cc : Nat) (c : List (List Int)) (w : World) (hn : c.length = n) (hx : c.length ≤ 1048576) (hrl : ∀ j, j < c.length → (c.getD j []).length ≤ 1048576) (hgc : gc < w.heap.size) (hr : Rows2 w gc oc c) :
    Calls Tryz.prog 11 #[(Value.slice (some ⟨gc, oc, none⟩) n cc)] w (Gives w (.string (growS c))) := by
  subst hn
  go_enter Tryz.func11, Tryz.ntmps11
  go_wp2_with fail
  refine (spec_IsCartan gc oc _ cc c w rfl (by omega) (fun j hj => by have := hrl j hj; omega) hr).mono ?_
  rintro e w1 ⟨rfl, m1, rfl⟩
  by_cases hC : IsC c
  · have hB1 : Below w.heap.size w (w.drewN m1) := below_drewN' w m1
    rw [decide_eq_true hC]
    generalize w.drewN m1 = w1 at *
    go_wp2_with fail
    refine (spec_IsFinite_any gc oc _ cc c w1 rfl hx hrl (Nat.lt_of_lt_of_le hgc hB1.size) (hr.below hB1 hgc)).mono ?_
    rintro e w2 ⟨rfl, hb2⟩
    have hB2 := hB1.trans (hb2.mono hB1.size)
    have hg : growS c = if finB c = true then sFinite else if (partsL c).any (badP c) = true then sExp else sPoly := by unfold growS; rw [if_pos hC]
    have Hg := Lib.hid hg
    clear hg hb2 hB1
    cases hf : finB c with
    | true =>
      go_wp2_with fail
      go_ret
      exact ⟨by rw [Hg.out, hf]; rfl, hB2⟩
    | false =>
      rw [hf] at Hg
      clear hf
      obtain ⟨fs, hP⟩ := parts_are hC
      generalize hPe : partsL c = P at *
      have Hg2 : Hid (growS c = if P.any (badP c) = true then sExp else sPoly) := by
        have := Hg.out
        show _ = _
        rw [this]; rfl
      clear Hg hPe
      go_wp2_with fail
      refine (spec_PartsOf_ok gc oc _ cc c P w2 rfl hC hP.s hP.p (Nat.lt_of_lt_of_le hgc hB2.size) (hr.below hB2 hgc)).mono ?_
      rintro e w3 ⟨g3, c3, rs3, rfl, hc3, ho3, hb3⟩
      have hB3 := hB2.trans (hb3.mono hB2.size)
      have ho3' := ho3.mono hB2.size
      rw [List.length_map]
      have hrl3 : rs3.length = P.length := by have := congrArg List.length hc3; simpa [contents] using this
      have Hrl3 := Lib.hid hrl3; have Hc3 := Lib.hid hc3; have Hgood := Lib.hid hP.g
      have hP4 := hP.len
      clear hP hrl3 hc3 ho3 hb3 hB2
      go_wp2_with fail
      go_loopw [4, 5, 6] (fun i _ _ wr => ∃ k : Nat, k ≤ P.length ∧ i = .int .i64 k ∧ Hid ((P.take k).any (badP c) = false) ∧ Below w.heap.size w wr ∧ OwnRows wr w.heap.size g3 c3 rs3) (fun i _ _ _ => P.length - (intOf i).toNat)
      case atStart => exact ⟨0, Nat.zero_le _, rfl, rfl, hB3, ho3'⟩
      case round =>
        obtain ⟨k, hk, rfl, hany, hb, ho⟩ := hrel
        by_cases hlt : k < P.length
        · have hltI : (k : Int) < (P.length : Int) := by omega
          have hkr : k < rs3.length := by rw [Hrl3.out]; exact hlt
          have hcell := ho.1.cell k (by simpa using hkr)
          have howk := ho.2.1 _ (List.getElem_mem hkr)
          have hcont : rs3[k].2.2 = intsOf P[k] := by
            have := congrArg (fun l => l.getD k []) Hc3.out
            simpa [contents, List.getD, hkr, hlt] using this
          have hgood := Hgood.out P[k] (List.getElem_mem hlt)
          obtain ⟨ga, ca, hra⟩ : ∃ ga ca, rs3[k] = (ga, ca, intsOf P[k]) := ⟨rs3[k].1, rs3[k].2.1, by rw [← hcont]⟩
          rw [hra] at howk
          have hcell' : wr.cell? ⟨g3, k, none⟩ = some (Value.slice (some ⟨ga, 0, none⟩) (P[k].length) ca) := by
            rw [hcell]
            simp only [List.getElem_map, hra, rowVal, intsOf_length]
          have howk' : Own wr w.heap.size ga ca (intsOf P[k]) := howk
          have hfound := fun h : badP c P[k] = true => any_found (f := badP c) hlt h
          have hstep := fun h : badP c P[k] = false => any_step (f := badP c) hlt hany.out h
          have Hlt := Lib.hid hlt
          have Hfound := Lib.hid hfound; have Hstep := Lib.hid hstep
          clear hcell howk hcont hra hfound hstep
          generalize P[k] = p at *
          have hl4 := hgood.l4
          have hl1 := hgood.l1
          have hmC := pick_isC hC hgood
          have hml : (pickL c (intsOf p)).length = p.length := by simp [pickL, intsOf]
          have Hml := Lib.hid hml; have HmC := Lib.hid hmC
          have hbad : Hid (badP c p = (!(finB (pickL c (intsOf p))) && !(affB (pickL c (intsOf p)) (partsL (pickL c (intsOf p))).length))) := rfl
          obtain ⟨fs2, hP2⟩ := parts_are hmC
          have HP2 := Lib.hid hP2
          clear hml hP2 hmC
          go_wp2_with fail
          refine (spec_SubCartan_ok gc oc _ cc ga 0 _ ca c (intsOf p) wr rfl (intsOf_length p) hC (by rw [intsOf_length]; exact hl4) (by rw [intsOf_length]; exact hl1) (fun t ht => hgood.in t ht) (fun t ht => hgood.asc2 t ht) (Nat.lt_of_lt_of_le hgc hb.size) howk'.lt (hr.below hb hgc) howk'.cells).mono ?_
          rintro e w4 ⟨g4, c4, rs4, rfl, hc4, ho4, hb4⟩
          rw [intsOf_length]
          have hB4 := hb.trans (hb4.mono hb.size)
          have hO4 := ho.below hb4
          have hr4 : Rows2 w4 g4 0 (pickL c (intsOf p)) := by rw [← hc4]; exact ho4.rows2
          have hlt4 := ho4.lt
          clear hc4 ho4 hb4 hcell' howk' hb ho
          generalize pickL c (intsOf p) = m at *
          go_wp2_with fail
          refine (spec_IsFinite_any g4 0 _ c4 m w4 Hml.out (by have := HmC.out.2.1; omega) (fun j hj => by have := HmC.out.2.2.1 j hj; have := HmC.out.2.1; omega) hlt4 hr4).mono ?_
          rintro e w5 ⟨rfl, hb5⟩
          have hB5 := hB4.trans (hb5.mono hB4.size)
          have hO5 := hO4.below hb5
          have hr5 := hr4.below hb5 hlt4
          have hlt5 := Nat.lt_of_lt_of_le hlt4 hb5.size
          generalize hfm : finB m = fm at *
          clear hB4 hO4 hr4 hlt4 hb5 hfm
          cases fm with
          | true =>
            have hbf : Hid (badP c p = false) := by show _ = _; rw [hbad.out]; rfl
            go_wp2_with fail
            go_roundw
            case rel => exact ⟨k + 1, by have := Hlt.out; omega, by go_num, Hstep.out hbf.out, hB5, hO5⟩
            case measure => have := Hlt.out; simp [intOf]; omega
          | false =>
            go_wp2_with fail
            refine (spec_IsAffine_ok g4 0 _ c4 m (partsL m) w5 Hml.out HmC.out HP2.out.s HP2.out.p hlt5 hr5).mono ?_
            rintro e w6 ⟨rfl, hb6⟩
            have hB6 := hB5.trans (hb6.mono hB5.size)
            have hO6 := hO5.below hb6
            generalize hfa : affB m (partsL m).length = fa at *
            clear hB5 hO5 hb6 hr5 hfa
            cases fa with
            | true =>
              have hbf : Hid (badP c p = false) := by show _ = _; rw [hbad.out]; rfl
              go_wp2_with fail
              go_roundw
              case rel => exact ⟨k + 1, by have := Hlt.out; omega, by go_num, Hstep.out hbf.out, hB6, hO6⟩
              case measure => have := Hlt.out; simp [intOf]; omega
            | false =>
              have hbf : Hid (badP c p = true) := by show _ = _; rw [hbad.out]; rfl
              go_wp2_with fail
              go_ret
              exact ⟨by rw [Hg2.out, if_pos (Hfound.out hbf.out)]; rfl, hB6⟩
        · obtain rfl : k = P.length := by omega
          have ha := hany.out
          rw [List.take_length] at ha
          have Ha := Lib.hid ha
          clear ha
          go_wp2_with fail
          go_ret
          exact ⟨by rw [Hg2.out, Ha.out]; rfl, hb⟩
  · have hg : growS c = sNone := by unfold growS; rw [if_neg hC]
    rw [decide_eq_false hC]
    go_wp2_with fail
    go_ret
    exact ⟨by rw [hg]; rfl, below_drewN' w m1⟩
end Go.Proofs.YtldcmhgpppeooaaGreatDoor
