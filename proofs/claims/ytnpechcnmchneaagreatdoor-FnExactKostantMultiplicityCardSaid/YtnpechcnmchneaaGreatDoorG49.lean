/- A weight as a root vector, the difference of two weights (the program's): contracts. The difference of two weights as a root vector (the program's): contract. KostantMultiplicity (the program's): contract. The reference's elements of a finite group of at most 200 elements; groups of at most 48: contracts. -/
import Derived.Test.YtnpechcnmchneaaGreatDoorG31
import Derived.Test.YtnpechcnmchneaaGreatDoorG20
import Derived.Test.YtnpechcnmchneaaGreatDoorG46
import Derived.Test.YtnpechcnmchneaaGreatDoorG48
import Derived.Test.YtnpechcnmchneaaGreatDoorG24
namespace Go.Proofs.YtnpechcnmchneaaGreatDoor
set_option maxRecDepth 100000
open Go.RowKit Game

def divB (c : List (List Int)) (v : List Int) : Bool := (crd c v).all fun x => decide (x.tmod (dC c) = 0)
theorem divB_at {c : List (List Int)} {v : List Int} : divB c v = true ↔ ∀ j, j < c.length → ((crd c v).getD j 0).tmod (dC c) = 0 := by
  unfold divB
  rw [List.all_eq_true]
  constructor
  · intro h j hj
    exact of_decide_eq_true (h ((crd c v).getD j 0) (by simp [List.getD, crd_length, hj]))
  · intro h x hx
    obtain ⟨j, hj, rfl⟩ := List.mem_iff_getElem.1 hx
    have := h j (by rw [crd_length] at hj; exact hj)
    simp [List.getD, hj] at this
    exact decide_eq_true this
/-- small weights -/
def SmW (n : Nat) (v : List Int) : Prop := v.length = n ∧ ∀ j, j < n → -1900 ≤ v.getD j 0 ∧ v.getD j 0 ≤ 1900
theorem colL_sq {c : List (List Int)} (hC : IsC c) {v : List Int} (hv : SmW c.length v) {j : Nat} (hj : j < c.length) : SqB c.length (colL c j v) := by
  refine ⟨by simp [colL], fun i hi => ?_, fun r s => ?_⟩
  · have e : (colL c j v).getD i [] = (c.getD i []).set j (v.getD i 0) := by simp [colL, List.getD, hi]
    rw [e, List.length_set]; exact hC.2.2.1 i hi
  · rw [ent_colL hC hj hv.1]
    unfold updF
    split
    · by_cases hr : r < c.length
      · have := hv.2 r hr
        show -2000 ≤ v.getD r 0 ∧ v.getD r 0 ≤ 2000
        omega
      · rw [toV_out (by rw [hv.1]; omega)]; omega
    · have := ent_bound hC r s; omega
theorem crd_bound {c : List (List Int)} (hC : IsC c) {v : List Int} (hv : SmW c.length v) {j : Nat} (hj : j < c.length) : -384000000000000 ≤ (crd c v).getD j 0 ∧ (crd c v).getD j 0 ≤ 384000000000000 := by
  have e : (crd c v).getD j 0 = det c.length (colL c j v) := by simp [crd, List.getD, hj]
  have h := det_boundM _ _ (colL_sq hC hv hj)
  have h4 := hC.2.1
  have hd : 0 ≤ detM c.length ∧ detM c.length ≤ 384000000000000 := by
    have : c.length = 0 ∨ c.length = 1 ∨ c.length = 2 ∨ c.length = 3 ∨ c.length = 4 := by omega
    rcases this with h | h | h | h | h <;> rw [h] <;> simp [detM]
  rw [e]; omega
theorem dC_bound {c : List (List Int)} (hC : IsC c) : dC c ≤ 384000000000000 := by
  have h := det_boundM _ _ (Sq.toM (show Sq c.length c from ⟨rfl, hC.2.2.1, ent_bound hC⟩))
  have h4 := hC.2.1
  have hd : 0 ≤ detM c.length ∧ detM c.length ≤ 384000000000000 := by
    have : c.length = 0 ∨ c.length = 1 ∨ c.length = 2 ∨ c.length = 3 ∨ c.length = 4 := by omega
    rcases this with h | h | h | h | h <;> rw [h] <;> simp [detM]
  unfold dC; omega
theorem colL_take {c : List (List Int)} {j : Nat} {v : List Int} {k : Nat} (hk : k < c.length) : (colL c j v).take (k + 1) = (colL c j v).take k ++ [(c.getD k []).set j (v.getD k 0)] := by
  have hl : k < (colL c j v).length := by simp [colL]; exact hk
  rw [List.take_succ_eq_append_getElem hl]
  simp [colL, List.getD, hk]
theorem colL_all (c : List (List Int)) (j : Nat) (v : List Int) : (colL c j v).take c.length = colL c j v := List.take_of_length_le (by simp [colL])
theorem qL_take {c : List (List Int)} {v : List Int} {j : Nat} (hj : j < c.length) : (qL c v).take (j + 1) = (qL c v).take j ++ [((crd c v).getD j 0).tdiv (dC c)] := by
  have hl : j < (qL c v).length := by rw [qL_length]; exact hj
  rw [List.take_succ_eq_append_getElem hl]
  congr 2
  simp [qL, List.getD, crd_length, hj]

def GotRoot (w : World) (c : List (List Int)) (v : List Int) (e : Ending) (w' : World) : Prop :=
  (divB c v = true ∧ GotIntsB w (qL c v) true e w') ∨ (divB c v = false ∧ e = .returned (.tuple #[.slice none 0 0, .bool false]) ∧ Below w.heap.size w w')

set_option maxHeartbeats 4000000 in
theorem impl_asRoot_any (gc oc n cc g o m cv : Nat) (c : List (List Int)) (v : List Int) (w : World) (hn : c.length = n) (hm : v.length = m) (hK : CrOk c) (hcap : n ≤ cc) (hv : SmW c.length v)
    (hgc : gc < w.heap.size) (hg : g < w.heap.size) (hr : Rows2 w gc oc c) (hcv : Cells w g o v) :
    Calls Tryz.prog 99 #[(Value.slice (some ⟨gc, oc, none⟩) n cc), (Value.slice (some ⟨g, o, none⟩) m cv)] w (GotRoot w c v) := by
  subst hn; subst hm
  have hC := hK.hC
  have hn4 := hC.2.1
  have hvl := hv.1
  have hD := impl_determinantM_any c.length hn4 gc oc cc c w (Sq.toM ⟨rfl, hC.2.2.1, ent_bound hC⟩) hgc hcap hr
  have hd0 := hK.pos
  have hdb := dC_bound hC
  have HD : Hid (Calls Tryz.prog 87 #[(Value.slice (some ⟨gc, oc, none⟩) c.length cc)] w (Gives w (.int .i64 (dC c)))) := hD
  have HX := Lib.hid (fun (i : Nat) (hi : i < c.length) (W : World) (B gm cm : Nat) (rs : List RowRef) (ho : OwnRows W B gm cm rs) (hrs : rs.length = c.length) (hcon : contents rs = colL c i v) => by
    have h1 := impl_determinantM_any c.length hn4 gm 0 cm (colL c i v) W (colL_sq hC hv hi) ho.lt (by have := ho.capLe; omega) (by rw [← hcon]; exact ho.rows2)
    have e : det c.length (colL c i v) = (crd c v).getD i 0 := by simp [crd, List.getD, hi]
    rw [e] at h1
    exact h1)
  have HB := Lib.hid (fun (i : Nat) (hi : i < c.length) => crd_bound hC hv hi)
  have HT := Lib.hid (fun (i k : Nat) (hk : k < c.length) => colL_take (j := i) (v := v) hk)
  have HA := Lib.hid (fun i : Nat => colL_all c i v)
  have HQ := Lib.hid (fun (j : Nat) (hj : j < c.length) => qL_take (v := v) hj)
  have HL := Lib.hid (fun j (hj : j < c.length) => hC.2.2.1 j hj)
  have HV := Lib.hid hv
  have HI := Lib.hid (divB_at (c := c) (v := v))
  have HQL := Lib.hid (qL_length c v)
  have hU : GotRoot w c v = fun e w' => (divB c v = true ∧ GotIntsB w (qL c v) true e w') ∨ (divB c v = false ∧ e = .returned (.tuple #[.slice none 0 0, .bool false]) ∧ Below w.heap.size w w') := rfl
  rw [hU]
  clear hD hK hv hU
  generalize dC c = d at *
  generalize crd c v = X at *
  generalize qL c v = Q at *
  generalize divB c v = bd at *
  go_enter Tryz.func99, Tryz.ntmps99
  go_wp2_with fail
  refine HD.out.mono ?_
  rintro e w1 ⟨rfl, hb1⟩
  go_wp2_with fail
  go_loopw [7, 19] (fun ov iv wr => ∃ (i g' c' : Nat), i ≤ c.length ∧ iv = .int .i64 i ∧ ov = (Value.slice (some ⟨g', 0, none⟩) i c') ∧ Hid (∀ j, j < i → (X.getD j 0).tmod d = 0) ∧ Own wr w.heap.size g' c' (Q.take i) ∧ Below w.heap.size w wr) (fun _ iv _ => c.length - (intOf iv).toNat)
  case atStart =>
    exact ⟨0, w1.heap.size, 0, Nat.zero_le _, rfl, rfl, fun j hj => absurd hj (by omega), (Own.empty (w := w1) (Nat.le_refl _)).mono hb1.size, hb1.alloc hb1.size _⟩
  case round =>
    obtain ⟨i, g', c', hi, rfl, rfl, hz, ho, hb⟩ := hrel
    by_cases hil : i < c.length
    · obtain ⟨wo, rfl⟩ : ∃ wo : World, wo = wr := ⟨_, rfl⟩
      go_wp2_with fail
      go_loopw [9, 25] (fun mv kv wi => ∃ (k gm cm : Nat) (rs : List RowRef), k ≤ c.length ∧ kv = .int .i64 k ∧ mv = (Value.slice (some ⟨gm, 0, none⟩) k cm) ∧ Hid (rs.length = k) ∧ Hid (contents rs = (colL c i v).take k) ∧ OwnRows wi wo.heap.size gm cm rs ∧ Below wo.heap.size wo wi) (fun _ kv _ => c.length - (intOf kv).toNat)
      case atStart => exact ⟨0, wo.heap.size, 0, [], Nat.zero_le _, rfl, rfl, rfl, rfl, OwnRows.empty (Nat.le_refl _), (Below.refl _ _).alloc (Nat.le_refl _) _⟩
      case round =>
        obtain ⟨k, gm, cm, rs, hk, rfl, rfl, hrs, hcon, hR, hbi⟩ := hrel
        have hBB := hb.trans (hbi.mono hb.size)
        by_cases hlk : k < c.length
        · obtain ⟨ga, oa, ca, q1, q2, q3, q4⟩ := (hr.below hBB hgc) k hlk
          have hrl := HL.out k hlk
          have hvk := (hcv.below hBB hg) k (by rw [hvl]; exact hlk)
          have ht := HT.out i k hlk
          generalize c.getD k [] = R at *
          generalize v.getD k 0 = x at *
          rw [hrl] at q1 q2
          have hcl := slices_Clone_any ga oa c.length ca R wr hrl (by omega) q3 q4
          have Hcl := Lib.hid hcl; have Hrl := Lib.hid hrl; have Ht := Lib.hid ht
          clear hcl hrl ht
          go_wp2_with fail
          refine Hcl.out.mono ?_
          rintro e w2 ⟨g3, c3, rfl, ho3, hb3⟩
          rw [Hrl.out]
          have hvk2 := (hb3.cell (p := ⟨g, o + k, none⟩) (Nat.lt_of_lt_of_le hg hBB.size)).trans hvk
          have x0 := ho3.cell i (by rw [Hrl.out]; exact hil)
          have y0 := ho3.frozen i
          have s1 := ho3.set i x
          have hb4 : Below wr.heap.size wr (w2.setCell ⟨g3, i, none⟩ (.int .i64 x)) := hb3.grown s1.2 hb3.size (by intro j hj; cases hj; exact ho3.base)
          have hR4 := hR.below hb4
          have hB4 : Below wo.heap.size wo (w2.setCell ⟨g3, i, none⟩ (.int .i64 x)) := hbi.trans (hb4.mono hbi.size)
          have ho4 := s1.1.mono hbi.size
          have hne : ∀ s ∈ rs, s.1 ≠ g3 := fun s hs e => by have h1 := (hR.2.1 s hs).lt; have h2 := ho3.base; omega
          have hl4 : (R.set i x).length = c.length := by rw [List.length_set]; exact Hrl.out
          generalize R.set i x = R2 at *
          have Hl4 := Lib.hid hl4; have Hne := Lib.hid hne
          clear s1 hb3 hb4 hl4 hR hvk q1 hne
          go_wp2_with (at_builtin; refine wpList_append_row (w := w2.setCell ⟨g3, i, none⟩ (.int .i64 x)) rfl _ _ rfl wo.heap.size gm cm k w2.heap.size rs (g3, c3, R2) _ hrs.out (by unfold rowVal; rw [Hl4.out]) (by simp [World.setCell]) hR4 ho4 Hne.out rfl rfl (by omega) ?_)
          intro g5 c5 w5 hO5 hg5 hor5
          have hB5 : Below wo.heap.size wo w5 := hB4.grown hg5 hB4.size (by intro t ht; cases ht; exact hR4.base)
          have hl5 : Hid ((rs ++ [(g3, c3, R2)]).length = k + 1) := Lib.hid (by rw [List.length_append, hrs.out]; rfl)
          have hc5 : Hid (contents (rs ++ [(g3, c3, R2)]) = (colL c i v).take (k + 1)) := Lib.hid (by rw [Ht.out, ← hcon.out]; simp [contents])
          clear hR4 hB4 hg5 hor5
          go_wp2_with fail
          go_roundw
          case rel => exact ⟨k + 1, g5, c5, _, by omega, by go_num, rfl, hl5.out, hc5.out, hO5, hB5⟩
          case measure => simp [intOf]; omega
        · obtain rfl : k = c.length := by omega
          have hcc := hcon.out
          rw [HA.out i] at hcc
          have hcall := HX.out i hil wr wo.heap.size gm cm rs hR hrs.out hcc
          have hbx := HB.out i hil
          have hq := HQ.out i hil
          have ho' := ho.below hbi ho.lt
          have hBB2 := hBB
          have hnot : ∀ (h : ¬ (X.getD i 0).tmod d = 0), bd = false := fun h => by
            cases hb : bd with
            | false => rfl
            | true => rw [hb] at HI; exact absurd (HI.out.1 rfl i hil) h
          have hzz : (X.getD i 0).tmod d = 0 → ∀ j, j < i + 1 → (X.getD j 0).tmod d = 0 := fun h j hj => by
            by_cases e : j = i
            · rw [e]; exact h
            · exact hz.out j (by omega)
          have hgl := ho.base
          generalize X.getD i 0 = x at *
          have Hcall := Lib.hid hcall; have Hq := Lib.hid hq; have Hnot := Lib.hid hnot; have Hzz := Lib.hid hzz
          have hQl : (Q.take i).length = i := by rw [List.length_take, HQL.out]; omega
          have HQl := Lib.hid hQl
          clear hcall hq hnot hzz hcc hcon hR hQl
          have hdz : (d == 0) = false := by simp; omega
          go_wp2_with fail
          refine Hcall.out.mono ?_
          rintro e w2 ⟨rfl, hb2⟩
          have ho2 := ho'.below hb2 ho'.lt
          have hB2 : Below w.heap.size w w2 := hBB2.trans (hb2.mono hBB2.size)
          clear hb2 ho' hBB2 hBB hbi ho
          by_cases hm0 : x.tmod d = 0
          · have hm1 : (x.tmod d != 0) = false := by rw [hm0]; rfl
            have hzz2 := Hzz.out hm0
            have Hz2 := Lib.hid hzz2
            have Hm0 := Lib.hid hm0
            clear hzz2 hm0
            go_wp2_with (at_builtin; refine wpList_append_int_n rfl _ _ rfl w.heap.size g' c' i (Q.take i) (x.tdiv d) HQl.out ho2 rfl rfl (by omega) ?_)
            intro g3 c3 w3 ho3 hg3 _
            rw [← Hq.out] at ho3
            go_wp2_with fail
            go_roundw
            case rel => exact ⟨i + 1, g3, c3, by omega, by go_num, rfl, Hz2.out, ho3, hB2.grown hg3 hB2.size (by intro j hj; cases hj; exact hgl)⟩
            case measure => simp [intOf]; omega
          · have hm1 : (x.tmod d != 0) = true := by simpa using hm0
            have hf := Hnot.out hm0
            have Hf := Lib.hid hf
            clear hm0 hf
            go_wp2_with fail
            go_ret2
            exact .inr ⟨Hf.out, rfl, hB2⟩
    · obtain rfl : i = c.length := by omega
      have hall : bd = true := HI.out.2 hz.out
      have HAll := Lib.hid hall
      have hq : Q.take c.length = Q := List.take_of_length_le (by rw [HQL.out]; exact Nat.le_refl _)
      rw [hq] at ho
      clear hall hq hz
      go_wp2_with fail
      go_ret2
      exact .inl ⟨HAll.out, g', c', by rw [HQL.out]; rfl, ho, hb⟩
end Go.Proofs.YtnpechcnmchneaaGreatDoor
namespace Go.Proofs.YtnpechcnmchneaaGreatDoor
set_option maxRecDepth 100000
open Go.RowKit Game

theorem tdiv_sign {x d : Int} (hd : 0 < d) (h : x.tmod d = 0) : 0 ≤ x.tdiv d ↔ 0 ≤ x := by
  have e := Int.mul_tdiv_add_tmod x d
  rw [h, Int.add_zero] at e
  generalize x.tdiv d = q at *
  constructor
  · intro hq
    rw [← e]; exact Int.mul_nonneg (Int.le_of_lt hd) hq
  · intro hx
    rcases Int.lt_or_le q 0 with h1 | h1
    · have := Int.mul_neg_of_pos_of_neg hd h1
      omega
    · exact h1
theorem dif_div {c : List (List Int)} (hK : CrOk c) {v : List Int} (h : divB c v = true) : difB c v = (firstNeg (qL c v)).isNone := by
  have h1 := divB_at.1 h
  have hq : ∀ j, j < c.length → (qL c v).getD j 0 = ((crd c v).getD j 0).tdiv (dC c) := fun j hj => by simp [qL, List.getD, crd_length, hj]
  cases hf : firstNeg (qL c v) with
  | none =>
    have hn := firstNeg_none hf
    unfold difB
    show _ = true
    rw [List.all_eq_true]
    intro x hx
    obtain ⟨j, hj, rfl⟩ := List.mem_iff_getElem.1 hx
    have hj' : j < c.length := by rw [crd_length] at hj; exact hj
    have e : (crd c v)[j] = (crd c v).getD j 0 := by simp [List.getD, hj]
    rw [e, Bool.and_eq_true]
    have h2 := hn j (by rw [qL_length]; exact hj')
    rw [hq j hj'] at h2
    exact ⟨decide_eq_true ((tdiv_sign hK.pos (h1 j hj')).1 h2), decide_eq_true (h1 j hj')⟩
  | some i =>
    obtain ⟨h2, h3, -⟩ := firstNeg_lt hf
    rw [qL_length] at h2
    rw [hq i h2] at h3
    show _ = false
    cases hd : difB c v with
    | false => rfl
    | true =>
      unfold difB at hd
      rw [List.all_eq_true] at hd
      have h4 := hd ((crd c v).getD i 0) (by simp [List.getD, crd_length, h2])
      rw [Bool.and_eq_true] at h4
      have h5 := (tdiv_sign hK.pos (h1 i h2)).2 (of_decide_eq_true h4.1)
      omega
theorem dif_no {c : List (List Int)} {v : List Int} (h : divB c v = false) : difB c v = false := by
  cases hd : difB c v with
  | false => rfl
  | true =>
    have : divB c v = true := by
      unfold difB at hd
      unfold divB
      rw [List.all_eq_true] at hd ⊢
      exact fun x hx => (Bool.and_eq_true_iff.1 (hd x hx)).2
    rw [h] at this; exact absurd this (by decide)

def GotDif (w : World) (c : List (List Int)) (v : List Int) (e : Ending) (w' : World) : Prop :=
  (difB c v = true ∧ GotIntsB w (qL c v) true e w') ∨ (difB c v = false ∧ (∃ s, e = .returned (.tuple #[s, .bool false])) ∧ Below w.heap.size w w')

set_option maxHeartbeats 4000000 in
theorem impl_difference_any (gc oc n cc g1 o1 c1 g2 o2 c2 : Nat) (c : List (List Int)) (b a : List Int) (w : World) (hn : c.length = n) (hb : b.length = n) (ha : a.length = n) (hK : CrOk c) (hcap : n ≤ cc)
    (hbb : ∀ j, j < n → -900 ≤ b.getD j 0 ∧ b.getD j 0 ≤ 900) (hab : ∀ j, j < n → -1000 ≤ a.getD j 0 ∧ a.getD j 0 ≤ 1000)
    (hgc : gc < w.heap.size) (hg1 : g1 < w.heap.size) (hg2 : g2 < w.heap.size) (hr : Rows2 w gc oc c) (hc1 : Cells w g1 o1 b) (hc2 : Cells w g2 o2 a) :
    Calls Tryz.prog 52 #[(Value.slice (some ⟨gc, oc, none⟩) n cc), (Value.slice (some ⟨g1, o1, none⟩) n c1), (Value.slice (some ⟨g2, o2, none⟩) n c2)] w (GotDif w c (shiftL b a (-1))) := by
  subst hn
  have hn4 := hK.hC.2.1
  have hV : SmW c.length (shiftL b a (-1)) := ⟨by rw [shiftL_length]; exact hb, fun j hj => by
    rw [shiftL_getD _ _ _ (by rw [hb]; exact hj)]
    have := hbb j hj; have := hab j hj; omega⟩
  have hU : ∀ W, Below w.heap.size w W → ∀ g3 c3, Own W w.heap.size g3 c3 (shiftL b a (-1)) → Calls Tryz.prog 99 #[(Value.slice (some ⟨gc, oc, none⟩) c.length cc), (Value.slice (some ⟨g3, 0, none⟩) c.length c3)] W (GotRoot W c (shiftL b a (-1))) := fun W hW g3 c3 ho =>
    impl_asRoot_any gc oc _ cc g3 0 _ c3 c _ W rfl hV.1 hK hcap hV (Nat.lt_of_lt_of_le hgc hW.size) ho.lt (hr.below hW hgc) ho.cells
  have HU := Lib.hid hU
  have HA := Lib.hid (shiftTo_all b a (-1))
  have HS := Lib.hid (shiftTo_succ b a (-1))
  have HT := Lib.hid (shiftTo_length b a (-1))
  have HD := Lib.hid (fun h => dif_div hK (v := shiftL b a (-1)) h)
  have HN := Lib.hid (fun h => dif_no (c := c) (v := shiftL b a (-1)) h)
  have HQL := Lib.hid (qL_length c (shiftL b a (-1)))
  have Hbb := Lib.hid hbb; have Hab := Lib.hid hab; have Hb := Lib.hid hb; have Ha := Lib.hid ha
  have hG : GotDif w c (shiftL b a (-1)) = fun e w' => (difB c (shiftL b a (-1)) = true ∧ GotIntsB w (qL c (shiftL b a (-1))) true e w') ∨ (difB c (shiftL b a (-1)) = false ∧ (∃ s, e = .returned (.tuple #[s, .bool false])) ∧ Below w.heap.size w w') := rfl
  rw [hG]
  clear hU hV hbb hab hb ha hG
  generalize shiftL b a (-1) = V at *
  have HR := Lib.hid (show ∀ W e W', GotRoot W c V e W' → (divB c V = true ∧ GotIntsB W (qL c V) true e W') ∨ (divB c V = false ∧ e = .returned (.tuple #[.slice none 0 0, .bool false]) ∧ Below W.heap.size W W') from fun _ _ _ h => h)
  go_enter Tryz.func52, Tryz.ntmps52
  go_wp2_with fail
  go_loopw [8, 15] (fun s kv wr => ∃ t g' c' : Nat, t ≤ c.length ∧ kv = .int .i64 t ∧ s = (Value.slice (some ⟨g', 0, none⟩) t c') ∧ Own wr w.heap.size g' c' (shiftTo b a (-1) t) ∧ Below w.heap.size w wr) (fun _ kv _ => c.length - (intOf kv).toNat)
  case atStart => exact ⟨0, w.heap.size, 0, Nat.zero_le _, rfl, rfl, Own.empty (Nat.le_refl _), (Below.refl _ _).alloc (Nat.le_refl _) _⟩
  case round =>
    obtain ⟨t, g', c', ht, rfl, rfl, ho, hbw⟩ := hrel
    by_cases hlt : t < c.length
    · have k1 := (hbw.cell (p := ⟨g1, o1 + t, none⟩) hg1).trans (hc1 t (by rw [Hb.out]; exact hlt))
      have k2 := (hbw.cell (p := ⟨g2, o2 + t, none⟩) hg2).trans (hc2 t (by rw [Ha.out]; exact hlt))
      have hsucc := HS.out t
      have hl := HT.out t
      have b1 := Hbb.out t hlt
      have b2 := Hab.out t hlt
      have hBg := ho.base
      have ne1 : some g1 ≠ some g' := by intro e; cases e; omega
      have ne2 : some g2 ≠ some g' := by intro e; cases e; omega
      generalize b.getD t 0 = x at *
      generalize a.getD t 0 = y at *
      have hw2 : IntKind.i64.wrap (x - y) = x - y := IntWalk.i64_in _ ⟨by omega, by omega⟩
      rw [show x + (-1) * y = x - y by omega] at hsucc
      generalize shiftTo b a (-1) t = ys at *
      have Hs := Lib.hid hsucc; clear hsucc
      go_wp2_with fail
      go_region_held3 (fun W => W.cell? ⟨g1, o1 + t, none⟩ = some (.int .i64 x) ∧ W.cell? ⟨g2, o2 + t, none⟩ = some (.int .i64 y))
        (first | go_keep | exact ⟨hg3.cell (a := ⟨g1, o1 + t, none⟩) k1 ne1, hg3.cell (a := ⟨g2, o2 + t, none⟩) k2 ne2⟩)
        ((refine step_append_int (w := wr.drew) (by rfl) _ _ (by rfl) w.heap.size g' c' t wr.heap.size ys _ _ hl (by rfl) (by rfl) ho.drew (by rfl) (by rfl) (by omega) ?_; intro g3 c3 w3 ho3 hg3 hor))
      go_wp2_with fail
      go_roundw
      case rel =>
        rw [← Hs.out] at ho3
        exact ⟨t + 1, g3, c3, by omega, by go_num, rfl, ho3, (Below.drew hbw).grown hg3 hbw.size (by intro j hj; cases hj; exact ho.base)⟩
      case measure => simp [intOf]; omega
    · obtain rfl : t = c.length := by omega
      have ho' : Own wr w.heap.size g' c' V := by
        have e := HA.out
        rw [Hb.out] at e
        rw [← e]; exact ho
      have hcall := HU.out wr hbw g' c' ho'
      have Hcall := Lib.hid hcall
      clear hcall ho'
      go_wp2_with fail
      refine Hcall.out.mono ?_
      intro e w2 hres
      rcases HR.out wr e w2 hres with ⟨hdv, g3, c3, rfl, ho3, hb3⟩ | ⟨hdv, rfl, hb3⟩
      · have hB3 := hbw.trans (hb3.mono hbw.size)
        have hdf := HD.out hdv
        have hcall := impl_IsDominant_any g3 0 _ c3 (qL c V) w2 rfl (by rw [HQL.out]; omega) ho3.cells
        rw [← hdf] at hcall
        have hql := HQL.out
        obtain ⟨Q, hQ⟩ : ∃ Q, Q = qL c V := ⟨_, rfl⟩
        rw [← hQ] at hcall ho3 hql
        rw [hql] at hcall
        have HQe := Lib.hid hQ
        rw [HQL.out]
        clear hQ
        have Hcall2 := Lib.hid hcall; have Hql := Lib.hid hql
        clear hcall hdv hres hdf hql
        have ho3' := ho3.mono hbw.size
        cases hdd : difB c V with
        | true =>
          rw [hdd] at Hcall2
          have Hdd := Lib.hid hdd
          clear hdd
          go_wp2_with fail
          refine Hcall2.out.mono ?_
          rintro e w3 ⟨rfl, hs⟩
          have hB4 := below_still hB3 hs
          have ho4 := ho3'.still hs
          clear hs
          go_wp2_with fail
          go_ret2
          exact .inl ⟨Hdd.out, g3, c3, by rw [HQL.out]; rfl, by rw [← HQe.out]; exact ho4, hB4⟩
        | false =>
          rw [hdd] at Hcall2
          have Hdd := Lib.hid hdd
          clear hdd
          go_wp2_with fail
          refine Hcall2.out.mono ?_
          rintro e w3 ⟨rfl, hs⟩
          have hB4 := below_still hB3 hs
          clear hs
          go_wp2_with fail
          go_ret2
          exact .inr ⟨Hdd.out, ⟨_, rfl⟩, hB4⟩
      · have hB3 := hbw.trans (hb3.mono hbw.size)
        have hdf := HN.out hdv
        have Hdf := Lib.hid hdf
        clear hdv hres hdf
        go_wp2_with fail
        go_ret2
        exact .inr ⟨Hdf.out, ⟨_, rfl⟩, hB3⟩
end Go.Proofs.YtnpechcnmchneaaGreatDoor
namespace Go.Proofs.YtnpechcnmchneaaGreatDoor
set_option maxRecDepth 100000
open Go.RowKit Game

set_option maxHeartbeats 4000000 in
theorem impl_Kostant_yes (gc oc n cc g1 o1 c1 g2 o2 c2 : Nat) (c : List (List Int)) (v u : List Int) (w : World) (hn : c.length = n) (hk : kosOk c v u) (hcap : n ≤ cc)
    (hgc : gc < w.heap.size) (hg1 : g1 < w.heap.size) (hg2 : g2 < w.heap.size) (hr : Rows2 w gc oc c) (hc1 : Cells w g1 o1 v) (hc2 : Cells w g2 o2 u) (hm : MaxL w) :
    Calls Tryz.prog 12 #[(Value.slice (some ⟨gc, oc, none⟩) n cc), (Value.slice (some ⟨g1, o1, none⟩) n c1), (Value.slice (some ⟨g2, o2, none⟩) n c2)] w (Gives w (kosV c v u)) := by
  subst hn
  obtain ⟨hf, hR, hS, hU⟩ := hk
  have hG := grp_few hf
  have hK := crOk_fin (fewB_fin hf)
  have hC := hG.hC
  have hn4 := hC.2.1
  have hx : c.length ≤ 1048576 := by omega
  have hrl : ∀ j, j < c.length → (c.getD j []).length ≤ 1048576 := fun j hj => by rw [hC.2.2.1 j hj]; exact hx
  have hul := hU.2.1
  have hub := hU.2.2
  rw [hul] at hub
  have HF := Lib.hid (impl_few_yes gc oc c.length cc c w rfl hf hgc hr hm)
  have HR := fun W (hW : Below w.heap.size w W) => impl_fewRoots_any gc oc c.length cc c W rfl hx hrl (Nat.lt_of_lt_of_le hgc hW.size) (hr.below hW hgc)
  rw [decide_eq_true hR] at HR
  have HS := fun W (hW : Below w.heap.size w W) => impl_isSmall_any gc oc c.length cc g1 o1 c.length c1 c v W rfl hS.1 hx (by rw [hS.1]; exact hx) (hc1.below hW hg1)
  rw [decide_eq_true hS] at HS
  have HU := fun W (hW : Below w.heap.size w W) => impl_IsWeight_any gc oc c.length cc g2 o2 c.length c2 c u W rfl hul hx (by rw [hul]; exact hx) hrl (hr.below hW hgc) (hc2.below hW hg2)
  rw [decide_eq_true hU] at HU
  have HD := fun (N : Nat) (W : List Nat) (hW : Elt c N W) (hN : N ≤ 9) gW cW n1 Wd (hB : Below w.heap.size w Wd) (hn1 : (intsOf W).length = n1) (hlt : gW < Wd.heap.size) (hc : Cells Wd gW 0 (intsOf W)) =>
    impl_DotAction_ok gc oc c.length cc gW 0 n1 cW g1 o1 c1 c v W N Wd rfl hG hS hW hN hn1 (Nat.lt_of_lt_of_le hgc hB.size) hlt (Nat.lt_of_lt_of_le hg1 hB.size) (hr.below hB hgc) hc (hc1.below hB hg1)
  have HE := fun (X : List Int) (hX : X.length = c.length) (hbd : ∀ j, j < c.length → -900 ≤ X.getD j 0 ∧ X.getD j 0 ≤ 900) gW cW Wd (hB : Below w.heap.size w Wd) (hlt : gW < Wd.heap.size) (hc : Cells Wd gW 0 X) =>
    impl_difference_any gc oc c.length cc gW 0 cW g2 o2 c2 c X u Wd rfl hX hul hK hcap hbd hub (Nat.lt_of_lt_of_le hgc hB.size) hlt (Nat.lt_of_lt_of_le hg2 hB.size) (hr.below hB hgc) hc (hc2.below hB hg2)
  have HP := fun (Y : List Int) (hY : Y.length = c.length) gW cW Wd (hB : Below w.heap.size w Wd) (hlt : gW < Wd.heap.size) (hc : Cells Wd gW 0 Y) =>
    impl_PartitionCount_any gc oc c.length cc gW 0 c.length cW c Y Wd rfl hY hx (by rw [hY]; exact hx) hrl (Nat.lt_of_lt_of_le hgc hB.size) hlt (hr.below hB hgc) hc
  have HRow := fun k (hk : k < (elemL c).length) => kos_row hf hS hk
  have HGo := fun k (hk : k < (elemL c).length) (s : Int) => kosGo_step (c := c) (v := v) (u := u) hk s
  have hfew := hG.few
  have HR := Lib.hid HR; have HS := Lib.hid HS; have HU := Lib.hid HU; have HD := Lib.hid HD; have HE := Lib.hid HE; have HP := Lib.hid HP; have HRow := Lib.hid HRow; have HGo := Lib.hid HGo
  rw [kosV_yes ⟨hf, hR, hS, hU⟩]
  clear hub hrl hK hR hS hU hf hG hm hC
  generalize elemL c = L at *
  obtain ⟨R, hR⟩ : ∃ R, kosGo c v u L 0 = R := ⟨_, rfl⟩
  rw [hR]
  have HR0 := Lib.hid hR; clear hR
  generalize posA c = A at *
  go_enter Tryz.func12, Tryz.ntmps12
  go_wp2_with fail
  refine HF.out.mono ?_
  rintro e w1 ⟨g3, c3, rs, rfl, hcon, hO, hb1⟩
  have Hcon := Lib.hid hcon; clear hcon
  go_wp2_with fail
  refine (HR.out w1 hb1).mono ?_
  rintro e w2 ⟨g4, c4, rs4, rfl, -, -, hb2⟩
  have hO2 := hO.below hb2
  have hB2 := hb1.trans (hb2.mono hb1.size)
  clear hO hb1 hb2
  go_wp2_with fail
  refine (HS.out w2 hB2).mono ?_
  rintro e w3 ⟨rfl, hs3⟩
  have hO3 := hO2.still hs3
  have hB3 := below_still hB2 hs3
  clear hO2 hB2 hs3
  go_wp2_with fail
  refine (HU.out w3 hB3).mono ?_
  rintro e w4 ⟨rfl, hs4⟩
  have hO4 := hO3.still hs4
  have hB4 := below_still hB3 hs4
  clear hO3 hB3 hs4
  go_wp2_with fail
  go_loopw [12, 46] (fun sv kv wr => ∃ (k : Nat) (s : Int), k ≤ L.length ∧ kv = .int .i64 k ∧ sv = .int .i64 s ∧ Hid (kosGo c v u (L.drop k) s = R) ∧ Below w4.heap.size w4 wr) (fun _ kv _ => L.length - (intOf kv).toNat)
  case atStart => exact ⟨0, 0, Nat.zero_le _, rfl, rfl, by show _ = _; rw [List.drop_zero]; exact HR0.out, Below.refl _ _⟩
  case round =>
    obtain ⟨k, s, hk, rfl, rfl, hgo, hbr⟩ := hrel
    have hBr := hB4.trans (hbr.mono hB4.size)
    by_cases hlt : k < L.length
    · have hstep := HGo.out k hlt s
      rw [hgo.out] at hstep
      obtain ⟨N, W, hW, hWe, h9, hWl, hbd⟩ := HRow.out k hlt
      have hOr := hO4.below hbr
      have hrsl : rs.length = L.length := by rw [← Hcon.out, contents_length]
      have hkr : k < rs.length := by rw [hrsl]; exact hlt
      have hcr : rs[k].2.2 = intsOf W := by rw [← hWe, ← Hcon.out]; simp [contents, List.getD, hkr]
      have hRo := hOr.2.1 rs[k] (List.getElem_mem _)
      have hqk : wr.cell? ⟨g3, k, none⟩ = some (rowVal rs[k]) := by rw [hOr.1.cell k (by simpa using hkr)]; simp
      generalize rs[k] = RR at *
      obtain ⟨gW, cW, WW⟩ := RR
      simp only at hcr hRo
      subst hcr
      have hwl : (intsOf W).length = N := by rw [intsOf_length]; exact hWl
      have hqk' : wr.cell? ⟨g3, k, none⟩ = some (Value.slice (some ⟨gW, 0, none⟩) N cW) := by rw [hqk]; unfold rowVal; simp only [hwl]
      rw [hWe] at hstep
      have hdot := HD.out N W hW h9 gW cW N wr hBr hwl hRo.lt hRo.cells
      have hdl := dotL_length (c := c) (w := intsOf W) (v := v)
      have hka : kosAt c v u (intsOf W) = shiftL (dotL c (intsOf W) v) u (-1) := rfl
      have hsg := fun Wd (hB : Below wr.heap.size wr Wd) => impl_SignOf_any gW 0 N cW (intsOf W) Wd hwl
      clear hqk hWe hrsl hkr hW hWl
      generalize intsOf W = WI at *
      have Hstep := Lib.hid hstep; have Hdot := Lib.hid hdot; have Hdl := Lib.hid hdl; have Hka := Lib.hid hka; have Hsg := Lib.hid hsg; have Hbd := Lib.hid hbd
      clear hstep hdot hdl hka hsg hbd hRo
      go_wp2_with fail
      refine Hdot.out.mono ?_
      rintro e w5 ⟨g5, c5, rfl, ho5, hb5⟩
      rw [Hdl.out]
      have hB5 := hBr.trans (hb5.mono hBr.size)
      have hdif := HE.out (dotL c WI v) Hdl.out Hbd.out g5 c5 w5 hB5 ho5.lt ho5.cells
      rw [← Hka.out] at hdif
      have Hdif := Lib.hid hdif
      clear hdif Hdot ho5
      go_wp2_with fail
      refine Hdif.out.mono ?_
      intro e w6 hres
      have hwl' := hwl
      rcases (show (difB c (kosAt c v u WI) = true ∧ GotIntsB w5 (qL c (kosAt c v u WI)) true e w6) ∨ (difB c (kosAt c v u WI) = false ∧ (∃ s, e = .returned (.tuple #[s, .bool false])) ∧ Below w5.heap.size w5 w6) from hres) with ⟨hdv, g6, c6, rfl, ho6, hb6⟩ | ⟨hdv, ⟨s6, rfl⟩, hb6⟩
      · have hB6 := hB5.trans (hb6.mono hB5.size)
        have hb56 : Below wr.heap.size wr w6 := hb5.trans (hb6.mono hb5.size)
        have hst := Hstep.out
        rw [if_pos hdv] at hst
        rw [qL_length]
        have hpc := HP.out (qL c (kosAt c v u WI)) (qL_length _ _) g6 c6 w6 hB6 ho6.lt ho6.cells
        have hpv := pcV_eq c (qL c (kosAt c v u WI))
        rw [hpv] at hpc
        clear hres hdv hb6 Hdif Hstep hpv
        by_cases hok : pcOk c (qL c (kosAt c v u WI))
        · rw [if_pos hok] at hst
          rw [decide_eq_true hok] at hpc
          have Hst := Lib.hid hst; have Hpc := Lib.hid hpc
          clear hst hpc hok ho6
          generalize pcI c (qL c (kosAt c v u WI)) = p at *
          go_wp2_with fail
          refine Hpc.out.mono ?_
          rintro e w7 ⟨rfl, hb7⟩
          have hb57 := hb56.trans (hb7.mono hb56.size)
          go_wp2_with fail
          refine (Hsg.out w7 hb57).mono ?_
          rintro e w8 ⟨rfl, hs8⟩
          have hb8 : Below w4.heap.size w4 w8 := below_still (hbr.trans (hb57.mono hbr.size)) hs8
          clear hs8 hb57 hb56 hb5 hb7
          generalize sgnW WI = sg at *
          go_wp2_with fail
          go_roundw
          case rel => exact ⟨k + 1, _, by omega, by go_num, rfl, by show _ = _; simp only [wrap64] at *; exact Hst.out.symm, hb8⟩
          case measure => simp [intOf]; omega
        · rw [if_neg hok] at hst
          rw [decide_eq_false hok] at hpc
          have Hst := Lib.hid hst; have Hpc := Lib.hid hpc
          clear hst hpc hok ho6
          generalize pcI c (qL c (kosAt c v u WI)) = p at *
          go_wp2_with fail
          refine Hpc.out.mono ?_
          rintro e w7 ⟨rfl, hb7⟩
          go_wp2_with fail
          go_ret2
          exact ⟨by rw [Hst.out]; rfl, hB6.trans (hb7.mono hB6.size)⟩
      · have hst := Hstep.out
        rw [if_neg (by rw [hdv]; decide)] at hst
        have Hst := Lib.hid hst
        have hb6' : Below w4.heap.size w4 w6 := hbr.trans ((hb5.trans (hb6.mono hb5.size)).mono hbr.size)
        clear hres hdv Hdif hst Hstep hb5 hb6
        go_wp2_with fail
        go_roundw
        case rel => exact ⟨k + 1, s, by omega, by go_num, rfl, Hst.out.symm, hb6'⟩
        case measure => simp [intOf]; omega
    · obtain rfl : k = L.length := by omega
      have hend := hgo.out
      rw [List.drop_length] at hend
      have hend2 : R = (s, true) := hend.symm
      have Hend := Lib.hid hend2
      clear hend hend2
      go_wp2_with fail
      go_ret2
      exact ⟨by rw [Hend.out]; rfl, hBr⟩

set_option maxHeartbeats 2000000 in
theorem impl_KostantMultiplicity_any (gc oc n cc g1 o1 m1 c1 g2 o2 m2 c2 : Nat) (c : List (List Int)) (v u : List Int) (w : World) (hn : c.length = n) (hm1 : v.length = m1) (hm2 : u.length = m2) (hx : c.length ≤ 1048576) (hvx : v.length ≤ 1048576) (hux : u.length ≤ 1048576)
    (hrl : ∀ j, j < c.length → (c.getD j []).length ≤ 1048576) (hcap : n ≤ cc) (hgc : gc < w.heap.size) (hg1 : g1 < w.heap.size) (hg2 : g2 < w.heap.size) (hr : Rows2 w gc oc c) (hc1 : Cells w g1 o1 v) (hc2 : Cells w g2 o2 u) (hm : MaxL w) :
    Calls Tryz.prog 12 #[(Value.slice (some ⟨gc, oc, none⟩) n cc), (Value.slice (some ⟨g1, o1, none⟩) m1 c1), (Value.slice (some ⟨g2, o2, none⟩) m2 c2)] w (Gives w (kosV c v u)) := by
  by_cases hk : kosOk c v u
  · have h1 := hk.2.2.1.1
    have h2 := hk.2.2.2.2.1
    rw [h1, hn] at hm1
    rw [h2, hn] at hm2
    subst hm1; subst hm2
    exact impl_Kostant_yes gc oc n cc g1 o1 c1 g2 o2 c2 c v u w hn hk hcap hgc hg1 hg2 hr hc1 hc2 hm
  · rw [kosV_no hk]
    by_cases hf : fewB c = true
    · have HF := Lib.hid (impl_few_yes gc oc n cc c w hn hf hgc hr hm)
      have HR := fun W (hW : Below w.heap.size w W) => impl_fewRoots_any gc oc n cc c W hn hx hrl (Nat.lt_of_lt_of_le hgc hW.size) (hr.below hW hgc)
      have HS := fun W (hW : Below w.heap.size w W) => impl_isSmall_any gc oc n cc g1 o1 m1 c1 c v W hn hm1 hx hvx (hc1.below hW hg1)
      have HU := fun W (hW : Below w.heap.size w W) => impl_IsWeight_any gc oc n cc g2 o2 m2 c2 c u W hn hm2 hx hux hrl (hr.below hW hgc) (hc2.below hW hg2)
      generalize elemL c = L at *
      generalize posA c = A at *
      by_cases hR : pcRoots c
      · rw [decide_eq_true hR] at HR
        by_cases hS : Sml c.length v
        · have hU : ¬ wtOk c u := fun h => hk ⟨hf, hR, hS, h⟩
          rw [decide_eq_true hS] at HS
          rw [decide_eq_false hU] at HU
          have HR := Lib.hid HR; have HS := Lib.hid HS; have HU := Lib.hid HU
          clear hk hf hR hS hU hrl hr hc1 hc2 hm hn hm1 hm2
          go_enter Tryz.func12, Tryz.ntmps12
          go_wp2_with fail
          refine HF.out.mono ?_
          rintro e w1 ⟨g3, c3, rs, rfl, -, -, hb1⟩
          go_wp2_with fail
          refine (HR.out w1 hb1).mono ?_
          rintro e w2 ⟨g4, c4, rs4, rfl, -, -, hb2⟩
          have hB2 := hb1.trans (hb2.mono hb1.size)
          clear hb1 hb2
          go_wp2_with fail
          refine (HS.out w2 hB2).mono ?_
          rintro e w3 ⟨rfl, hs3⟩
          have hB3 := below_still hB2 hs3
          clear hB2 hs3
          go_wp2_with fail
          refine (HU.out w3 hB3).mono ?_
          rintro e w4 ⟨rfl, hs4⟩
          have hB4 := below_still hB3 hs4
          clear hB3 hs4
          go_wp2_with fail
          go_ret2
          exact ⟨rfl, hB4⟩
        · rw [decide_eq_false hS] at HS
          have HR := Lib.hid HR; have HS := Lib.hid HS
          clear hk hf hR hS hrl hr hc1 hc2 hm hn hm1 hm2 HU
          go_enter Tryz.func12, Tryz.ntmps12
          go_wp2_with fail
          refine HF.out.mono ?_
          rintro e w1 ⟨g3, c3, rs, rfl, -, -, hb1⟩
          go_wp2_with fail
          refine (HR.out w1 hb1).mono ?_
          rintro e w2 ⟨g4, c4, rs4, rfl, -, -, hb2⟩
          have hB2 := hb1.trans (hb2.mono hb1.size)
          clear hb1 hb2
          go_wp2_with fail
          refine (HS.out w2 hB2).mono ?_
          rintro e w3 ⟨rfl, hs3⟩
          have hB3 := below_still hB2 hs3
          clear hB2 hs3
          go_wp2_with fail
          go_ret2
          exact ⟨rfl, hB3⟩
      · rw [decide_eq_false hR] at HR
        have HR := Lib.hid HR
        clear hk hf hR hrl hr hc1 hc2 hm hn hm1 hm2 HU HS
        go_enter Tryz.func12, Tryz.ntmps12
        go_wp2_with fail
        refine HF.out.mono ?_
        rintro e w1 ⟨g3, c3, rs, rfl, -, -, hb1⟩
        go_wp2_with fail
        refine (HR.out w1 hb1).mono ?_
        rintro e w2 ⟨g4, c4, rs4, rfl, -, -, hb2⟩
        have hB2 := hb1.trans (hb2.mono hb1.size)
        clear hb1 hb2
        go_wp2_with fail
        go_ret2
        exact ⟨rfl, hB2⟩
    · have hf' : fewB c = false := by simpa using hf
      have HF := Lib.hid (impl_few_no gc oc n cc c w hn hx hrl hf' hgc hr hm)
      clear hk hf hf' hrl hr hc1 hc2 hm hn hm1 hm2
      go_enter Tryz.func12, Tryz.ntmps12
      go_wp2_with fail
      refine HF.out.mono ?_
      rintro e w1 ⟨rfl, hb1⟩
      go_wp2_with fail
      go_ret2
      exact ⟨rfl, hb1⟩
end Go.Proofs.YtnpechcnmchneaaGreatDoor
namespace Go.Proofs.YtnpechcnmchneaaGreatDoor
set_option maxRecDepth 100000
open Go.RowKit Game

theorem AllSt.rowFacts {c Q : List (List Int)} {k i : Nat} (h : AllSt c Q k i) (hG : Grp c) (hk : k < Q.length) :
    (Q.getD k []).length ≤ 24 ∧ (∀ j, j < (Q.getD k []).length → 0 ≤ (Q.getD k []).getD j 0 ∧ (Q.getD k []).getD j 0 < c.length) ∧
    ∀ t, t < c.length → normG c 30 (actW c (Q.getD k [] ++ [(t : Int)]) (onesL c.length)) = some (nfI c (Q.getD k [] ++ [(t : Int)])) ∧ (nfI c (Q.getD k [] ++ [(t : Int)])).length ≤ 25 := by
  obtain ⟨n, W, hW, hWe⟩ := h.mem (Q.getD k []) (by simp [List.getD, hk])
  have h24 := elt24 hG.hC hG.fin hW
  rw [hWe]
  refine ⟨by rw [intsOf_length, hW.len]; exact h24, fun j hj => ?_, fun t ht => ?_⟩
  · rw [intsOf_length] at hj
    rw [intsOf_getD _ _ hj]
    have := hW.nf.lt (W.getD j 0) (by simp [List.getD, hj])
    omega
  · obtain ⟨X, hX, hXe, -, hXl⟩ := word_push hG.hC hG.fin hW ht
    have e : intsOf W ++ [(t : Int)] = intsOf (W ++ [t]) := by rw [intsOf_append]; rfl
    rw [hXe, intsOf_length, e]
    exact ⟨hX.norm, by omega⟩
theorem AllSt.rowsFew {c Q : List (List Int)} {k i : Nat} (h : AllSt c Q k i) (hG : Grp c) : ∀ j, j < Q.length → (Q.getD j []).length ≤ 1048576 := by
  intro j hj
  obtain ⟨n, W, hW, hWe⟩ := h.mem (Q.getD j []) (by simp [List.getD, hj])
  have h24 := elt24 hG.hC hG.fin hW
  rw [hWe, intsOf_length, hW.len]; omega

set_option maxHeartbeats 8000000 in
theorem spec_l13All_ok (gc oc n cc : Nat) (c : List (List Int)) (w : World) (hn : c.length = n) (hG : Grp c) (hgc : gc < w.heap.size) (hr : Rows2 w gc oc c) :
    Calls Tryz.prog 89 #[(Value.slice (some ⟨gc, oc, none⟩) n cc)] w (GotRows w (elemL c)) := by
  subst hn
  have hC := hG.hC
  have hn4 := hC.2.1
  have HG := Lib.hid hG; clear hG
  go_enter Tryz.func89, Tryz.ntmps89
  go_wp2
  go_loopw [3, 4, 5, 6] (fun ov kv _ _ wr => ∃ (k g' c' m : Nat) (rs : List RowRef), k ≤ m ∧ m ≤ 200 ∧ kv = .int .i64 k ∧ ov = (Value.slice (some ⟨g', 0, none⟩) m c') ∧ Hid (rs.length = m) ∧ Hid (AllSt c (contents rs) k 0) ∧ OwnRows wr w.heap.size g' c' rs ∧ Below w.heap.size w wr) (fun _ kv _ _ _ => 200 - (intOf kv).toNat)
  case atStart =>
    exact ⟨0, w.heap.size + 1, 1, 1, [(w.heap.size, 0, [])], by omega, by omega, rfl, rfl, rfl, AllSt.start hC, start_rows w, (by repeat (first | with_reducible exact Below.refl _ _ | with_reducible assumption | with_reducible refine below_drewN ?_ _ | with_reducible refine Below.drew ?_ | (with_reducible refine Below.alloc ?_ ?_ _; rotate_left; · first | (simp; done) | (simp; omega) | exact Below.size (by assumption) | (have hsz := Below.size (by assumption : Below _ _ _); simp at hsz ⊢; omega)) | (with_reducible refine Below.setCell ?_ ?_ _; rotate_left; · first | (simp; done) | (simp; omega))))⟩
  case round =>
    obtain ⟨k, g', c', m, rs, hkm, hm200, rfl, rfl, hm, hst, hR, hb⟩ := hrel
    by_cases hlt : k < m
    · clear hkm
      go_wp2
      go_loopw [3, 5, 6] (fun ov iv _ wj => ∃ (i g' c' m : Nat) (rs : List RowRef), i ≤ c.length ∧ k < m ∧ m ≤ 200 ∧ iv = .int .i64 i ∧ ov = (Value.slice (some ⟨g', 0, none⟩) m c') ∧ Hid (rs.length = m) ∧ Hid (AllSt c (contents rs) k i) ∧ OwnRows wj w.heap.size g' c' rs ∧ Below w.heap.size w wj) (fun _ iv _ _ => c.length - (intOf iv).toNat)
      case atStart =>
        exact ⟨0, g', c', m, rs, Nat.zero_le _, hlt, hm200, rfl, rfl, hm, hst, hR, hb⟩
      case round =>
        clear hR hb hm hst hlt hm200
        obtain ⟨i, g', c', m, rs, hi, hlt, hm200, rfl, rfl, hm, hst, hR, hbj⟩ := hrel
        by_cases hil : i < c.length
        · have hkr : k < rs.length := by rw [hm.out]; exact hlt
          have hkc : k < (contents rs).length := by rw [contents_length]; exact hkr
          have hcl : (contents rs).getD k [] = rs[k].2.2 := by simp [contents, List.getD, hkr]
          obtain ⟨hWl, hWin, hWn⟩ := hst.out.rowFacts HG.out hkc
          have hWn := hWn i hil
          have Hrows := Lib.hid (hst.out.rowsFew HG.out)
          have hadd := hst.out.add HG.out hkc hil
          have hskip := AllSt.skip hst.out
          unfold reach at hskip
          have hsub := fun (h : AllSt c (putL (contents rs) (nfI c ((contents rs).getD k [] ++ [(i : Int)]))) k (i + 1)) => h.sub HG.out
          rw [hcl] at hWl hWin hWn hadd hskip hsub
          have hRo := hR.2.1 rs[k] (List.getElem_mem _)
          have hqk : wr.cell? ⟨g', k, none⟩ = some (rowVal rs[k]) := by rw [hR.1.cell k (by simpa using hkr)]; simp
          clear hcl
          generalize rs[k] = RR at *
          obtain ⟨gW, cW, W⟩ := RR
          simp only at hRo hWl hWin hWn hadd hskip hsub
          obtain ⟨n1, hn1⟩ : ∃ n1, W.length = n1 := ⟨_, rfl⟩
          have hqk' : wr.cell? ⟨g', k, none⟩ = some (Value.slice (some ⟨gW, 0, none⟩) n1 cW) := by rw [hqk]; unfold rowVal; simp only [hn1]
          have hgR := hR.lt
          rw [hn1] at hWl hadd hskip
          obtain ⟨hnorm, hXl⟩ := hWn
          have hin2 := letters_push hWin hil
          generalize nfI c (W ++ [(i : Int)]) = X at *
          have Hn1 := Lib.hid hn1; have Hnorm := Lib.hid hnorm; have Hin2 := Lib.hid hin2; have Hadd := Lib.hid hadd; have Hskip := Lib.hid hskip; have Hsub := Lib.hid hsub
          clear hqk hn1 hnorm hin2 hadd hskip hsub hWin hkc hkr
          obtain ⟨xl, hxl⟩ : ∃ xl, X.length = xl := ⟨_, rfl⟩
          rw [hxl] at hXl
          have Hxl := Lib.hid hxl; clear hxl
          obtain ⟨wk, hwk⟩ : ∃ wk, wk = wr.alloc (.cells #[.int .i64 (i : Int)] 3) := ⟨_, rfl⟩
          have hbk : Below wr.heap.size wr wk := by rw [hwk]; exact (Below.refl _ _).alloc (Nat.le_refl _) _
          have hok : Own wk wr.heap.size wr.heap.size 1 [(i : Int)] := by rw [hwk]; exact Own.new _ (Nat.le_refl _)
          have hcall := spec_ConcatWords_any gW 0 n1 cW wr.heap.size 0 1 1 W [(i : Int)] wk Hn1.out rfl (by rw [Hn1.out]; omega) (by simp) (Nat.lt_of_lt_of_le hRo.lt hbk.size) hok.lt (hRo.cells.below hbk hRo.lt) hok.cells
          rw [hwk] at hcall
          have Hcall := Lib.hid hcall; clear hcall
          go_wp2_with fail
          refine Hcall.out.mono ?_
          rintro e w2 ⟨g2, c2, rfl, ho2, hb2⟩
          have hl2 : (W ++ [(i : Int)]).length = n1 + 1 := by simp [Hn1.out]
          rw [hl2]
          have Hl2 := Lib.hid hl2
          rw [← hwk] at hb2 ho2
          have hb2' : Below wr.heap.size wr w2 := hbk.trans (hb2.mono hbk.size)
          have hB2 : Below w.heap.size w w2 := hbj.trans (hb2'.mono hbj.size)
          clear hl2 hwk hbk hok hb2 Hcall
          go_wp2_with fail
          refine (spec_l8Normal_any gc oc _ cc g2 0 (n1 + 1) c2 c (W ++ [(i : Int)]) X w2 rfl Hl2.out hC (by rw [Hl2.out]; omega) Hin2.out Hnorm.out (Nat.lt_of_lt_of_le hgc hB2.size) ho2.lt (hr.below hB2 hgc) ho2.cells).mono ?_
          rintro e w3 ⟨g3, c3, rfl, ho3, hb3⟩
          rw [Hxl.out]
          have hb3' : Below wr.heap.size wr w3 := hb2'.trans (hb3.mono hb2'.size)
          have hR3 := hR.below hb3'
          have hbo3 : Below w.heap.size w w3 := hbj.trans (hb3'.mono hbj.size)
          have hox3 : Own w3 w.heap.size g3 c3 X := ho3.mono (by have := hB2.size; omega)
          have q3 : w3.cell? ⟨g', k, none⟩ = some (Value.slice (some ⟨gW, 0, none⟩) n1 cW) := (hb3'.cell (p := ⟨g', k, none⟩) hgR).trans hqk'
          clear hb3 hb2' hB2 ho2 hR hbj hRo ho3 hqk' hb3'
          by_cases hxt : n1 < xl
          · have hxI : (n1 : Int) < (xl : Int) := by omega
            by_cases hmem : X ∈ contents rs
            · have hcall := spec_l7In_any g' 0 m c' g3 0 xl c3 (contents rs) X w3 (by rw [contents_length]; exact hm.out) Hxl.out (by rw [contents_length, hm.out]; omega) Hrows.out hR3.rows2 hox3.cells
              rw [decide_eq_true hmem] at hcall
              have hnx := Hskip.out (fun _ => hmem)
              have Hcall := Lib.hid hcall; have Hnx := Lib.hid hnx
              clear hcall hmem hnx
              go_wp2_with fail
              refine Hcall.out.mono ?_
              rintro e w4 ⟨rfl, hs4⟩
              have hbo4 := below_still hbo3 hs4
              have hR4 := hR3.still hs4
              clear hs4
              go_wp2_with fail
              go_roundw
              case rel => exact ⟨i + 1, g', c', m, rs, by omega, hlt, hm200, by go_num, rfl, hm, Hnx.out, hR4, hbo4⟩
              case measure => simp [intOf]; omega
            · have hcall := spec_l7In_any g' 0 m c' g3 0 xl c3 (contents rs) X w3 (by rw [contents_length]; exact hm.out) Hxl.out (by rw [contents_length, hm.out]; omega) Hrows.out hR3.rows2 hox3.cells
              rw [decide_eq_false hmem] at hcall
              have hnx := Hadd.out (by rw [Hxl.out]; exact hxt)
              have hsb := Hsub.out hnx
              have Hcall := Lib.hid hcall; have Hnx := Lib.hid hnx
              clear hcall hmem hnx
              go_wp2_with fail
              refine Hcall.out.mono ?_
              rintro e w4 ⟨rfl, hs4⟩
              have hbo4 := below_still hbo3 hs4
              have hR4 := hR3.still hs4
              have hox4 := hox3.still hs4
              clear hs4
              go_wp2_with fail
              refine (spec_l11Put_any w.heap.size g' c' m g3 0 xl c3 rs X w4 hm.out Hxl.out (by rw [hm.out]; omega) (by rw [Hxl.out]; omega) hR4 hox4.lt hox4.cells).mono ?_
              rintro e w5 ⟨g5, c5, rs5, rfl, hc5, hR5, hg5, hb5⟩
              obtain ⟨m5, hm5⟩ : ∃ m5, (putL (contents rs) X).length = m5 := ⟨_, rfl⟩
              rw [hm5] at hsb ⊢
              have hge : m ≤ m5 := by
                have h1 := putL_len (contents rs) X
                rw [contents_length, hm.out, hm5] at h1
                exact h1
              have Hm5 := Lib.hid hm5; have Hc5 := Lib.hid hc5
              have hbo5 : Below w.heap.size w w5 := hbo4.trans (hb5.mono hbo4.size)
              clear hm5 hc5 hb5
              go_wp2_with fail
              go_roundw
              case rel =>
                refine ⟨i + 1, g5, c5, m5, rs5, by omega, by omega, hsb, by go_num, rfl, ?_, ?_, hR5, hbo5⟩
                · show _ = _
                  rw [← Hm5.out, ← Hc5.out, contents_length]
                · show AllSt _ _ _ _
                  rw [Hc5.out]; exact Hnx.out
              case measure => simp [intOf]; omega
          · have hxI : ¬ (n1 : Int) < (xl : Int) := by omega
            have hnx := Hskip.out (fun h => absurd h (by rw [Hxl.out]; exact hxt))
            have Hnx := Lib.hid hnx; clear hnx
            go_wp2_with fail
            go_roundw
            case rel => exact ⟨i + 1, g', c', m, rs, by omega, hlt, hm200, by go_num, rfl, hm, Hnx.out, hR3, hbo3⟩
            case measure => simp [intOf]; omega
        · obtain rfl : i = c.length := by omega
          have hnx := hst.out.next
          have Hnx := Lib.hid hnx; clear hnx
          go_wp2
          go_roundw
          case rel => exact ⟨k + 1, g', c', m, rs, by omega, hm200, by go_num, rfl, hm, Hnx.out, hR, hbj⟩
          case measure => simp [intOf]; omega
    · obtain rfl : k = m := by omega
      have hall : contents rs = elemL c := AllSt.all (by rw [contents_length, hm.out]; exact hst.out) HG.out
      have Hall := Lib.hid hall; clear hall
      go_wp2
      go_ret
      exact ⟨g', c', rs, by rw [← Hall.out, contents_length, hm.out]; rfl, Hall.out, hR, hb⟩

set_option maxHeartbeats 1000000 in
theorem spec_l18Small_any (gc oc n cc : Nat) (c : List (List Int)) (w : World) (hn : c.length = n) (hx : c.length ≤ 1048576) (hrl : ∀ j, j < c.length → (c.getD j []).length ≤ 1048576) (hgc : gc < w.heap.size) (hr : Rows2 w gc oc c) :
    Calls Tryz.prog 39 #[(Value.slice (some ⟨gc, oc, none⟩) n cc)] w (GotRowsB w (fewL c) (fewB c)) := by
  have hcall := spec_SizeOf_any gc oc n cc c w hn hx hrl hgc hr
  have hiff := few_iff c
  have hbd := szO_bound c
  by_cases hf : fewB c = true
  · have hG := grp_few hf
    have hL : fewL c = elemL c := if_pos hf
    obtain ⟨h1, h2⟩ := hiff.1 hf
    rw [hL, hf]
    have HA := Lib.hid (fun W (hW : Below w.heap.size w W) => spec_l13All_ok gc oc n cc c W hn hG (Nat.lt_of_lt_of_le hgc hW.size) (hr.below hW hgc))
    have Hcall := Lib.hid hcall
    clear hcall hiff hf hG hL hrl hr hx hn
    generalize szO c = z at *
    generalize elemL c = L at *
    go_enter Tryz.func39, Tryz.ntmps39
    go_wp2_with fail
    refine Hcall.out.mono ?_
    rintro e w1 ⟨rfl, hb1⟩
    go_wp2_with fail
    refine (HA.out w1 hb1).mono ?_
    rintro e w2 ⟨g2, c2, rs2, rfl, hc2, ho2, hb2⟩
    go_wp2_with fail
    go_ret2
    exact ⟨g2, c2, rs2, rfl, hc2, ho2.mono hb1.size, hb1.trans (hb2.mono hb1.size)⟩
  · have hf' : fewB c = false := by simpa using hf
    have hL : fewL c = [] := if_neg hf
    have hno : szO c < 1 ∨ 48 < szO c := by
      rcases Int.lt_or_le (szO c) 1 with h | h
      · exact .inl h
      · rcases Int.lt_or_le 48 (szO c) with h2 | h2
        · exact .inr h2
        · exact absurd (hiff.2 ⟨h, h2⟩) hf
    rw [hL, hf']
    have Hcall := Lib.hid hcall
    clear hcall hiff hf hf' hL hrl hr hx hn
    generalize szO c = z at *
    rcases hno with hz | hz
    · go_enter Tryz.func39, Tryz.ntmps39
      go_wp2_with fail
      refine Hcall.out.mono ?_
      rintro e w1 ⟨rfl, hb1⟩
      go_wp2_with fail
      go_ret2
      exact ⟨w1.heap.size, 0, [], rfl, rfl, (OwnRows.empty (w := w1) (Nat.le_refl _)).mono hb1.size, hb1.alloc hb1.size _⟩
    · go_enter Tryz.func39, Tryz.ntmps39
      go_wp2_with fail
      refine Hcall.out.mono ?_
      rintro e w1 ⟨rfl, hb1⟩
      go_wp2_with fail
      go_ret2
      exact ⟨w1.heap.size, 0, [], rfl, rfl, (OwnRows.empty (w := w1) (Nat.le_refl _)).mono hb1.size, hb1.alloc hb1.size _⟩
end Go.Proofs.YtnpechcnmchneaaGreatDoor
