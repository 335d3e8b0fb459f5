/- determinants: contracts. determinants, the reference's: contracts. principal minors, witnesses, IsFinite: contracts. -/
import Derived.Test.YtdedkfbiookofaaGreatDoorK04
import Derived.Test.YtdedkfbiookofaaGreatDoorK02
namespace Go.Proofs.YtdedkfbiookofaaGreatDoor
set_option maxRecDepth 100000
open Go.RowKit
theorem minorOf_length (m : List (List Int)) (j : Nat) : (minorOf m j).length = m.length - 1 := by simp [minorOf]
theorem minor_take {m : List (List Int)} {j k : Nat} (hk : k + 1 < m.length) : (minorOf m j).take (k + 1) = (minorOf m j).take k ++ [cutAt (m.getD (k + 1) []) j] := by
  have hk' : k < (minorOf m j).length := by rw [minorOf_length]; omega
  rw [List.take_succ_eq_append_getElem hk']
  congr 2
  simp [minorOf, List.getD, hk]
theorem sgn_succ (t : Nat) : sgn (t + 1) = -(sgn t) := by
  unfold sgn
  by_cases h : t % 2 = 0
  · rw [if_pos h, if_neg (by omega)]
  · rw [if_neg h, if_pos (by omega)]; rfl
theorem sgn_cases (t : Nat) : sgn t = 1 ∨ sgn t = -1 := by unfold sgn; split <;> simp
theorem detB_le {n : Nat} (h : n ≤ 3) : 0 ≤ detB n ∧ detB n ≤ 162 := by
  have : n = 0 ∨ n = 1 ∨ n = 2 ∨ n = 3 := by omega
  rcases this with rfl | rfl | rfl | rfl <;> simp [detB]
theorem term_bound {G x d : Int} (hG : G = 1 ∨ G = -1) (hx : -3 ≤ x ∧ x ≤ 3) (hd : -162 ≤ d ∧ d ≤ 162) : -486 ≤ G * x * d ∧ G * x * d ≤ 486 ∧ -3 ≤ G * x ∧ G * x ≤ 3 := by
  have hx' : x = -3 ∨ x = -2 ∨ x = -1 ∨ x = 0 ∨ x = 1 ∨ x = 2 ∨ x = 3 := by omega
  rcases hG with rfl | rfl <;> rcases hx' with rfl | rfl | rfl | rfl | rfl | rfl | rfl <;> omega
theorem det_sum_bound {n : Nat} {m : List (List Int)} (hsq : Sq (n + 1) m) (hn : n ≤ 3) {t : Nat} (ht : t ≤ n + 1) :
    -1944 ≤ (sumTo t fun j => sgn j * ent m 0 j * det n (minorOf m j)) ∧ (sumTo t fun j => sgn j * ent m 0 j * det n (minorOf m j)) ≤ 1944 := by
  have := sumTo_bound (fun j => sgn j * ent m 0 j * det n (minorOf m j)) 486 t (fun j hj => by
    have h1 := det_bound n _ (minorOf_sq hsq (j := j) (by omega))
    have h2 := detB_le hn
    have h3 := term_bound (d := det n (minorOf m j)) (sgn_cases j) (hsq.2.2 0 j) ⟨by omega, by omega⟩
    exact ⟨h3.1, h3.2.1⟩)
  omega
attribute [local go_sem ↓] Go.wp_at_zero Go.wp_at_succ
set_option maxHeartbeats 4000000 in
theorem impl_determinant_step (n : Nat) (hn1 : 1 ≤ n) (hn4 : n + 1 ≤ 4) (ih : ∀ (g o cap : Nat) (m : List (List Int)) (w : World), Sq n m → g < w.heap.size → n ≤ cap → Rows2 w g o m → Calls Tryz.prog 199 #[(Value.slice (some ⟨g, o, none⟩) n cap)] w (Gives w (.int .i64 (det n m))))
    (g o cap : Nat) (m : List (List Int)) (w : World) (hsq : Sq (n + 1) m) (hg : g < w.heap.size) (hcap : n + 1 ≤ cap) (hr : Rows2 w g o m) :
    Calls Tryz.prog 199 #[(Value.slice (some ⟨g, o, none⟩) (n + 1) cap)] w (Gives w (.int .i64 (det (n + 1) m))) := by
  have IH := Lib.hid ih; clear ih
  obtain ⟨g0, o0, c0, p1, p2, p3, p4⟩ := hr 0 (by rw [hsq.1]; omega)
  have hr0 := hsq.2.1 0 (by omega)
  rw [hr0] at p1 p2
  have Hr0 := Lib.hid hr0; clear hr0
  rw [Nat.add_zero] at p1
  have hcap1 : ¬ cap = 1 := by omega
  have hcap2 : 1 < cap := by omega
  have c1 : (0 : Int) < ((n + 1 : Nat) : Int) := by omega
  have hD : ((n : Int) + 1 == 0) = false := by simp; omega
  go_enter Tryz.func199, Tryz.ntmps199
  go_wp2
  go_loopw [3, 4, 17] (fun s sg i wr => ∃ t : Nat, t ≤ n + 1 ∧ i = .int .i64 t ∧ s = .int .i64 (sumTo t fun j => sgn j * ent m 0 j * det n (minorOf m j)) ∧ sg = .int .i64 (sgn t) ∧ Below w.heap.size w wr) (fun _ _ i _ => n + 1 - (intOf i).toNat)
  case atStart => exact ⟨0, Nat.zero_le _, rfl, rfl, rfl, Below.refl _ _⟩
  case round =>
    obtain ⟨t, ht, rfl, rfl, rfl, hb⟩ := hrel
    by_cases hlt : t < n + 1
    · have e0 := p4.below hb p3 t (by rw [Hr0.out]; exact hlt)
      have hee : (m.getD 0 []).getD t 0 = ent m 0 t := rfl
      rw [hee] at e0
      have hbx := hsq.2.2 0 t
      by_cases hx0 : ent m 0 t = 0
      · have hterm : (sumTo (t + 1) fun j => sgn j * ent m 0 j * det n (minorOf m j)) = sumTo t fun j => sgn j * ent m 0 j * det n (minorOf m j) := by
          simp only [sumTo]; rw [hx0]; simp
        have Hterm := Lib.hid hterm; clear hterm hee hbx
        rw [hx0] at e0
        have Hx0 := Lib.hid hx0; clear hx0
        generalize (sumTo t fun j => sgn j * ent m 0 j * det n (minorOf m j)) = S at *
        have hsg := sgn_succ t
        have Hsg := Lib.hid hsg; clear hsg
        have hGc := sgn_cases t
        generalize hG : sgn t = G at *
        have HG := Lib.hid hG; clear hG
        have hG1 : -1 ≤ G ∧ G ≤ 1 := by omega
        clear hGc
        go_wp2
        go_roundw
        case rel => exact ⟨t + 1, by omega, by go_num, by rw [Hterm.out], by rw [Hsg.out], hb⟩
        case measure => simp [intOf]; omega
      · have hxb : (ent m 0 t != 0) = true := by simpa using hx0
        generalize hxx : ent m 0 t = x at *
        have Hxx := Lib.hid hxx; clear hxx hee
        have hltI : (t : Int) < (n : Int) + 1 := by omega
        obtain ⟨wo, rfl⟩ : ∃ wo : World, wo = wr := ⟨_, rfl⟩
        go_wp2
        go_loopw [7, 28] (fun mn i wr => ∃ (k g' c' : Nat) (rs : List RowRef), k ≤ n ∧ i = .int .i64 k ∧ mn = (Value.slice (some ⟨g', 0, none⟩) k c') ∧ Hid (rs.length = k) ∧ Hid (contents rs = (minorOf m t).take k) ∧ OwnRows wr wo.heap.size g' c' rs ∧ Below wo.heap.size wo wr) (fun _ i _ => n - (intOf i).toNat)
        case atStart => exact ⟨0, wo.heap.size, 0, [], Nat.zero_le _, rfl, rfl, rfl, rfl, OwnRows.empty (Nat.le_refl _), (Below.refl _ _).alloc (Nat.le_refl _) _⟩
        case round =>
          obtain ⟨k, g', c', rs, hk, rfl, rfl, hrs, hcont, ho, hb2⟩ := hrel
          have hbb := hb.trans (hb2.mono hb.size)
          by_cases hltk : k < n
          · obtain ⟨ga, oa, ca, q1, q2, q3, q4⟩ := hr (k + 1) (by rw [hsq.1]; omega)
            have hrk := hsq.2.1 (k + 1) (by omega)
            rw [hrk] at q1 q2
            have hq1 := (hbb.cell (p := ⟨g, o + (k + 1), none⟩) hg).trans q1
            have hq1' : wr.cell? ⟨g, o + 1 + k, none⟩ = some (Value.slice (some ⟨ga, oa, none⟩) (n + 1) ca) := by rw [show o + 1 + k = o + (k + 1) by omega]; exact hq1
            have hrow := q4.below hbb q3
            clear q1 hq1
            go_wp2
            have b1 : (0 : Int) ≤ (t : Int) := by omega
            have b2 : (t : Int) ≤ (ca : Int) := by omega
            have b3 : (0 : Int) ≤ (t : Int) + 1 := by omega
            have b4 : (t : Int) + 1 ≤ ((n + 1 : Nat) : Int) := by omega
            have b5 : (t : Int) + 1 ≤ (n : Int) + 1 := by omega
            have b6 : (n : Int) + 1 ≤ (ca : Int) := by omega
            have b7 : IntKind.i64.wrap ((t : Int) + 1) = (t : Int) + 1 := IntWalk.i64_in _ (by omega)
            have HN : Hid (n + 1 ≤ 4) := hn4
            have hrl : (m.getD (k + 1) []).length = n + 1 := hrk
            generalize hR : m.getD (k + 1) [] = R at *
            have l1 : (R.take t).length = t := by simp; omega
            have l2 : (R.drop (t + 1)).length = n - t := by simp; omega
            have B0 : Below wr.heap.size wr ((wr.alloc (.cells #[] 3)).drew) := Below.drew ((Below.refl _ _).alloc (Nat.le_refl _) _)
            have F1 : ∀ w1, ((wr.alloc (.cells #[] 3)).drew).grownBy w1 (some wr.heap.size) → Below wr.heap.size wr w1 := fun w1 h => B0.grown h B0.size (by intro j hj; cases hj; exact Nat.le_refl _)
            have F2 : ∀ (w1 w2 : World) (g1 : Nat), Below wr.heap.size wr w1 → wr.heap.size ≤ g1 → w1.grownBy w2 (some g1) → Below wr.heap.size wr w2 := fun w1 w2 g1 h hg h2 => h.grown h2 h.size (by intro j hj; cases hj; exact hg)
            have hga : ga < wr.heap.size := Nat.lt_of_lt_of_le q3 hbb.size
            have FA : Hid (∀ W, Cells W ga oa R → ∃ g2 o2, (if ca = t + 1 then some (⟨ga, oa, none⟩ : Addr) else some ⟨ga, oa + (t + 1), none⟩) = some ⟨g2, o2, none⟩ ∧ Cells W g2 o2 (R.drop (t + 1))) := fun W hW => by
              by_cases hca : ca = t + 1
              · rw [if_pos hca]
                refine ⟨_, _, rfl, ?_⟩
                have : R.drop (t + 1) = [] := List.drop_eq_nil_of_le (by omega)
                rw [this]; intro j hj; simp at hj
              · rw [if_neg hca]; exact ⟨_, _, rfl, hW.drop (t + 1)⟩
            have l3 : (([] ++ R.take t) ++ R.drop (t + 1)).length = t + (n - t) := by simp; omega
            have hrv : ∀ g2 c2 : Nat, rowVal (g2, c2, ([] ++ R.take t) ++ R.drop (t + 1)) = (Value.slice (some ⟨g2, 0, none⟩) (t + (n - t)) c2) := fun g2 c2 => by unfold rowVal; rw [l3]
            have Hrv := Lib.hid hrv; have L3 := Lib.hid l3; clear hrv l3
            have F3 : Hid (∀ (w2 : World) (g2 c2 : Nat), Below wr.heap.size wr w2 → Own w2 wr.heap.size g2 c2 (([] ++ R.take t) ++ R.drop (t + 1)) → OwnRows w2 wo.heap.size g' c' rs ∧ Own w2 wo.heap.size g2 c2 (([] ++ R.take t) ++ R.drop (t + 1)) ∧ ∀ s ∈ rs, s.1 ≠ g2) := fun w2 g2 c2 hB hO =>
              ⟨ho.below hB, hO.mono hb2.size, fun s hs => by have h1 := (ho.2.1 s hs).lt; have h2 := hO.base; omega⟩
            have FB : ∀ w1, Below wr.heap.size wr w1 → Below wo.heap.size wo w1 := fun w1 h => hb2.trans (h.mono hb2.size)
            have hBg : wo.heap.size ≤ g' := ho.base
            go_region_held3 (fun W => Below wo.heap.size wo W)
              (first | exact Below.drew hb2 | exact FB _ B0 | exact (Below.drew hb2).alloc hb2.size _ | exact FB _ (F1 _ hg1) | exact FB _ (F2 _ _ _ (F1 _ hg1) ho1.base hg2) | exact (FB _ (F2 _ _ _ (F1 _ hg1) ho1.base hg2)).alloc (FB _ (F2 _ _ _ (F1 _ hg1) ho1.base hg2)).size _ | exact (FB _ (F2 _ _ _ (F1 _ hg1) ho1.base hg2)).grown hg3 (FB _ (F2 _ _ _ (F1 _ hg1) ho1.base hg2)).size (by intro j hj; cases hj; exact hBg))
              (first
                | (refine step_append_ints (by rfl) _ _ (by rfl) wr.heap.size wr.heap.size 0 0 ga oa t ca [] (R.take t) rfl l1 (by exact (Own.empty (w := wr.drew) (Nat.le_refl _))) (by exact (hrow.below B0 hga).take t) (by rfl) (by rfl) (by omega) ?_; intro g1 c1 w1 ho1 hg1 hor1)
                | (refine step_append_intsA (by rfl) _ _ (by rfl) wr.heap.size g1 c1 (0 + t) (n - t) _ _ ([] ++ R.take t) (R.drop (t + 1)) (by simp; omega) l2 (by exact ho1) (by rfl) (by rfl) (by exact FA.out _ (hrow.below (F1 _ hg1) hga)) (by omega) ?_; intro g2 c2 w2 ho2 hg2 hor2)
                | (refine step_append_row (w := w2) (by rfl) _ _ (by rfl) wo.heap.size g' c' k w2.heap.size rs (g2, c2, ([] ++ R.take t) ++ R.drop (t + 1)) _ hrs.out (by rw [Hrv.out]) (by rfl) (by exact (F3.out w2 g2 c2 (F2 _ _ _ (F1 _ hg1) ho1.base hg2) ho2).1) (by exact (F3.out w2 g2 c2 (F2 _ _ _ (F1 _ hg1) ho1.base hg2) ho2).2.1) (by exact (F3.out w2 g2 c2 (F2 _ _ _ (F1 _ hg1) ho1.base hg2) ho2).2.2) (by rfl) (by rfl) (by omega) ?_; intro g3 c3 w3 ho3 hg3 hor3))
            have hB3 : Below wo.heap.size wo w3 := (FB _ (F2 _ _ _ (F1 _ hg1) ho1.base hg2)).grown hg3 (FB _ (F2 _ _ _ (F1 _ hg1) ho1.base hg2)).size (by intro j hj; cases hj; exact hBg)
            have HB3 := Lib.hid hB3
            clear F1 F2 FB ho1 hg1 hor1 ho2 hg2 hor2 hor3 FA hB3
            generalize (if ca = t + 1 then some (⟨ga, oa, none⟩ : Addr) else some ⟨ga, oa + (t + 1), none⟩) = AA
            go_wp2
            go_roundw
            case rel =>
              refine ⟨k + 1, g3, c3, rs ++ [(g2, c2, ([] ++ R.take t) ++ R.drop (t + 1))], by omega, by go_num, rfl, by show _ = _; rw [List.length_append, hrs.out]; rfl, ?_, ho3, HB3.out⟩
              show _ = _
              rw [contents_push, hcont.out, minor_take (by rw [hsq.1]; omega), hR]
              rfl
            case measure => simp [intOf]; omega
          · obtain rfl : n = k := by omega
            have hcc := hcont.out
            rw [List.take_of_length_le (by rw [minorOf_length, hsq.1]; omega)] at hcc
            have hdc := IH.out g' 0 c' (minorOf m t) wr (minorOf_sq hsq hlt) ho.lt (by have := ho.capLe; rw [hrs.out] at this; exact this) (by rw [← hcc]; exact ho.rows2)
            have hterm : (sumTo (t + 1) fun j => sgn j * ent m 0 j * det n (minorOf m j)) = (sumTo t fun j => sgn j * ent m 0 j * det n (minorOf m j)) + sgn t * x * det n (minorOf m t) := by
              simp only [sumTo]; rw [Hxx.out]
            have hS := det_sum_bound hsq (by omega) (t := t) (by omega)
            have hdb := det_bound n _ (minorOf_sq hsq hlt)
            have hDB := detB_le (n := n) (by omega)
            have htb := term_bound (sgn_cases t) hbx (d := det n (minorOf m t)) ⟨by omega, by omega⟩
            have hsg := sgn_succ t
            have hGc := sgn_cases t
            have Hdc := Lib.hid hdc; clear hdc
            have Hterm := Lib.hid hterm; have Hsg := Lib.hid hsg; clear hterm hsg hcc
            generalize (sumTo t fun j => sgn j * ent m 0 j * det n (minorOf m j)) = S at *
            generalize det n (minorOf m t) = d at *
            generalize sgn t = G at *
            have hG1 : -1 ≤ G ∧ G ≤ 1 := by omega
            have e1 : IntKind.i64.wrap (G * x) = G * x := IntWalk.i64_in _ (by omega)
            have e2 : IntKind.i64.wrap (G * x * d) = G * x * d := IntWalk.i64_in _ (by omega)
            have e3 : IntKind.i64.wrap (S + G * x * d) = S + G * x * d := IntWalk.i64_in _ (by omega)
            have hbb2 := hb.trans (hb2.mono hb.size)
            clear hGc hdb hDB htb hS
            go_wp2_with fail
            refine Hdc.out.mono ?_
            rintro e w1 ⟨rfl, hb3⟩
            go_wp2_with fail
            go_roundw
            case rel => exact ⟨t + 1, by omega, by go_num, by rw [Hterm.out], by rw [Hsg.out], hbb2.trans (hb3.mono hbb2.size)⟩
            case measure => simp [intOf]; omega
    · obtain rfl : t = n + 1 := by omega
      go_wp2
      go_ret
      exact ⟨rfl, hb⟩
theorem impl_determinant_zero (g o cap : Nat) (w : World) : Calls Tryz.prog 199 #[(Value.slice (some ⟨g, o, none⟩) 0 cap)] w (Gives w (.int .i64 1)) := by
  go_enter Tryz.func199, Tryz.ntmps199
  go_wp2
  go_ret
  exact ⟨rfl, Below.refl _ _⟩
set_option maxHeartbeats 4000000 in
theorem impl_determinant_one (g o cap : Nat) (m : List (List Int)) (w : World) (hsq : Sq 1 m) (hcap : 1 ≤ cap) (hr : Rows2 w g o m) :
    Calls Tryz.prog 199 #[(Value.slice (some ⟨g, o, none⟩) 1 cap)] w (Gives w (.int .i64 (det 1 m))) := by
  obtain ⟨g0, o0, c0, p1, p2, p3, p4⟩ := hr 0 (by rw [hsq.1]; omega)
  have hr0 := hsq.2.1 0 (by omega)
  rw [hr0] at p1 p2
  rw [Nat.add_zero] at p1
  have e0 := p4 0 (by rw [hr0]; omega)
  have hee : (m.getD 0 []).getD 0 0 = ent m 0 0 := rfl
  rw [hee, Nat.add_zero] at e0
  have hbx := hsq.2.2 0 0
  have hdet : det 1 m = ent m 0 0 := by simp [det, sumTo, sgn]
  rw [hdet]
  clear hdet hee hr0 p4
  generalize ent m 0 0 = x at *
  go_enter Tryz.func199, Tryz.ntmps199
  go_wp2
  go_loopw [3, 4, 17] (fun s sg i wr => ((i = .int .i64 0 ∧ s = .int .i64 0 ∧ sg = .int .i64 1) ∨ (i = .int .i64 1 ∧ s = .int .i64 x)) ∧ Below w.heap.size w wr) (fun _ _ i _ => 1 - (intOf i).toNat)
  case atStart => exact ⟨.inl ⟨rfl, rfl, rfl⟩, Below.refl _ _⟩
  case round =>
    obtain ⟨h | h, hb⟩ := hrel
    · obtain ⟨rfl, rfl, rfl⟩ := h
      have f0 := (hb.cell (p := ⟨g0, o0, none⟩) p3).trans e0
      by_cases hx0 : x = 0
      · subst hx0
        go_wp2
        go_roundw
        case rel => exact ⟨.inr ⟨rfl, rfl⟩, hb⟩
        case measure => simp [intOf]
      · have hxb : (x != 0) = true := by simpa using hx0
        obtain ⟨wo, rfl⟩ : ∃ wo : World, wo = wr := ⟨_, rfl⟩
        by_cases hc1 : cap = 1
        · subst hc1
          go_wp2
          refine wp_loop_rounds 1 ?_
          rw [rounds_succ]
          go_wp2_with fail
          refine (impl_determinant_zero _ _ _ _).mono ?_
          rintro e w1 ⟨rfl, hb3⟩
          go_wp2_with fail
          go_roundw
          case rel =>
            refine ⟨.inr ⟨rfl, ?_⟩, ?_⟩
            · simp
            · exact (hb.alloc hb.size _).trans (hb3.mono (hb.alloc hb.size _).size)
          case measure => simp [intOf]
        · have hc2 : 1 < cap := by omega
          go_wp2
          refine wp_loop_rounds 1 ?_
          rw [rounds_succ]
          go_wp2_with fail
          refine (impl_determinant_zero _ _ _ _).mono ?_
          rintro e w1 ⟨rfl, hb3⟩
          go_wp2_with fail
          go_roundw
          case rel =>
            refine ⟨.inr ⟨rfl, ?_⟩, ?_⟩
            · simp
            · exact (hb.alloc hb.size _).trans (hb3.mono (hb.alloc hb.size _).size)
          case measure => simp [intOf]
    · obtain ⟨rfl, rfl⟩ := h
      go_wp2
      go_ret
      exact ⟨rfl, hb⟩
theorem impl_determinant_any : ∀ (n : Nat), n ≤ 4 → ∀ (g o cap : Nat) (m : List (List Int)) (w : World), Sq n m → g < w.heap.size → n ≤ cap → Rows2 w g o m → Calls Tryz.prog 199 #[(Value.slice (some ⟨g, o, none⟩) n cap)] w (Gives w (.int .i64 (det n m))) := by
  intro n
  induction n with
  | zero => intro _ g o cap m w _ _ _ _; exact impl_determinant_zero g o cap w
  | succ n ih =>
    intro hn g o cap m w hsq hg hcap hr
    cases n with
    | zero => exact impl_determinant_one g o cap m w hsq hcap hr
    | succ n => exact impl_determinant_step (n + 1) (by omega) hn (ih (by omega)) g o cap m w hsq hg hcap hr
theorem cutAt_range (row : List Int) (j k : Nat) :
    (if k ≠ j then ((List.range k).filter (· ≠ j)).map (fun t => row.getD t 0) ++ [row.getD k 0] else ((List.range k).filter (· ≠ j)).map (fun t => row.getD t 0)) = ((List.range (k + 1)).filter (· ≠ j)).map (fun t => row.getD t 0) := by
  rw [List.range_succ, List.filter_append]
  by_cases h : k = j
  · subst h; simp
  · simp [h]
theorem cutAt_all {row : List Int} {n j : Nat} (hl : row.length = n + 1) (hj : j ≤ n) : ((List.range (n + 1)).filter (· ≠ j)).map (fun t => row.getD t 0) = cutAt row j := by
  have e : List.range (n + 1) = List.range j ++ (j :: (List.range (n - j)).map (fun t => j + 1 + t)) := by
    apply List.ext_getElem
    · simp; omega
    · intro i h1 h2
      simp only [List.getElem_range]
      by_cases hi : i < j
      · rw [List.getElem_append_left (by simpa using hi)]; simp
      · rw [List.getElem_append_right (by simp; omega)]
        simp only [List.length_range]
        by_cases hij : i = j
        · subst hij; simp
        · obtain ⟨d, rfl⟩ : ∃ d, i = j + 1 + d := ⟨i - (j + 1), by omega⟩
          have : j + 1 + d - j = d + 1 := by omega
          simp [this]
  rw [e, List.filter_append, List.map_append]
  unfold cutAt
  congr 1
  · rw [List.filter_eq_self.2 (by intro a ha; have := List.mem_range.1 ha; simp; omega)]
    apply List.ext_getElem
    · simp; omega
    · intro i h1 h2
      simp at h1
      simp [List.getD]
      rw [List.getElem?_eq_getElem (by omega)]; rfl
  · rw [List.filter_cons_of_neg (by simp), List.filter_eq_self.2 (by intro a ha; obtain ⟨b, _, rfl⟩ := List.mem_map.1 ha; simp; omega)]
    apply List.ext_getElem
    · simp; omega
    · intro i h1 h2
      simp at h1
      simp [List.getD]
      rw [List.getElem?_eq_getElem (by omega)]; rfl
end Go.Proofs.YtdedkfbiookofaaGreatDoor
namespace Go.Proofs.YtdedkfbiookofaaGreatDoor
set_option maxRecDepth 100000
open Go.RowKit
def cutTo (row : List Int) (j k : Nat) : List Int := ((List.range k).filter (· ≠ j)).map (fun t => row.getD t 0)
theorem cutTo_ne {row : List Int} {j k : Nat} (h : k ≠ j) : cutTo row j (k + 1) = cutTo row j k ++ [row.getD k 0] := by
  have := cutAt_range row j k
  rw [if_pos h] at this
  exact this.symm
theorem cutTo_eq {row : List Int} {j k : Nat} (h : k = j) : cutTo row j (k + 1) = cutTo row j k := by
  have := cutAt_range row j k
  rw [if_neg (by simpa using h)] at this
  exact this.symm
theorem cutTo_le (row : List Int) (j k : Nat) : (cutTo row j k).length ≤ k := by
  unfold cutTo
  rw [List.length_map]
  exact Nat.le_trans (List.length_filter_le _ _) (by simp)
set_option maxHeartbeats 2000000 in
theorem spec_l4Without_any (n g o cap j : Nat) (m : List (List Int)) (w : World) (hn4 : n + 1 ≤ 4) (hsq : Sq (n + 1) m) (hj : j ≤ n) (hg : g < w.heap.size) (hr : Rows2 w g o m) :
    Calls Tryz.prog 182 #[(Value.slice (some ⟨g, o, none⟩) (n + 1) cap), .int .i64 j] w (GotRows w (minorOf m j)) := by
  go_enter Tryz.func182, Tryz.ntmps182
  go_wp2
  go_loopw [5, 6, 7, 8] (fun x i _ _ wr => ∃ (t g' c' : Nat) (rs : List RowRef), t ≤ n ∧ i = .int .i64 ((t : Int) + 1) ∧ x = (Value.slice (some ⟨g', 0, none⟩) t c') ∧ Hid (rs.length = t) ∧ Hid (contents rs = (minorOf m j).take t) ∧ OwnRows wr w.heap.size g' c' rs ∧ Below w.heap.size w wr) (fun _ i _ _ _ => n + 1 - (intOf i).toNat)
  case atStart => exact ⟨0, w.heap.size, 0, [], Nat.zero_le _, rfl, rfl, rfl, rfl, OwnRows.empty (Nat.le_refl _), (Below.refl _ _).alloc (Nat.le_refl _) _⟩
  case round =>
    obtain ⟨t, g', c', rs, ht, rfl, rfl, hrs, hcont, ho, hb⟩ := hrel
    by_cases hlt : t < n
    · have hltI : (t : Int) + 1 < (n : Int) + 1 := by omega
      obtain ⟨ga, oa, ca, q1, q2, q3, q4⟩ := hr (t + 1) (by rw [hsq.1]; omega)
      have hrk := hsq.2.1 (t + 1) (by omega)
      rw [hrk] at q1 q2
      generalize hR : m.getD (t + 1) [] = R at *
      have HR := Lib.hid hR; clear hR
      obtain ⟨wo, rfl⟩ : ∃ wo : World, wo = wr := ⟨_, rfl⟩
      go_wp2
      go_loopw [7, 8] (fun x i wr => ∃ k gr cr n' : Nat, k ≤ n + 1 ∧ i = .int .i64 k ∧ x = (Value.slice (some ⟨gr, 0, none⟩) n' cr) ∧ Hid ((cutTo R j k).length = n') ∧ Own wr wo.heap.size gr cr (cutTo R j k) ∧ Below wo.heap.size wo wr) (fun _ i _ => n + 1 - (intOf i).toNat)
      case atStart => exact ⟨0, wo.heap.size, 0, 0, Nat.zero_le _, rfl, rfl, rfl, Own.empty (w := wo) (Nat.le_refl _), (Below.refl _ _).alloc (Nat.le_refl _) _⟩
      case round =>
        obtain ⟨k, gr, cr, n', hk, rfl, rfl, hn', hor, hb2⟩ := hrel
        have hbb : Below w.heap.size w wr := hb.trans (hb2.mono hb.size)
        have hle := cutTo_le R j k
        rw [hn'.out] at hle
        by_cases hltk : k < n + 1
        · have hltkI : (k : Int) < (n : Int) + 1 := by omega
          by_cases hkj : k = j
          · subst hkj
            have hc := cutTo_eq (row := R) (j := k) (k := k) rfl
            have Hc := Lib.hid hc; clear hc
            go_wp2
            go_roundw
            case rel => exact ⟨k + 1, gr, cr, n', by omega, by go_num, rfl, by show _ = _; rw [Hc.out]; exact hn'.out, by rw [Hc.out]; exact hor, hb2⟩
            case measure => simp [intOf]; omega
          · have hne : ((k : Int) != (j : Int)) = true := by simp; omega
            have hc := cutTo_ne (row := R) hkj
            have e1 := (hbb.cell (p := ⟨g, o + (t + 1), none⟩) hg).trans q1
            have e2 := q4.below hbb q3 k (by rw [hrk]; exact hltk)
            have Hc := Lib.hid hc; clear hc
            generalize hz : R.getD k 0 = z at *
            have Hz := Lib.hid hz; clear hz
            go_wp2_with (at_builtin; refine wpList_append_int_n rfl _ _ rfl wo.heap.size gr cr n' (cutTo R j k) z hn'.out hor rfl rfl (by omega) ?_)
            intro g3 c3 w3 ho3 hg3 _
            go_wp2
            go_roundw
            case rel =>
              refine ⟨k + 1, g3, c3, n' + 1, by omega, by go_num, rfl, ?_, ?_, hb2.grown hg3 hb2.size (by intro j hj; cases hj; exact hor.base)⟩
              · show _ = _
                rw [Hc.out, List.length_append, hn'.out]; rfl
              · rw [Hc.out]; exact ho3
            case measure => simp [intOf]; omega
        · obtain rfl : k = n + 1 := by omega
          have hcut : cutTo R j (n + 1) = cutAt R j := cutAt_all hrk hj
          rw [hcut] at hn' hor
          have ho2 := ho.below hb2
          have hne : ∀ r ∈ rs, r.1 ≠ gr := fun r hr => by have h1 := (ho.2.1 r hr).lt; have h2 := hor.base; omega
          have hor2 := hor.mono hb.size
          have hrow : rowVal (gr, cr, cutAt R j) = (Value.slice (some ⟨gr, 0, none⟩) n' cr) := by unfold rowVal; rw [hn'.out]
          go_wp2_with (at_builtin; refine wpList_append_row rfl _ _ rfl w.heap.size g' c' t wr.heap.size rs (gr, cr, cutAt R j) _ hrs.out (by rw [hrow]) rfl ho2 hor2 hne rfl rfl (by omega) ?_)
          intro g4 c4 w4 ho4 hg4 _
          go_wp2
          go_roundw
          case rel =>
            refine ⟨t + 1, g4, c4, rs ++ [(gr, cr, cutAt R j)], by omega, by go_num, rfl, by show _ = _; rw [List.length_append, hrs.out]; rfl, ?_, ho4, hbb.grown hg4 hbb.size (by intro j hj; cases hj; exact ho.base)⟩
            show _ = _
            rw [contents_push, hcont.out, minor_take (by rw [hsq.1]; omega), HR.out]
          case measure => simp [intOf]; omega
    · obtain rfl : n = t := by omega
      have hcc := hcont.out
      rw [List.take_of_length_le (by rw [minorOf_length, hsq.1]; omega)] at hcc
      have hml : (minorOf m j).length = n := by rw [minorOf_length, hsq.1]; rfl
      have Hcc := Lib.hid hcc; have Hml := Lib.hid hml
      clear hcc hml
      go_wp2
      go_ret
      exact ⟨g', c', rs, by rw [Hml.out]; rfl, Hcc.out, ho, hb⟩
attribute [local go_sem ↓] Go.wp_at_zero Go.wp_at_succ
set_option maxHeartbeats 4000000 in
theorem spec_l4Det_step (n : Nat) (hn4 : n + 1 ≤ 4) (ih : ∀ (g o cap : Nat) (m : List (List Int)) (w : World), Sq n m → g < w.heap.size → Rows2 w g o m → Calls Tryz.prog 159 #[(Value.slice (some ⟨g, o, none⟩) n cap)] w (Gives w (.int .i64 (det n m))))
    (g o cap : Nat) (m : List (List Int)) (w : World) (hsq : Sq (n + 1) m) (hg : g < w.heap.size) (hr : Rows2 w g o m) :
    Calls Tryz.prog 159 #[(Value.slice (some ⟨g, o, none⟩) (n + 1) cap)] w (Gives w (.int .i64 (det (n + 1) m))) := by
  have IH := Lib.hid ih; clear ih
  obtain ⟨g0, o0, c0, p1, p2, p3, p4⟩ := hr 0 (by rw [hsq.1]; omega)
  have hr0 := hsq.2.1 0 (by omega)
  rw [hr0] at p1 p2
  have Hr0 := Lib.hid hr0; clear hr0
  rw [Nat.add_zero] at p1
  have hD : ((n : Int) + 1 == 0) = false := by simp; omega
  go_enter Tryz.func159, Tryz.ntmps159
  go_wp2
  go_loopw [3, 4, 5] (fun s i _ wr => ∃ t : Nat, t ≤ n + 1 ∧ i = .int .i64 t ∧ s = .int .i64 (sumTo t fun j => sgn j * ent m 0 j * det n (minorOf m j)) ∧ Below w.heap.size w wr) (fun _ i _ _ => n + 1 - (intOf i).toNat)
  case atStart => exact ⟨0, Nat.zero_le _, rfl, rfl, Below.refl _ _⟩
  case round =>
    obtain ⟨t, ht, rfl, rfl, hb⟩ := hrel
    by_cases hlt : t < n + 1
    · have hltI : (t : Int) < (n : Int) + 1 := by omega
      have e0 := p4.below hb p3 t (by rw [Hr0.out]; exact hlt)
      have f1 := (hb.cell (p := ⟨g, o, none⟩) hg).trans p1
      have hee : (m.getD 0 []).getD t 0 = ent m 0 t := rfl
      rw [hee] at e0
      have hbx := hsq.2.2 0 t
      have hterm : (sumTo (t + 1) fun j => sgn j * ent m 0 j * det n (minorOf m j)) = (sumTo t fun j => sgn j * ent m 0 j * det n (minorOf m j)) + sgn t * ent m 0 t * det n (minorOf m t) := by
        simp only [sumTo]
      have hS := det_sum_bound hsq (by omega) (t := t) (by omega)
      have hdb := det_bound n _ (minorOf_sq hsq hlt)
      have hDB := detB_le (n := n) (by omega)
      have htb := term_bound (sgn_cases t) hbx (d := det n (minorOf m t)) ⟨by omega, by omega⟩
      have htb1 := term_bound (G := 1) (.inl rfl) hbx (d := det n (minorOf m t)) ⟨by omega, by omega⟩
      have kW : Hid (∀ W, Below w.heap.size w W → Calls Tryz.prog 182 #[(Value.slice (some ⟨g, o, none⟩) (n + 1) cap), .int .i64 t] W (GotRows W (minorOf m t))) := fun W hW => spec_l4Without_any n g o cap t m W hn4 hsq (by omega) (Nat.lt_of_lt_of_le hg hW.size) (hr.below hW hg)
      have hml : (minorOf m t).length = n := by rw [minorOf_length, hsq.1]; rfl
      have kD : Hid (∀ W g1 c1 B rs, contents rs = minorOf m t → OwnRows W B g1 c1 rs → Calls Tryz.prog 159 #[(Value.slice (some ⟨g1, 0, none⟩) n c1)] W (Gives W (.int .i64 (det n (minorOf m t))))) := fun W g1 c1 B rs hc hO => IH.out g1 0 c1 _ W (minorOf_sq hsq hlt) hO.lt (by rw [← hc]; exact hO.rows2)
      have Hml := Lib.hid hml; clear hml hee
      have hGc : sgn t = if t % 2 = 0 then 1 else -1 := rfl
      have Hterm := Lib.hid hterm; clear hterm
      generalize (sumTo t fun j => sgn j * ent m 0 j * det n (minorOf m j)) = S at *
      generalize hdd : det n (minorOf m t) = d at *
      have Hdd := Lib.hid hdd; clear hdd
      generalize ent m 0 t = x at *
      generalize sgn t = G at *
      have hB : Below w.heap.size w wr.drew := Below.drew hb
      have u1 : wr.drew.cell? ⟨g, o, none⟩ = some (Value.slice (some ⟨g0, o0, none⟩) (n + 1) c0) := f1
      have u2 : wr.drew.cell? ⟨g0, o0 + t, none⟩ = some (.int .i64 x) := e0
      have e1 : IntKind.i64.wrap (x * d) = x * d := IntWalk.i64_in _ (by simp at htb1; omega)
      clear hdb hDB
      have htI : (0 : Int) ≤ (t : Int) := by omega
      go_wp2_with fail
      go_region_held3 (fun W => Below w.heap.size w W ∧ W.cell? ⟨g, o, none⟩ = some (Value.slice (some ⟨g0, o0, none⟩) (n + 1) c0) ∧ W.cell? ⟨g0, o0 + t, none⟩ = some (.int .i64 x))
        (first | exact ⟨hB, u1, u2⟩ | exact ⟨hB.trans (hbA.mono hB.size), keepCell hbA u1, keepCell hbA u2⟩ | (have v0 := hB.trans (hbA.mono hB.size); exact ⟨v0.trans (hbD.mono v0.size), keepCell hbD (keepCell hbA u1), keepCell hbD (keepCell hbA u2)⟩))
        (first
          | (go_at_call 182; refine (kW.out _ hB).mono ?_; rintro e wA ⟨gA, cA, rsA, rfl, hcA, hoA, hbA⟩; rw [Hml.out])
          | (go_at_call 159; refine (kD.out _ gA cA _ rsA hcA hoA).mono ?_; rintro e wD ⟨rfl, hbD⟩))
      have hBD : Below w.heap.size w wD := (hB.trans (hbA.mono hB.size)).trans (hbD.mono (hB.trans (hbA.mono hB.size)).size)
      clear hbA hbD hoA hB u1 u2 kW kD f1 e0
      have er : Int.tmod (t : Int) 2 = ((t % 2 : Nat) : Int) := by rw [Int.tmod_eq_emod_of_nonneg (by omega)]; simp
      have er2 : (t : Int) % 2 = ((t % 2 : Nat) : Int) := by omega
      generalize hp : x * d = p at *
      have Hp := Lib.hid hp; clear hp
      have hpb : -486 ≤ p ∧ p ≤ 486 := by have := Hp.out; simp at htb1; omega
      by_cases hpar : t % 2 = 0
      · rw [if_pos hpar] at hGc
        subst hGc
        have hrem2 : ((t : Int) % 2 == 1) = false := by rw [er2, hpar]; rfl
        have hrem : (Int.tmod (t : Int) 2 == 1) = false := by rw [er, hpar]; rfl
        have e2 : IntKind.i64.wrap (S + p) = S + p := IntWalk.i64_in _ (by omega)
        clear hpar htb htb1 er er2
        go_wp2_with fail
        go_roundw
        case rel => exact ⟨t + 1, by omega, by go_num, by rw [Hterm.out, ← Hp.out]; simp, hBD⟩
        case measure => simp [intOf]; omega
      · rw [if_neg hpar] at hGc
        subst hGc
        have hrem : (Int.tmod (t : Int) 2 == 1) = true := by rw [er, show t % 2 = 1 by omega]; rfl
        have e3 : IntKind.i64.wrap (-p) = -p := IntWalk.i64_in _ (by omega)
        have e2 : IntKind.i64.wrap (S + -p) = S + -p := IntWalk.i64_in _ (by omega)
        have hrem2 : ((t : Int) % 2 == 1) = true := by rw [er2, show t % 2 = 1 by omega]; rfl
        clear hpar htb htb1 er er2
        go_wp2_with fail
        go_roundw
        case rel => exact ⟨t + 1, by omega, by go_num, by rw [Hterm.out, ← Hp.out, Int.neg_mul, Int.neg_mul, Int.one_mul], hBD⟩
        case measure => simp [intOf]; omega
    · obtain rfl : t = n + 1 := by omega
      go_wp2
      go_ret
      exact ⟨rfl, hb⟩
theorem spec_l4Det_any : ∀ (n : Nat), n ≤ 4 → ∀ (g o cap : Nat) (m : List (List Int)) (w : World), Sq n m → g < w.heap.size → Rows2 w g o m → Calls Tryz.prog 159 #[(Value.slice (some ⟨g, o, none⟩) n cap)] w (Gives w (.int .i64 (det n m))) := by
  intro n
  induction n with
  | zero =>
    intro _ g o cap m w _ _ _
    go_enter Tryz.func159, Tryz.ntmps159
    go_wp2
    go_ret
    exact ⟨rfl, Below.refl _ _⟩
  | succ n ih =>
    intro hn g o cap m w hsq hg hr
    exact spec_l4Det_step n hn (ih (by omega)) g o cap m w hsq hg hr
end Go.Proofs.YtdedkfbiookofaaGreatDoor
namespace Go.Proofs.YtdedkfbiookofaaGreatDoor
set_option maxRecDepth 100000
open Go.RowKit
theorem pow_le16 {M : Nat} (h : M ≤ 4) : 2 ^ M ≤ 16 := Nat.le_trans (Nat.pow_le_pow_right (by decide) h) (by decide)
theorem wrap_pow4 {M : Nat} (h : M ≤ 4) : wrap64 ((2 : Int) ^ M) = ((2 ^ M : Nat) : Int) := by
  have h1 := pow_le16 h
  have h2 : ((2 ^ M : Nat) : Int) = (2 : Int) ^ M := by simp
  have h3 : wrap64 ((2 ^ M : Nat) : Int) = ((2 ^ M : Nat) : Int) := by
    generalize 2 ^ M = q at h1
    exact IntWalk.wrap64_in _ ⟨by omega, by omega⟩
  rw [← h2]
  exact h3
def minorAt (c : List (List Int)) (m : Nat) : Int := det (setL m).length (pickL c (setL m))
theorem setNat_mem {m t i : Nat} (h : i ∈ setNat m t) : m / 2 ^ i % 2 = 1 ∧ i < t := by
  unfold setNat at h
  have := List.mem_filter.1 h
  exact ⟨by simpa using this.2, by simpa using this.1⟩
theorem setL_in {m n : Nat} (hm : m < 2 ^ n) (t : Nat) (ht : t < (setL m).length) : 0 ≤ (setL m).getD t 0 ∧ (setL m).getD t 0 < n := by
  have hmem : (setL m).getD t 0 ∈ setL m := by simp [List.getD, ht]
  obtain ⟨i, hi, he⟩ := List.mem_map.1 hmem
  rw [← he]
  have h1 := setNat_mem hi
  refine ⟨by omega, ?_⟩
  rcases Nat.lt_or_ge i n with h | h
  · omega
  · have : m / 2 ^ i = 0 := Nat.div_eq_of_lt (Nat.lt_of_lt_of_le hm (Nat.pow_le_pow_right (by decide) h))
    omega
theorem ent_bound {c : List (List Int)} (hC : IsC c) (i j : Nat) : -3 ≤ ent c i j ∧ ent c i j ≤ 3 := by
  by_cases hi : i < c.length
  · by_cases hj : j < c.length
    · have h := hC.2.2.2 i hi j hj
      unfold EntOk at h
      split at h <;> omega
    · have : ent c i j = 0 := by
        unfold ent
        have := hC.2.2.1 i hi
        simp only [List.getD] at *
        rw [List.getElem?_eq_none (by omega)]; rfl
      omega
  · have : ent c i j = 0 := by
      unfold ent
      simp only [List.getD]
      have hno : c[i]? = none := List.getElem?_eq_none (by omega)
      rw [hno]; rfl
    omega
theorem pick_sq {c : List (List Int)} (hC : IsC c) (s : List Int) : Sq s.length (pickL c s) := by
  refine ⟨by simp [pickL], fun i hi => ?_, fun i j => ?_⟩
  · simp [pickL, List.getD, hi, pickRow]
  · have h0 : ∀ i j, ent (pickL c s) i j = if i < s.length ∧ j < s.length then ent c (s.getD i 0).toNat (s.getD j 0).toNat else 0 := by
      intro i j
      unfold pickL
      by_cases hi : i < s.length
      · by_cases hj : j < s.length
        · rw [if_pos ⟨hi, hj⟩]
          conv => lhs; unfold ent
          simp [List.getD, hi, hj, pickRow]
        · rw [if_neg (by omega)]
          conv => lhs; unfold ent
          simp only [List.getD, List.getElem?_map]
          rw [List.getElem?_eq_getElem hi]
          simp [pickRow]
          rw [List.getElem?_eq_none (by omega)]; rfl
      · rw [if_neg (by omega)]
        conv => lhs; unfold ent
        simp only [List.getD, List.getElem?_map]
        have hno : s[i]? = none := List.getElem?_eq_none (by omega)
        rw [hno]; rfl
    rw [h0]
    split
    · exact ent_bound hC _ _
    · omega
theorem setL_len (m : Nat) : (setL m).length ≤ 4 := setTo_len m 4
theorem minorAt_bound {c : List (List Int)} (hC : IsC c) (m : Nat) : -1944 ≤ minorAt c m ∧ minorAt c m ≤ 1944 := by
  have h := det_bound _ _ (pick_sq hC (setL m))
  have hl := setL_len m
  have : (setL m).length = 4 ∨ (setL m).length ≤ 3 := by omega
  unfold minorAt
  rcases this with h4 | h3
  · rw [h4] at h ⊢; simp [detB] at h; omega
  · have := detB_le h3; omega
def minorsTo (c : List (List Int)) (t : Nat) : List Int := (List.range t).map fun k => minorAt c (k + 1)
def minorsL (c : List (List Int)) : List Int := if IsC c then minorsTo c (2 ^ c.length - 1) else []
theorem minorsTo_length (c : List (List Int)) (t : Nat) : (minorsTo c t).length = t := by simp [minorsTo]
theorem minorsTo_succ (c : List (List Int)) (t : Nat) : minorsTo c (t + 1) = minorsTo c t ++ [minorAt c (t + 1)] := by simp [minorsTo, List.range_succ]
set_option maxHeartbeats 2000000 in
theorem impl_PrincipalMinors_any (g o n cp : Nat) (c : List (List Int)) (w : World) (hn : c.length = n) (hx : c.length ≤ 1048576) (hrl : ∀ j, j < c.length → (c.getD j []).length ≤ 1048576) (hg : g < w.heap.size) (hr : Rows2 w g o c) :
    Calls Tryz.prog 175 #[(Value.slice (some ⟨g, o, none⟩) n cp)] w (GotInts w (minorsL c)) := by
  subst hn
  go_enter Tryz.func175, Tryz.ntmps175
  go_wp2_with fail
  have hb0 : Below w.heap.size w (w.alloc (.cells #[] 3)) := (by repeat (first | with_reducible exact Below.refl _ _ | with_reducible assumption | with_reducible refine below_drewN ?_ _ | with_reducible refine Below.drew ?_ | (with_reducible refine Below.alloc ?_ ?_ _; rotate_left; · first | (simp; done) | (simp; omega) | exact Below.size (by assumption) | (have hsz := Below.size (by assumption : Below _ _ _); simp at hsz ⊢; omega)) | (with_reducible refine Below.setCell ?_ ?_ _; rotate_left; · first | (simp; done) | (simp; omega))))
  refine (impl_IsCartan g o _ cp c _ rfl (by omega) (fun j hj => by have := hrl j hj; omega) (hr.below hb0 hg)).mono ?_
  rintro e w1 ⟨rfl, m1, rfl⟩
  by_cases hC : IsC c
  · have hC' : decide (IsC c) = true := decide_eq_true hC
    rw [hC']
    have hn4 := hC.2.1
    have hn1 := hC.1
    obtain ⟨Q, hQ, hQ2, hQ3⟩ : ∃ Q : Nat, Q = 2 ^ c.length ∧ Q ≤ 16 ∧ wrap64 ((2 : Int) ^ c.length) = (Q : Int) := ⟨2 ^ c.length, rfl, pow_le16 hn4, wrap_pow4 hn4⟩
    have hQ1 : 1 ≤ Q := by rw [hQ]; exact Nat.one_le_two_pow
    have hM : minorsL c = minorsTo c (Q - 1) := by unfold minorsL; rw [if_pos hC, hQ]
    have HQ := Lib.hid hQ; have HM := Lib.hid hM; clear hQ hM
    go_wp2_with fail
    go_loopw [3, 4] (fun s i wr => ∃ t g' c' : Nat, t + 1 ≤ Q ∧ i = .int .i64 ((t : Int) + 1) ∧ s = (Value.slice (some ⟨g', 0, none⟩) t c') ∧ Own wr w.heap.size g' c' (minorsTo c t) ∧ Below w.heap.size w wr) (fun _ i _ => 17 - (intOf i).toNat)
    case atStart => exact ⟨0, w.heap.size, 0, by omega, rfl, rfl, (Own.empty (w := w) (Nat.le_refl _)).drewN m1, below_drewN hb0 m1⟩
    case round =>
      obtain ⟨t, g', c', ht, rfl, rfl, ho, hb⟩ := hrel
      by_cases hlt : t + 1 < Q
      · have hltI : (t : Int) + 1 < Q := by omega
        have hm15 : t + 1 ≤ 15 := by omega
        have hset := impl_setOf_any (t + 1) wr hm15
        have e1 : (((t + 1 : Nat)) : Int) = (t : Int) + 1 := by omega
        rw [e1] at hset
        have Hset := Lib.hid hset; clear hset e1
        have hsl := setL_len (t + 1)
        have hsin := fun k hk => setL_in (m := t + 1) (n := c.length) (by rw [← HQ.out]; omega) k hk
        have hpsq := pick_sq hC (setL (t + 1))
        have hpl : (pickL c (setL (t + 1))).length = (setL (t + 1)).length := by simp [pickL]
        have hmb := minorAt_bound hC (t + 1)
        have hmd : minorAt c (t + 1) = det (setL (t + 1)).length (pickL c (setL (t + 1))) := rfl
        generalize hs : setL (t + 1) = s at *
        have Hsin := Lib.hid hsin; have Hpsq := Lib.hid hpsq; have Hpl := Lib.hid hpl; have Hs := Lib.hid hs
        clear hsin hpsq hpl hs
        go_wp2_with fail
        refine Hset.out.mono ?_
        rintro e w2 ⟨g2, c2, rfl, ho2, hb2⟩
        have hB2 := hb.trans (hb2.mono hb.size)
        go_wp2_with fail
        refine (impl_picked_any g o _ cp g2 0 _ c2 c s w2 rfl rfl hsl hC.2.2.1 Hsin.out (Nat.lt_of_lt_of_le hg hB2.size) ho2.lt (hr.below hB2 hg) ho2.cells).mono ?_
        rintro e w3 ⟨g3, c3, rs3, rfl, hc3, ho3, hb3⟩
        rw [Hpl.out]
        have hB3 := hB2.trans (hb3.mono hB2.size)
        go_wp2_with fail
        refine (impl_determinant_any s.length hsl g3 0 c3 (pickL c s) w3 Hpsq.out ho3.lt (by have := ho3.capLe; rw [← Hpl.out, ← hc3]; simpa [contents] using this) (by rw [← hc3]; exact ho3.rows2)).mono ?_
        rintro e w4 ⟨rfl, hb4⟩
        rw [← hmd]
        have hB4 := hB3.trans (hb4.mono hB3.size)
        have hM1 := minorsTo_succ c t
        have HM1 := Lib.hid hM1
        generalize minorAt c (t + 1) = d at *
        have ho4 := ((ho.below hb2 ho.lt).below hb3 (Nat.lt_of_lt_of_le ho.lt hb2.size)).below hb4 (Nat.lt_of_lt_of_le ho.lt (Nat.le_trans hb2.size hb3.size))
        clear hM1 hb2 hb3 hb4 ho2 ho3 hB2 hB3 hmd
        go_wp2_with (at_builtin; refine wpList_append_int_n rfl _ _ rfl w.heap.size g' c' t (minorsTo c t) d (minorsTo_length _ _) ho4 rfl rfl (by omega) ?_)
        intro g5 c5 w5 ho5 hg5 _
        go_wp2
        go_roundw
        case rel =>
          rw [← HM1.out] at ho5
          exact ⟨t + 1, g5, c5, by omega, by go_num, rfl, ho5, hB4.grown hg5 hB4.size (by intro j hj; cases hj; exact ho4.base)⟩
        case measure => simp [intOf]; omega
      · have hge : ¬ (t : Int) + 1 < Q := by omega
        obtain rfl : t = Q - 1 := by omega
        go_wp2
        go_ret
        rw [HM.out]
        exact GotInts.mk' g' c' (minorsTo_length _ _) ho hb
  · have hC' : decide (IsC c) = false := decide_eq_false hC
    have hM : minorsL c = [] := by unfold minorsL; rw [if_neg hC]
    rw [hC']
    clear hC
    go_wp2_with fail
    go_ret
    rw [hM]
    exact GotInts.mk' w.heap.size 0 rfl ((Own.empty (w := w) (Nat.le_refl _)).drewN m1) (below_drewN hb0 m1)
/-- the first set from m on whose determinant is not positive -/
def witFrom (c : List (List Int)) : Nat → Nat → List Int
  | _, 0 => []
  | m, f + 1 => if minorAt c m ≤ 0 then setL m else witFrom c (m + 1) f
def witness (c : List (List Int)) : List Int := if IsC c then witFrom c 1 (2 ^ c.length - 1) else []
def finB (c : List (List Int)) : Bool := decide (IsC c) && ((witness c).length == 0)
theorem witFrom_len (c : List (List Int)) : ∀ (f m : Nat), (witFrom c m f).length ≤ 4 := by
  intro f
  induction f with
  | zero => intro m; simp [witFrom]
  | succ f ih =>
    intro m
    unfold witFrom
    split
    · exact setL_len m
    · exact ih _
theorem witness_len (c : List (List Int)) : (witness c).length ≤ 4 := by
  unfold witness
  split
  · exact witFrom_len _ _ _
  · simp
set_option maxHeartbeats 2000000 in
theorem impl_WitnessOf_any (g o n cp : Nat) (c : List (List Int)) (w : World) (hn : c.length = n) (hx : c.length ≤ 1048576) (hrl : ∀ j, j < c.length → (c.getD j []).length ≤ 1048576) (hg : g < w.heap.size) (hr : Rows2 w g o c) :
    Calls Tryz.prog 155 #[(Value.slice (some ⟨g, o, none⟩) n cp)] w (GotInts w (witness c)) := by
  go_enter Tryz.func155, Tryz.ntmps155
  go_wp2_with fail
  refine (impl_PrincipalMinors_any g o n cp c w hn hx hrl hg hr).mono ?_
  rintro e w1 ⟨g1, c1, rfl, ho1, hb1⟩
  have hml : (minorsL c).length ≤ 15 := by
    unfold minorsL
    split
    · rename_i hC
      have := pow_le16 hC.2.1
      rw [minorsTo_length]; omega
    · simp
  have hat : ∀ k, k < (minorsL c).length → (minorsL c).getD k 0 = minorAt c (k + 1) := by
    intro k hk
    unfold minorsL at hk ⊢
    split
    · rename_i hC
      rw [if_pos hC, minorsTo_length] at hk
      simp [minorsTo, List.getD, hk]
    · rename_i hC
      rw [if_neg hC] at hk
      simp at hk
  have hwit : witness c = witFrom c 1 (minorsL c).length := by
    unfold witness minorsL
    split
    · rw [minorsTo_length]
    · rfl
  have Hwit := Lib.hid hwit; have Hat := Lib.hid hat
  clear hwit hat
  generalize minorsL c = M at *
  go_wp2_with fail
  go_loopw [8] (fun i wr => ∃ k : Nat, k ≤ M.length ∧ i = .int .i64 k ∧ Hid (witness c = witFrom c (k + 1) (M.length - k)) ∧ Below w.heap.size w wr ∧ Own wr w.heap.size g1 c1 M) (fun i _ => M.length - (intOf i).toNat)
  case atStart => exact ⟨0, Nat.zero_le _, rfl, Hwit.out, hb1, ho1⟩
  case round =>
    obtain ⟨k, hk, rfl, hw, hb, ho⟩ := hrel
    by_cases hlt : k < M.length
    · have q1 := ho.cell k hlt
      have hm := Hat.out k hlt
      have hstep : witFrom c (k + 1) (M.length - k) = if minorAt c (k + 1) ≤ 0 then setL (k + 1) else witFrom c (k + 1 + 1) (M.length - (k + 1)) := by
        rw [show M.length - k = (M.length - (k + 1)) + 1 by omega]; rfl
      rw [hm] at q1
      have hset := impl_setOf_any (k + 1) wr (by omega)
      have e1 : (((k + 1 : Nat)) : Int) = (k : Int) + 1 := by omega
      rw [e1] at hset
      have Hset := Lib.hid hset; have Hstep := Lib.hid hstep
      clear hset hstep e1 hm
      generalize minorAt c (k + 1) = d at *
      by_cases hd : d ≤ 0
      · go_wp2_with fail
        refine Hset.out.mono ?_
        rintro e w2 ⟨g2, c2, rfl, ho2, hb2⟩
        go_wp2_with fail
        go_ret
        rw [hw.out, Hstep.out, if_pos hd]
        exact GotInts.mk' g2 c2 rfl (ho2.mono hb.size) (hb.trans (hb2.mono hb.size))
      · go_wp2_with fail
        go_roundw
        case rel => exact ⟨k + 1, by omega, by go_num, by show _ = _; rw [hw.out, Hstep.out, if_neg hd], hb, ho⟩
        case measure => simp [intOf]; omega
    · obtain rfl : k = M.length := by omega
      go_wp2
      go_ret
      have hw2 := hw.out
      rw [Nat.sub_self] at hw2
      rw [hw2]
      exact GotInts.mk' wr.heap.size 0 rfl (Own.empty (w := wr) hb.size) (hb.alloc hb.size _)
set_option maxHeartbeats 1000000 in
theorem impl_IsFinite_any (g o n cp : Nat) (c : List (List Int)) (w : World) (hn : c.length = n) (hx : c.length ≤ 1048576) (hrl : ∀ j, j < c.length → (c.getD j []).length ≤ 1048576) (hg : g < w.heap.size) (hr : Rows2 w g o c) :
    Calls Tryz.prog 125 #[(Value.slice (some ⟨g, o, none⟩) n cp)] w (Gives w (.bool (finB c))) := by
  have hwl := witness_len c
  go_enter Tryz.func125, Tryz.ntmps125
  go_wp2_with fail
  refine (impl_IsCartan g o n cp c w hn (by omega) (fun j hj => by have := hrl j hj; omega) hr).mono ?_
  rintro e w1 ⟨rfl, m1, rfl⟩
  by_cases hC : IsC c
  · have hC' : decide (IsC c) = true := decide_eq_true hC
    have hf : finB c = ((witness c).length == 0) := by unfold finB; rw [hC']; simp
    rw [hC']
    go_wp2_with fail
    refine (impl_WitnessOf_any g o n cp c (w.drewN m1) hn hx hrl hg hr).mono ?_
    rintro e w2 ⟨g2, c2, rfl, ho2, hb2⟩
    generalize (witness c).length = L at *
    go_wp2_with fail
    go_ret
    refine ⟨?_, (below_drewN' w m1).trans hb2⟩
    rw [hf]
    refine ret_bool ?_
    by_cases h0 : L = 0
    · subst h0; rfl
    · have e1 : (L == 0) = false := by simpa using h0
      have e2 : ((L : Int) == 0) = false := by simp; omega
      rw [e1, e2]
  · have hC' : decide (IsC c) = false := decide_eq_false hC
    have hf : finB c = false := by unfold finB; rw [hC']; simp
    rw [hC']
    clear hC
    go_wp2_with fail
    go_ret
    exact ⟨by rw [hf]; rfl, below_drewN' w m1⟩
end Go.Proofs.YtdedkfbiookofaaGreatDoor
