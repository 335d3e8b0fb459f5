/- determinants: contracts. -/
import Derived.Test.YtkjglfafphffiaaGreatT04
import Derived.Test.YtkjglfafphffiaaGreatT03
namespace Go.Proofs.YtkjglfafphffiaaGreat
set_option maxRecDepth 100000
open Go.RowKit
theorem minorOf_length (m : List (List Int)) (j : Nat) : (minorOf m j).length = m.length - 1 := by simp [minorOf]
theorem minor_take {m : List (List Int)} {j k : Nat} (hk : k + 1 < m.length) : (minorOf m j).take (k + 1) = (minorOf m j).take k ++ [cutAt (m.getD (k + 1) []) j] := by
  have hk' : k < (minorOf m j).length := by rw [minorOf_length]; omega
  rw [List.take_succ_eq_append_getElem hk']
  congr 2
  simp [minorOf, List.getD, hk]
theorem sgn_succ (t : Nat) : sgn (t + 1) = -(sgn t) := by
  unfold sgn
  by_cases h : t % 2 = 0
  · rw [if_pos h, if_neg (by omega)]
  · rw [if_neg h, if_pos (by omega)]; rfl
theorem sgn_cases (t : Nat) : sgn t = 1 ∨ sgn t = -1 := by unfold sgn; split <;> simp
theorem detB_le {n : Nat} (h : n ≤ 3) : 0 ≤ detB n ∧ detB n ≤ 162 := by
  have : n = 0 ∨ n = 1 ∨ n = 2 ∨ n = 3 := by omega
  rcases this with rfl | rfl | rfl | rfl <;> simp [detB]
theorem term_bound {G x d : Int} (hG : G = 1 ∨ G = -1) (hx : -3 ≤ x ∧ x ≤ 3) (hd : -162 ≤ d ∧ d ≤ 162) : -486 ≤ G * x * d ∧ G * x * d ≤ 486 ∧ -3 ≤ G * x ∧ G * x ≤ 3 := by
  have hx' : x = -3 ∨ x = -2 ∨ x = -1 ∨ x = 0 ∨ x = 1 ∨ x = 2 ∨ x = 3 := by omega
  rcases hG with rfl | rfl <;> rcases hx' with rfl | rfl | rfl | rfl | rfl | rfl | rfl <;> omega
theorem det_sum_bound {n : Nat} {m : List (List Int)} (hsq : Sq (n + 1) m) (hn : n ≤ 3) {t : Nat} (ht : t ≤ n + 1) :
    -1944 ≤ (sumTo t fun j => sgn j * ent m 0 j * det n (minorOf m j)) ∧ (sumTo t fun j => sgn j * ent m 0 j * det n (minorOf m j)) ≤ 1944 := by
  have := sumTo_bound (fun j => sgn j * ent m 0 j * det n (minorOf m j)) 486 t (fun j hj => by
    have h1 := det_bound n _ (minorOf_sq hsq (j := j) (by omega))
    have h2 := detB_le hn
    have h3 := term_bound (d := det n (minorOf m j)) (sgn_cases j) (hsq.2.2 0 j) ⟨by omega, by omega⟩
    exact ⟨h3.1, h3.2.1⟩)
  omega
attribute [local go_sem ↓] Go.wp_at_zero Go.wp_at_succ
set_option maxHeartbeats 4000000 in
theorem impl_determinant_step (n : Nat) (hn1 : 1 ≤ n) (hn4 : n + 1 ≤ 4) (ih : ∀ (g o cap : Nat) (m : List (List Int)) (w : World), Sq n m → g < w.heap.size → n ≤ cap → Rows2 w g o m → Calls Tryz.prog 60 #[(Value.slice (some ⟨g, o, none⟩) n cap)] w (Gives w (.int .i64 (det n m))))
    (g o cap : Nat) (m : List (List Int)) (w : World) (hsq : Sq (n + 1) m) (hg : g < w.heap.size) (hcap : n + 1 ≤ cap) (hr : Rows2 w g o m) :
    Calls Tryz.prog 60 #[(Value.slice (some ⟨g, o, none⟩) (n + 1) cap)] w (Gives w (.int .i64 (det (n + 1) m))) := by
  have IH := Lib.hid ih; clear ih
  obtain ⟨g0, o0, c0, p1, p2, p3, p4⟩ := hr 0 (by rw [hsq.1]; omega)
  have hr0 := hsq.2.1 0 (by omega)
  rw [hr0] at p1 p2
  have Hr0 := Lib.hid hr0; clear hr0
  rw [Nat.add_zero] at p1
  have hcap1 : ¬ cap = 1 := by omega
  have hcap2 : 1 < cap := by omega
  have c1 : (0 : Int) < ((n + 1 : Nat) : Int) := by omega
  have hD : ((n : Int) + 1 == 0) = false := by simp; omega
  go_enter Tryz.func60, Tryz.ntmps60
  go_wp2
  go_loopw [3, 4, 17] (fun s sg i wr => ∃ t : Nat, t ≤ n + 1 ∧ i = .int .i64 t ∧ s = .int .i64 (sumTo t fun j => sgn j * ent m 0 j * det n (minorOf m j)) ∧ sg = .int .i64 (sgn t) ∧ Below w.heap.size w wr) (fun _ _ i _ => n + 1 - (intOf i).toNat)
  case atStart => exact ⟨0, Nat.zero_le _, rfl, rfl, rfl, Below.refl _ _⟩
  case round =>
    obtain ⟨t, ht, rfl, rfl, rfl, hb⟩ := hrel
    by_cases hlt : t < n + 1
    · have e0 := p4.below hb p3 t (by rw [Hr0.out]; exact hlt)
      have hee : (m.getD 0 []).getD t 0 = ent m 0 t := rfl
      rw [hee] at e0
      have hbx := hsq.2.2 0 t
      by_cases hx0 : ent m 0 t = 0
      · have hterm : (sumTo (t + 1) fun j => sgn j * ent m 0 j * det n (minorOf m j)) = sumTo t fun j => sgn j * ent m 0 j * det n (minorOf m j) := by
          simp only [sumTo]; rw [hx0]; simp
        have Hterm := Lib.hid hterm; clear hterm hee hbx
        rw [hx0] at e0
        have Hx0 := Lib.hid hx0; clear hx0
        generalize (sumTo t fun j => sgn j * ent m 0 j * det n (minorOf m j)) = S at *
        have hsg := sgn_succ t
        have Hsg := Lib.hid hsg; clear hsg
        have hGc := sgn_cases t
        generalize hG : sgn t = G at *
        have HG := Lib.hid hG; clear hG
        have hG1 : -1 ≤ G ∧ G ≤ 1 := by omega
        clear hGc
        go_wp2
        go_roundw
        case rel => exact ⟨t + 1, by omega, by go_num, by rw [Hterm.out], by rw [Hsg.out], hb⟩
        case measure => simp [intOf]; omega
      · have hxb : (ent m 0 t != 0) = true := by simpa using hx0
        generalize hxx : ent m 0 t = x at *
        have Hxx := Lib.hid hxx; clear hxx hee
        have hltI : (t : Int) < (n : Int) + 1 := by omega
        obtain ⟨wo, rfl⟩ : ∃ wo : World, wo = wr := ⟨_, rfl⟩
        go_wp2
        go_loopw [7, 28] (fun mn i wr => ∃ (k g' c' : Nat) (rs : List RowRef), k ≤ n ∧ i = .int .i64 k ∧ mn = (Value.slice (some ⟨g', 0, none⟩) k c') ∧ Hid (rs.length = k) ∧ Hid (contents rs = (minorOf m t).take k) ∧ OwnRows wr wo.heap.size g' c' rs ∧ Below wo.heap.size wo wr) (fun _ i _ => n - (intOf i).toNat)
        case atStart => exact ⟨0, wo.heap.size, 0, [], Nat.zero_le _, rfl, rfl, rfl, rfl, OwnRows.empty (Nat.le_refl _), (Below.refl _ _).alloc (Nat.le_refl _) _⟩
        case round =>
          obtain ⟨k, g', c', rs, hk, rfl, rfl, hrs, hcont, ho, hb2⟩ := hrel
          have hbb := hb.trans (hb2.mono hb.size)
          by_cases hltk : k < n
          · obtain ⟨ga, oa, ca, q1, q2, q3, q4⟩ := hr (k + 1) (by rw [hsq.1]; omega)
            have hrk := hsq.2.1 (k + 1) (by omega)
            rw [hrk] at q1 q2
            have hq1 := (hbb.cell (p := ⟨g, o + (k + 1), none⟩) hg).trans q1
            have hq1' : wr.cell? ⟨g, o + 1 + k, none⟩ = some (Value.slice (some ⟨ga, oa, none⟩) (n + 1) ca) := by rw [show o + 1 + k = o + (k + 1) by omega]; exact hq1
            have hrow := q4.below hbb q3
            clear q1 hq1
            go_wp2
            have b1 : (0 : Int) ≤ (t : Int) := by omega
            have b2 : (t : Int) ≤ (ca : Int) := by omega
            have b3 : (0 : Int) ≤ (t : Int) + 1 := by omega
            have b4 : (t : Int) + 1 ≤ ((n + 1 : Nat) : Int) := by omega
            have b5 : (t : Int) + 1 ≤ (n : Int) + 1 := by omega
            have b6 : (n : Int) + 1 ≤ (ca : Int) := by omega
            have b7 : IntKind.i64.wrap ((t : Int) + 1) = (t : Int) + 1 := IntWalk.i64_in _ (by omega)
            have HN : Hid (n + 1 ≤ 4) := hn4
            have hrl : (m.getD (k + 1) []).length = n + 1 := hrk
            generalize hR : m.getD (k + 1) [] = R at *
            have l1 : (R.take t).length = t := by simp; omega
            have l2 : (R.drop (t + 1)).length = n - t := by simp; omega
            have B0 : Below wr.heap.size wr ((wr.alloc (.cells #[] 3)).drew) := Below.drew ((Below.refl _ _).alloc (Nat.le_refl _) _)
            have F1 : ∀ w1, ((wr.alloc (.cells #[] 3)).drew).grownBy w1 (some wr.heap.size) → Below wr.heap.size wr w1 := fun w1 h => B0.grown h B0.size (by intro j hj; cases hj; exact Nat.le_refl _)
            have F2 : ∀ (w1 w2 : World) (g1 : Nat), Below wr.heap.size wr w1 → wr.heap.size ≤ g1 → w1.grownBy w2 (some g1) → Below wr.heap.size wr w2 := fun w1 w2 g1 h hg h2 => h.grown h2 h.size (by intro j hj; cases hj; exact hg)
            have hga : ga < wr.heap.size := Nat.lt_of_lt_of_le q3 hbb.size
            have FA : Hid (∀ W, Cells W ga oa R → ∃ g2 o2, (if ca = t + 1 then some (⟨ga, oa, none⟩ : Addr) else some ⟨ga, oa + (t + 1), none⟩) = some ⟨g2, o2, none⟩ ∧ Cells W g2 o2 (R.drop (t + 1))) := fun W hW => by
              by_cases hca : ca = t + 1
              · rw [if_pos hca]
                refine ⟨_, _, rfl, ?_⟩
                have : R.drop (t + 1) = [] := List.drop_eq_nil_of_le (by omega)
                rw [this]; intro j hj; simp at hj
              · rw [if_neg hca]; exact ⟨_, _, rfl, hW.drop (t + 1)⟩
            have l3 : (([] ++ R.take t) ++ R.drop (t + 1)).length = t + (n - t) := by simp; omega
            have hrv : ∀ g2 c2 : Nat, rowVal (g2, c2, ([] ++ R.take t) ++ R.drop (t + 1)) = (Value.slice (some ⟨g2, 0, none⟩) (t + (n - t)) c2) := fun g2 c2 => by unfold rowVal; rw [l3]
            have Hrv := Lib.hid hrv; have L3 := Lib.hid l3; clear hrv l3
            have F3 : Hid (∀ (w2 : World) (g2 c2 : Nat), Below wr.heap.size wr w2 → Own w2 wr.heap.size g2 c2 (([] ++ R.take t) ++ R.drop (t + 1)) → OwnRows w2 wo.heap.size g' c' rs ∧ Own w2 wo.heap.size g2 c2 (([] ++ R.take t) ++ R.drop (t + 1)) ∧ ∀ s ∈ rs, s.1 ≠ g2) := fun w2 g2 c2 hB hO =>
              ⟨ho.below hB, hO.mono hb2.size, fun s hs => by have h1 := (ho.2.1 s hs).lt; have h2 := hO.base; omega⟩
            have FB : ∀ w1, Below wr.heap.size wr w1 → Below wo.heap.size wo w1 := fun w1 h => hb2.trans (h.mono hb2.size)
            have hBg : wo.heap.size ≤ g' := ho.base
            go_region_held3 (fun W => Below wo.heap.size wo W)
              (first | exact Below.drew hb2 | exact FB _ B0 | exact (Below.drew hb2).alloc hb2.size _ | exact FB _ (F1 _ hg1) | exact FB _ (F2 _ _ _ (F1 _ hg1) ho1.base hg2) | exact (FB _ (F2 _ _ _ (F1 _ hg1) ho1.base hg2)).alloc (FB _ (F2 _ _ _ (F1 _ hg1) ho1.base hg2)).size _ | exact (FB _ (F2 _ _ _ (F1 _ hg1) ho1.base hg2)).grown hg3 (FB _ (F2 _ _ _ (F1 _ hg1) ho1.base hg2)).size (by intro j hj; cases hj; exact hBg))
              (first
                | (refine step_append_ints (by rfl) _ _ (by rfl) wr.heap.size wr.heap.size 0 0 ga oa t ca [] (R.take t) rfl l1 (by exact (Own.empty (w := wr.drew) (Nat.le_refl _))) (by exact (hrow.below B0 hga).take t) (by rfl) (by rfl) (by omega) ?_; intro g1 c1 w1 ho1 hg1 hor1)
                | (refine step_append_intsA (by rfl) _ _ (by rfl) wr.heap.size g1 c1 (0 + t) (n - t) _ _ ([] ++ R.take t) (R.drop (t + 1)) (by simp; omega) l2 (by exact ho1) (by rfl) (by rfl) (by exact FA.out _ (hrow.below (F1 _ hg1) hga)) (by omega) ?_; intro g2 c2 w2 ho2 hg2 hor2)
                | (refine step_append_row (w := w2) (by rfl) _ _ (by rfl) wo.heap.size g' c' k w2.heap.size rs (g2, c2, ([] ++ R.take t) ++ R.drop (t + 1)) _ hrs.out (by rw [Hrv.out]) (by rfl) (by exact (F3.out w2 g2 c2 (F2 _ _ _ (F1 _ hg1) ho1.base hg2) ho2).1) (by exact (F3.out w2 g2 c2 (F2 _ _ _ (F1 _ hg1) ho1.base hg2) ho2).2.1) (by exact (F3.out w2 g2 c2 (F2 _ _ _ (F1 _ hg1) ho1.base hg2) ho2).2.2) (by rfl) (by rfl) (by omega) ?_; intro g3 c3 w3 ho3 hg3 hor3))
            have hB3 : Below wo.heap.size wo w3 := (FB _ (F2 _ _ _ (F1 _ hg1) ho1.base hg2)).grown hg3 (FB _ (F2 _ _ _ (F1 _ hg1) ho1.base hg2)).size (by intro j hj; cases hj; exact hBg)
            have HB3 := Lib.hid hB3
            clear F1 F2 FB ho1 hg1 hor1 ho2 hg2 hor2 hor3 FA hB3
            generalize (if ca = t + 1 then some (⟨ga, oa, none⟩ : Addr) else some ⟨ga, oa + (t + 1), none⟩) = AA
            go_wp2
            go_roundw
            case rel =>
              refine ⟨k + 1, g3, c3, rs ++ [(g2, c2, ([] ++ R.take t) ++ R.drop (t + 1))], by omega, by go_num, rfl, by show _ = _; rw [List.length_append, hrs.out]; rfl, ?_, ho3, HB3.out⟩
              show _ = _
              rw [contents_push, hcont.out, minor_take (by rw [hsq.1]; omega), hR]
              rfl
            case measure => simp [intOf]; omega
          · obtain rfl : n = k := by omega
            have hcc := hcont.out
            rw [List.take_of_length_le (by rw [minorOf_length, hsq.1]; omega)] at hcc
            have hdc := IH.out g' 0 c' (minorOf m t) wr (minorOf_sq hsq hlt) ho.lt (by have := ho.capLe; rw [hrs.out] at this; exact this) (by rw [← hcc]; exact ho.rows2)
            have hterm : (sumTo (t + 1) fun j => sgn j * ent m 0 j * det n (minorOf m j)) = (sumTo t fun j => sgn j * ent m 0 j * det n (minorOf m j)) + sgn t * x * det n (minorOf m t) := by
              simp only [sumTo]; rw [Hxx.out]
            have hS := det_sum_bound hsq (by omega) (t := t) (by omega)
            have hdb := det_bound n _ (minorOf_sq hsq hlt)
            have hDB := detB_le (n := n) (by omega)
            have htb := term_bound (sgn_cases t) hbx (d := det n (minorOf m t)) ⟨by omega, by omega⟩
            have hsg := sgn_succ t
            have hGc := sgn_cases t
            have Hdc := Lib.hid hdc; clear hdc
            have Hterm := Lib.hid hterm; have Hsg := Lib.hid hsg; clear hterm hsg hcc
            generalize (sumTo t fun j => sgn j * ent m 0 j * det n (minorOf m j)) = S at *
            generalize det n (minorOf m t) = d at *
            generalize sgn t = G at *
            have hG1 : -1 ≤ G ∧ G ≤ 1 := by omega
            have e1 : IntKind.i64.wrap (G * x) = G * x := IntWalk.i64_in _ (by omega)
            have e2 : IntKind.i64.wrap (G * x * d) = G * x * d := IntWalk.i64_in _ (by omega)
            have e3 : IntKind.i64.wrap (S + G * x * d) = S + G * x * d := IntWalk.i64_in _ (by omega)
            have hbb2 := hb.trans (hb2.mono hb.size)
            clear hGc hdb hDB htb hS
            go_wp2_with fail
            refine Hdc.out.mono ?_
            rintro e w1 ⟨rfl, hb3⟩
            go_wp2_with fail
            go_roundw
            case rel => exact ⟨t + 1, by omega, by go_num, by rw [Hterm.out], by rw [Hsg.out], hbb2.trans (hb3.mono hbb2.size)⟩
            case measure => simp [intOf]; omega
    · obtain rfl : t = n + 1 := by omega
      go_wp2
      go_ret
      exact ⟨rfl, hb⟩
theorem impl_determinant_zero (g o cap : Nat) (w : World) : Calls Tryz.prog 60 #[(Value.slice (some ⟨g, o, none⟩) 0 cap)] w (Gives w (.int .i64 1)) := by
  go_enter Tryz.func60, Tryz.ntmps60
  go_wp2
  go_ret
  exact ⟨rfl, Below.refl _ _⟩
set_option maxHeartbeats 4000000 in
theorem impl_determinant_one (g o cap : Nat) (m : List (List Int)) (w : World) (hsq : Sq 1 m) (hcap : 1 ≤ cap) (hr : Rows2 w g o m) :
    Calls Tryz.prog 60 #[(Value.slice (some ⟨g, o, none⟩) 1 cap)] w (Gives w (.int .i64 (det 1 m))) := by
  obtain ⟨g0, o0, c0, p1, p2, p3, p4⟩ := hr 0 (by rw [hsq.1]; omega)
  have hr0 := hsq.2.1 0 (by omega)
  rw [hr0] at p1 p2
  rw [Nat.add_zero] at p1
  have e0 := p4 0 (by rw [hr0]; omega)
  have hee : (m.getD 0 []).getD 0 0 = ent m 0 0 := rfl
  rw [hee, Nat.add_zero] at e0
  have hbx := hsq.2.2 0 0
  have hdet : det 1 m = ent m 0 0 := by simp [det, sumTo, sgn]
  rw [hdet]
  clear hdet hee hr0 p4
  generalize ent m 0 0 = x at *
  go_enter Tryz.func60, Tryz.ntmps60
  go_wp2
  go_loopw [3, 4, 17] (fun s sg i wr => ((i = .int .i64 0 ∧ s = .int .i64 0 ∧ sg = .int .i64 1) ∨ (i = .int .i64 1 ∧ s = .int .i64 x)) ∧ Below w.heap.size w wr) (fun _ _ i _ => 1 - (intOf i).toNat)
  case atStart => exact ⟨.inl ⟨rfl, rfl, rfl⟩, Below.refl _ _⟩
  case round =>
    obtain ⟨h | h, hb⟩ := hrel
    · obtain ⟨rfl, rfl, rfl⟩ := h
      have f0 := (hb.cell (p := ⟨g0, o0, none⟩) p3).trans e0
      by_cases hx0 : x = 0
      · subst hx0
        go_wp2
        go_roundw
        case rel => exact ⟨.inr ⟨rfl, rfl⟩, hb⟩
        case measure => simp [intOf]
      · have hxb : (x != 0) = true := by simpa using hx0
        obtain ⟨wo, rfl⟩ : ∃ wo : World, wo = wr := ⟨_, rfl⟩
        by_cases hc1 : cap = 1
        · subst hc1
          go_wp2
          refine wp_loop_rounds 1 ?_
          rw [rounds_succ]
          go_wp2_with fail
          refine (impl_determinant_zero _ _ _ _).mono ?_
          rintro e w1 ⟨rfl, hb3⟩
          go_wp2_with fail
          go_roundw
          case rel =>
            refine ⟨.inr ⟨rfl, ?_⟩, ?_⟩
            · simp
            · exact (hb.alloc hb.size _).trans (hb3.mono (hb.alloc hb.size _).size)
          case measure => simp [intOf]
        · have hc2 : 1 < cap := by omega
          go_wp2
          refine wp_loop_rounds 1 ?_
          rw [rounds_succ]
          go_wp2_with fail
          refine (impl_determinant_zero _ _ _ _).mono ?_
          rintro e w1 ⟨rfl, hb3⟩
          go_wp2_with fail
          go_roundw
          case rel =>
            refine ⟨.inr ⟨rfl, ?_⟩, ?_⟩
            · simp
            · exact (hb.alloc hb.size _).trans (hb3.mono (hb.alloc hb.size _).size)
          case measure => simp [intOf]
    · obtain ⟨rfl, rfl⟩ := h
      go_wp2
      go_ret
      exact ⟨rfl, hb⟩
theorem impl_determinant_any : ∀ (n : Nat), n ≤ 4 → ∀ (g o cap : Nat) (m : List (List Int)) (w : World), Sq n m → g < w.heap.size → n ≤ cap → Rows2 w g o m → Calls Tryz.prog 60 #[(Value.slice (some ⟨g, o, none⟩) n cap)] w (Gives w (.int .i64 (det n m))) := by
  intro n
  induction n with
  | zero => intro _ g o cap m w _ _ _ _; exact impl_determinant_zero g o cap w
  | succ n ih =>
    intro hn g o cap m w hsq hg hcap hr
    cases n with
    | zero => exact impl_determinant_one g o cap m w hsq hcap hr
    | succ n => exact impl_determinant_step (n + 1) (by omega) hn (ih (by omega)) g o cap m w hsq hg hcap hr
theorem cutAt_range (row : List Int) (j k : Nat) :
    (if k ≠ j then ((List.range k).filter (· ≠ j)).map (fun t => row.getD t 0) ++ [row.getD k 0] else ((List.range k).filter (· ≠ j)).map (fun t => row.getD t 0)) = ((List.range (k + 1)).filter (· ≠ j)).map (fun t => row.getD t 0) := by
  rw [List.range_succ, List.filter_append]
  by_cases h : k = j
  · subst h; simp
  · simp [h]
theorem cutAt_all {row : List Int} {n j : Nat} (hl : row.length = n + 1) (hj : j ≤ n) : ((List.range (n + 1)).filter (· ≠ j)).map (fun t => row.getD t 0) = cutAt row j := by
  have e : List.range (n + 1) = List.range j ++ (j :: (List.range (n - j)).map (fun t => j + 1 + t)) := by
    apply List.ext_getElem
    · simp; omega
    · intro i h1 h2
      simp only [List.getElem_range]
      by_cases hi : i < j
      · rw [List.getElem_append_left (by simpa using hi)]; simp
      · rw [List.getElem_append_right (by simp; omega)]
        simp only [List.length_range]
        by_cases hij : i = j
        · subst hij; simp
        · obtain ⟨d, rfl⟩ : ∃ d, i = j + 1 + d := ⟨i - (j + 1), by omega⟩
          have : j + 1 + d - j = d + 1 := by omega
          simp [this]
  rw [e, List.filter_append, List.map_append]
  unfold cutAt
  congr 1
  · rw [List.filter_eq_self.2 (by intro a ha; have := List.mem_range.1 ha; simp; omega)]
    apply List.ext_getElem
    · simp; omega
    · intro i h1 h2
      simp at h1
      simp [List.getD]
      rw [List.getElem?_eq_getElem (by omega)]; rfl
  · rw [List.filter_cons_of_neg (by simp), List.filter_eq_self.2 (by intro a ha; obtain ⟨b, _, rfl⟩ := List.mem_map.1 ha; simp; omega)]
    apply List.ext_getElem
    · simp; omega
    · intro i h1 h2
      simp at h1
      simp [List.getD]
      rw [List.getElem?_eq_getElem (by omega)]; rfl
end Go.Proofs.YtkjglfafphffiaaGreat
