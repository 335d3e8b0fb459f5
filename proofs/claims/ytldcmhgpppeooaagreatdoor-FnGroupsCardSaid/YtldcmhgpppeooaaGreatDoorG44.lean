/- determinants of matrices with entries up to 2000: contracts. -/
import Derived.Test.YtldcmhgpppeooaaGreatDoorG08
namespace Go.Proofs.YtldcmhgpppeooaaGreatDoor
set_option maxRecDepth 100000
open Go.RowKit

def SqB (n : Nat) (m : List (List Int)) : Prop := m.length = n ∧ (∀ i, i < n → (m.getD i []).length = n) ∧ ∀ i j, -2000 ≤ ent m i j ∧ ent m i j ≤ 2000
def detM : Nat → Int
  | 0 => 1
  | n + 1 => (n + 1) * (2000 * detM n)
theorem Sq.toM {n : Nat} {m : List (List Int)} (h : Sq n m) : SqB n m := ⟨h.1, h.2.1, fun i j => by have := h.2.2 i j; omega⟩
theorem minorOf_sqM {n : Nat} {m : List (List Int)} {j : Nat} (h : SqB (n + 1) m) (hj : j < n + 1) : SqB n (minorOf m j) := by
  obtain ⟨h1, h2, h3⟩ := h
  have hg : ∀ i, (minorOf m j).getD i [] = cutAt (m.getD (i + 1) []) j := by
    intro i
    unfold minorOf
    simp only [List.getD, List.getElem?_map, List.getElem?_drop]
    rw [Nat.add_comm 1 i]
    cases m[i + 1]? with
    | none => simp [cutAt]
    | some r => simp
  refine ⟨by simp [minorOf, h1], fun i hi => ?_, fun i k => ?_⟩
  · rw [hg, cutAt_length (by rw [h2 _ (by omega)]; exact hj), h2 _ (by omega)]; omega
  · unfold ent
    rw [hg, cutAt_getD]
    split
    · exact h3 _ _
    · exact h3 _ _
theorem mul_box {x d M D : Int} (hx : -M ≤ x ∧ x ≤ M) (hd : -D ≤ d ∧ d ≤ D) : -(M * D) ≤ x * d ∧ x * d ≤ M * D := by
  have h1 := Int.mul_nonneg (show 0 ≤ M - x by omega) (show 0 ≤ D + d by omega)
  have h2 := Int.mul_nonneg (show 0 ≤ M + x by omega) (show 0 ≤ D - d by omega)
  have h3 := Int.mul_nonneg (show 0 ≤ M - x by omega) (show 0 ≤ D - d by omega)
  have h4 := Int.mul_nonneg (show 0 ≤ M + x by omega) (show 0 ≤ D + d by omega)
  simp only [Int.sub_mul, Int.add_mul, Int.mul_add, Int.mul_sub] at h1 h2 h3 h4
  omega
theorem sgn_box {x d M D : Int} (j : Nat) (hx : -M ≤ x ∧ x ≤ M) (hd : -D ≤ d ∧ d ≤ D) : -(M * D) ≤ sgn j * x * d ∧ sgn j * x * d ≤ M * D := by
  have h := mul_box hx hd
  unfold sgn
  split
  · rw [Int.one_mul]; exact h
  · rw [Int.neg_mul, Int.one_mul, Int.neg_mul]; omega
theorem det_boundM : ∀ (n : Nat) (m : List (List Int)), SqB n m → -(detM n) ≤ det n m ∧ det n m ≤ detM n := by
  intro n
  induction n with
  | zero => intro m _; simp [det, detM]
  | succ n ih =>
    intro m hm
    have := sumTo_bound _ _ (n + 1) (fun j hj => sgn_box j (hm.2.2 0 j) (ih _ (minorOf_sqM hm hj)))
    simpa [det, detM] using this
theorem detM_le {n : Nat} (h : n ≤ 3) : 0 ≤ detM n ∧ detM n ≤ 48000000000 := by
  have : n = 0 ∨ n = 1 ∨ n = 2 ∨ n = 3 := by omega
  rcases this with rfl | rfl | rfl | rfl <;> simp [detM]
theorem term_boundM {G x d : Int} (hG : G = 1 ∨ G = -1) (hx : -2000 ≤ x ∧ x ≤ 2000) (hd : -48000000000 ≤ d ∧ d ≤ 48000000000) : -96000000000000 ≤ G * x * d ∧ G * x * d ≤ 96000000000000 ∧ -2000 ≤ G * x ∧ G * x ≤ 2000 := by
  have h := mul_box hx hd
  rcases hG with rfl | rfl
  · rw [Int.one_mul]; omega
  · rw [Int.neg_mul, Int.one_mul, Int.neg_mul]; omega
theorem det_sum_boundM {n : Nat} {m : List (List Int)} (hsq : SqB (n + 1) m) (hn : n ≤ 3) {t : Nat} (ht : t ≤ n + 1) :
    -384000000000000 ≤ (sumTo t fun j => sgn j * ent m 0 j * det n (minorOf m j)) ∧ (sumTo t fun j => sgn j * ent m 0 j * det n (minorOf m j)) ≤ 384000000000000 := by
  have := sumTo_bound (fun j => sgn j * ent m 0 j * det n (minorOf m j)) 96000000000000 t (fun j hj => by
    have h1 := det_boundM n _ (minorOf_sqM hsq (j := j) (by omega))
    have h2 := detM_le hn
    have h3 := term_boundM (d := det n (minorOf m j)) (sgn_cases j) (hsq.2.2 0 j) ⟨by omega, by omega⟩
    exact ⟨h3.1, h3.2.1⟩)
  omega

attribute [local go_sem ↓] Go.wp_at_zero Go.wp_at_succ
set_option maxHeartbeats 4000000 in
theorem impl_determinantM_step (n : Nat) (hn1 : 1 ≤ n) (hn4 : n + 1 ≤ 4) (ih : ∀ (g o cap : Nat) (m : List (List Int)) (w : World), SqB n m → g < w.heap.size → n ≤ cap → Rows2 w g o m → Calls Tryz.prog 127 #[(Value.slice (some ⟨g, o, none⟩) n cap)] w (Gives w (.int .i64 (det n m))))
    (g o cap : Nat) (m : List (List Int)) (w : World) (hsq : SqB (n + 1) m) (hg : g < w.heap.size) (hcap : n + 1 ≤ cap) (hr : Rows2 w g o m) :
    Calls Tryz.prog 127 #[(Value.slice (some ⟨g, o, none⟩) (n + 1) cap)] w (Gives w (.int .i64 (det (n + 1) m))) := by
  have IH := Lib.hid ih; clear ih
  obtain ⟨g0, o0, c0, p1, p2, p3, p4⟩ := hr 0 (by rw [hsq.1]; omega)
  have hr0 := hsq.2.1 0 (by omega)
  rw [hr0] at p1 p2
  have Hr0 := Lib.hid hr0; clear hr0
  rw [Nat.add_zero] at p1
  have hcap1 : ¬ cap = 1 := by omega
  have hcap2 : 1 < cap := by omega
  have c1 : (0 : Int) < ((n + 1 : Nat) : Int) := by omega
  have hD : ((n : Int) + 1 == 0) = false := by simp; omega
  go_enter Tryz.func127, Tryz.ntmps127
  go_wp2
  go_loopw [3, 4, 17] (fun s sg i wr => ∃ t : Nat, t ≤ n + 1 ∧ i = .int .i64 t ∧ s = .int .i64 (sumTo t fun j => sgn j * ent m 0 j * det n (minorOf m j)) ∧ sg = .int .i64 (sgn t) ∧ Below w.heap.size w wr) (fun _ _ i _ => n + 1 - (intOf i).toNat)
  case atStart => exact ⟨0, Nat.zero_le _, rfl, rfl, rfl, Below.refl _ _⟩
  case round =>
    obtain ⟨t, ht, rfl, rfl, rfl, hb⟩ := hrel
    by_cases hlt : t < n + 1
    · have e0 := p4.below hb p3 t (by rw [Hr0.out]; exact hlt)
      have hee : (m.getD 0 []).getD t 0 = ent m 0 t := rfl
      rw [hee] at e0
      have hbx := hsq.2.2 0 t
      by_cases hx0 : ent m 0 t = 0
      · have hterm : (sumTo (t + 1) fun j => sgn j * ent m 0 j * det n (minorOf m j)) = sumTo t fun j => sgn j * ent m 0 j * det n (minorOf m j) := by
          simp only [sumTo]; rw [hx0]; simp
        have Hterm := Lib.hid hterm; clear hterm hee hbx
        rw [hx0] at e0
        have Hx0 := Lib.hid hx0; clear hx0
        generalize (sumTo t fun j => sgn j * ent m 0 j * det n (minorOf m j)) = S at *
        have hsg := sgn_succ t
        have Hsg := Lib.hid hsg; clear hsg
        have hGc := sgn_cases t
        generalize hG : sgn t = G at *
        have HG := Lib.hid hG; clear hG
        have hG1 : -1 ≤ G ∧ G ≤ 1 := by omega
        clear hGc
        go_wp2
        go_roundw
        case rel => exact ⟨t + 1, by omega, by go_num, by rw [Hterm.out], by rw [Hsg.out], hb⟩
        case measure => simp [intOf]; omega
      · have hxb : (ent m 0 t != 0) = true := by simpa using hx0
        generalize hxx : ent m 0 t = x at *
        have Hxx := Lib.hid hxx; clear hxx hee
        have hltI : (t : Int) < (n : Int) + 1 := by omega
        obtain ⟨wo, rfl⟩ : ∃ wo : World, wo = wr := ⟨_, rfl⟩
        go_wp2
        go_loopw [7, 28] (fun mn i wr => ∃ (k g' c' : Nat) (rs : List RowRef), k ≤ n ∧ i = .int .i64 k ∧ mn = (Value.slice (some ⟨g', 0, none⟩) k c') ∧ Hid (rs.length = k) ∧ Hid (contents rs = (minorOf m t).take k) ∧ OwnRows wr wo.heap.size g' c' rs ∧ Below wo.heap.size wo wr) (fun _ i _ => n - (intOf i).toNat)
        case atStart => exact ⟨0, wo.heap.size, 0, [], Nat.zero_le _, rfl, rfl, rfl, rfl, OwnRows.empty (Nat.le_refl _), (Below.refl _ _).alloc (Nat.le_refl _) _⟩
        case round =>
          obtain ⟨k, g', c', rs, hk, rfl, rfl, hrs, hcont, ho, hb2⟩ := hrel
          have hbb := hb.trans (hb2.mono hb.size)
          by_cases hltk : k < n
          · obtain ⟨ga, oa, ca, q1, q2, q3, q4⟩ := hr (k + 1) (by rw [hsq.1]; omega)
            have hrk := hsq.2.1 (k + 1) (by omega)
            rw [hrk] at q1 q2
            have hq1 := (hbb.cell (p := ⟨g, o + (k + 1), none⟩) hg).trans q1
            have hq1' : wr.cell? ⟨g, o + 1 + k, none⟩ = some (Value.slice (some ⟨ga, oa, none⟩) (n + 1) ca) := by rw [show o + 1 + k = o + (k + 1) by omega]; exact hq1
            have hrow := q4.below hbb q3
            clear q1 hq1
            go_wp2
            have b1 : (0 : Int) ≤ (t : Int) := by omega
            have b2 : (t : Int) ≤ (ca : Int) := by omega
            have b3 : (0 : Int) ≤ (t : Int) + 1 := by omega
            have b4 : (t : Int) + 1 ≤ ((n + 1 : Nat) : Int) := by omega
            have b5 : (t : Int) + 1 ≤ (n : Int) + 1 := by omega
            have b6 : (n : Int) + 1 ≤ (ca : Int) := by omega
            have b7 : IntKind.i64.wrap ((t : Int) + 1) = (t : Int) + 1 := IntWalk.i64_in _ (by omega)
            have HN : Hid (n + 1 ≤ 4) := hn4
            have hrl : (m.getD (k + 1) []).length = n + 1 := hrk
            generalize hR : m.getD (k + 1) [] = R at *
            have l1 : (R.take t).length = t := by simp; omega
            have l2 : (R.drop (t + 1)).length = n - t := by simp; omega
            have B0 : Below wr.heap.size wr ((wr.alloc (.cells #[] 3)).drew) := Below.drew ((Below.refl _ _).alloc (Nat.le_refl _) _)
            have F1 : ∀ w1, ((wr.alloc (.cells #[] 3)).drew).grownBy w1 (some wr.heap.size) → Below wr.heap.size wr w1 := fun w1 h => B0.grown h B0.size (by intro j hj; cases hj; exact Nat.le_refl _)
            have F2 : ∀ (w1 w2 : World) (g1 : Nat), Below wr.heap.size wr w1 → wr.heap.size ≤ g1 → w1.grownBy w2 (some g1) → Below wr.heap.size wr w2 := fun w1 w2 g1 h hg h2 => h.grown h2 h.size (by intro j hj; cases hj; exact hg)
            have hga : ga < wr.heap.size := Nat.lt_of_lt_of_le q3 hbb.size
            have FA : Hid (∀ W, Cells W ga oa R → ∃ g2 o2, (if ca = t + 1 then some (⟨ga, oa, none⟩ : Addr) else some ⟨ga, oa + (t + 1), none⟩) = some ⟨g2, o2, none⟩ ∧ Cells W g2 o2 (R.drop (t + 1))) := fun W hW => by
              by_cases hca : ca = t + 1
              · rw [if_pos hca]
                refine ⟨_, _, rfl, ?_⟩
                have : R.drop (t + 1) = [] := List.drop_eq_nil_of_le (by omega)
                rw [this]; intro j hj; simp at hj
              · rw [if_neg hca]; exact ⟨_, _, rfl, hW.drop (t + 1)⟩
            have l3 : (([] ++ R.take t) ++ R.drop (t + 1)).length = t + (n - t) := by simp; omega
            have hrv : ∀ g2 c2 : Nat, rowVal (g2, c2, ([] ++ R.take t) ++ R.drop (t + 1)) = (Value.slice (some ⟨g2, 0, none⟩) (t + (n - t)) c2) := fun g2 c2 => by unfold rowVal; rw [l3]
            have Hrv := Lib.hid hrv; have L3 := Lib.hid l3; clear hrv l3
            have F3 : Hid (∀ (w2 : World) (g2 c2 : Nat), Below wr.heap.size wr w2 → Own w2 wr.heap.size g2 c2 (([] ++ R.take t) ++ R.drop (t + 1)) → OwnRows w2 wo.heap.size g' c' rs ∧ Own w2 wo.heap.size g2 c2 (([] ++ R.take t) ++ R.drop (t + 1)) ∧ ∀ s ∈ rs, s.1 ≠ g2) := fun w2 g2 c2 hB hO =>
              ⟨ho.below hB, hO.mono hb2.size, fun s hs => by have h1 := (ho.2.1 s hs).lt; have h2 := hO.base; omega⟩
            have FB : ∀ w1, Below wr.heap.size wr w1 → Below wo.heap.size wo w1 := fun w1 h => hb2.trans (h.mono hb2.size)
            have hBg : wo.heap.size ≤ g' := ho.base
            go_region_held3 (fun W => Below wo.heap.size wo W)
              (first | exact Below.drew hb2 | exact FB _ B0 | exact (Below.drew hb2).alloc hb2.size _ | exact FB _ (F1 _ hg1) | exact FB _ (F2 _ _ _ (F1 _ hg1) ho1.base hg2) | exact (FB _ (F2 _ _ _ (F1 _ hg1) ho1.base hg2)).alloc (FB _ (F2 _ _ _ (F1 _ hg1) ho1.base hg2)).size _ | exact (FB _ (F2 _ _ _ (F1 _ hg1) ho1.base hg2)).grown hg3 (FB _ (F2 _ _ _ (F1 _ hg1) ho1.base hg2)).size (by intro j hj; cases hj; exact hBg))
              (first
                | (refine step_append_ints (by rfl) _ _ (by rfl) wr.heap.size wr.heap.size 0 0 ga oa t ca [] (R.take t) rfl l1 (by exact (Own.empty (w := wr.drew) (Nat.le_refl _))) (by exact (hrow.below B0 hga).take t) (by rfl) (by rfl) (by omega) ?_; intro g1 c1 w1 ho1 hg1 hor1)
                | (refine step_append_intsA (by rfl) _ _ (by rfl) wr.heap.size g1 c1 (0 + t) (n - t) _ _ ([] ++ R.take t) (R.drop (t + 1)) (by simp; omega) l2 (by exact ho1) (by rfl) (by rfl) (by exact FA.out _ (hrow.below (F1 _ hg1) hga)) (by omega) ?_; intro g2 c2 w2 ho2 hg2 hor2)
                | (refine step_append_row (w := w2) (by rfl) _ _ (by rfl) wo.heap.size g' c' k w2.heap.size rs (g2, c2, ([] ++ R.take t) ++ R.drop (t + 1)) _ hrs.out (by rw [Hrv.out]) (by rfl) (by exact (F3.out w2 g2 c2 (F2 _ _ _ (F1 _ hg1) ho1.base hg2) ho2).1) (by exact (F3.out w2 g2 c2 (F2 _ _ _ (F1 _ hg1) ho1.base hg2) ho2).2.1) (by exact (F3.out w2 g2 c2 (F2 _ _ _ (F1 _ hg1) ho1.base hg2) ho2).2.2) (by rfl) (by rfl) (by omega) ?_; intro g3 c3 w3 ho3 hg3 hor3))
            have hB3 : Below wo.heap.size wo w3 := (FB _ (F2 _ _ _ (F1 _ hg1) ho1.base hg2)).grown hg3 (FB _ (F2 _ _ _ (F1 _ hg1) ho1.base hg2)).size (by intro j hj; cases hj; exact hBg)
            have HB3 := Lib.hid hB3
            clear F1 F2 FB ho1 hg1 hor1 ho2 hg2 hor2 hor3 FA hB3
            generalize (if ca = t + 1 then some (⟨ga, oa, none⟩ : Addr) else some ⟨ga, oa + (t + 1), none⟩) = AA
            go_wp2
            go_roundw
            case rel =>
              refine ⟨k + 1, g3, c3, rs ++ [(g2, c2, ([] ++ R.take t) ++ R.drop (t + 1))], by omega, by go_num, rfl, by show _ = _; rw [List.length_append, hrs.out]; rfl, ?_, ho3, HB3.out⟩
              show _ = _
              rw [contents_push, hcont.out, minor_take (by rw [hsq.1]; omega), hR]
              rfl
            case measure => simp [intOf]; omega
          · obtain rfl : n = k := by omega
            have hcc := hcont.out
            rw [List.take_of_length_le (by rw [minorOf_length, hsq.1]; omega)] at hcc
            have hdc := IH.out g' 0 c' (minorOf m t) wr (minorOf_sqM hsq hlt) ho.lt (by have := ho.capLe; rw [hrs.out] at this; exact this) (by rw [← hcc]; exact ho.rows2)
            have hterm : (sumTo (t + 1) fun j => sgn j * ent m 0 j * det n (minorOf m j)) = (sumTo t fun j => sgn j * ent m 0 j * det n (minorOf m j)) + sgn t * x * det n (minorOf m t) := by
              simp only [sumTo]; rw [Hxx.out]
            have hS := det_sum_boundM hsq (by omega) (t := t) (by omega)
            have hdb := det_boundM n _ (minorOf_sqM hsq hlt)
            have hDB := detM_le (n := n) (by omega)
            have htb := term_boundM (sgn_cases t) hbx (d := det n (minorOf m t)) ⟨by omega, by omega⟩
            have hsg := sgn_succ t
            have hGc := sgn_cases t
            have Hdc := Lib.hid hdc; clear hdc
            have Hterm := Lib.hid hterm; have Hsg := Lib.hid hsg; clear hterm hsg hcc
            generalize (sumTo t fun j => sgn j * ent m 0 j * det n (minorOf m j)) = S at *
            generalize det n (minorOf m t) = d at *
            generalize sgn t = G at *
            have hG1 : -1 ≤ G ∧ G ≤ 1 := by omega
            have e1 : IntKind.i64.wrap (G * x) = G * x := IntWalk.i64_in _ (by omega)
            have e2 : IntKind.i64.wrap (G * x * d) = G * x * d := IntWalk.i64_in _ (by omega)
            have e3 : IntKind.i64.wrap (S + G * x * d) = S + G * x * d := IntWalk.i64_in _ (by omega)
            have hbb2 := hb.trans (hb2.mono hb.size)
            clear hGc hdb hDB htb hS
            go_wp2_with fail
            refine Hdc.out.mono ?_
            rintro e w1 ⟨rfl, hb3⟩
            go_wp2_with fail
            go_roundw
            case rel => exact ⟨t + 1, by omega, by go_num, by rw [Hterm.out], by rw [Hsg.out], hbb2.trans (hb3.mono hbb2.size)⟩
            case measure => simp [intOf]; omega
    · obtain rfl : t = n + 1 := by omega
      go_wp2
      go_ret
      exact ⟨rfl, hb⟩

set_option maxHeartbeats 4000000 in
theorem impl_determinantM_one (g o cap : Nat) (m : List (List Int)) (w : World) (hsq : SqB 1 m) (hcap : 1 ≤ cap) (hr : Rows2 w g o m) :
    Calls Tryz.prog 127 #[(Value.slice (some ⟨g, o, none⟩) 1 cap)] w (Gives w (.int .i64 (det 1 m))) := by
  obtain ⟨g0, o0, c0, p1, p2, p3, p4⟩ := hr 0 (by rw [hsq.1]; omega)
  have hr0 := hsq.2.1 0 (by omega)
  rw [hr0] at p1 p2
  rw [Nat.add_zero] at p1
  have e0 := p4 0 (by rw [hr0]; omega)
  have hee : (m.getD 0 []).getD 0 0 = ent m 0 0 := rfl
  rw [hee, Nat.add_zero] at e0
  have hbx := hsq.2.2 0 0
  have hdet : det 1 m = ent m 0 0 := by simp [det, sumTo, sgn]
  rw [hdet]
  clear hdet hee hr0 p4
  generalize ent m 0 0 = x at *
  go_enter Tryz.func127, Tryz.ntmps127
  go_wp2
  go_loopw [3, 4, 17] (fun s sg i wr => ((i = .int .i64 0 ∧ s = .int .i64 0 ∧ sg = .int .i64 1) ∨ (i = .int .i64 1 ∧ s = .int .i64 x)) ∧ Below w.heap.size w wr) (fun _ _ i _ => 1 - (intOf i).toNat)
  case atStart => exact ⟨.inl ⟨rfl, rfl, rfl⟩, Below.refl _ _⟩
  case round =>
    obtain ⟨h | h, hb⟩ := hrel
    · obtain ⟨rfl, rfl, rfl⟩ := h
      have f0 := (hb.cell (p := ⟨g0, o0, none⟩) p3).trans e0
      by_cases hx0 : x = 0
      · subst hx0
        go_wp2
        go_roundw
        case rel => exact ⟨.inr ⟨rfl, rfl⟩, hb⟩
        case measure => simp [intOf]
      · have hxb : (x != 0) = true := by simpa using hx0
        obtain ⟨wo, rfl⟩ : ∃ wo : World, wo = wr := ⟨_, rfl⟩
        by_cases hc1 : cap = 1
        · subst hc1
          go_wp2
          refine wp_loop_rounds 1 ?_
          rw [rounds_succ]
          go_wp2_with fail
          refine (impl_determinant_zero _ _ _ _).mono ?_
          rintro e w1 ⟨rfl, hb3⟩
          go_wp2_with fail
          go_roundw
          case rel =>
            refine ⟨.inr ⟨rfl, ?_⟩, ?_⟩
            · simp
            · exact (hb.alloc hb.size _).trans (hb3.mono (hb.alloc hb.size _).size)
          case measure => simp [intOf]
        · have hc2 : 1 < cap := by omega
          go_wp2
          refine wp_loop_rounds 1 ?_
          rw [rounds_succ]
          go_wp2_with fail
          refine (impl_determinant_zero _ _ _ _).mono ?_
          rintro e w1 ⟨rfl, hb3⟩
          go_wp2_with fail
          go_roundw
          case rel =>
            refine ⟨.inr ⟨rfl, ?_⟩, ?_⟩
            · simp
            · exact (hb.alloc hb.size _).trans (hb3.mono (hb.alloc hb.size _).size)
          case measure => simp [intOf]
    · obtain ⟨rfl, rfl⟩ := h
      go_wp2
      go_ret
      exact ⟨rfl, hb⟩

theorem impl_determinantM_any : ∀ (n : Nat), n ≤ 4 → ∀ (g o cap : Nat) (m : List (List Int)) (w : World), SqB n m → g < w.heap.size → n ≤ cap → Rows2 w g o m → Calls Tryz.prog 127 #[(Value.slice (some ⟨g, o, none⟩) n cap)] w (Gives w (.int .i64 (det n m))) := by
  intro n
  induction n with
  | zero => intro _ g o cap m w _ _ _ _; exact impl_determinant_zero g o cap w
  | succ n ih =>
    intro hn g o cap m w hsq hg hcap hr
    cases n with
    | zero => exact impl_determinantM_one g o cap m w hsq hcap hr
    | succ n => exact impl_determinantM_step (n + 1) (by omega) hn (ih (by omega)) g o cap m w hsq hg hcap hr

set_option maxHeartbeats 2000000 in
theorem spec_l4WithoutM_any (n g o cap j : Nat) (m : List (List Int)) (w : World) (hn4 : n + 1 ≤ 4) (hsq : SqB (n + 1) m) (hj : j ≤ n) (hg : g < w.heap.size) (hr : Rows2 w g o m) :
    Calls Tryz.prog 193 #[(Value.slice (some ⟨g, o, none⟩) (n + 1) cap), .int .i64 j] w (GotRows w (minorOf m j)) := by
  go_enter Tryz.func193, Tryz.ntmps193
  go_wp2
  go_loopw [5, 6, 7, 8] (fun x i _ _ wr => ∃ (t g' c' : Nat) (rs : List RowRef), t ≤ n ∧ i = .int .i64 ((t : Int) + 1) ∧ x = (Value.slice (some ⟨g', 0, none⟩) t c') ∧ Hid (rs.length = t) ∧ Hid (contents rs = (minorOf m j).take t) ∧ OwnRows wr w.heap.size g' c' rs ∧ Below w.heap.size w wr) (fun _ i _ _ _ => n + 1 - (intOf i).toNat)
  case atStart => exact ⟨0, w.heap.size, 0, [], Nat.zero_le _, rfl, rfl, rfl, rfl, OwnRows.empty (Nat.le_refl _), (Below.refl _ _).alloc (Nat.le_refl _) _⟩
  case round =>
    obtain ⟨t, g', c', rs, ht, rfl, rfl, hrs, hcont, ho, hb⟩ := hrel
    by_cases hlt : t < n
    · have hltI : (t : Int) + 1 < (n : Int) + 1 := by omega
      obtain ⟨ga, oa, ca, q1, q2, q3, q4⟩ := hr (t + 1) (by rw [hsq.1]; omega)
      have hrk := hsq.2.1 (t + 1) (by omega)
      rw [hrk] at q1 q2
      generalize hR : m.getD (t + 1) [] = R at *
      have HR := Lib.hid hR; clear hR
      obtain ⟨wo, rfl⟩ : ∃ wo : World, wo = wr := ⟨_, rfl⟩
      go_wp2
      go_loopw [7, 8] (fun x i wr => ∃ k gr cr n' : Nat, k ≤ n + 1 ∧ i = .int .i64 k ∧ x = (Value.slice (some ⟨gr, 0, none⟩) n' cr) ∧ Hid ((cutTo R j k).length = n') ∧ Own wr wo.heap.size gr cr (cutTo R j k) ∧ Below wo.heap.size wo wr) (fun _ i _ => n + 1 - (intOf i).toNat)
      case atStart => exact ⟨0, wo.heap.size, 0, 0, Nat.zero_le _, rfl, rfl, rfl, Own.empty (w := wo) (Nat.le_refl _), (Below.refl _ _).alloc (Nat.le_refl _) _⟩
      case round =>
        obtain ⟨k, gr, cr, n', hk, rfl, rfl, hn', hor, hb2⟩ := hrel
        have hbb : Below w.heap.size w wr := hb.trans (hb2.mono hb.size)
        have hle := cutTo_le R j k
        rw [hn'.out] at hle
        by_cases hltk : k < n + 1
        · have hltkI : (k : Int) < (n : Int) + 1 := by omega
          by_cases hkj : k = j
          · subst hkj
            have hc := cutTo_eq (row := R) (j := k) (k := k) rfl
            have Hc := Lib.hid hc; clear hc
            go_wp2
            go_roundw
            case rel => exact ⟨k + 1, gr, cr, n', by omega, by go_num, rfl, by show _ = _; rw [Hc.out]; exact hn'.out, by rw [Hc.out]; exact hor, hb2⟩
            case measure => simp [intOf]; omega
          · have hne : ((k : Int) != (j : Int)) = true := by simp; omega
            have hc := cutTo_ne (row := R) hkj
            have e1 := (hbb.cell (p := ⟨g, o + (t + 1), none⟩) hg).trans q1
            have e2 := q4.below hbb q3 k (by rw [hrk]; exact hltk)
            have Hc := Lib.hid hc; clear hc
            generalize hz : R.getD k 0 = z at *
            have Hz := Lib.hid hz; clear hz
            go_wp2_with (at_builtin; refine wpList_append_int_n rfl _ _ rfl wo.heap.size gr cr n' (cutTo R j k) z hn'.out hor rfl rfl (by omega) ?_)
            intro g3 c3 w3 ho3 hg3 _
            go_wp2
            go_roundw
            case rel =>
              refine ⟨k + 1, g3, c3, n' + 1, by omega, by go_num, rfl, ?_, ?_, hb2.grown hg3 hb2.size (by intro j hj; cases hj; exact hor.base)⟩
              · show _ = _
                rw [Hc.out, List.length_append, hn'.out]; rfl
              · rw [Hc.out]; exact ho3
            case measure => simp [intOf]; omega
        · obtain rfl : k = n + 1 := by omega
          have hcut : cutTo R j (n + 1) = cutAt R j := cutAt_all hrk hj
          rw [hcut] at hn' hor
          have ho2 := ho.below hb2
          have hne : ∀ r ∈ rs, r.1 ≠ gr := fun r hr => by have h1 := (ho.2.1 r hr).lt; have h2 := hor.base; omega
          have hor2 := hor.mono hb.size
          have hrow : rowVal (gr, cr, cutAt R j) = (Value.slice (some ⟨gr, 0, none⟩) n' cr) := by unfold rowVal; rw [hn'.out]
          go_wp2_with (at_builtin; refine wpList_append_row rfl _ _ rfl w.heap.size g' c' t wr.heap.size rs (gr, cr, cutAt R j) _ hrs.out (by rw [hrow]) rfl ho2 hor2 hne rfl rfl (by omega) ?_)
          intro g4 c4 w4 ho4 hg4 _
          go_wp2
          go_roundw
          case rel =>
            refine ⟨t + 1, g4, c4, rs ++ [(gr, cr, cutAt R j)], by omega, by go_num, rfl, by show _ = _; rw [List.length_append, hrs.out]; rfl, ?_, ho4, hbb.grown hg4 hbb.size (by intro j hj; cases hj; exact ho.base)⟩
            show _ = _
            rw [contents_push, hcont.out, minor_take (by rw [hsq.1]; omega), HR.out]
          case measure => simp [intOf]; omega
    · obtain rfl : n = t := by omega
      have hcc := hcont.out
      rw [List.take_of_length_le (by rw [minorOf_length, hsq.1]; omega)] at hcc
      have hml : (minorOf m j).length = n := by rw [minorOf_length, hsq.1]; rfl
      have Hcc := Lib.hid hcc; have Hml := Lib.hid hml
      clear hcc hml
      go_wp2
      go_ret
      exact ⟨g', c', rs, by rw [Hml.out]; rfl, Hcc.out, ho, hb⟩

set_option maxHeartbeats 4000000 in
theorem spec_l4DetM_step (n : Nat) (hn4 : n + 1 ≤ 4) (ih : ∀ (g o cap : Nat) (m : List (List Int)) (w : World), SqB n m → g < w.heap.size → Rows2 w g o m → Calls Tryz.prog 161 #[(Value.slice (some ⟨g, o, none⟩) n cap)] w (Gives w (.int .i64 (det n m))))
    (g o cap : Nat) (m : List (List Int)) (w : World) (hsq : SqB (n + 1) m) (hg : g < w.heap.size) (hr : Rows2 w g o m) :
    Calls Tryz.prog 161 #[(Value.slice (some ⟨g, o, none⟩) (n + 1) cap)] w (Gives w (.int .i64 (det (n + 1) m))) := by
  have IH := Lib.hid ih; clear ih
  obtain ⟨g0, o0, c0, p1, p2, p3, p4⟩ := hr 0 (by rw [hsq.1]; omega)
  have hr0 := hsq.2.1 0 (by omega)
  rw [hr0] at p1 p2
  have Hr0 := Lib.hid hr0; clear hr0
  rw [Nat.add_zero] at p1
  have hD : ((n : Int) + 1 == 0) = false := by simp; omega
  go_enter Tryz.func161, Tryz.ntmps161
  go_wp2
  go_loopw [3, 4, 5] (fun s i _ wr => ∃ t : Nat, t ≤ n + 1 ∧ i = .int .i64 t ∧ s = .int .i64 (sumTo t fun j => sgn j * ent m 0 j * det n (minorOf m j)) ∧ Below w.heap.size w wr) (fun _ i _ _ => n + 1 - (intOf i).toNat)
  case atStart => exact ⟨0, Nat.zero_le _, rfl, rfl, Below.refl _ _⟩
  case round =>
    obtain ⟨t, ht, rfl, rfl, hb⟩ := hrel
    by_cases hlt : t < n + 1
    · have hltI : (t : Int) < (n : Int) + 1 := by omega
      have e0 := p4.below hb p3 t (by rw [Hr0.out]; exact hlt)
      have f1 := (hb.cell (p := ⟨g, o, none⟩) hg).trans p1
      have hee : (m.getD 0 []).getD t 0 = ent m 0 t := rfl
      rw [hee] at e0
      have hbx := hsq.2.2 0 t
      have hterm : (sumTo (t + 1) fun j => sgn j * ent m 0 j * det n (minorOf m j)) = (sumTo t fun j => sgn j * ent m 0 j * det n (minorOf m j)) + sgn t * ent m 0 t * det n (minorOf m t) := by
        simp only [sumTo]
      have hS := det_sum_boundM hsq (by omega) (t := t) (by omega)
      have hdb := det_boundM n _ (minorOf_sqM hsq hlt)
      have hDB := detM_le (n := n) (by omega)
      have htb := term_boundM (sgn_cases t) hbx (d := det n (minorOf m t)) ⟨by omega, by omega⟩
      have htb1 := term_boundM (G := 1) (.inl rfl) hbx (d := det n (minorOf m t)) ⟨by omega, by omega⟩
      have kW : Hid (∀ W, Below w.heap.size w W → Calls Tryz.prog 193 #[(Value.slice (some ⟨g, o, none⟩) (n + 1) cap), .int .i64 t] W (GotRows W (minorOf m t))) := fun W hW => spec_l4WithoutM_any n g o cap t m W hn4 hsq (by omega) (Nat.lt_of_lt_of_le hg hW.size) (hr.below hW hg)
      have hml : (minorOf m t).length = n := by rw [minorOf_length, hsq.1]; rfl
      have kD : Hid (∀ W g1 c1 B rs, contents rs = minorOf m t → OwnRows W B g1 c1 rs → Calls Tryz.prog 161 #[(Value.slice (some ⟨g1, 0, none⟩) n c1)] W (Gives W (.int .i64 (det n (minorOf m t))))) := fun W g1 c1 B rs hc hO => IH.out g1 0 c1 _ W (minorOf_sqM hsq hlt) hO.lt (by rw [← hc]; exact hO.rows2)
      have Hml := Lib.hid hml; clear hml hee
      have hGc : sgn t = if t % 2 = 0 then 1 else -1 := rfl
      have Hterm := Lib.hid hterm; clear hterm
      generalize (sumTo t fun j => sgn j * ent m 0 j * det n (minorOf m j)) = S at *
      generalize hdd : det n (minorOf m t) = d at *
      have Hdd := Lib.hid hdd; clear hdd
      generalize ent m 0 t = x at *
      generalize sgn t = G at *
      have hB : Below w.heap.size w wr.drew := Below.drew hb
      have u1 : wr.drew.cell? ⟨g, o, none⟩ = some (Value.slice (some ⟨g0, o0, none⟩) (n + 1) c0) := f1
      have u2 : wr.drew.cell? ⟨g0, o0 + t, none⟩ = some (.int .i64 x) := e0
      have e1 : IntKind.i64.wrap (x * d) = x * d := IntWalk.i64_in _ (by simp at htb1; omega)
      clear hdb hDB
      have htI : (0 : Int) ≤ (t : Int) := by omega
      go_wp2_with fail
      go_region_held3 (fun W => Below w.heap.size w W ∧ W.cell? ⟨g, o, none⟩ = some (Value.slice (some ⟨g0, o0, none⟩) (n + 1) c0) ∧ W.cell? ⟨g0, o0 + t, none⟩ = some (.int .i64 x))
        (first | exact ⟨hB, u1, u2⟩ | exact ⟨hB.trans (hbA.mono hB.size), keepCell hbA u1, keepCell hbA u2⟩ | (have v0 := hB.trans (hbA.mono hB.size); exact ⟨v0.trans (hbD.mono v0.size), keepCell hbD (keepCell hbA u1), keepCell hbD (keepCell hbA u2)⟩))
        (first
          | (go_at_call 193; refine (kW.out _ hB).mono ?_; rintro e wA ⟨gA, cA, rsA, rfl, hcA, hoA, hbA⟩; rw [Hml.out])
          | (go_at_call 161; refine (kD.out _ gA cA _ rsA hcA hoA).mono ?_; rintro e wD ⟨rfl, hbD⟩))
      have hBD : Below w.heap.size w wD := (hB.trans (hbA.mono hB.size)).trans (hbD.mono (hB.trans (hbA.mono hB.size)).size)
      clear hbA hbD hoA hB u1 u2 kW kD f1 e0
      have er : Int.tmod (t : Int) 2 = ((t % 2 : Nat) : Int) := by rw [Int.tmod_eq_emod_of_nonneg (by omega)]; simp
      have er2 : (t : Int) % 2 = ((t % 2 : Nat) : Int) := by omega
      generalize hp : x * d = p at *
      have Hp := Lib.hid hp; clear hp
      have hpb : -96000000000000 ≤ p ∧ p ≤ 96000000000000 := by have := Hp.out; simp at htb1; omega
      by_cases hpar : t % 2 = 0
      · rw [if_pos hpar] at hGc
        subst hGc
        have hrem2 : ((t : Int) % 2 == 1) = false := by rw [er2, hpar]; rfl
        have hrem : (Int.tmod (t : Int) 2 == 1) = false := by rw [er, hpar]; rfl
        have e2 : IntKind.i64.wrap (S + p) = S + p := IntWalk.i64_in _ (by omega)
        clear hpar htb htb1 er er2
        go_wp2_with fail
        go_roundw
        case rel => exact ⟨t + 1, by omega, by go_num, by rw [Hterm.out, ← Hp.out]; simp, hBD⟩
        case measure => simp [intOf]; omega
      · rw [if_neg hpar] at hGc
        subst hGc
        have hrem : (Int.tmod (t : Int) 2 == 1) = true := by rw [er, show t % 2 = 1 by omega]; rfl
        have e3 : IntKind.i64.wrap (-p) = -p := IntWalk.i64_in _ (by omega)
        have e2 : IntKind.i64.wrap (S + -p) = S + -p := IntWalk.i64_in _ (by omega)
        have hrem2 : ((t : Int) % 2 == 1) = true := by rw [er2, show t % 2 = 1 by omega]; rfl
        clear hpar htb htb1 er er2
        go_wp2_with fail
        go_roundw
        case rel => exact ⟨t + 1, by omega, by go_num, by rw [Hterm.out, ← Hp.out, Int.neg_mul, Int.neg_mul, Int.one_mul], hBD⟩
        case measure => simp [intOf]; omega
    · obtain rfl : t = n + 1 := by omega
      go_wp2
      go_ret
      exact ⟨rfl, hb⟩

theorem spec_l4DetM_any : ∀ (n : Nat), n ≤ 4 → ∀ (g o cap : Nat) (m : List (List Int)) (w : World), SqB n m → g < w.heap.size → Rows2 w g o m → Calls Tryz.prog 161 #[(Value.slice (some ⟨g, o, none⟩) n cap)] w (Gives w (.int .i64 (det n m))) := by
  intro n
  induction n with
  | zero =>
    intro _ g o cap m w _ _ _
    go_enter Tryz.func161, Tryz.ntmps161
    go_wp2
    go_ret
    exact ⟨rfl, Below.refl _ _⟩
  | succ n ih =>
    intro hn g o cap m w hsq hg hr
    exact spec_l4DetM_step n hn (ih (by omega)) g o cap m w hsq hg hr
end Go.Proofs.YtldcmhgpppeooaaGreatDoor
