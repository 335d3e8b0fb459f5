/- IsSymmetric: contracts. -/
import Derived.Test.YtplglmimjhhilaaRefl
namespace Go.Proofs.Ytplglmimjhhilaa
open Go.RowKit

def rowSym (c : List (List Int)) (l : List Wt) (j k : Nat) : Prop := ∀ i, i < k → countIn l (reflW c (i : Int) (wOf l j)) = ctOf l j
def symAll (c : List (List Int)) (l : List Wt) : Prop := IsC c ∧ ∀ j, j < l.length → rowSym c l j c.length
instance (c : List (List Int)) (l : List Wt) (j k : Nat) : Decidable (rowSym c l j k) := by unfold rowSym; infer_instance
instance (c : List (List Int)) (l : List Wt) : Decidable (symAll c l) := by unfold symAll; infer_instance
def symB (c : List (List Int)) (l : List Wt) : Bool := decide (symAll c l)
theorem symB_true {c : List (List Int)} {l : List Wt} (h : symAll c l) : symB c l = true := decide_eq_true h
theorem symB_false {c : List (List Int)} {l : List Wt} (h : ¬ symAll c l) : symB c l = false := decide_eq_false h
theorem keepCell {W W' : World} {b o : Nat} {v : Value} (hb : Below W.heap.size W W') (h : W.cell? ⟨b, o, none⟩ = some v) : W'.cell? ⟨b, o, none⟩ = some v :=
  (hb.cell (p := ⟨b, o, none⟩) (World.block_lt_of_cell? W _ h)).trans h

attribute [local go_sem ↓] Go.wp_at_zero Go.wp_at_succ
set_option maxHeartbeats 4000000 in
theorem impl_IsSymmetric_any (gc oc n cc g o m cp : Nat) (c : List (List Int)) (l : List Wt) (w : World) (hn : c.length = n) (hm : l.length = m) (hx : c.length ≤ 1048576) (hf : wFew l)
    (hrl : ∀ j, j < c.length → (c.getD j []).length ≤ 1048576) (hgc : gc < w.heap.size) (hg : g < w.heap.size) (hr : Rows2 w gc oc c) (hl : WRows w g o l) :
    Calls Try.prog 12 #[(Value.slice (some ⟨gc, oc, none⟩) n cc), (Value.slice (some ⟨g, o, none⟩) m cp)] w (Gives w (.bool (symB c l))) := by
  subst hn; subst hm
  have hfl := hf.1
  go_enter Try.func12, Try.ntmps12
  go_wp2_with fail
  refine (impl_IsCartan gc oc _ cc c w rfl (by omega) (fun j hj => by have := hrl j hj; omega) hr).mono ?_
  rintro e w1 ⟨rfl, m1, rfl⟩
  by_cases hC : IsC c
  · have hC' : decide (IsC c) = true := decide_eq_true hC
    rw [hC']
    go_wp2_with fail
    go_loopw [6, 7, 13, 19] (fun _ _ i _ wr => ∃ j : Nat, j ≤ l.length ∧ i = .int .i64 j ∧ Hid (∀ t, t < j → rowSym c l t c.length) ∧ Below w.heap.size w wr) (fun _ _ i _ _ => l.length - (intOf i).toNat)
    case atStart => exact ⟨0, Nat.zero_le _, rfl, fun t ht => absurd ht (by omega), below_drewN' w m1⟩
    case round =>
      obtain ⟨j, hj, rfl, hall, hb⟩ := hrel
      by_cases hlt : j < l.length
      · obtain ⟨gj, oj, cj, q1, q2, q3, q4, q5⟩ := hl j hlt
        have hw := hf.2 j hlt
        have p1 := (hb.cell (p := ⟨g, o + j * 2, none⟩) hg).trans q1
        have p2 := (hb.cell (p := ⟨g, o + j * 2 + 1, none⟩) hg).trans q2
        have hrow : rowSym c l j = fun (k : Nat) => ∀ i : Nat, i < k → countIn l (reflW c (i : Int) (wOf l j)) = ctOf l j := rfl
        obtain ⟨V, hV⟩ : ∃ V, wOf l j = V := ⟨_, rfl⟩
        obtain ⟨C, hCt⟩ : ∃ C, ctOf l j = C := ⟨_, rfl⟩
        rw [hV] at hw p1 q3 q5 hrow
        rw [hCt] at p2 hrow
        clear q1 q2
        have Hrow := Lib.hid hrow; have HV := Lib.hid hV; have HCt := Lib.hid hCt
        clear hrow hV hCt
        have Hf := Lib.hid hf; have Hrl := Lib.hid hrl; have Hr := Lib.hid hr; have Hl := Lib.hid hl
        have hcallR : Hid (∀ (i : Nat) W, Below w.heap.size w W → Calls Try.prog 36 #[(Value.slice (some ⟨gc, oc, none⟩) c.length cc), .int .i64 i, (Value.slice (some ⟨gj, oj, none⟩) V.length cj)] W (GotInts W (reflW c (i : Int) V))) := fun i W hW =>
          impl_ReflectWeight_any gc oc _ cc gj oj _ cj (i : Int) c V W rfl rfl hx hw Hrl.out (Nat.lt_of_lt_of_le hgc hW.size) (Nat.lt_of_lt_of_le q4 hW.size) (Hr.out.below hW hgc) (q5.below hW q4)
        have hcallC : Hid (∀ (i : Nat) W g1 c1, Below w.heap.size w W → (∃ B, Own W B g1 c1 (reflW c (i : Int) V)) → Calls Try.prog 35 #[(Value.slice (some ⟨g, o, none⟩) l.length cp), (Value.slice (some ⟨g1, 0, none⟩) ((reflW c (i : Int) V).length) c1)] W (Gives W (.int .i64 (countIn l (reflW c (i : Int) V))))) := fun i W g1 c1 hW ⟨B, hO⟩ =>
          impl_CountIn_any g o _ cp g1 0 _ c1 l _ W rfl rfl Hf.out (by rw [reflW_length]; exact hw) (Nat.lt_of_lt_of_le hg hW.size) hO.lt (Hl.out.below hW hg) hO.cells
        clear hf hrl hr hl
        obtain ⟨wo, rfl⟩ : ∃ wo : World, wo = wr := ⟨_, rfl⟩
        go_wp2_with fail
        go_loopw [7, 19] (fun _ i wr => ∃ k : Nat, k ≤ c.length ∧ i = .int .i64 k ∧ Hid (rowSym c l j k) ∧ Below w.heap.size w wr ∧ wr.cell? ⟨wo.heap.size, 0, none⟩ = some (Value.slice (some ⟨gj, oj, none⟩) V.length cj) ∧ wr.cell? ⟨wo.heap.size, 1, none⟩ = some (.int .i64 C) ∧ wo.heap.size < wr.heap.size) (fun _ i _ => c.length - (intOf i).toNat)
        case atStart => exact ⟨0, Nat.zero_le _, rfl, fun t ht => absurd ht (by omega), (by repeat (first | with_reducible exact Below.refl _ _ | with_reducible assumption | with_reducible refine below_drewN ?_ _ | with_reducible refine Below.drew ?_ | (with_reducible refine Below.alloc ?_ ?_ _; rotate_left; · first | (simp; done) | (simp; omega) | exact Below.size (by assumption) | (have hsz := Below.size (by assumption : Below _ _ _); simp at hsz ⊢; omega)) | (with_reducible refine Below.setCell ?_ ?_ _; rotate_left; · first | (simp; done) | (simp; omega)))), by simp, by simp, by simp⟩
        case round =>
          obtain ⟨k, hk, rfl, hrk, hb2, e1, e2, hbx⟩ := hrel
          by_cases hltk : k < c.length
          · go_wp2_with fail
            have hB : Below w.heap.size w wr.drew := Below.drew hb2
            have u1 : wr.drew.cell? ⟨wo.heap.size, 0, none⟩ = some (Value.slice (some ⟨gj, oj, none⟩) V.length cj) := e1
            have u2 : wr.drew.cell? ⟨wo.heap.size, 1, none⟩ = some (.int .i64 C) := e2
            go_region_held3 (fun W => Below w.heap.size w W ∧ W.cell? ⟨wo.heap.size, 0, none⟩ = some (Value.slice (some ⟨gj, oj, none⟩) V.length cj) ∧ W.cell? ⟨wo.heap.size, 1, none⟩ = some (.int .i64 C))
              (first | exact ⟨hB, u1, u2⟩ | exact ⟨hB.trans (hbA.mono hB.size), keepCell hbA u1, keepCell hbA u2⟩ | exact ⟨(hB.trans (hbA.mono hB.size)).trans (hbB.mono (hB.trans (hbA.mono hB.size)).size), keepCell hbB (keepCell hbA u1), keepCell hbB (keepCell hbA u2)⟩)
              (first
                | (go_at_call 36; refine (hcallR.out k _ hB).mono ?_; rintro e wA ⟨gA, cA, rfl, hoA, hbA⟩)
                | (go_at_call 35; refine (hcallC.out k _ gA cA (hB.trans (hbA.mono hB.size)) ⟨_, hoA⟩).mono ?_; rintro e wB ⟨rfl, hbB⟩))
            have hBB : Below w.heap.size w wB := (hB.trans (hbA.mono hB.size)).trans (hbB.mono (hB.trans (hbA.mono hB.size)).size)
            have e1' := keepCell hbB (keepCell hbA u1)
            have e2' := keepCell hbB (keepCell hbA u2)
            have hsB : wo.heap.size < wB.heap.size := World.block_lt_of_cell? wB _ e1'
            clear hcallR hcallC hbA hbB hoA hB u1 u2 e1 e2
            generalize hQ : countIn l (reflW c (k : Int) V) = Q
            by_cases hq : Q = C
            · have hqb : (Q != C) = false := by simp [hq]
              have Hq := Lib.hid (hQ.trans hq); clear hq hQ
              go_wp2
              go_roundw
              case rel =>
                refine ⟨k + 1, by omega, by go_num, ?_, hBB, e1', e2', hsB⟩
                show rowSym c l j (k + 1)
                have h1 := hrk.out
                rw [Hrow.out] at h1 ⊢
                intro i hi
                by_cases e : i = k
                · subst e; exact Hq.out
                · have := h1 i (by omega); exact this
              case measure => simp [intOf]; omega
            · have hqb : (Q != C) = true := by simp [hq]
              have hno : ¬ symAll c l := fun h => hq (by
                have h1 := h.2 j hlt k hltk
                rw [HV.out, HCt.out, hQ] at h1
                exact h1)
              have hS := symB_false hno
              clear hno hq hQ
              go_wp2
              go_ret
              refine ⟨?_, hBB⟩
              rw [hS]; rfl
          · obtain rfl : k = c.length := by omega
            go_wp2
            go_roundw
            case rel =>
              refine ⟨j + 1, by omega, by go_num, ?_, hb2⟩
              show ∀ t, t < j + 1 → rowSym c l t c.length
              intro t ht
              by_cases e : t = j
              · subst e; exact hrk.out
              · exact hall.out t (by omega)
            case measure => simp [intOf]; omega
      · obtain rfl : j = l.length := by omega
        have hS := symB_true ⟨hC, hall.out⟩
        go_wp2
        go_ret
        refine ⟨?_, hb⟩
        rw [hS]; rfl
  · have hC' : decide (IsC c) = false := decide_eq_false hC
    have hS : symB c l = false := symB_false (fun h => hC h.1)
    rw [hC']
    clear hC
    go_wp2_with fail
    go_ret
    refine ⟨?_, below_drewN' w m1⟩
    rw [hS]; rfl


def symTo (c : List (List Int)) (l : List Wt) (i : Nat) : Prop := ∀ j, j < l.length → rowSym c l j i
theorem symTo_step {c : List (List Int)} {l : List Wt} {i : Nat} (h : symTo c l i) (h2 : ∀ j, j < l.length → countIn l (reflW c (i : Int) (wOf l j)) = ctOf l j) : symTo c l (i + 1) := by
  intro j hj t ht
  by_cases e : t = i
  · subst e; exact h2 j hj
  · exact h j hj t (by omega)

set_option maxHeartbeats 4000000 in
theorem spec_IsSymmetric_any (gc oc n cc g o m cp : Nat) (c : List (List Int)) (l : List Wt) (w : World) (hn : c.length = n) (hm : l.length = m) (hx : c.length ≤ 1048576) (hf : wFew l)
    (hrl : ∀ j, j < c.length → (c.getD j []).length ≤ 1048576) (hgc : gc < w.heap.size) (hg : g < w.heap.size) (hr : Rows2 w gc oc c) (hl : WRows w g o l) :
    Calls Try.prog 9 #[(Value.slice (some ⟨gc, oc, none⟩) n cc), (Value.slice (some ⟨g, o, none⟩) m cp)] w (Gives w (.bool (symB c l))) := by
  subst hn; subst hm
  have hfl := hf.1
  have hcart : Hid (∀ W, Below w.heap.size w W → Calls Try.prog 30 #[(Value.slice (some ⟨gc, oc, none⟩) c.length cc)] W (Reads W (.bool (decide (IsC c))))) := fun W hW =>
    spec_IsCartan gc oc _ cc c W rfl (by omega) (fun j hj => by have := hrl j hj; omega) (hr.below hW hgc)
  have Hf := Lib.hid hf; have Hrl := Lib.hid hrl; have Hr := Lib.hid hr
  clear hf hrl hr
  go_enter Try.func9, Try.ntmps9
  go_wp2_with fail
  go_loopw [5, 6] (fun i _ wr => ∃ t : Nat, t ≤ c.length ∧ i = .int .i64 t ∧ Hid (symTo c l t) ∧ Below w.heap.size w wr) (fun i _ _ => c.length - (intOf i).toNat)
  case atStart => exact ⟨0, Nat.zero_le _, rfl, fun j hj i hi => absurd hi (by omega), Below.refl _ _⟩
  case round =>
    obtain ⟨t, ht, rfl, hall, hb⟩ := hrel
    by_cases hlt : t < c.length
    · by_cases hC : IsC c
      · have hC' : decide (IsC c) = true := decide_eq_true hC
        have hcallR : Hid (∀ (g1 o1 c1 : Nat) (V : List Int) W W2, Below w.heap.size w W → V.length ≤ 1048576 → g1 < w.heap.size → Cells w g1 o1 V → W2 = W → Calls Try.prog 32 #[(Value.slice (some ⟨gc, oc, none⟩) c.length cc), .int .i64 t, (Value.slice (some ⟨g1, o1, none⟩) V.length c1)] W2 (GotInts W (reflW c (t : Int) V))) := fun g1 o1 c1 V W W2 hW hV hg1 hv1 e => by
          subst e
          exact spec_ReflectWeight_any gc oc _ cc g1 o1 _ c1 (t : Int) c V _ rfl rfl hx hV Hrl.out (Nat.lt_of_lt_of_le hgc hW.size) (Nat.lt_of_lt_of_le hg1 hW.size) (Hr.out.below hW hgc) (hv1.below hW hg1)
        go_wp2_with fail
        refine (hcart.out _ hb).mono ?_
        rintro e w1 ⟨rfl, m1, rfl⟩
        rw [hC']
        have hb1 : Below w.heap.size w (wr.drewN m1) := below_drewN hb m1
        go_wp2_with fail
        go_loopw [6] (fun k wr => ∃ j : Nat, j ≤ l.length ∧ k = .int .i64 j ∧ Hid (∀ s, s < j → countIn l (reflW c (t : Int) (wOf l s)) = ctOf l s) ∧ Below w.heap.size w wr) (fun k _ => l.length - (intOf k).toNat)
        case atStart => exact ⟨0, Nat.zero_le _, rfl, fun s hs => absurd hs (by omega), hb1⟩
        case round =>
          obtain ⟨j, hj, rfl, hin, hb2⟩ := hrel
          by_cases hltj : j < l.length
          · obtain ⟨gj, oj, cj, q1, q2, q3, q4, q5⟩ := hl j hltj
            have hw := Hf.out.2 j hltj
            have p1 := (hb2.cell (p := ⟨g, o + j * 2, none⟩) hg).trans q1
            have p2 := (hb2.cell (p := ⟨g, o + j * 2 + 1, none⟩) hg).trans q2
            obtain ⟨V, hV⟩ : ∃ V, wOf l j = V := ⟨_, rfl⟩
            obtain ⟨C, hCt⟩ : ∃ C, ctOf l j = C := ⟨_, rfl⟩
            rw [hV] at hw p1 q3 q5
            rw [hCt] at p2
            have HV := Lib.hid hV; have HCt := Lib.hid hCt
            have Hl := Lib.hid hl
            have hcallC : Hid (∀ W g1 c1, Below w.heap.size w W → (∃ B, Own W B g1 c1 (reflW c (t : Int) V)) → Calls Try.prog 31 #[(Value.slice (some ⟨g, o, none⟩) l.length cp), (Value.slice (some ⟨g1, 0, none⟩) ((reflW c (t : Int) V).length) c1)] W (Reads W (.int .i64 (countIn l (reflW c (t : Int) V))))) := fun W g1 c1 hW ⟨B, hO⟩ =>
              spec_CountIn_any g o _ cp g1 0 _ c1 l _ W rfl rfl Hf.out (Hl.out.below hW hg) hO.cells
            clear q1 q2 hV hCt
            go_wp2_with fail
            have hB : Below w.heap.size w wr.drew := Below.drew hb2
            have u1 : wr.drew.cell? ⟨g, o + j * 2, none⟩ = some (Value.slice (some ⟨gj, oj, none⟩) V.length cj) := p1
            have u2 : wr.drew.cell? ⟨g, o + j * 2 + 1, none⟩ = some (.int .i64 C) := p2
            go_region_held3 (fun W => Below w.heap.size w W ∧ W.cell? ⟨g, o + j * 2, none⟩ = some (Value.slice (some ⟨gj, oj, none⟩) V.length cj) ∧ W.cell? ⟨g, o + j * 2 + 1, none⟩ = some (.int .i64 C))
              (first | exact ⟨hB, u1, u2⟩ | exact ⟨hB.trans (hbA.mono hB.size), keepCell hbA u1, keepCell hbA u2⟩ | (have v0 := hB.trans (hbA.mono hB.size); have v1 := keepCell hbA u1; have v2 := keepCell hbA u2; exact ⟨below_drewN v0 mB, v1, v2⟩) | go_keep)
              (first
                | (go_at_call 32; refine (hcallR.out gj oj cj V wr.drew _ hB hw q4 q5 (by rfl)).mono ?_; rintro e wA ⟨gA, cA, rfl, hoA, hbA⟩)
                | (go_at_call 31; refine (hcallC.out _ gA cA (hB.trans (hbA.mono hB.size)) ⟨_, hoA⟩).mono ?_; rintro e wB ⟨rfl, mB, rfl⟩))
            have hBB : Below w.heap.size w (wA.drewN mB) := below_drewN (hB.trans (hbA.mono hB.size)) mB
            clear hcallC hbA hoA hB u1 u2 p1 p2
            generalize hQ : countIn l (reflW c (t : Int) V) = Q
            by_cases hq : Q = C
            · have hqb : (Q != C) = false := by simp [hq]
              have Hq := Lib.hid (hQ.trans hq); clear hq hQ
              go_wp2
              go_roundw
              case rel =>
                refine ⟨j + 1, by omega, by go_num, ?_, hBB⟩
                show ∀ s, s < j + 1 → countIn l (reflW c (t : Int) (wOf l s)) = ctOf l s
                intro s hs
                by_cases e : s = j
                · subst e; rw [HV.out, HCt.out]; exact Hq.out
                · exact hin.out s (by omega)
              case measure => simp [intOf]; omega
            · have hqb : (Q != C) = true := by simp [hq]
              have hno : ¬ symAll c l := fun h => hq (by
                have h1 := h.2 j hltj t hlt
                rw [HV.out, HCt.out, hQ] at h1
                exact h1)
              have hS := symB_false hno
              clear hno hq hQ
              go_wp2
              go_ret
              refine ⟨?_, hBB⟩
              rw [hS]; rfl
          · obtain rfl : j = l.length := by omega
            go_wp2
            go_roundw
            case rel => exact ⟨t + 1, by omega, by go_num, symTo_step hall.out hin.out, hb2⟩
            case measure => simp [intOf]; omega
      · have hC' : decide (IsC c) = false := decide_eq_false hC
        have hS : symB c l = false := symB_false (fun h => hC h.1)
        go_wp2_with fail
        refine (hcart.out _ hb).mono ?_
        rintro e w1 ⟨rfl, m1, rfl⟩
        rw [hC']
        go_wp2_with fail
        refine (hcart.out _ (below_drewN hb m1)).mono ?_
        rintro e w2 ⟨rfl, m2, rfl⟩
        rw [hC']
        go_wp2_with fail
        go_ret
        refine ⟨?_, below_drewN hb (m1 + m2)⟩
        rw [hS]; rfl
    · obtain rfl : t = c.length := by omega
      have hS : symB c l = decide (IsC c) := by
        by_cases hC : IsC c
        · rw [decide_eq_true hC]; exact symB_true ⟨hC, hall.out⟩
        · rw [decide_eq_false hC]; exact symB_false (fun h => hC h.1)
      go_wp2_with fail
      refine (hcart.out _ hb).mono ?_
      rintro e w1 ⟨rfl, m1, rfl⟩
      go_wp2_with fail
      go_ret
      refine ⟨?_, below_drewN hb m1⟩
      rw [hS]; rfl
end Go.Proofs.Ytplglmimjhhilaa
