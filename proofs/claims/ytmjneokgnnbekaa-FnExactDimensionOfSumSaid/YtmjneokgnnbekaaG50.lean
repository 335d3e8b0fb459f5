/- Dimensions of sums, of both: contracts. -/
import Derived.Test.YtmjneokgnnbekaaG49
import Derived.Test.YtmjneokgnnbekaaG05
namespace Go.Proofs.Ytmjneokgnnbekaa
set_option maxRecDepth 100000
open Go.RowKit Game

def dsTo (c : List (List Int)) (l : List Wt) : Nat → Int
  | 0 => 0
  | k + 1 => wrap64 (dsTo c l k + wrap64 (dimL c (wOf l k) * ctOf l k))
def dsOk (c : List (List Int)) (l : List Wt) (k : Nat) : Prop := ∀ j, j < k → dimB c (wOf l j) = true ∧ 0 ≤ ctOf l j ∧ ctOf l j ≤ 1000
open Classical in
noncomputable def dsV (c : List (List Int)) (l : List Wt) : Value := if finB c = true ∧ dsOk c l l.length then .tuple #[.int .i64 (dsTo c l l.length), .bool true] else .tuple #[.int .i64 0, .bool false]
theorem dsV_yes {c : List (List Int)} {l : List Wt} (h1 : finB c = true) (h2 : dsOk c l l.length) : dsV c l = .tuple #[.int .i64 (dsTo c l l.length), .bool true] := by unfold dsV; rw [if_pos ⟨h1, h2⟩]
theorem dsV_no {c : List (List Int)} {l : List Wt} (h : ¬ (finB c = true ∧ dsOk c l l.length)) : dsV c l = .tuple #[.int .i64 0, .bool false] := by unfold dsV; rw [if_neg h]
theorem dsOk.next {c : List (List Int)} {l : List Wt} {k : Nat} (h : dsOk c l k) (h1 : dimB c (wOf l k) = true) (h2 : 0 ≤ ctOf l k ∧ ctOf l k ≤ 1000) : dsOk c l (k + 1) := fun j hj => by
  by_cases e : j = k
  · subst e; exact ⟨h1, h2.1, h2.2⟩
  · exact h j (by omega)
theorem dsV_bad {c : List (List Int)} {l : List Wt} {k : Nat} (hk : k < l.length) (h : ¬ (dimB c (wOf l k) = true ∧ 0 ≤ ctOf l k ∧ ctOf l k ≤ 1000)) : dsV c l = .tuple #[.int .i64 0, .bool false] := dsV_no fun g => h (g.2 k hk)
theorem dimB_fin {c : List (List Int)} {v : List Int} (h : dimB c v = true) : finB c = true := by
  unfold dimB at h
  rw [Bool.and_eq_true, Bool.and_eq_true] at h
  exact h.1.1
theorem dsV_end {c : List (List Int)} {l : List Wt} (h : dsOk c l l.length) : dsV c l = .tuple #[.int .i64 (dsTo c l l.length), .bool (finB c)] := by
  cases hf : finB c with
  | true => exact dsV_yes hf h
  | false =>
    rw [dsV_no (fun g => by rw [hf] at g; exact absurd g.1 (by decide))]
    have hl : l.length = 0 := by
      rcases Nat.eq_zero_or_pos l.length with e | e
      · exact e
      · have := dimB_fin (h 0 e).1
        rw [hf] at this; exact absurd this (by decide)
    rw [hl]; rfl

set_option maxHeartbeats 1000000 in
theorem impl_DimensionOfSum_any (gc oc n cc g o m cp : Nat) (c : List (List Int)) (l : List Wt) (w : World) (hn : c.length = n) (hm : l.length = m) (hx : c.length ≤ 1048576) (hf : wFew l)
    (hrl : ∀ j, j < c.length → (c.getD j []).length ≤ 1048576) (hgc : gc < w.heap.size) (hg : g < w.heap.size) (hr : Rows2 w gc oc c) (hl : WRows w g o l) :
    Calls Try.prog 18 #[(Value.slice (some ⟨gc, oc, none⟩) n cc), (Value.slice (some ⟨g, o, none⟩) m cp)] w (Gives w (dsV c l)) := by
  subst hn; subst hm
  have hfl := hf.1
  have hcall := impl_IsFinite_any gc oc _ cc c w rfl hx hrl hgc hr
  cases hF : finB c with
  | false =>
    rw [hF] at hcall
    have Hz := Lib.hid (dsV_no (c := c) (l := l) (fun g => by rw [hF] at g; exact absurd g.1 (by decide)))
    have Hcall := Lib.hid hcall
    clear hcall hF hr hl hrl
    go_enter Try.func18, Try.ntmps18
    go_wp2_with fail
    refine Hcall.out.mono ?_
    rintro e w1 ⟨rfl, hb1⟩
    go_wp2_with fail
    go_ret2
    exact ⟨congrArg Ending.returned Hz.out.symm, hb1⟩
  | true =>
    rw [hF] at hcall
    have Hcall := Lib.hid hcall
    have HF := Lib.hid hF
    have Hl := Lib.hid hl
    have HD := Lib.hid (fun j (hj : j < l.length) W gj oj cj (hW : Below w.heap.size w W) (hgj : gj < W.heap.size) (hcj : Cells W gj oj (wOf l j)) => impl_WeylDimension_any gc oc _ cc gj oj (wOf l j).length cj c (wOf l j) W rfl rfl hx (hf.2 j hj) hrl (Nat.lt_of_lt_of_le hgc hW.size) hgj (hr.below hW hgc) hcj)
    clear hcall hF hr hl hrl hf
    go_enter Try.func18, Try.ntmps18
    go_wp2_with fail
    refine Hcall.out.mono ?_
    rintro e w1 ⟨rfl, hb1⟩
    go_wp2_with fail
    go_loopw [6, 16] (fun sv kv wr => ∃ k : Nat, k ≤ l.length ∧ kv = .int .i64 k ∧ sv = .int .i64 (dsTo c l k) ∧ Hid (dsOk c l k) ∧ Below w.heap.size w wr) (fun _ kv _ => l.length - (intOf kv).toNat)
    case atStart => exact ⟨0, Nat.zero_le _, rfl, rfl, fun j hj => absurd hj (by omega), hb1⟩
    case round =>
      obtain ⟨k, hk, rfl, rfl, hok, hb⟩ := hrel
      by_cases hlt : k < l.length
      · obtain ⟨gj, oj, cj, q1, q2, q3, q4, q5⟩ := Hl.out k hlt
        have p1 := (hb.cell (p := ⟨g, o + k * 2, none⟩) hg).trans q1
        have p2 := (hb.cell (p := ⟨g, o + k * 2 + 1, none⟩) hg).trans q2
        have hbA : Below w.heap.size w (wr.alloc (.cells #[(Value.slice (some ⟨gj, oj, none⟩) ((wOf l k).length) cj), .int .i64 (ctOf l k)] 57)) := hb.alloc hb.size _
        have hD := Lib.hid (HD.out k hlt (wr.alloc (.cells #[(Value.slice (some ⟨gj, oj, none⟩) ((wOf l k).length) cj), .int .i64 (ctOf l k)] 57)) gj oj cj hbA (Nat.lt_of_lt_of_le q4 hbA.size) (q5.below hbA q4))
        have hcell := Lib.hid ((cell2 (heap_alloc_new wr (.cells #[(Value.slice (some ⟨gj, oj, none⟩) ((wOf l k).length) cj), .int .i64 (ctOf l k)] 57))).2)
        have hszA : wr.heap.size < (wr.alloc (.cells #[(Value.slice (some ⟨gj, oj, none⟩) ((wOf l k).length) cj), .int .i64 (ctOf l k)] 57)).heap.size := by simp
        have Hbad := Lib.hid (fun h => dsV_bad (c := c) (l := l) hlt h)
        have Hnx := Lib.hid (fun h1 h2 => hok.out.next (k := k) h1 h2)
        have hst : dsTo c l (k + 1) = wrap64 (dsTo c l k + wrap64 (dimL c (wOf l k) * ctOf l k)) := rfl
        have Hst := Lib.hid hst
        obtain ⟨V, hV⟩ : ∃ V, wOf l k = V := ⟨_, rfl⟩
        obtain ⟨C, hC⟩ : ∃ C, ctOf l k = C := ⟨_, rfl⟩
        rw [hV, hC] at hD hcell Hbad Hnx Hst hbA hszA
        rw [hV] at p1 q3
        rw [hC] at p2
        clear hV hC q1 q2 q4 q5 hst hok
        have HbA := Lib.hid hbA
        go_wp2_with fail
        cases hB : dimB c V with
        | false =>
          have Hz := Lib.hid (Hbad.out (fun h => by rw [hB] at h; exact absurd h.1 (by decide)))
          rw [dimV_no hB] at hD
          refine hD.out.mono ?_
          rintro e w4 ⟨rfl, hb4⟩
          have hb4' := HbA.out.trans (hb4.mono HbA.out.size)
          go_wp2_with fail
          go_ret2
          exact ⟨congrArg Ending.returned Hz.out.symm, hb4'⟩
        | true =>
          have hdl : dimL c V = ((dimN c V : Nat) : Int) := by unfold dimL; rw [if_pos hB]
          rw [dimV_yes hB, ← hdl] at hD
          clear hdl
          refine hD.out.mono ?_
          rintro e w4 ⟨rfl, hb4⟩
          have hb4' := HbA.out.trans (hb4.mono HbA.out.size)
          have c1 := (hb4.cell (p := ⟨wr.heap.size, 1, none⟩) hszA).trans hcell.out
          generalize dimL c V = d at *
          by_cases h1 : C < 0
          · have Hz := Lib.hid (Hbad.out (fun h => by omega))
            go_wp2_with fail
            go_ret2
            exact ⟨congrArg Ending.returned Hz.out.symm, hb4'⟩
          · by_cases h2 : 1000 < C
            · have Hz := Lib.hid (Hbad.out (fun h => by omega))
              go_wp2_with fail
              go_ret2
              exact ⟨congrArg Ending.returned Hz.out.symm, hb4'⟩
            · have Hok := Lib.hid (Hnx.out hB (by omega))
              generalize dsTo c l k = s at *
              go_wp2_with fail
              go_roundw
              case rel => exact ⟨k + 1, by omega, by go_num, by rw [Hst.out], Hok.out, hb4'⟩
              case measure => simp [intOf]; omega
      · obtain rfl : k = l.length := by omega
        have Hz := Lib.hid (dsV_yes HF.out hok.out)
        go_wp2_with fail
        go_ret2
        exact ⟨congrArg Ending.returned Hz.out.symm, hb⟩

set_option maxHeartbeats 1000000 in
theorem spec_DimensionOfSum_any (gc oc n cc g o m cp : Nat) (c : List (List Int)) (l : List Wt) (w : World) (hn : c.length = n) (hm : l.length = m) (hx : c.length ≤ 1048576) (hf : wFew l)
    (hrl : ∀ j, j < c.length → (c.getD j []).length ≤ 1048576) (hgc : gc < w.heap.size) (hg : g < w.heap.size) (hr : Rows2 w gc oc c) (hl : WRows w g o l) :
    Calls Try.prog 16 #[(Value.slice (some ⟨gc, oc, none⟩) n cc), (Value.slice (some ⟨g, o, none⟩) m cp)] w (Gives w (dsV c l)) := by
  subst hn; subst hm
  have hfl := hf.1
  have HI := Lib.hid (fun W (hW : Below w.heap.size w W) => spec_IsFinite_any gc oc _ cc c W rfl hx hrl (Nat.lt_of_lt_of_le hgc hW.size) (hr.below hW hgc))
  have Hl := Lib.hid hl
  have HD := Lib.hid (fun j (hj : j < l.length) W gj oj cj (hW : Below w.heap.size w W) (hgj : gj < W.heap.size) (hcj : Cells W gj oj (wOf l j)) => spec_WeylDimension_any gc oc _ cc gj oj (wOf l j).length cj c (wOf l j) W rfl rfl hx (hf.2 j hj) hrl (Nat.lt_of_lt_of_le hgc hW.size) hgj (hr.below hW hgc) hcj)
  clear hr hl hrl hf
  go_enter Try.func16, Try.ntmps16
  go_wp2_with fail
  go_loopw [6, 7] (fun sv kv wr => ∃ k : Nat, k ≤ l.length ∧ kv = .int .i64 k ∧ sv = .int .i64 (dsTo c l k) ∧ Hid (dsOk c l k) ∧ Below w.heap.size w wr) (fun _ kv _ => l.length - (intOf kv).toNat)
  case atStart => exact ⟨0, Nat.zero_le _, rfl, rfl, fun j hj => absurd hj (by omega), Below.refl _ _⟩
  case round =>
    obtain ⟨k, hk, rfl, rfl, hok, hb⟩ := hrel
    by_cases hlt : k < l.length
    · obtain ⟨gj, oj, cj, q1, q2, q3, q4, q5⟩ := Hl.out k hlt
      have p1 := (hb.cell (p := ⟨g, o + k * 2, none⟩) hg).trans q1
      have hD := Lib.hid (HD.out k hlt wr gj oj cj hb (Nat.lt_of_lt_of_le q4 hb.size) (q5.below hb q4))
      have Hbad := Lib.hid (fun h => dsV_bad (c := c) (l := l) hlt h)
      have Hnx := Lib.hid (fun h1 h2 => hok.out.next (k := k) h1 h2)
      have hst : dsTo c l (k + 1) = wrap64 (dsTo c l k + wrap64 (dimL c (wOf l k) * ctOf l k)) := rfl
      have Hst := Lib.hid hst
      have Hp2 := Lib.hid (fun W (hW : Below w.heap.size w W) => (hW.cell (p := ⟨g, o + k * 2 + 1, none⟩) hg).trans q2)
      obtain ⟨V, hV⟩ : ∃ V, wOf l k = V := ⟨_, rfl⟩
      obtain ⟨C, hC⟩ : ∃ C, ctOf l k = C := ⟨_, rfl⟩
      rw [hV] at hD p1 q3
      rw [hV, hC] at Hbad Hnx Hst
      rw [hC] at Hp2
      clear hV hC q1 q2 q4 q5 hst hok
      go_wp2_with fail
      cases hB : dimB c V with
      | false =>
        have Hz := Lib.hid (Hbad.out (fun h => by rw [hB] at h; exact absurd h.1 (by decide)))
        rw [dimV_no hB] at hD
        refine hD.out.mono ?_
        rintro e w4 ⟨rfl, hb4⟩
        have hb4' := hb.trans (hb4.mono hb.size)
        go_wp2_with fail
        go_ret2
        exact ⟨congrArg Ending.returned Hz.out.symm, hb4'⟩
      | true =>
        have hdl : dimL c V = ((dimN c V : Nat) : Int) := by unfold dimL; rw [if_pos hB]
        rw [dimV_yes hB, ← hdl] at hD
        clear hdl
        refine hD.out.mono ?_
        rintro e w4 ⟨rfl, hb4⟩
        have hb4' := hb.trans (hb4.mono hb.size)
        have p2 := Hp2.out w4 hb4'
        generalize dimL c V = d at *
        have H1 := Lib.hid (spec_l1In C 0 1000 w4)
        by_cases hin : 0 ≤ C ∧ C ≤ 1000
        · have hT : (decide (0 ≤ C) && decide (C ≤ 1000)) = true := by simp; exact hin
          have Hok := Lib.hid (Hnx.out hB hin)
          rw [hT] at H1
          clear hin hT
          go_wp2_with fail
          refine H1.out.mono ?_
          rintro e w5 ⟨rfl, hs5⟩
          have hb5 := below_still hb4' hs5
          have p2 := Hp2.out w5 hb5
          clear hs5 H1
          generalize dsTo c l k = s at *
          go_wp2_with fail
          go_roundw
          case rel => exact ⟨k + 1, by omega, by go_num, by rw [Hst.out], Hok.out, hb5⟩
          case measure => simp [intOf]; omega
        · have hT : (decide (0 ≤ C) && decide (C ≤ 1000)) = false := by rw [Bool.and_eq_false_iff, decide_eq_false_iff_not, decide_eq_false_iff_not]; omega
          have Hz := Lib.hid (Hbad.out (fun h => hin h.2))
          rw [hT] at H1
          clear hin hT
          go_wp2_with fail
          refine H1.out.mono ?_
          rintro e w5 ⟨rfl, hs5⟩
          have hb5 := below_still hb4' hs5
          clear hs5 H1
          go_wp2_with fail
          go_ret2
          exact ⟨congrArg Ending.returned Hz.out.symm, hb5⟩
    · obtain rfl : k = l.length := by omega
      have Hz := Lib.hid (dsV_end (c := c) hok.out)
      have hc := Lib.hid (HI.out wr hb)
      generalize finB c = F at *
      generalize dsTo c l l.length = s at *
      go_wp2_with fail
      refine hc.out.mono ?_
      rintro e w4 ⟨rfl, hb4⟩
      have hb4' := hb.trans (hb4.mono hb.size)
      go_wp2_with fail
      go_ret2
      exact ⟨congrArg Ending.returned Hz.out.symm, hb4'⟩
open Classical in
noncomputable def dsI (c : List (List Int)) (l : List Wt) : Int := if finB c = true ∧ dsOk c l l.length then dsTo c l l.length else 0
open Classical in
noncomputable def dsB (c : List (List Int)) (l : List Wt) : Bool := if finB c = true ∧ dsOk c l l.length then true else false
theorem dsV_eq (c : List (List Int)) (l : List Wt) : dsV c l = .tuple #[.int .i64 (dsI c l), .bool (dsB c l)] := by
  unfold dsV dsI dsB
  split <;> rfl
end Go.Proofs.Ytmjneokgnnbekaa
