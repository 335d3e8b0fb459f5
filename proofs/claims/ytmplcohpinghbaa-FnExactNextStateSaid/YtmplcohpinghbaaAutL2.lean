/- ReadsReduced, StateOf, NextState: contracts. -/
import Derived.Test.YtmplcohpinghbaaAutL
namespace Go.Proofs.Ytmplcohpinghbaa
open Go.RowKit Game

set_option maxHeartbeats 4000000 in
theorem impl_read_any (gc oc n cc g o m cp : Nat) (c : List (List Int)) (l : List Int) (w : World) (hn : c.length = n) (hm : l.length = m) (hx : c.length ≤ 1048576) (hrl : ∀ j, j < c.length → (c.getD j []).length ≤ 1048576) (hl : l.length ≤ 1048576) (hgc : gc < w.heap.size) (hg : g < w.heap.size) (hr : Rows2 w gc oc c) (hc : Cells w g o l) :
    Calls Try.prog 36 #[(Value.slice (some ⟨gc, oc, none⟩) n cc), (Value.slice (some ⟨g, o, none⟩) m cp)] w (WalkPost w (readM c l)) := by
  subst hn; subst hm
  have hcall := impl_newAutomaton_any gc oc _ cc c w rfl hx hrl hgc hr
  have hword := fun W (hW : Below w.heap.size w W) => impl_IsWord_any gc oc _ cc g o _ cp c l W rfl rfl hx hrl hl (hr.below hW hgc) (hc.below hW hg)
  have Hcall := Lib.hid hcall
  have Hcl := Lib.hid hc
  have hRM : Hid (readM c l = if smallAB c = true ∧ isWordB c l = true then walkL c (smallA c) [] l else none) := rfl
  generalize readM c l = R at *
  clear hcall hrl hr hc
  go_enter Try.func36, Try.ntmps36
  go_wp2_with fail
  refine Hcall.out.mono ?_
  intro e w1 hp
  rcases hp with ⟨hAB, rfl, hb1⟩ | ⟨hC, hAB, hok, gR, cR, gM, cM, rfl, hAR, hb1⟩
  · have hv : R = none := by rw [hRM.out, hAB]; exact if_neg (by simp)
    have Hv := Lib.hid hv
    have hb2 : Below w.heap.size w (w1.alloc (.cells #[.slice none 0 0, .slice none 0 0, .slice none 0 0] 50)) := hb1.alloc hb1.size _
    clear hAB hv hRM Hcall hword hb1
    go_wp2_with fail
    go_ret2
    refine .inl ⟨Hv.out, ?_⟩
    have h := GotIntsB.nil hb2
    simpa using h
  · have hn4 := hC.2.1
    have hS40 := hok.len
    generalize smallA c = S at *
    generalize gR = gR at *
    have hbA := (Below.refl w1.heap.size w1).alloc (Nat.le_refl _) (.cells #[(Value.slice (some ⟨gc, oc, none⟩) c.length cc), (Value.slice (some ⟨gR, 0, none⟩) S.length cR), (Value.slice (some ⟨gM, 0, none⟩) S.length cM)] 50)
    have hA2 := hAR.below hbA
    have hb2 := hb1.trans (hbA.mono hb1.size)
    have h92 : Hid ((w1.alloc (.cells #[(Value.slice (some ⟨gc, oc, none⟩) c.length cc), (Value.slice (some ⟨gR, 0, none⟩) S.length cR), (Value.slice (some ⟨gM, 0, none⟩) S.length cM)] 50)).heap[w1.heap.size]? = some (.cells #[(Value.slice (some ⟨gc, oc, none⟩) c.length cc), (Value.slice (some ⟨gR, 0, none⟩) S.length cR), (Value.slice (some ⟨gM, 0, none⟩) S.length cM)] 50 (0, 0))) := heap_alloc_new _ _
    have hw2 := hword _ hb2
    clear hAR hbA Hcall hword
    by_cases hW : isWordB c l = true
    · have hv : walkL c S [] l = R := by rw [hRM.out]; exact (if_pos ⟨hAB, hW⟩).symm
      rw [hW] at hw2
      have Hw2 := Lib.hid hw2; have Hv := Lib.hid hv
      have hlet := (isWordB_of hW).2.2
      have Hlet := Lib.hid hlet
      clear hw2 hv hW hRM hAB hlet
      go_wp2_with fail
      refine Hw2.out.mono ?_
      have hb9 : Below w1.heap.size w1 (w1.alloc (.cells #[(Value.slice (some ⟨gc, oc, none⟩) c.length cc), (Value.slice (some ⟨gR, 0, none⟩) S.length cR), (Value.slice (some ⟨gM, 0, none⟩) S.length cM)] 50)) := (Below.refl _ _).alloc (Nat.le_refl _) _
      generalize w1.alloc (.cells #[(Value.slice (some ⟨gc, oc, none⟩) c.length cc), (Value.slice (some ⟨gR, 0, none⟩) S.length cR), (Value.slice (some ⟨gM, 0, none⟩) S.length cM)] 50) = w2 at *
      rintro e w3 ⟨rfl, hs3⟩
      have hb3 := below_still hb2 hs3
      have hA3 : AutR w3 c S gR gM := by obtain ⟨q, rfl⟩ := hs3; exact ⟨hA2.lR, hA2.lM, hA2.hR, hA2.hM⟩
      have h93 : Hid (w3.heap[w1.heap.size]? = some (.cells #[(Value.slice (some ⟨gc, oc, none⟩) c.length cc), (Value.slice (some ⟨gR, 0, none⟩) S.length cR), (Value.slice (some ⟨gM, 0, none⟩) S.length cM)] 50 (0, 0))) := by obtain ⟨q, rfl⟩ := hs3; exact h92.out
      clear hs3 hb2 hA2 h92 Hw2 hb9
      generalize w1.heap.size = b9 at *
      go_wp2_with fail
      have hbE : Below w3.heap.size w3 (w3.alloc (.cells #[] 3)) := (Below.refl _ _).alloc (Nat.le_refl _) _
      have hO0 : Own (w3.alloc (.cells #[] 3)) w3.heap.size w3.heap.size 0 [] := Own.empty (Nat.le_refl _)
      go_loopw [8, 28] (fun sv kv wr => ∃ (k a g2 c2 : Nat) (st : List Int), k ≤ l.length ∧ kv = .int .i64 k ∧ sv = (Value.slice (some ⟨g2, 0, none⟩) a c2) ∧ Hid (st.length = a) ∧ Hid (FineS S.length st) ∧ Hid (walkL c S st (l.drop k) = R) ∧ Own wr w3.heap.size g2 c2 st ∧ Below w3.heap.size w3 wr) (fun _ kv _ => l.length - (intOf kv).toNat)
      case atStart => exact ⟨0, 0, _, 0, [], Nat.zero_le _, rfl, rfl, rfl, FineS.nil _, Hv.out, hO0, hbE⟩
      case round =>
        clear hbE hO0
        obtain ⟨k, a, g2, c2, st, hk, rfl, rfl, ha, hst, hwk, ho, hb⟩ := hrel
        have hB := hb3.trans (hb.mono hb3.size)
        by_cases hlt : k < l.length
        · have q1 := (hB.cell (p := ⟨g, o + k, none⟩) hg).trans (Hcl.out k hlt)
          obtain ⟨hy0, hy1⟩ := Hlet.out (l.getD k 0) (by simp [List.getD, hlt])
          have hwd := walkL_drop (c := c) (S := S) (st := st) hlt
          obtain ⟨i, hi⟩ : ∃ i : Nat, l.getD k 0 = (i : Int) := ⟨_, (Int.toNat_of_nonneg hy0).symm⟩
          rw [hi] at q1 hwd hy1
          rw [Int.toNat_natCast] at hwd
          have hil : i < c.length := by omega
          obtain ⟨z0, z1, z2⟩ := cell3 ((hb.block _ (box_lt h93.out)).trans h93.out)
          have hA := hA3.below hb
          have hcall := impl_next_any gc oc _ cc gR cR _ gM _ cM i g2 0 a c2 c S st wr rfl rfl rfl ha.out hok hst.out hn4 hil hA.lR hA.lM ho.lt hA.hR hA.hM ho.cells
          have hno : ∀ st', nextR c S i st = some st' → st' = nextL c S i st ∧ walkL c S st' (l.drop (k + 1)) = R := fun st' h => by
            unfold nextR at h
            split at h
            · cases h
            · rename_i h2
              cases h
              exact ⟨rfl, by rw [← hwk.out, hwd, if_neg h2]⟩
          have hin : nextR c S i st = none → R = none := fun h => by
            unfold nextR at h
            split at h
            · rename_i h2
              rw [← hwk.out, hwd, if_pos h2]
            · cases h
          have Hcall := Lib.hid hcall; have Hno := Lib.hid hno; have Hin := Lib.hid hin
          clear hcall hno hin hwd hi hy0 hy1 hA
          go_wp2_with fail
          refine Hcall.out.mono ?_
          intro e w4 hp
          rcases hp with ⟨hR, rfl, hb4⟩ | ⟨st', hR, g4, c4, rfl, ho4, hb4⟩
          · have hv := Hin.out hR
            have Hv2 := Lib.hid hv
            have hB4 := hB.trans (hb4.mono hB.size)
            clear hR hv Hcall
            go_wp2_with fail
            go_ret2
            exact .inl ⟨Hv2.out, GotIntsB.nil hB4⟩
          · obtain ⟨e1, e2⟩ := Hno.out st' hR
            have hfn : FineS S.length st' := by rw [e1]; exact nextL_fine (hok.simp' i hil)
            obtain ⟨b, hbl⟩ : ∃ b, st'.length = b := ⟨_, rfl⟩
            rw [hbl]
            have Hbl := Lib.hid hbl; have E2 := Lib.hid e2; have Hfn := Lib.hid hfn
            have hO4 := ho4.mono hb.size
            have hB4 := hb.trans (hb4.mono hb.size)
            clear hbl e1 e2 hfn hR ho4 hb4 Hcall z0 z1 z2
            go_wp2_with fail
            go_roundw
            case rel => exact ⟨k + 1, b, g4, c4, st', by omega, by go_num, rfl, Hbl.out, Hfn.out, E2.out, hO4, hB4⟩
            case measure => simp [intOf]; omega
        · obtain rfl : k = l.length := by omega
          have hd := hwk.out
          rw [List.drop_length] at hd
          have Hd : Hid (R = some st) := hd.symm
          clear hd
          go_wp2
          go_ret2
          exact .inr ⟨st, Hd.out, GotIntsB.mk' g2 c2 ha.out (ho.mono hb3.size) hB⟩
    · have hWf : isWordB c l = false := by simpa using hW
      have hv : R = none := by rw [hRM.out, hWf]; exact if_neg (by simp)
      rw [hWf] at hw2
      have Hw2 := Lib.hid hw2; have Hv := Lib.hid hv
      clear hw2 hv hW hRM hAB hWf
      go_wp2_with fail
      refine Hw2.out.mono ?_
      generalize w1.alloc (.cells #[(Value.slice (some ⟨gc, oc, none⟩) c.length cc), (Value.slice (some ⟨gR, 0, none⟩) S.length cR), (Value.slice (some ⟨gM, 0, none⟩) S.length cM)] 50) = w2 at *
      rintro e w3 ⟨rfl, hs3⟩
      have hb3 := below_still hb2 hs3
      clear hs3 hA2 h92
      go_wp2_with fail
      go_ret2
      exact .inl ⟨Hv.out, GotIntsB.nil hb3⟩

set_option maxHeartbeats 1000000 in
theorem impl_ReadsReduced_any (gc oc n cc g o m cp : Nat) (c : List (List Int)) (l : List Int) (w : World) (hn : c.length = n) (hm : l.length = m) (hx : c.length ≤ 1048576) (hrl : ∀ j, j < c.length → (c.getD j []).length ≤ 1048576) (hl : l.length ≤ 1048576) (hgc : gc < w.heap.size) (hg : g < w.heap.size) (hr : Rows2 w gc oc c) (hc : Cells w g o l) :
    Calls Try.prog 16 #[(Value.slice (some ⟨gc, oc, none⟩) n cc), (Value.slice (some ⟨g, o, none⟩) m cp)] w (Gives w (.bool (readM c l).isSome)) := by
  have hcall := impl_read_any gc oc n cc g o m cp c l w hn hm hx hrl hl hgc hg hr hc
  have Hcall := Lib.hid hcall
  generalize readM c l = R at *
  clear hcall hr hc hrl hn hm
  go_enter Try.func16, Try.ntmps16
  go_wp2_with fail
  refine Hcall.out.mono ?_
  intro e w3 hp
  rcases hp with ⟨rfl, g3, c3, rfl, -, hb3⟩ | ⟨st, rfl, g3, c3, rfl, -, hb3⟩
  all_goals
    go_wp2_with fail
    go_ret
    exact ⟨rfl, hb3⟩
set_option maxHeartbeats 1000000 in
theorem impl_StateOf_any (gc oc n cc g o m cp : Nat) (c : List (List Int)) (l : List Int) (w : World) (hn : c.length = n) (hm : l.length = m) (hx : c.length ≤ 1048576) (hrl : ∀ j, j < c.length → (c.getD j []).length ≤ 1048576) (hl : l.length ≤ 1048576) (hgc : gc < w.heap.size) (hg : g < w.heap.size) (hr : Rows2 w gc oc c) (hc : Cells w g o l) :
    Calls Try.prog 23 #[(Value.slice (some ⟨gc, oc, none⟩) n cc), (Value.slice (some ⟨g, o, none⟩) m cp)] w (GotInts w ((readM c l).getD [])) := by
  have hcall := impl_read_any gc oc n cc g o m cp c l w hn hm hx hrl hl hgc hg hr hc
  have Hcall := Lib.hid hcall
  generalize readM c l = R at *
  clear hcall hr hc hrl hn hm
  go_enter Try.func23, Try.ntmps23
  go_wp2_with fail
  refine Hcall.out.mono ?_
  intro e w3 hp
  rcases hp with ⟨rfl, g3, c3, rfl, ho3, hb3⟩ | ⟨st, rfl, g3, c3, rfl, ho3, hb3⟩
  all_goals
    go_wp2_with fail
    go_ret
    exact ⟨g3, c3, rfl, ho3, hb3⟩
theorem nextM_no {c : List (List Int)} {st : List Int} {i : Int} (h : ¬ (smallAB c = true ∧ (0 ≤ i ∧ i < (c.length : Int)) ∧ fineB (smallA c).length (-1) st = true)) : nextM c st i = none := if_neg h
theorem GotIntsB.none {w w' : World} {R : Option (List Int)} {e : Ending} (hR : R = none) (h : GotIntsB w [] false e w') : GotIntsB w (R.getD []) R.isSome e w' := by subst hR; exact h
theorem GotIntsB.some' {w w' : World} {R : Option (List Int)} {st : List Int} {e : Ending} (hR : R = some st) (h : GotIntsB w st true e w') : GotIntsB w (R.getD []) R.isSome e w' := by subst hR; exact h

set_option maxHeartbeats 2000000 in
theorem spec_NextState_any (gc oc n cc g o m cp : Nat) (c : List (List Int)) (st : List Int) (i : Int) (w : World) (hn : c.length = n) (hm : st.length = m) (hx : c.length ≤ 1048576) (hrl : ∀ j, j < c.length → (c.getD j []).length ≤ 1048576) (hl : st.length ≤ 1048576) (hgc : gc < w.heap.size) (hg : g < w.heap.size) (hr : Rows2 w gc oc c) (hc : Cells w g o st) :
    Calls Try.prog 18 #[(Value.slice (some ⟨gc, oc, none⟩) n cc), (Value.slice (some ⟨g, o, none⟩) m cp), .int .i64 i] w (GotIntsB w ((nextM c st i).getD []) (nextM c st i).isSome) := by
  subst hn; subst hm
  have hcall := spec_SmallRoots_any gc oc _ cc c w rfl hx hrl hgc hr
  have Hcall := Lib.hid hcall; have Hr := Lib.hid hr; have Hcl := Lib.hid hc
  clear hcall hr hc hrl
  rcases smallA_cases c with ⟨hAB, hS⟩ | ⟨hC, hAB, hok⟩
  · have Hv : Hid (nextM c st i = none) := nextM_no (by rw [hAB]; simp)
    rw [hAB, hS] at Hcall
    generalize nextM c st i = R at *
    clear hAB hS
    go_enter Try.func18, Try.ntmps18
    go_wp2_with fail
    refine Hcall.out.mono ?_
    rintro e w1 ⟨gR, cR, rsR, rfl, -, -, hb1⟩
    go_wp2_with fail
    go_ret2
    exact GotIntsB.none Hv.out (GotIntsB.nil hb1)
  · rw [hAB] at Hcall
    have HN : Hid (nextM c st i = if smallAB c = true ∧ (0 ≤ i ∧ i < (c.length : Int)) ∧ fineB (smallA c).length (-1) st = true then nextR c (smallA c) i.toNat st else none) := rfl
    generalize nextM c st i = R at *
    have hS40 := hok.len
    generalize smallA c = S at *
    have hone := fun W => spec_l1In i 0 ((c.length : Int) - 1) W
    by_cases hi : 0 ≤ i ∧ i < (c.length : Int)
    · have hT : (decide (0 ≤ i) && decide (i ≤ (c.length : Int) - 1)) = true := by simp only [Bool.and_eq_true, decide_eq_true_eq]; omega
      rw [hT] at hone
      obtain ⟨j, rfl⟩ : ∃ j : Nat, i = (j : Int) := ⟨_, (Int.toNat_of_nonneg hi.1).symm⟩
      have hjl : j < c.length := by omega
      have Hone := Lib.hid hone
      by_cases hf : fineB S.length (-1) st = true
      · have hv : R = nextR c S j st := by rw [HN.out, if_pos ⟨hAB, hi, hf⟩, Int.toNat_natCast]
        have hst := fineB_fine hf
        have hfine := fun W (hW : Below w.heap.size w W) => spec_l32Fine_any g o _ cp S.length st W rfl hl (by omega) (Hcl.out.below hW hg)
        rw [hf] at hfine
        have hsr := fun W (hW : Below w.heap.size w W) => spec_SimpleRoot_any gc oc _ cc j c W rfl hC hjl (Hr.out.below hW hgc)
        have hsl := simpL_length c.length j
        have hown : ownI c S j = idxL S (simpL c.length j) := rfl
        have hnR : nextR c S j st = if ownI c S j ∈ st then none else some (nextL c S j st) := rfl
        generalize simpL c.length j = r0 at *
        have Hfine := Lib.hid hfine; have Hsr := Lib.hid hsr; have Hsl := Lib.hid hsl; have Hown := Lib.hid hown
        have Hv := Lib.hid (hv.trans hnR)
        clear hv hone hT hf hfine hsr hsl hown hnR HN hAB hi
        go_enter Try.func18, Try.ntmps18
        go_wp2_with fail
        refine Hcall.out.mono ?_
        rintro e w1 ⟨gR, cR, rsR, rfl, hcon, hO, hb1⟩
        have Hcon := Lib.hid hcon
        clear hcon Hcall
        go_wp2_with fail
        refine (Hone.out w1).mono ?_
        rintro e w2 ⟨rfl, hs2⟩
        have hb2 := below_still hb1 hs2
        have hO2 := hO.still hs2
        clear hs2 hO hb1
        go_wp2_with fail
        refine (Hfine.out w2 hb2).mono ?_
        rintro e w3 ⟨rfl, hs3⟩
        have hb3 := below_still hb2 hs3
        have hO3 := hO2.still hs3
        clear hs3 hO2 hb2
        go_wp2_with fail
        refine (Hsr.out w3 hb3).mono ?_
        rintro e w4 ⟨g4, c4, rfl, ho4, hb4⟩
        rw [Hsl.out]
        have hO4 := hO3.below hb4
        have hB4 := hb3.trans (hb4.mono hb3.size)
        have hrows : Rows2 w4 gR 0 S := by have := hO4.rows2; rw [Hcon.out] at this; exact this
        have hidx := spec_IndexOf_any gR 0 _ cR g4 0 _ c4 S r0 w4 rfl Hsl.out (by omega) (fun j hj => by rw [hok.lenAt hj]; omega) hrows ho4.cells
        rw [← Hown.out] at hidx
        have Hidx := Lib.hid hidx
        clear hidx ho4 hO3 hb3 hb4 hrows
        generalize ownI c S j = ow at *
        go_wp2_with fail
        refine Hidx.out.mono ?_
        rintro e w5 ⟨rfl, hs5⟩
        have hB5 := below_still hB4 hs5
        have hO5 := hO4.still hs5
        have hhas := aut_l3Has g o _ cp st ow w5 rfl hl (Hcl.out.below hB5 hg)
        clear hs5 hB4 hO4 Hidx
        by_cases hmem : ow ∈ st
        · have hR := Hv.out
          rw [if_pos hmem] at hR
          rw [decide_eq_true hmem] at hhas
          have Hhas := Lib.hid hhas; have HR := Lib.hid hR
          clear hhas hR hmem
          go_wp2_with fail
          refine Hhas.out.mono ?_
          rintro e w6 ⟨rfl, hs6⟩
          have hB6 := below_still hB5 hs6
          clear hs6
          go_wp2_with fail
          go_ret2
          exact GotIntsB.none HR.out (GotIntsB.nil hB6)
        · have hR := Hv.out
          rw [if_neg hmem] at hR
          rw [decide_eq_false hmem] at hhas
          have Hhas := Lib.hid hhas; have HR := Lib.hid hR
          clear hhas hR hmem
          go_wp2_with fail
          refine Hhas.out.mono ?_
          rintro e w6 ⟨rfl, hs6⟩
          have hB6 := below_still hB5 hs6
          have hO6 := hO5.still hs6
          have hnx := spec_l32Next_any gc oc _ cc gR 0 _ cR g o _ cp j c S st w6 rfl rfl rfl hC hok hst hjl (Nat.lt_of_lt_of_le hgc hB6.size) hO6.lt (Nat.lt_of_lt_of_le hg hB6.size) (Hr.out.below hB6 hgc) (by have := hO6.rows2; rw [Hcon.out] at this; exact this) (Hcl.out.below hB6 hg)
          have Hnx := Lib.hid hnx
          clear hs6 hnx hB5 hO5
          go_wp2_with fail
          refine Hnx.out.mono ?_
          rintro e w7 ⟨g7, c7, rfl, ho7, hb7⟩
          go_wp2_with fail
          go_ret2
          exact GotIntsB.some' HR.out ⟨g7, c7, rfl, ho7.mono hB6.size, hB6.trans (hb7.mono hB6.size)⟩
      · have hv : R = none := by rw [HN.out]; exact if_neg (fun h => hf h.2.2)
        have hff : fineB S.length (-1) st = false := by simpa using hf
        have hfine := fun W (hW : Below w.heap.size w W) => spec_l32Fine_any g o _ cp S.length st W rfl hl (by omega) (Hcl.out.below hW hg)
        rw [hff] at hfine
        have Hfine := Lib.hid hfine; have Hv := Lib.hid hv
        clear hv hone hT hf hfine HN hAB hi hff
        go_enter Try.func18, Try.ntmps18
        go_wp2_with fail
        refine Hcall.out.mono ?_
        rintro e w1 ⟨gR, cR, rsR, rfl, hcon, hO, hb1⟩
        clear hcon Hcall hO
        go_wp2_with fail
        refine (Hone.out w1).mono ?_
        rintro e w2 ⟨rfl, hs2⟩
        have hb2 := below_still hb1 hs2
        clear hs2 hb1
        go_wp2_with fail
        refine (Hfine.out w2 hb2).mono ?_
        rintro e w3 ⟨rfl, hs3⟩
        have hb3 := below_still hb2 hs3
        clear hs3
        go_wp2_with fail
        go_ret2
        exact GotIntsB.none Hv.out (GotIntsB.nil hb3)
    · have hT : (decide (0 ≤ i) && decide (i ≤ (c.length : Int) - 1)) = false := by
        rw [← Bool.not_eq_true, Bool.and_eq_true, decide_eq_true_eq, decide_eq_true_eq]; omega
      rw [hT] at hone
      have Hone := Lib.hid hone
      have hv : R = none := by rw [HN.out]; exact if_neg (fun h => hi h.2.1)
      have Hv := Lib.hid hv
      clear hv hone hT HN hAB hi
      go_enter Try.func18, Try.ntmps18
      go_wp2_with fail
      refine Hcall.out.mono ?_
      rintro e w1 ⟨gR, cR, rsR, rfl, hcon, hO, hb1⟩
      clear hcon Hcall hO
      go_wp2_with fail
      refine (Hone.out w1).mono ?_
      rintro e w2 ⟨rfl, hs2⟩
      have hb2 := below_still hb1 hs2
      clear hs2 hb1
      go_wp2_with fail
      go_ret2
      exact GotIntsB.none Hv.out (GotIntsB.nil hb2)

set_option maxHeartbeats 2000000 in
theorem impl_NextState_any (gc oc n cc g o m cp : Nat) (c : List (List Int)) (st : List Int) (i : Int) (w : World) (hn : c.length = n) (hm : st.length = m) (hx : c.length ≤ 1048576) (hrl : ∀ j, j < c.length → (c.getD j []).length ≤ 1048576) (hl : st.length ≤ 1048576) (hgc : gc < w.heap.size) (hg : g < w.heap.size) (hr : Rows2 w gc oc c) (hc : Cells w g o st) :
    Calls Try.prog 19 #[(Value.slice (some ⟨gc, oc, none⟩) n cc), (Value.slice (some ⟨g, o, none⟩) m cp), .int .i64 i] w (GotIntsB w ((nextM c st i).getD []) (nextM c st i).isSome) := by
  subst hn; subst hm
  have hcall := impl_newAutomaton_any gc oc _ cc c w rfl hx hrl hgc hr
  have Hcall := Lib.hid hcall; have Hcl := Lib.hid hc
  clear hcall hr hc hrl
  have HN : Hid (nextM c st i = if smallAB c = true ∧ (0 ≤ i ∧ i < (c.length : Int)) ∧ fineB (smallA c).length (-1) st = true then nextR c (smallA c) i.toNat st else none) := rfl
  generalize nextM c st i = R at *
  go_enter Try.func19, Try.ntmps19
  go_wp2_with fail
  refine Hcall.out.mono ?_
  intro e w1 hp
  rcases hp with ⟨hAB, rfl, hb1⟩ | ⟨hC, hAB, hok, gR, cR, gM, cM, rfl, hAR, hb1⟩
  · have hv : R = none := by rw [HN.out, hAB]; exact if_neg (by simp)
    have Hv := Lib.hid hv
    have hb2 : Below w.heap.size w (w1.alloc (.cells #[.slice none 0 0, .slice none 0 0, .slice none 0 0] 50)) := hb1.alloc hb1.size _
    clear hAB hv HN Hcall hb1
    go_wp2_with fail
    go_ret2
    refine GotIntsB.none Hv.out ?_
    have h := GotIntsB.nil hb2
    simpa using h
  · have hn4 := hC.2.1
    have hS40 := hok.len
    generalize smallA c = S at *
    have hbA := (Below.refl w1.heap.size w1).alloc (Nat.le_refl _) (.cells #[(Value.slice (some ⟨gc, oc, none⟩) c.length cc), (Value.slice (some ⟨gR, 0, none⟩) S.length cR), (Value.slice (some ⟨gM, 0, none⟩) S.length cM)] 50)
    have hA2 := hAR.below hbA
    have hb2 := hb1.trans (hbA.mono hb1.size)
    have h92 : Hid ((w1.alloc (.cells #[(Value.slice (some ⟨gc, oc, none⟩) c.length cc), (Value.slice (some ⟨gR, 0, none⟩) S.length cR), (Value.slice (some ⟨gM, 0, none⟩) S.length cM)] 50)).heap[w1.heap.size]? = some (.cells #[(Value.slice (some ⟨gc, oc, none⟩) c.length cc), (Value.slice (some ⟨gR, 0, none⟩) S.length cR), (Value.slice (some ⟨gM, 0, none⟩) S.length cM)] 50 (0, 0))) := heap_alloc_new _ _
    have hone := fun W => impl_isPoint_any gc oc c.length cc i W
    clear hAR hbA Hcall
    by_cases hi : 0 ≤ i ∧ i < (c.length : Int)
    · have hT : (decide (0 ≤ i) && decide (i < (c.length : Int))) = true := by simpa using hi
      rw [hT] at hone
      obtain ⟨j, rfl⟩ : ∃ j : Nat, i = (j : Int) := ⟨_, (Int.toNat_of_nonneg hi.1).symm⟩
      have hjl : j < c.length := by omega
      have hvv : fineB S.length (-1) st = true → R = nextR c S j st := fun hf => by rw [HN.out, if_pos ⟨hAB, hi, hf⟩, Int.toNat_natCast]
      have hvn : fineB S.length (-1) st = false → R = none := fun hf => by rw [HN.out]; exact if_neg (fun h => by rw [hf] at h; exact absurd h.2.2 (by simp))
      have Hvv := Lib.hid hvv; have Hvn := Lib.hid hvn; have Hone := Lib.hid hone
      clear hvv hvn hone hT hi HN hAB
      go_wp2_with fail
      refine (Hone.out _).mono ?_
      generalize w1.alloc (.cells #[(Value.slice (some ⟨gc, oc, none⟩) c.length cc), (Value.slice (some ⟨gR, 0, none⟩) S.length cR), (Value.slice (some ⟨gM, 0, none⟩) S.length cM)] 50) = w2 at *
      rintro e w3 ⟨rfl, hs3⟩
      have hb3 := below_still hb2 hs3
      have hA3 : AutR w3 c S gR gM := by obtain ⟨q, rfl⟩ := hs3; exact ⟨hA2.lR, hA2.lM, hA2.hR, hA2.hM⟩
      have h93 : Hid (w3.heap[w1.heap.size]? = some (.cells #[(Value.slice (some ⟨gc, oc, none⟩) c.length cc), (Value.slice (some ⟨gR, 0, none⟩) S.length cR), (Value.slice (some ⟨gM, 0, none⟩) S.length cM)] 50 (0, 0))) := by obtain ⟨q, rfl⟩ := hs3; exact h92.out
      clear hs3 hb2 hA2 h92 Hone
      generalize w1.heap.size = b9 at *
      obtain ⟨z0, z1, z2⟩ := cell3 h93.out
      have hfine := impl_isState_any gR 0 S.length cR g o _ cp S.length cM (Value.slice (some ⟨gc, oc, none⟩) c.length cc) (some ⟨gc, oc, none⟩) (some ⟨gM, 0, none⟩) c.length cc rfl st w3 rfl hl (Nat.lt_of_lt_of_le hg hb3.size) (Hcl.out.below hb3 hg)
      cases hf : fineB S.length (-1) st
      · rw [hf] at hfine
        have hv := Hvn.out hf
        have Hv := Lib.hid hv; have Hfine := Lib.hid hfine
        clear hv hfine hf Hvv Hvn hA3
        go_wp2_with fail
        refine Hfine.out.mono ?_
        rintro e w4 ⟨rfl, hb4⟩
        have hB4 := hb3.trans (hb4.mono hb3.size)
        go_wp2_with fail
        go_ret2
        exact GotIntsB.none Hv.out (GotIntsB.nil hB4)
      · rw [hf] at hfine
        have hv := Hvv.out hf
        have hst := fineB_fine hf
        have Hv := Lib.hid hv; have Hfine := Lib.hid hfine
        clear hv hfine hf Hvv Hvn
        go_wp2_with fail
        refine Hfine.out.mono ?_
        rintro e w4 ⟨rfl, hb4⟩
        have hB4 := hb3.trans (hb4.mono hb3.size)
        have hA4 := hA3.below hb4
        obtain ⟨y0, y1, y2⟩ := cell3 ((hb4.block _ (box_lt h93.out)).trans h93.out)
        have hnx := impl_next_any gc oc _ cc gR cR _ gM _ cM j g o _ cp c S st w4 rfl rfl rfl rfl hok hst hn4 hjl hA4.lR hA4.lM (Nat.lt_of_lt_of_le hg hB4.size) hA4.hR hA4.hM (Hcl.out.below hB4 hg)
        have Hnx := Lib.hid hnx
        clear hnx hb4 hb3 hA3 hA4 h93 z0 z1 z2 Hfine
        go_wp2_with fail
        refine Hnx.out.mono ?_
        intro e w5 hp
        rcases hp with ⟨hR, rfl, hb5⟩ | ⟨st', hR, g5, c5, rfl, ho5, hb5⟩
        · have hv := Hv.out.trans hR
          have Hv2 := Lib.hid hv
          have hB5 := hB4.trans (hb5.mono hB4.size)
          clear hR hv Hnx
          go_wp2_with fail
          go_ret2
          exact GotIntsB.none Hv2.out (GotIntsB.nil hB5)
        · have hv := Hv.out.trans hR
          have Hv2 := Lib.hid hv
          have hB5 := hB4.trans (hb5.mono hB4.size)
          have hO5 := ho5.mono hB4.size
          clear hR hv Hnx ho5 hb5
          go_wp2_with fail
          go_ret2
          exact GotIntsB.some' Hv2.out ⟨g5, c5, rfl, hO5, hB5⟩
    · have hT : (decide (0 ≤ i) && decide (i < (c.length : Int))) = false := by
        rw [← Bool.not_eq_true, Bool.and_eq_true, decide_eq_true_eq, decide_eq_true_eq]; exact hi
      rw [hT] at hone
      have Hone := Lib.hid hone
      have hv : R = none := by rw [HN.out]; exact if_neg (fun h => hi h.2.1)
      have Hv := Lib.hid hv
      clear hv hone hT HN hAB hi
      go_wp2_with fail
      refine (Hone.out _).mono ?_
      generalize w1.alloc (.cells #[(Value.slice (some ⟨gc, oc, none⟩) c.length cc), (Value.slice (some ⟨gR, 0, none⟩) S.length cR), (Value.slice (some ⟨gM, 0, none⟩) S.length cM)] 50) = w2 at *
      rintro e w3 ⟨rfl, hs3⟩
      have hb3 := below_still hb2 hs3
      clear hs3 h92 hA2
      go_wp2_with fail
      go_ret2
      exact GotIntsB.none Hv.out (GotIntsB.nil hb3)
end Go.Proofs.Ytmplcohpinghbaa
