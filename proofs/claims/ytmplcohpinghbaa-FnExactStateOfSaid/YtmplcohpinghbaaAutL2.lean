/- ReadsReduced, StateOf, NextState: contracts. -/
import Derived.Test.YtmplcohpinghbaaAutL
namespace Go.Proofs.Ytmplcohpinghbaa
open Go.RowKit Game

set_option maxHeartbeats 4000000 in
theorem impl_read_any (gc oc n cc g o m cp : Nat) (c : List (List Int)) (l : List Int) (w : World) (hn : c.length = n) (hm : l.length = m) (hx : c.length ≤ 1048576) (hrl : ∀ j, j < c.length → (c.getD j []).length ≤ 1048576) (hl : l.length ≤ 1048576) (hgc : gc < w.heap.size) (hg : g < w.heap.size) (hr : Rows2 w gc oc c) (hc : Cells w g o l) :
    Calls Try.prog 36 #[(Value.slice (some ⟨gc, oc, none⟩) n cc), (Value.slice (some ⟨g, o, none⟩) m cp)] w (WalkPost w (readM c l)) := by
  subst hn; subst hm
  have hcall := impl_newAutomaton_any gc oc _ cc c w rfl hx hrl hgc hr
  have hword := fun W (hW : Below w.heap.size w W) => impl_IsWord_any gc oc _ cc g o _ cp c l W rfl rfl hx hrl hl (hr.below hW hgc) (hc.below hW hg)
  have Hcall := Lib.hid hcall
  have Hcl := Lib.hid hc
  have hRM : Hid (readM c l = if smallAB c = true ∧ isWordB c l = true then walkL c (smallA c) [] l else none) := rfl
  generalize readM c l = R at *
  clear hcall hrl hr hc
  go_enter Try.func36, Try.ntmps36
  go_wp2_with fail
  refine Hcall.out.mono ?_
  intro e w1 hp
  rcases hp with ⟨hAB, rfl, hb1⟩ | ⟨hC, hAB, hok, gR, cR, gM, cM, rfl, hAR, hb1⟩
  · have hv : R = none := by rw [hRM.out, hAB]; exact if_neg (by simp)
    have Hv := Lib.hid hv
    have hb2 : Below w.heap.size w (w1.alloc (.cells #[.slice none 0 0, .slice none 0 0, .slice none 0 0] 50)) := hb1.alloc hb1.size _
    clear hAB hv hRM Hcall hword hb1
    go_wp2_with fail
    go_ret2
    refine .inl ⟨Hv.out, ?_⟩
    have h := GotIntsB.nil hb2
    simpa using h
  · have hn4 := hC.2.1
    have hS40 := hok.len
    generalize smallA c = S at *
    generalize gR = gR at *
    have hbA := (Below.refl w1.heap.size w1).alloc (Nat.le_refl _) (.cells #[(Value.slice (some ⟨gc, oc, none⟩) c.length cc), (Value.slice (some ⟨gR, 0, none⟩) S.length cR), (Value.slice (some ⟨gM, 0, none⟩) S.length cM)] 50)
    have hA2 := hAR.below hbA
    have hb2 := hb1.trans (hbA.mono hb1.size)
    have h92 : Hid ((w1.alloc (.cells #[(Value.slice (some ⟨gc, oc, none⟩) c.length cc), (Value.slice (some ⟨gR, 0, none⟩) S.length cR), (Value.slice (some ⟨gM, 0, none⟩) S.length cM)] 50)).heap[w1.heap.size]? = some (.cells #[(Value.slice (some ⟨gc, oc, none⟩) c.length cc), (Value.slice (some ⟨gR, 0, none⟩) S.length cR), (Value.slice (some ⟨gM, 0, none⟩) S.length cM)] 50 (0, 0))) := heap_alloc_new _ _
    have hw2 := hword _ hb2
    clear hAR hbA Hcall hword
    by_cases hW : isWordB c l = true
    · have hv : walkL c S [] l = R := by rw [hRM.out]; exact (if_pos ⟨hAB, hW⟩).symm
      rw [hW] at hw2
      have Hw2 := Lib.hid hw2; have Hv := Lib.hid hv
      have hlet := (isWordB_of hW).2.2
      have Hlet := Lib.hid hlet
      clear hw2 hv hW hRM hAB hlet
      go_wp2_with fail
      refine Hw2.out.mono ?_
      have hb9 : Below w1.heap.size w1 (w1.alloc (.cells #[(Value.slice (some ⟨gc, oc, none⟩) c.length cc), (Value.slice (some ⟨gR, 0, none⟩) S.length cR), (Value.slice (some ⟨gM, 0, none⟩) S.length cM)] 50)) := (Below.refl _ _).alloc (Nat.le_refl _) _
      generalize w1.alloc (.cells #[(Value.slice (some ⟨gc, oc, none⟩) c.length cc), (Value.slice (some ⟨gR, 0, none⟩) S.length cR), (Value.slice (some ⟨gM, 0, none⟩) S.length cM)] 50) = w2 at *
      rintro e w3 ⟨rfl, hs3⟩
      have hb3 := below_still hb2 hs3
      have hA3 : AutR w3 c S gR gM := by obtain ⟨q, rfl⟩ := hs3; exact ⟨hA2.lR, hA2.lM, hA2.hR, hA2.hM⟩
      have h93 : Hid (w3.heap[w1.heap.size]? = some (.cells #[(Value.slice (some ⟨gc, oc, none⟩) c.length cc), (Value.slice (some ⟨gR, 0, none⟩) S.length cR), (Value.slice (some ⟨gM, 0, none⟩) S.length cM)] 50 (0, 0))) := by obtain ⟨q, rfl⟩ := hs3; exact h92.out
      clear hs3 hb2 hA2 h92 Hw2 hb9
      generalize w1.heap.size = b9 at *
      go_wp2_with fail
      have hbE : Below w3.heap.size w3 (w3.alloc (.cells #[] 3)) := (Below.refl _ _).alloc (Nat.le_refl _) _
      have hO0 : Own (w3.alloc (.cells #[] 3)) w3.heap.size w3.heap.size 0 [] := Own.empty (Nat.le_refl _)
      go_loopw [8, 28] (fun sv kv wr => ∃ (k a g2 c2 : Nat) (st : List Int), k ≤ l.length ∧ kv = .int .i64 k ∧ sv = (Value.slice (some ⟨g2, 0, none⟩) a c2) ∧ Hid (st.length = a) ∧ Hid (FineS S.length st) ∧ Hid (walkL c S st (l.drop k) = R) ∧ Own wr w3.heap.size g2 c2 st ∧ Below w3.heap.size w3 wr) (fun _ kv _ => l.length - (intOf kv).toNat)
      case atStart => exact ⟨0, 0, _, 0, [], Nat.zero_le _, rfl, rfl, rfl, FineS.nil _, Hv.out, hO0, hbE⟩
      case round =>
        clear hbE hO0
        obtain ⟨k, a, g2, c2, st, hk, rfl, rfl, ha, hst, hwk, ho, hb⟩ := hrel
        have hB := hb3.trans (hb.mono hb3.size)
        by_cases hlt : k < l.length
        · have q1 := (hB.cell (p := ⟨g, o + k, none⟩) hg).trans (Hcl.out k hlt)
          obtain ⟨hy0, hy1⟩ := Hlet.out (l.getD k 0) (by simp [List.getD, hlt])
          have hwd := walkL_drop (c := c) (S := S) (st := st) hlt
          obtain ⟨i, hi⟩ : ∃ i : Nat, l.getD k 0 = (i : Int) := ⟨_, (Int.toNat_of_nonneg hy0).symm⟩
          rw [hi] at q1 hwd hy1
          rw [Int.toNat_natCast] at hwd
          have hil : i < c.length := by omega
          obtain ⟨z0, z1, z2⟩ := cell3 ((hb.block _ (box_lt h93.out)).trans h93.out)
          have hA := hA3.below hb
          have hcall := impl_next_any gc oc _ cc gR cR _ gM _ cM i g2 0 a c2 c S st wr rfl rfl rfl ha.out hok hst.out hn4 hil hA.lR hA.lM ho.lt hA.hR hA.hM ho.cells
          have hno : ∀ st', nextR c S i st = some st' → st' = nextL c S i st ∧ walkL c S st' (l.drop (k + 1)) = R := fun st' h => by
            unfold nextR at h
            split at h
            · cases h
            · rename_i h2
              cases h
              exact ⟨rfl, by rw [← hwk.out, hwd, if_neg h2]⟩
          have hin : nextR c S i st = none → R = none := fun h => by
            unfold nextR at h
            split at h
            · rename_i h2
              rw [← hwk.out, hwd, if_pos h2]
            · cases h
          have Hcall := Lib.hid hcall; have Hno := Lib.hid hno; have Hin := Lib.hid hin
          clear hcall hno hin hwd hi hy0 hy1 hA
          go_wp2_with fail
          refine Hcall.out.mono ?_
          intro e w4 hp
          rcases hp with ⟨hR, rfl, hb4⟩ | ⟨st', hR, g4, c4, rfl, ho4, hb4⟩
          · have hv := Hin.out hR
            have Hv2 := Lib.hid hv
            have hB4 := hB.trans (hb4.mono hB.size)
            clear hR hv Hcall
            go_wp2_with fail
            go_ret2
            exact .inl ⟨Hv2.out, GotIntsB.nil hB4⟩
          · obtain ⟨e1, e2⟩ := Hno.out st' hR
            have hfn : FineS S.length st' := by rw [e1]; exact nextL_fine (hok.simp' i hil)
            obtain ⟨b, hbl⟩ : ∃ b, st'.length = b := ⟨_, rfl⟩
            rw [hbl]
            have Hbl := Lib.hid hbl; have E2 := Lib.hid e2; have Hfn := Lib.hid hfn
            have hO4 := ho4.mono hb.size
            have hB4 := hb.trans (hb4.mono hb.size)
            clear hbl e1 e2 hfn hR ho4 hb4 Hcall z0 z1 z2
            go_wp2_with fail
            go_roundw
            case rel => exact ⟨k + 1, b, g4, c4, st', by omega, by go_num, rfl, Hbl.out, Hfn.out, E2.out, hO4, hB4⟩
            case measure => simp [intOf]; omega
        · obtain rfl : k = l.length := by omega
          have hd := hwk.out
          rw [List.drop_length] at hd
          have Hd : Hid (R = some st) := hd.symm
          clear hd
          go_wp2
          go_ret2
          exact .inr ⟨st, Hd.out, GotIntsB.mk' g2 c2 ha.out (ho.mono hb3.size) hB⟩
    · have hWf : isWordB c l = false := by simpa using hW
      have hv : R = none := by rw [hRM.out, hWf]; exact if_neg (by simp)
      rw [hWf] at hw2
      have Hw2 := Lib.hid hw2; have Hv := Lib.hid hv
      clear hw2 hv hW hRM hAB hWf
      go_wp2_with fail
      refine Hw2.out.mono ?_
      generalize w1.alloc (.cells #[(Value.slice (some ⟨gc, oc, none⟩) c.length cc), (Value.slice (some ⟨gR, 0, none⟩) S.length cR), (Value.slice (some ⟨gM, 0, none⟩) S.length cM)] 50) = w2 at *
      rintro e w3 ⟨rfl, hs3⟩
      have hb3 := below_still hb2 hs3
      clear hs3 hA2 h92
      go_wp2_with fail
      go_ret2
      exact .inl ⟨Hv.out, GotIntsB.nil hb3⟩

set_option maxHeartbeats 1000000 in
theorem impl_ReadsReduced_any (gc oc n cc g o m cp : Nat) (c : List (List Int)) (l : List Int) (w : World) (hn : c.length = n) (hm : l.length = m) (hx : c.length ≤ 1048576) (hrl : ∀ j, j < c.length → (c.getD j []).length ≤ 1048576) (hl : l.length ≤ 1048576) (hgc : gc < w.heap.size) (hg : g < w.heap.size) (hr : Rows2 w gc oc c) (hc : Cells w g o l) :
    Calls Try.prog 16 #[(Value.slice (some ⟨gc, oc, none⟩) n cc), (Value.slice (some ⟨g, o, none⟩) m cp)] w (Gives w (.bool (readM c l).isSome)) := by
  have hcall := impl_read_any gc oc n cc g o m cp c l w hn hm hx hrl hl hgc hg hr hc
  have Hcall := Lib.hid hcall
  generalize readM c l = R at *
  clear hcall hr hc hrl hn hm
  go_enter Try.func16, Try.ntmps16
  go_wp2_with fail
  refine Hcall.out.mono ?_
  intro e w3 hp
  rcases hp with ⟨rfl, g3, c3, rfl, -, hb3⟩ | ⟨st, rfl, g3, c3, rfl, -, hb3⟩
  all_goals
    go_wp2_with fail
    go_ret
    exact ⟨rfl, hb3⟩
set_option maxHeartbeats 1000000 in
theorem impl_StateOf_any (gc oc n cc g o m cp : Nat) (c : List (List Int)) (l : List Int) (w : World) (hn : c.length = n) (hm : l.length = m) (hx : c.length ≤ 1048576) (hrl : ∀ j, j < c.length → (c.getD j []).length ≤ 1048576) (hl : l.length ≤ 1048576) (hgc : gc < w.heap.size) (hg : g < w.heap.size) (hr : Rows2 w gc oc c) (hc : Cells w g o l) :
    Calls Try.prog 23 #[(Value.slice (some ⟨gc, oc, none⟩) n cc), (Value.slice (some ⟨g, o, none⟩) m cp)] w (GotInts w ((readM c l).getD [])) := by
  have hcall := impl_read_any gc oc n cc g o m cp c l w hn hm hx hrl hl hgc hg hr hc
  have Hcall := Lib.hid hcall
  generalize readM c l = R at *
  clear hcall hr hc hrl hn hm
  go_enter Try.func23, Try.ntmps23
  go_wp2_with fail
  refine Hcall.out.mono ?_
  intro e w3 hp
  rcases hp with ⟨rfl, g3, c3, rfl, ho3, hb3⟩ | ⟨st, rfl, g3, c3, rfl, ho3, hb3⟩
  all_goals
    go_wp2_with fail
    go_ret
    exact ⟨g3, c3, rfl, ho3, hb3⟩
end Go.Proofs.Ytmplcohpinghbaa
