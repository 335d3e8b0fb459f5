/- ReadsReduced, StateOf, NextState of both: contracts. -/
import Derived.Test.YtmplcohpinghbaaAutM
import Derived.Test.YtmplcohpinghbaaAutS3
import Derived.Test.YtmplcohpinghbaaWord
namespace Go.Proofs.Ytmplcohpinghbaa
open Go.RowKit Game

/-- the state behind a word; none if it is not read -/
def readM (c : List (List Int)) (l : List Int) : Option (List Int) := if smallAB c = true ∧ isWordB c l = true then walkL c (smallA c) [] l else none
def nextM (c : List (List Int)) (st : List Int) (i : Int) : Option (List Int) :=
  if smallAB c = true ∧ (0 ≤ i ∧ i < (c.length : Int)) ∧ fineB (smallA c).length (-1) st = true then nextR c (smallA c) i.toNat st else none
theorem GotIntsB.up {w w1 w' : World} {xs : List Int} {b : Bool} {e : Ending} (h : GotIntsB w1 xs b e w') (hb : Below w.heap.size w w1) : GotIntsB w xs b e w' := by
  obtain ⟨g, cap, he, ho, hb2⟩ := h
  exact ⟨g, cap, he, ho.mono hb.size, hb.trans (hb2.mono hb.size)⟩
theorem GotIntsB.nil {w w' : World} (hb : Below w.heap.size w w') : GotIntsB w [] false (.returned (.tuple #[(Value.slice (some ⟨w'.heap.size, 0, none⟩) 0 0), .bool false])) (w'.alloc (.cells #[] 3)) :=
  GotIntsB.mk' (n := 0) w'.heap.size 0 rfl (Own.empty hb.size) (hb.alloc hb.size _)
theorem GotInts.nil {w w' : World} (hb : Below w.heap.size w w') : GotInts w [] (.returned (Value.slice (some ⟨w'.heap.size, 0, none⟩) 0 0)) (w'.alloc (.cells #[] 3)) :=
  GotInts.mk' (n := 0) w'.heap.size 0 rfl (Own.empty hb.size) (hb.alloc hb.size _)
theorem walkL_fine {c S : List (List Int)} (hS : SmallOk c S) : ∀ (l st R : List Int), (∀ x ∈ l, 0 ≤ x ∧ x < (c.length : Int)) → FineS S.length st → walkL c S st l = some R → FineS S.length R
  | [], st, R, _, h, e => by simp only [walkL] at e; cases e; exact h
  | i :: l, st, R, hw, h, e => by
    simp only [walkL] at e
    split at e
    · cases e
    · have hi := hw i (by simp)
      exact walkL_fine hS l _ R (fun x hx => hw x (List.mem_cons_of_mem _ hx)) (nextL_fine (hS.simp' i.toNat (by omega))) e
theorem readM_len (c : List (List Int)) (l : List Int) : ((readM c l).getD []).length ≤ 40 := by
  unfold readM
  split
  · rename_i h
    rcases smallA_cases c with ⟨h1, -⟩ | ⟨-, -, hok⟩
    · rw [h1] at h; exact absurd h.1 (by simp)
    · cases hR : walkL c (smallA c) [] l with
      | none => simp
      | some R =>
        have := (walkL_fine hok l [] R (isWordB_of h.2).2.2 (FineS.nil _) hR).len
        have := hok.len
        simp; omega
  · simp
theorem nextM_len (c : List (List Int)) (st : List Int) (i : Int) : ((nextM c st i).getD []).length ≤ 40 := by
  unfold nextM
  split
  · rename_i h
    rcases smallA_cases c with ⟨h1, -⟩ | ⟨-, -, hok⟩
    · rw [h1] at h; exact absurd h.1 (by simp)
    · unfold nextR
      split
      · simp
      · have := (nextL_fine (st := st) (hok.simp' i.toNat (by omega))).len
        have := hok.len
        simp; omega
  · simp

set_option maxHeartbeats 1000000 in
theorem spec_ReadsReduced_any (gc oc n cc g o m cp : Nat) (c : List (List Int)) (l : List Int) (w : World) (hn : c.length = n) (hm : l.length = m) (hx : c.length ≤ 1048576) (hrl : ∀ j, j < c.length → (c.getD j []).length ≤ 1048576) (hl : l.length ≤ 1048576) (hgc : gc < w.heap.size) (hg : g < w.heap.size) (hr : Rows2 w gc oc c) (hc : Cells w g o l) :
    Calls Try.prog 14 #[(Value.slice (some ⟨gc, oc, none⟩) n cc), (Value.slice (some ⟨g, o, none⟩) m cp)] w (Gives w (.bool (readM c l).isSome)) := by
  subst hn; subst hm
  have hcall := spec_SmallRoots_any gc oc _ cc c w rfl hx hrl hgc hr
  have hword := fun W (hW : Below w.heap.size w W) => spec_IsWord_any gc oc _ cc g o _ cp c l W rfl rfl hx hrl hl (hr.below hW hgc) (hc.below hW hg)
  rcases smallA_cases c with ⟨hAB, hS⟩ | ⟨hC, hAB, hok⟩
  · have hv : readM c l = none := by unfold readM; rw [hAB]; exact if_neg (by simp)
    rw [hAB, hS] at hcall
    rw [hv]
    have Hcall := Lib.hid hcall
    clear hcall hword hv hrl hr hc hAB hS
    go_enter Try.func14, Try.ntmps14
    go_wp2_with fail
    refine Hcall.out.mono ?_
    rintro e w1 ⟨gR, cR, rsR, rfl, -, -, hb1⟩
    go_wp2_with fail
    go_ret
    exact ⟨rfl, hb1⟩
  · rw [hAB] at hcall
    by_cases hW : isWordB c l = true
    · have hv : readM c l = walkL c (smallA c) [] l := by unfold readM; exact if_pos ⟨hAB, hW⟩
      rw [hW] at hword
      rw [hv]
      have hwalk := fun (W : World) (gs cs : Nat) (hB : Below w.heap.size w W) (hgs : gs < W.heap.size) (hs : Rows2 W gs 0 (smallA c)) => spec_l32Walk_any gc oc _ cc gs 0 _ cs g o _ cp c (smallA c) l W rfl rfl rfl hC hok hl (isWordB_of hW).2.2 (Nat.lt_of_lt_of_le hgc hB.size) hgs (Nat.lt_of_lt_of_le hg hB.size) (hr.below hB hgc) hs (hc.below hB hg)
      generalize smallA c = S at *
      generalize walkL c S [] l = R at *
      have Hcall := Lib.hid hcall; have Hword := Lib.hid hword; have Hwalk := Lib.hid hwalk
      clear hcall hword hv hrl hr hc hAB hwalk hW
      go_enter Try.func14, Try.ntmps14
      go_wp2_with fail
      refine Hcall.out.mono ?_
      rintro e w1 ⟨gR, cR, rsR, rfl, hcon, hO, hb1⟩
      have Hcon := Lib.hid hcon
      clear hcon
      go_wp2_with fail
      refine (Hword.out w1 hb1).mono ?_
      rintro e w2 ⟨rfl, hs2⟩
      have hb2 := below_still hb1 hs2
      have hO2 := hO.still hs2
      clear hs2 hO hb1
      go_wp2_with fail
      refine (Hwalk.out w2 gR cR hb2 hO2.lt (by have := hO2.rows2; rw [Hcon.out] at this; exact this)).mono ?_
      intro e w3 hp
      rcases hp with ⟨rfl, g3, c3, rfl, -, hb3⟩ | ⟨st, rfl, g3, c3, rfl, -, hb3⟩
      all_goals
        have hB := hb2.trans (hb3.mono hb2.size)
        go_wp2_with fail
        go_ret
        exact ⟨rfl, hB⟩
    · have hWf : isWordB c l = false := by simpa using hW
      have hv : readM c l = none := by unfold readM; rw [hWf]; exact if_neg (by simp)
      rw [hWf] at hword
      rw [hv]
      generalize smallA c = S at *
      have Hcall := Lib.hid hcall; have Hword := Lib.hid hword
      clear hcall hword hv hrl hr hc hAB hW hWf
      go_enter Try.func14, Try.ntmps14
      go_wp2_with fail
      refine Hcall.out.mono ?_
      rintro e w1 ⟨gR, cR, rsR, rfl, hcon, hO, hb1⟩
      have Hcon := Lib.hid hcon
      clear hcon
      go_wp2_with fail
      refine (Hword.out w1 hb1).mono ?_
      rintro e w2 ⟨rfl, hs2⟩
      have hb2 := below_still hb1 hs2
      clear hs2 hO hb1
      go_wp2_with fail
      go_ret
      exact ⟨rfl, hb2⟩
set_option maxHeartbeats 1000000 in
theorem spec_StateOf_any (gc oc n cc g o m cp : Nat) (c : List (List Int)) (l : List Int) (w : World) (hn : c.length = n) (hm : l.length = m) (hx : c.length ≤ 1048576) (hrl : ∀ j, j < c.length → (c.getD j []).length ≤ 1048576) (hl : l.length ≤ 1048576) (hgc : gc < w.heap.size) (hg : g < w.heap.size) (hr : Rows2 w gc oc c) (hc : Cells w g o l) :
    Calls Try.prog 22 #[(Value.slice (some ⟨gc, oc, none⟩) n cc), (Value.slice (some ⟨g, o, none⟩) m cp)] w (GotInts w ((readM c l).getD [])) := by
  subst hn; subst hm
  have hcall := spec_SmallRoots_any gc oc _ cc c w rfl hx hrl hgc hr
  have hword := fun W (hW : Below w.heap.size w W) => spec_IsWord_any gc oc _ cc g o _ cp c l W rfl rfl hx hrl hl (hr.below hW hgc) (hc.below hW hg)
  rcases smallA_cases c with ⟨hAB, hS⟩ | ⟨hC, hAB, hok⟩
  · have hv : readM c l = none := by unfold readM; rw [hAB]; exact if_neg (by simp)
    rw [hAB, hS] at hcall
    rw [hv]
    have Hcall := Lib.hid hcall
    clear hcall hword hv hrl hr hc hAB hS
    go_enter Try.func22, Try.ntmps22
    go_wp2_with fail
    refine Hcall.out.mono ?_
    rintro e w1 ⟨gR, cR, rsR, rfl, -, -, hb1⟩
    go_wp2_with fail
    go_ret
    exact GotInts.nil hb1
  · rw [hAB] at hcall
    by_cases hW : isWordB c l = true
    · have hv : readM c l = walkL c (smallA c) [] l := by unfold readM; exact if_pos ⟨hAB, hW⟩
      rw [hW] at hword
      rw [hv]
      have hwalk := fun (W : World) (gs cs : Nat) (hB : Below w.heap.size w W) (hgs : gs < W.heap.size) (hs : Rows2 W gs 0 (smallA c)) => spec_l32Walk_any gc oc _ cc gs 0 _ cs g o _ cp c (smallA c) l W rfl rfl rfl hC hok hl (isWordB_of hW).2.2 (Nat.lt_of_lt_of_le hgc hB.size) hgs (Nat.lt_of_lt_of_le hg hB.size) (hr.below hB hgc) hs (hc.below hB hg)
      generalize smallA c = S at *
      generalize walkL c S [] l = R at *
      have Hcall := Lib.hid hcall; have Hword := Lib.hid hword; have Hwalk := Lib.hid hwalk
      clear hcall hword hv hrl hr hc hAB hwalk hW
      go_enter Try.func22, Try.ntmps22
      go_wp2_with fail
      refine Hcall.out.mono ?_
      rintro e w1 ⟨gR, cR, rsR, rfl, hcon, hO, hb1⟩
      have Hcon := Lib.hid hcon
      clear hcon
      go_wp2_with fail
      refine (Hword.out w1 hb1).mono ?_
      rintro e w2 ⟨rfl, hs2⟩
      have hb2 := below_still hb1 hs2
      have hO2 := hO.still hs2
      clear hs2 hO hb1
      go_wp2_with fail
      refine (Hwalk.out w2 gR cR hb2 hO2.lt (by have := hO2.rows2; rw [Hcon.out] at this; exact this)).mono ?_
      intro e w3 hp
      rcases hp with ⟨rfl, g3, c3, rfl, ho3, hb3⟩ | ⟨st, rfl, g3, c3, rfl, ho3, hb3⟩
      all_goals
        have hB := hb2.trans (hb3.mono hb2.size)
        have hO3 := ho3.mono hb2.size
        clear ho3
        go_wp2_with fail
        go_ret
        exact ⟨g3, c3, rfl, hO3, hB⟩
    · have hWf : isWordB c l = false := by simpa using hW
      have hv : readM c l = none := by unfold readM; rw [hWf]; exact if_neg (by simp)
      rw [hWf] at hword
      rw [hv]
      generalize smallA c = S at *
      have Hcall := Lib.hid hcall; have Hword := Lib.hid hword
      clear hcall hword hv hrl hr hc hAB hW hWf
      go_enter Try.func22, Try.ntmps22
      go_wp2_with fail
      refine Hcall.out.mono ?_
      rintro e w1 ⟨gR, cR, rsR, rfl, hcon, hO, hb1⟩
      have Hcon := Lib.hid hcon
      clear hcon
      go_wp2_with fail
      refine (Hword.out w1 hb1).mono ?_
      rintro e w2 ⟨rfl, hs2⟩
      have hb2 := below_still hb1 hs2
      clear hs2 hO hb1
      go_wp2_with fail
      go_ret
      exact GotInts.nil hb2
end Go.Proofs.Ytmplcohpinghbaa
