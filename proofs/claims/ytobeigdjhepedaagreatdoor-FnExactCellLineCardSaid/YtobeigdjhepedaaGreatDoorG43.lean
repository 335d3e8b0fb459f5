/- Left descents of the reference: contract. Groups of at most 24 elements: what the kernel has found, in words; arrows and cells. Plain law. Elements of any group, their numbers by length: contracts of both. A map from written words to bool: the words that a search has met. -/
import Derived.Test.YtobeigdjhepedaaGreatDoorG24
import Derived.Test.YtobeigdjhepedaaGreatDoorG32
import Derived.Test.YtobeigdjhepedaaGreatDoorG42
import Derived.Test.YtobeigdjhepedaaGreatDoorG33
import Derived.Test.YtobeigdjhepedaaGreatDoorG39
import Derived.Test.YtobeigdjhepedaaGreatDoorG30
import Derived.Test.YtobeigdjhepedaaGreatDoorG13
import Derived.Test.YtobeigdjhepedaaGreatDoorG07
namespace Go.Proofs.YtobeigdjhepedaaGreatDoor
set_option maxRecDepth 100000
open Go.RowKit Game

def desTo (v : List Int) (k : Nat) : List Int := ((List.range k).filter fun i => decide (v.getD i 0 < 0)).map fun i : Nat => (i : Int)
def descI (v : List Int) : List Int := desTo v v.length
theorem desTo_yes {v : List Int} {k : Nat} (h : v.getD k 0 < 0) : desTo v (k + 1) = desTo v k ++ [(k : Int)] := by
  unfold desTo
  rw [List.range_succ, List.filter_append, List.map_append]
  simp only [List.filter_cons, List.filter_nil]
  rw [if_pos (by simpa using h)]
  rfl
theorem desTo_no {v : List Int} {k : Nat} (h : ¬ v.getD k 0 < 0) : desTo v (k + 1) = desTo v k := by
  unfold desTo
  rw [List.range_succ, List.filter_append, List.map_append]
  simp only [List.filter_cons, List.filter_nil]
  rw [if_neg (by simpa using h)]
  simp
theorem desTo_len (v : List Int) (k : Nat) : (desTo v k).length ≤ k := by
  unfold desTo
  rw [List.length_map]
  exact Nat.le_trans (List.length_filter_le _ _) (by simp)

def leftA (c : List (List Int)) (v : List Int) : List Int := if isWordB c v = true then descI (imI c v) else []
theorem leftA_word {c : List (List Int)} {v : List Int} (h : isWordB c v = true) : leftA c v = descI (imI c v) := if_pos h
theorem leftA_not {c : List (List Int)} {v : List Int} (h : isWordB c v = false) : leftA c v = [] := if_neg (by rw [h]; decide)

set_option maxHeartbeats 1000000 in
theorem spec_LeftDescents_any (gc oc n cc g o m cp : Nat) (c : List (List Int)) (v : List Int) (w : World) (hn : c.length = n) (hm : v.length = m) (hx : c.length ≤ 1048576) (hrl : ∀ j, j < c.length → (c.getD j []).length ≤ 1048576) (hl : v.length ≤ 1048576)
    (hgc : gc < w.heap.size) (hg : g < w.heap.size) (hr : Rows2 w gc oc c) (hv : Cells w g o v) :
    Calls Tryz.prog 79 #[(Value.slice (some ⟨gc, oc, none⟩) n cc), (Value.slice (some ⟨g, o, none⟩) m cp)] w (GotInts w (leftA c v)) := by
  have hX := (Below.refl w.heap.size w).alloc (Nat.le_refl _) (.cells #[] 3)
  have kW := spec_IsWord_any gc oc n cc g o m cp c v (w.alloc (.cells #[] 3)) hn hm hx hrl hl (hr.below hX hgc) (hv.below hX hg)
  cases hw : isWordB c v with
  | false =>
    rw [hw] at kW
    rw [leftA_not hw]
    have KW := Lib.hid kW
    clear kW hr hv hw
    go_enter Tryz.func79, Tryz.ntmps79
    go_wp2_with fail
    refine KW.out.mono ?_
    rintro e w1 ⟨rfl, m1, rfl⟩
    go_wp2_with fail
    go_ret
    exact ⟨_, 0, rfl, (Own.empty (w := w) (Nat.le_refl _)).drewN m1, below_drewN hX m1⟩
  | true =>
    rw [hw] at kW
    rw [leftA_word hw]
    change Calls _ _ _ _ (GotInts w (descI (actW c v (onesL c.length))))
    have hA := wordOk_of hw
    have KI := Lib.hid (fun (W : World) (hb : Below w.heap.size w W) => spec_l8Image_any gc oc n cc g o m cp c v W hn hm hA.isC hl hA.inr (Nat.lt_of_lt_of_le hgc hb.size) (Nat.lt_of_lt_of_le hg hb.size) (hr.below hb hgc) (hv.below hb hg))
    have hil : (actW c v (onesL c.length)).length = c.length := imI_length c v
    have hn4 := hA.isC.2.1
    have KW := Lib.hid kW
    have hE : Own (w.alloc (.cells #[] 3)) w.heap.size w.heap.size 0 [] := Own.empty (Nat.le_refl _)
    clear kW hr hv hw hA
    generalize actW c v (onesL c.length) = v2 at *
    go_enter Tryz.func79, Tryz.ntmps79
    go_wp2_with fail
    refine KW.out.mono ?_
    rintro e w1 ⟨rfl, hs1⟩
    have hb1 : Below w.heap.size w w1 := below_still hX hs1
    have hE1 := hE.still hs1
    have kI := Lib.hid (KI.out w1 hb1)
    clear hs1 KI hX hE
    go_wp2_with fail
    refine kI.out.mono ?_
    rintro e w2 ⟨g2, c2, rfl, ho2, hb2⟩
    have hb2' := hb1.trans (hb2.mono hb1.size)
    have hE2 := hE1.below hb2 hE1.lt
    have hne : w.heap.size ≠ g2 := by have h1 := hE1.lt; have h2 := ho2.base; omega
    have ho2' := ho2.mono hb1.size
    unfold descI
    clear hE1 hb1 hb2 ho2 kI
    obtain ⟨l2, hl2⟩ : ∃ l, v2.length = l := ⟨_, rfl⟩
    rw [hl2]
    have Hl2 := Lib.hid hl2
    have hl24 : l2 ≤ 4 := by omega
    clear hl2
    go_wp2_with fail
    go_loopw [5, 7] (fun ov kv wr => ∃ (k mm g3 c3 : Nat), k ≤ l2 ∧ kv = .int .i64 k ∧ ov = (Value.slice (some ⟨g3, 0, none⟩) mm c3) ∧ mm ≤ k ∧ g3 ≠ g2 ∧ Hid ((desTo v2 k).length = mm) ∧ Own wr w.heap.size g3 c3 (desTo v2 k) ∧ Own wr w.heap.size g2 c2 v2 ∧ Below w.heap.size w wr) (fun _ kv _ => l2 - (intOf kv).toNat)
    case atStart => exact ⟨0, 0, w.heap.size, 0, Nat.zero_le _, rfl, rfl, Nat.le_refl _, hne, rfl, hE2, ho2', hb2'⟩
    case round =>
      clear hE2 ho2' hb2' hne
      obtain ⟨k, mm, g3, c3, hk, rfl, rfl, hmk, hne, hml, ho, hov, hb⟩ := hrel
      by_cases hlt : k < l2
      · have q1 := hov.cell k (by rw [Hl2.out]; exact hlt)
        have hyes := fun h => desTo_yes (v := v2) (k := k) h
        have hno := fun h => desTo_no (v := v2) (k := k) h
        generalize v2.getD k 0 = z at *
        by_cases hz : z < 0
        · have Hy := Lib.hid (hyes hz)
          clear hyes hno
          go_wp2_with (at_builtin; refine wpList_append_int_n (w := wr) rfl _ _ rfl w.heap.size g3 c3 mm (desTo v2 k) (k : Int) hml.out ho rfl rfl (by omega) ?_)
          intro g6 c6 w6 ho6 hg6 hor6
          have hb6 : Below w.heap.size w w6 := hb.grown hg6 hb.size (by intro t ht; cases ht; exact ho.base)
          have hv6 := hov.grown hg6 (by intro e; cases e; exact hne rfl)
          have hne6 : g6 ≠ g2 := by have := hov.lt; rcases hor6 with rfl | q; exact hne; omega
          rw [← Hy.out] at ho6
          have hl6 : Hid ((desTo v2 (k + 1)).length = mm + 1) := Lib.hid (by rw [Hy.out, List.length_append, hml.out]; rfl)
          clear ho hov hb hg6 hor6 hml
          go_wp2_with fail
          go_roundw
          case rel => exact ⟨k + 1, mm + 1, g6, c6, by omega, by go_num, rfl, by omega, hne6, hl6.out, ho6, hv6, hb6⟩
          case measure => simp [intOf]; omega
        · have Hn := Lib.hid (hno hz)
          clear hyes hno
          go_wp2_with fail
          go_roundw
          case rel => exact ⟨k + 1, mm, g3, c3, by omega, by go_num, rfl, by omega, hne, by rw [Hn.out]; exact hml.out, by rw [Hn.out]; exact ho, hov, hb⟩
          case measure => simp [intOf]; omega
      · obtain rfl : k = l2 := by omega
        go_wp2_with fail
        go_ret
        exact GotInts.mk' (xs := descI v2) g3 c3 (by unfold descI; rw [Hl2.out]; exact hml.out) (by unfold descI; rw [Hl2.out]; exact ho) hb

end Go.Proofs.YtobeigdjhepedaaGreatDoor
namespace Go.Proofs.YtobeigdjhepedaaGreatDoor
set_option maxRecDepth 100000
open Go.RowKit Game

theorem klB_klC {c : List (List Int)} (h : klB c = true) : klC c = true := by
  have hf := klB_fin h
  have hs : szO c = prodT (nameL c) := if_pos hf
  have h1 := kl_fin (fin_isC hf) hf
  unfold kl24 at h1
  rw [Bool.or_eq_true] at h1
  rcases h1 with h1 | h1
  · have := of_decide_eq_true h1
    have := klB_24 h
    omega
  · exact h1
theorem klB_grp {c : List (List Int)} (h : klB c = true) : Grp c := grp_few (klB_few h)
theorem klB_elA {c : List (List Int)} (h : klB c = true) : grpB c = true ∧ elA c = elemL c := by
  have h1 := (klB_iff c).1 h
  have h2 := (grp_iff c).2 ⟨h1.1, by omega⟩
  exact ⟨h2, if_pos h2⟩
theorem klB_leftT {c : List (List Int)} (h : klB c = true) : leftT c = ltab c (elemL c) (elemL c).length := by
  unfold leftT; rw [(klB_elA h).2]
structure KlFound (c : List (List Int)) : Prop where
  facts : klFacts c.length (elemL c) (leftT c) = true
  tab : tabI (elemL c) (leftT c) = trP (elemL c).length (rowsS (elemL c) (leftT c))
  arr : arrI c.length (elemL c) (leftT c) (tabI (elemL c) (leftT c)) = arrS c (elemL c) (rowsS (elemL c) (leftT c))
  cells : cellSTo (matB (arrI c.length (elemL c) (leftT c) (tabI (elemL c) (leftT c))) (elemL c).length) (elemL c).length (elemL c).length = (cellITo (matB (arrI c.length (elemL c) (leftT c) (tabI (elemL c) (leftT c))) (elemL c).length) (elemL c).length (elemL c).length).2
theorem klFound {c : List (List Int)} (h : klB c = true) : KlFound c := by
  have h1 := klB_klC h
  unfold klC klAll at h1
  rw [← klB_leftT h] at h1
  rw [Bool.and_eq_true, Bool.and_eq_true, Bool.and_eq_true] at h1
  obtain ⟨a, b, d, e⟩ := h1
  exact ⟨a, of_decide_eq_true b, of_decide_eq_true d, of_decide_eq_true e⟩
theorem klOk_of {c : List (List Int)} (h : klB c = true) : KlOk c.length (elemL c).length (elemL c) (leftT c) := by
  have hG := klB_grp h
  have hl := klB_len h
  have hF := klFound h
  have hT := klB_leftT h
  have hword : ∀ k, k < (elemL c).length → ∃ W : List Nat, (elemL c).getD k [] = intsOf W ∧ W.length ≤ 9 := fun k hk => by
    obtain ⟨n, W, -, e, h9, hW⟩ := elem_at (klB_few h) hk
    exact ⟨W, e, by omega⟩
  have hsh : ∀ x, lenA (elemL c) x ≤ 24 := fun x => by
    unfold lenA
    by_cases hx : x < (elemL c).length
    · obtain ⟨W, e, h9⟩ := hword x hx
      rw [e, intsOf_length]; omega
    · simp [List.getD, Nat.not_lt.1 hx]
  have hrow : ∀ x, x < (elemL c).length → (leftT c).getD x [] = lrow c (elemL c) ((elemL c).getD x []) c.length := fun x hx => by
    rw [hT]; unfold ltab
    rw [List.take_length]
    simp [List.getD, hx]
  exact {
    len := rfl
    tlen := by rw [hT, ltab_length (Nat.le_refl _)]
    few := hl.1
    rank := hG.hC.2.1
    short := hsh
    head := kl_head hF.facts
    letter := fun v hv _ => by
      obtain ⟨W, e, -⟩ := hword v hv
      unfold headA
      rw [e]
      cases W with
      | nil => rfl
      | cons a W => show ((a : Nat) : Int) = (((a : Nat) : Int).toNat : Int); rw [Int.toNat_natCast]
    row := fun x hx => by rw [hrow x hx, lrow_length]
    tab := fun x s hx hs => by
      have hmem : (elemL c).getD x [] ∈ elemL c := by simp [List.getD, hx]
      have hi := left_mem hG hmem hs
      have h0 := idx_nonneg.2 hi
      have h1 := idx_lt (L := elemL c) (v := nfI c ([(s : Int)] ++ (elemL c).getD x []))
      have e : ((leftT c).getD x []).getD s 0 = idxL (elemL c) (nfI c ([(s : Int)] ++ (elemL c).getD x [])) := by
        rw [hrow x hx]; unfold lrow; simp [List.getD, hs]
      unfold tabA
      rw [e]
      omega }
theorem desK_eq {c : List (List Int)} {u : List Int} (h : isWordB c u = true) : desK c u = leftA c u := by
  rw [leftA_word h]
  unfold desK descI desTo
  rw [imI_length]
theorem elem_isWord {c : List (List Int)} (h : klB c = true) {k : Nat} (hk : k < (elemL c).length) : isWordB c ((elemL c).getD k []) = true := by
  obtain ⟨n, W, hW, e, h9, -⟩ := elem_at (klB_few h) hk
  rw [e]; exact elt_word (klB_grp h).hC hW h9
theorem arrS1_len (c L : List (List Int)) (R : List (List (List Int))) (i k : Nat) : (arrS1 c L R i k).length ≤ 1 := by unfold arrS1; split <;> simp
theorem arrSTo_len (c L : List (List Int)) (R : List (List (List Int))) (i : Nat) : ∀ t, (arrSTo c L R i t).length ≤ t
  | 0 => by simp [arrSTo]
  | t + 1 => by rw [arrSTo_succ, List.length_append]; have := arrSTo_len c L R i t; have := arrS1_len c L R i t; omega
theorem arrSRow_len (c L : List (List Int)) (R : List (List (List Int))) (h : L.length ≤ 24) : ∀ t, (arrSRow c L R t).length ≤ t * 24
  | 0 => by simp [arrSRow]
  | t + 1 => by rw [arrSRow_succ, List.length_append]; have := arrSRow_len c L R h t; have := arrSTo_len c L R t L.length; omega
theorem arrI1_len (n : Nat) (L T : List (List Int)) (P : List (List (List Int))) (i k : Nat) : (arrI1 n L T P i k).length ≤ 1 := by unfold arrI1; split; simp; split <;> simp
theorem arrITo_len (n : Nat) (L T : List (List Int)) (P : List (List (List Int))) (i : Nat) : ∀ t, (arrITo n L T P i t).length ≤ t
  | 0 => by simp [arrITo]
  | t + 1 => by rw [arrITo_succ, List.length_append]; have := arrITo_len n L T P i t; have := arrI1_len n L T P i t; omega
theorem arrIRow_len (n : Nat) (L T : List (List Int)) (P : List (List (List Int))) (h : L.length ≤ 24) : ∀ t, (arrIRow n L T P t).length ≤ t * 24
  | 0 => by simp [arrIRow]
  | t + 1 => by rw [arrIRow_succ, List.length_append]; have := arrIRow_len n L T P h t; have := arrITo_len n L T P t L.length; omega
theorem arrS_in {c L : List (List Int)} {R : List (List (List Int))} {a : Arr} (h : a ∈ arrS c L R) : a.1 < L.length ∧ a.2.1 < L.length := by
  unfold arrS arrSRow arrSTo at h
  obtain ⟨i, hi, h⟩ := List.mem_flatMap.1 h
  obtain ⟨k, hk, h⟩ := List.mem_flatMap.1 h
  unfold arrS1 at h
  split at h
  · rw [List.mem_singleton] at h
    subst h
    exact ⟨List.mem_range.1 hi, List.mem_range.1 hk⟩
  · simp at h
end Go.Proofs.YtobeigdjhepedaaGreatDoor
namespace Go.Proofs.YtobeigdjhepedaaGreatDoor
set_option maxRecDepth 100000
open Go.RowKit Game

set_option maxHeartbeats 1000000 in
theorem spec_ElementsOf_any (gc oc n cc : Nat) (c : List (List Int)) (w : World) (hn : c.length = n) (hx : c.length ≤ 1048576) (hrl : ∀ j, j < c.length → (c.getD j []).length ≤ 1048576) (hgc : gc < w.heap.size) (hr : Rows2 w gc oc c) :
    Calls Tryz.prog 42 #[(Value.slice (some ⟨gc, oc, none⟩) n cc)] w (GotRowsB w (elA c) (grpB c)) := by
  have hcall := spec_SizeOf_any gc oc n cc c w hn hx hrl hgc hr
  have hiff := grp_iff c
  have hbd := szO_bound c
  by_cases hf : grpB c = true
  · have hG := grp_B hf
    have hL : elA c = elemL c := if_pos hf
    obtain ⟨h1, h2⟩ := hiff.1 hf
    rw [hL, hf]
    have HA := Lib.hid (fun W (hW : Below w.heap.size w W) => spec_l13All_ok gc oc n cc c W hn hG (Nat.lt_of_lt_of_le hgc hW.size) (hr.below hW hgc))
    have Hcall := Lib.hid hcall
    clear hcall hiff hf hG hL hrl hr hx hn
    generalize szO c = z at *
    generalize elemL c = L at *
    go_enter Tryz.func42, Tryz.ntmps42
    go_wp2_with fail
    refine Hcall.out.mono ?_
    rintro e w1 ⟨rfl, hb1⟩
    go_wp2_with fail
    refine (HA.out w1 hb1).mono ?_
    rintro e w2 ⟨g2, c2, rs2, rfl, hc2, ho2, hb2⟩
    go_wp2_with fail
    go_ret2
    exact ⟨g2, c2, rs2, rfl, hc2, ho2.mono hb1.size, hb1.trans (hb2.mono hb1.size)⟩
  · have hf' : grpB c = false := by simpa using hf
    have hL : elA c = [] := if_neg hf
    have hno : szO c < 1 ∨ 200 < szO c := by
      rcases Int.lt_or_le (szO c) 1 with h | h
      · exact .inl h
      · rcases Int.lt_or_le 200 (szO c) with h2 | h2
        · exact .inr h2
        · exact absurd (hiff.2 ⟨h, h2⟩) hf
    rw [hL, hf']
    have Hcall := Lib.hid hcall
    clear hcall hiff hf hf' hL hrl hr hx hn
    generalize szO c = z at *
    rcases hno with hz | hz
    · go_enter Tryz.func42, Tryz.ntmps42
      go_wp2_with fail
      refine Hcall.out.mono ?_
      rintro e w1 ⟨rfl, hb1⟩
      go_wp2_with fail
      go_ret2
      exact ⟨w1.heap.size, 0, [], rfl, rfl, (OwnRows.empty (w := w1) (Nat.le_refl _)).mono hb1.size, hb1.alloc hb1.size _⟩
    · go_enter Tryz.func42, Tryz.ntmps42
      go_wp2_with fail
      refine Hcall.out.mono ?_
      rintro e w1 ⟨rfl, hb1⟩
      go_wp2_with fail
      go_ret2
      exact ⟨w1.heap.size, 0, [], rfl, rfl, (OwnRows.empty (w := w1) (Nat.le_refl _)).mono hb1.size, hb1.alloc hb1.size _⟩
set_option maxHeartbeats 1000000 in
theorem impl_elements_no (gc oc n cc : Nat) (c : List (List Int)) (w : World) (hn : c.length = n) (hx : c.length ≤ 1048576) (hrl : ∀ j, j < c.length → (c.getD j []).length ≤ 1048576) (hf : grpB c = false) (hgc : gc < w.heap.size) (hr : Rows2 w gc oc c) (hm : MaxL w) :
    Calls Tryz.prog 93 #[(Value.slice (some ⟨gc, oc, none⟩) n cc)] w (Gives w (.slice none 0 0)) := by
  have hF := impl_IsFinite_any gc oc n cc c w hn hx hrl hgc hr
  have hZ := fun W (hW : Below w.heap.size w W) => impl_SizeOf_any gc oc n cc c W hn hx hrl (Nat.lt_of_lt_of_le hgc hW.size) (hr.below hW hgc) (hm.below hW)
  by_cases hfin : finB c = true
  · have hs : 200 < szO c := by
      rcases Int.lt_or_le 200 (szO c) with h | h
      · exact h
      · have : grpB c = true := by unfold grpB; rw [hfin, decide_eq_true h]; rfl
        rw [hf] at this; exact absurd this (by decide)
    have hs0 := (szO_bound c).2
    rw [hfin] at hF
    have HF := Lib.hid hF; have HZ := Lib.hid hZ
    clear hF hZ hrl hx hn hr hm hf hfin
    generalize szO c = z at *
    go_enter Tryz.func93, Tryz.ntmps93
    go_wp2_with fail
    refine HF.out.mono ?_
    rintro e w1 ⟨rfl, hb1⟩
    go_wp2_with fail
    refine (HZ.out w1 hb1).mono ?_
    rintro e w2 ⟨rfl, hb2⟩
    go_wp2_with fail
    go_ret
    exact ⟨rfl, hb1.trans (hb2.mono hb1.size)⟩
  · have hfin' : finB c = false := by simpa using hfin
    rw [hfin'] at hF
    have HF := Lib.hid hF
    clear hF hZ hrl hx hn hr hm hf hfin hfin'
    go_enter Tryz.func93, Tryz.ntmps93
    go_wp2_with fail
    refine HF.out.mono ?_
    rintro e w1 ⟨rfl, hb1⟩
    go_wp2_with fail
    go_ret
    exact ⟨rfl, hb1⟩

def lenOfL : Value → Nat | .slice _ n _ => n | _ => 0
def cntS (L : List (List Int)) (D j : Nat) : List Int := padR (cntTo L j) (D + 1)
end Go.Proofs.YtobeigdjhepedaaGreatDoor
namespace Go.Proofs.YtobeigdjhepedaaGreatDoor
set_option maxRecDepth 100000
open Go.RowKit
open Go.Maps (Keyed IsMap has)

structure FewW (v : List Int) : Prop where
  inw : InW v
  few : v.length ≤ 15
theorem wordL_len {v : List Int} (h : FewW v) : (wordL v).length ≤ 15 := by
  have := h.few
  unfold wordL
  split
  · simp
  · split
    · unfold digs; simp; omega
    · simp
theorem digs_inj : ∀ {a b : List Int}, InW a → InW b → digs a = digs b → a = b
  | [], [], _, _, _ => rfl
  | [], _ :: _, _, _, h => by simp [digs] at h
  | _ :: _, [], _, _, h => by simp [digs] at h
  | x :: a, y :: b, ha, hb, h => by
    have hx := ha x (by simp)
    have hy := hb y (by simp)
    simp only [digs, List.map_cons, List.cons.injEq] at h
    obtain ⟨h1, h2⟩ := h
    have e1 := u8_int (49 + (x.toNat : Int)) (by omega) (by omega)
    have e2 := u8_int (49 + (y.toNat : Int)) (by omega) (by omega)
    rw [show (49 + (x.toNat : Int)).toNat = 49 + x.toNat by omega] at e1
    rw [show (49 + (y.toNat : Int)).toNat = 49 + y.toNat by omega] at e2
    rw [h1] at e1
    have e3 : x = y := by omega
    subst e3
    rw [digs_inj (fun z hz => ha z (by simp [hz])) (fun z hz => hb z (by simp [hz])) h2]
theorem wordL_inj {a b : List Int} (ha : InW a) (hb : InW b) (h : wordL a = wordL b) : a = b := by
  have key : ∀ {x : List Int}, InW x → x ≠ [] → wordL x ≠ [101] := by
    intro x hx hne e
    unfold wordL at e
    rw [if_neg (by cases x with | nil => exact absurd rfl hne | cons _ _ => simp), if_pos hx] at e
    cases x with
    | nil => exact hne rfl
    | cons y x =>
      have hy := hx y (by simp)
      simp only [digs, List.map_cons, List.cons.injEq] at e
      have e1 := u8_int (49 + (y.toNat : Int)) (by omega) (by omega)
      rw [show (49 + (y.toNat : Int)).toNat = 49 + y.toNat by omega, e.1] at e1
      have : ((101 : UInt8).toNat : Int) = 101 := rfl
      omega
  cases a with
  | nil =>
    cases b with
    | nil => rfl
    | cons y b => exact absurd h.symm (key hb (by simp))
  | cons x a =>
    cases b with
    | nil => exact absurd h (key ha (by simp))
    | cons y b =>
      have e1 : wordL (x :: a) = digs (x :: a) := by unfold wordL; rw [if_neg (by rw [List.length_cons]; omega), if_pos ha]
      have e2 : wordL (y :: b) = digs (y :: b) := by unfold wordL; rw [if_neg (by rw [List.length_cons]; omega), if_pos hb]
      rw [e1, e2] at h
      exact digs_inj ha hb h

theorem strLawW : WideMaps.KeyLaw Tryz.prog 9 := WideMaps.string_law Tryz.underlying9
theorem strKeyedW : Keyed Tryz.prog 9 := Keyed.of_law strLawW
theorem keyOf_word {v : List Int} (h : FewW v) : keyOf Tryz.prog 9 (.string ⟨(wordL v).toArray⟩) = some (.string (wordL v)) := by
  have := WideMaps.keyOf_string_mk (P := Tryz.prog) (s := ⟨(wordL v).toArray⟩) Tryz.underlying9 (by have := wordL_len h; simp [ByteArray.size]; unfold maxLen; omega)
  simpa using this
def SeenW (w : World) (b n : Nat) (L : List (List Int)) : Prop :=
  ∃ D : DataW Unit, w.ownsMap Tryz.prog 9 (plainElem Tryz.prog 4) b n D ∧ IsMap D ∧ ∀ v : List Int, FewW v → D.atKey (.string (wordL v)) (.lit (.bool false)) = .lit (.bool (decide (v ∈ L)))
section
variable {w w' : World} {b n : Nat} {L : List (List Int)}
theorem SeenW.start (w : World) : SeenW (w.alloc (.map #[] 0)) w.heap.size 0 [] :=
  ⟨.map [], World.ownsMap_made _ _ _ _, ⟨[], rfl⟩, fun v _ => by simp [DataW.atKey]⟩
theorem SeenW.lt (h : SeenW w b n L) : b < w.heap.size := by obtain ⟨D, h, -⟩ := h; exact h.lt
theorem SeenW.same (h : SeenW w b n L) (hs : w'.heap[b]? = w.heap[b]?) : SeenW w' b n L := by
  obtain ⟨D, ⟨es, clock, hh, r⟩, h2⟩ := h
  exact ⟨D, ⟨es, clock, hs.trans hh, r⟩, h2⟩
theorem SeenW.below {B : Nat} (h : SeenW w b n L) (hb : Below B w w') (hB : b < B) : SeenW w' b n L := h.same (hb.block b hB)
theorem SeenW.still (h : SeenW w b n L) (hs : ∃ k, w' = w.drewN k) : SeenW w' b n L := by obtain ⟨k, rfl⟩ := hs; exact h
theorem SeenW.block (h : SeenW w b n L) : ∃ es clock, w.heap[b]? = some (.map es clock) := by
  obtain ⟨D, ⟨es, clock, hh, r⟩, h2⟩ := h
  exact ⟨es, clock, hh⟩
theorem SeenW.neCells {g : Nat} {cur : Array Value} {E : TypeId} {q : Nat × Nat} (h : SeenW w b n L) (ho : w.heap[g]? = some (.cells cur E q)) : b ≠ g := by
  rintro rfl
  obtain ⟨es, clock, hh⟩ := h.block
  rw [hh] at ho
  simp at ho
theorem seenW_put {D : DataW Unit} {v : List Int} (hv : FewW v) (hmap : IsMap D) (hat : ∀ v : List Int, FewW v → D.atKey (.string (wordL v)) (.lit (.bool false)) = .lit (.bool (decide (v ∈ L)))) :
    ∀ u : List Int, FewW u → (D.put (.string (wordL v)) (.lit (.bool true))).atKey (.string (wordL u)) (.lit (.bool false)) = .lit (.bool (decide (u ∈ L ++ [v]))) := by
  intro u hu
  by_cases e : u = v
  · subst e
    rw [Maps.atKey_put_same hmap (strKeyedW.key (keyOf_word hv))]
    simp
  · have hne : Lit.string (wordL u) ≠ .string (wordL v) := fun h => e (wordL_inj hu.inw hv.inw (by injection h))
    rw [Maps.atKey_put_other hne, hat u hu]
    simp [e]
end
end Go.Proofs.YtobeigdjhepedaaGreatDoor
