/- Rw1 Rdc Put -/
import Derived.Test.YtkjglfafphffiaaGreatDoorC26
import Derived.Test.YtkjglfafphffiaaGreatDoorC22
import Derived.Test.YtkjglfafphffiaaGreatDoorC24
import Derived.Test.YtkjglfafphffiaaGreatDoorC25
import Derived.Test.YtkjglfafphffiaaGreatDoorC07
import Derived.Test.YtkjglfafphffiaaGreatDoorC19
import Derived.Test.YtkjglfafphffiaaGreatDoorC03
namespace Go.Proofs.YtkjglfafphffiaaGreatDoor
set_option maxRecDepth 100000
open Go.RowKit Game
theorem nodup_len {α : Type} [DecidableEq α] : ∀ {L M : List α}, L.Nodup → (∀ x ∈ L, x ∈ M) → L.length ≤ M.length
  | [], M, _, _ => Nat.zero_le _
  | x :: L, M, hL, h => by
    obtain ⟨h1, h2⟩ := List.nodup_cons.1 hL
    have hx := h x (by simp)
    have h3 := nodup_len (L := L) (M := M.erase x) h2 fun y hy => by
      have hne : y ≠ x := fun e => h1 (e ▸ hy)
      exact (List.mem_erase_of_ne hne).2 (h y (List.mem_cons_of_mem _ hy))
    rw [List.length_erase_of_mem hx] at h3
    have : 0 < M.length := List.length_pos_of_mem hx
    rw [List.length_cons]
    omega
structure RwOk (c : List (List Int)) (U : List Int) (Q : List (List Int)) : Prop where
  nodup : Q.Nodup
  red : ∀ y ∈ Q, RedOf c U y
  start : U ∈ Q
def RwDone (c : List (List Int)) (Q : List (List Int)) (k : Nat) : Prop := ∀ j, j < k → ∀ a ∈ placesL c (Q.getD j []), (braidA c (Q.getD j []) a).getD (Q.getD j []) ∈ Q
def RwRow (c : List (List Int)) (Q : List (List Int)) (v : List Int) (s : Nat) : Prop := ∀ t, t < s → (braidA c v ((placesL c v).getD t 0)).getD v ∈ Q
theorem RwOk.one {c : List (List Int)} {U : List Int} (h : Nw c U) : RwOk c U [U] :=
  ⟨by simp, fun y hy => by rw [List.mem_singleton] at hy; subst hy; exact ⟨h.lets.word, h.self, rfl⟩, by simp⟩
theorem RwOk.new {c : List (List Int)} {U y : List Int} {Q : List (List Int)} (h : RwOk c U Q) (hy : RedOf c U y) (hn : y ∉ Q) : RwOk c U (Q ++ [y]) :=
  ⟨List.nodup_append.2 ⟨h.nodup, by simp, fun a ha b hb => by rw [List.mem_singleton] at hb; subst hb; intro e; exact hn (e ▸ ha)⟩,
   fun z hz => by
    rcases List.mem_append.1 hz with g | g
    · exact h.red z g
    · rw [List.mem_singleton] at g; subst g; exact hy,
   List.mem_append_left _ h.start⟩
theorem RwDone.new {c : List (List Int)} {Q : List (List Int)} {k : Nat} (h : RwDone c Q k) (hk : k ≤ Q.length) (y : List Int) : RwDone c (Q ++ [y]) k := fun j hj a ha => by
  have e : (Q ++ [y]).getD j [] = Q.getD j [] := by simp only [List.getD]; rw [List.getElem?_append_left (show j < Q.length by omega)]
  rw [e] at ha ⊢
  exact List.mem_append_left _ (h j hj a ha)
theorem RwRow.new {c : List (List Int)} {Q : List (List Int)} {v : List Int} {s : Nat} (h : RwRow c Q v s) (y : List Int) : RwRow c (Q ++ [y]) v s := fun t ht => List.mem_append_left _ (h t ht)
theorem RwRow.next {c : List (List Int)} {Q : List (List Int)} {v : List Int} {s : Nat} (h : RwRow c Q v s) (hm : (braidA c v ((placesL c v).getD s 0)).getD v ∈ Q) : RwRow c Q v (s + 1) := fun t ht => by
  by_cases e : t = s
  · subst e; exact hm
  · exact h t (by omega)
theorem RwDone.next {c : List (List Int)} {Q : List (List Int)} {k : Nat} (h : RwDone c Q k) (hr : RwRow c Q (Q.getD k []) (placesL c (Q.getD k [])).length) : RwDone c Q (k + 1) := fun j hj a ha => by
  by_cases e : j = k
  · subst e
    obtain ⟨t, ht, rfl⟩ := List.mem_iff_getElem.1 ha
    have := hr t ht
    have e : (placesL c (Q.getD j [])).getD t 0 = (placesL c (Q.getD j []))[t] := by
      generalize placesL c (Q.getD j []) = P at *
      simp [List.getD, ht]
    rw [e] at this
    exact this
  · exact h j (by omega) a ha
theorem placesL_yes {c : List (List Int)} {v : List Int} {k : Nat} (hk : k < v.length) (h : (braidA c v (k : Int)).isSome = true) : (k : Int) ∈ placesL c v := by
  unfold placesL placesTo
  exact List.mem_map.2 ⟨k, List.mem_filter.2 ⟨List.mem_range.2 hk, h⟩, rfl⟩
theorem RwOk.all {c : List (List Int)} {U : List Int} {Q : List (List Int)} (h : RwOk c U Q) (hd : RwDone c Q Q.length) (y : List Int) : y ∈ Q ↔ RedOf c U y := by
  refine ⟨h.red y, fun hy => ?_⟩
  have h0 : RedOf c U U := h.red U h.start
  refine h0.joined hy (· ∈ Q) h.start fun a b k ha hk hb => ?_
  obtain ⟨j, hj, rfl⟩ := List.mem_iff_getElem.1 ha
  have e : Q.getD j [] = Q[j] := by simp [List.getD, hj]
  have := hd j hj (k : Int) (by rw [e]; exact placesL_yes hk (by rw [hb]; rfl))
  rw [e, hb] at this
  exact this
def wordsL (c : List (List Int)) (U : List Int) : List (List Int) := allW c 15 (imI c U)
theorem mem_wordsL {c : List (List Int)} {U : List Int} (hU : Nw c U) (y : List Int) : y ∈ wordsL c U ↔ RedOf c U y := mem_allW 15 U hU hU.lets.few y
theorem wordsL_asc {c : List (List Int)} {U : List Int} (hU : Nw c U) : Asc (wordsL c U) := allW_asc 15 U hU hU.lets.few
theorem RwOk.full {c : List (List Int)} {U : List Int} {Q : List (List Int)} (h : RwOk c U Q) (hU : Nw c U) (hd : RwDone c Q Q.length) : (wordsL c U).length = Q.length := by
  have h1 := nodup_len (wordsL_asc hU).nodup fun y hy => (h.all hd y).2 ((mem_wordsL hU y).1 hy)
  have h2 := nodup_len h.nodup fun y hy => (mem_wordsL hU y).2 (h.red y hy)
  omega
theorem RwOk.over {c : List (List Int)} {U y : List Int} {Q : List (List Int)} (h : RwOk c U Q) (hU : Nw c U) (hy : RedOf c U y) (hn : y ∉ Q) : Q.length < (wordsL c U).length := by
  have h2 := nodup_len (h.new hy hn).nodup fun z hz => (mem_wordsL hU z).2 ((h.new hy hn).red z hz)
  rw [List.length_append, List.length_singleton] at h2
  omega
def putAll (Q : List (List Int)) (k : Nat) : List (List Int) := (Q.take k).foldl putL []
theorem putAll_succ {Q : List (List Int)} {k : Nat} (hk : k < Q.length) : putAll Q (k + 1) = putL (putAll Q k) (Q.getD k []) := by
  unfold putAll
  rw [List.take_succ_eq_append_getElem hk, List.foldl_append]
  simp [List.getD, hk]
theorem putAll_asc (Q : List (List Int)) : ∀ k, k ≤ Q.length → Asc (putAll Q k) ∧ ∀ x, x ∈ putAll Q k ↔ x ∈ Q.take k
  | 0, _ => ⟨List.Pairwise.nil, fun x => by simp [putAll]⟩
  | k + 1, hk => by
    obtain ⟨h1, h2⟩ := putAll_asc Q k (by omega)
    rw [putAll_succ (by omega)]
    refine ⟨putL_asc h1, fun x => ?_⟩
    rw [mem_putL, h2, List.take_succ_eq_append_getElem (by omega), List.mem_append, List.mem_singleton]
    have e : Q.getD k [] = Q[k] := by simp [List.getD, show k < Q.length by omega]
    rw [e]
    exact or_comm
theorem putAll_len (Q : List (List Int)) : ∀ k, k ≤ Q.length → (putAll Q k).length ≤ k
  | 0, _ => by simp [putAll]
  | k + 1, hk => by
    rw [putAll_succ (by omega)]
    have h := putAll_len Q k (by omega)
    have : ∀ (l : List (List Int)) (w : List Int), (putL l w).length ≤ l.length + 1 := fun l w => by
      induction l with
      | nil => simp [putL]
      | cons x l ih =>
        simp only [putL]
        split
        · simp
        · split
          · simp
          · simp only [List.length_cons]; omega
    have := this (putAll Q k) (Q.getD k [])
    omega
theorem RwOk.put {c : List (List Int)} {U : List Int} {Q : List (List Int)} (h : RwOk c U Q) (hU : Nw c U) (hd : RwDone c Q Q.length) : putAll Q Q.length = wordsL c U := by
  obtain ⟨h1, h2⟩ := putAll_asc Q Q.length (Nat.le_refl _)
  refine Asc.uniq h1 (wordsL_asc hU) fun x => ?_
  rw [h2, List.take_length, h.all hd, mem_wordsL hU]
def rwL (c : List (List Int)) (w : List Int) : List (List Int) := if isWordB c w = true then (if (wordsL c (nfI c w)).length ≤ 120 then wordsL c (nfI c w) else []) else []
def rwB (c : List (List Int)) (w : List Int) : Bool := isWordB c w && decide ((wordsL c (nfI c w)).length ≤ 120)
end Go.Proofs.YtkjglfafphffiaaGreatDoor
namespace Go.Proofs.YtkjglfafphffiaaGreatDoor
set_option maxRecDepth 100000
open Go.RowKit Game
def redW (c : List (List Int)) (v : List Int) : Bool := isWordB c v && decide ((nfI c v).length = v.length)
theorem redW_not {c : List (List Int)} {v : List Int} (h : isWordB c v = false) : redW c v = false := by unfold redW; rw [h]; rfl
theorem redW_word {c : List (List Int)} {v : List Int} (h : isWordB c v = true) : redW c v = decide ((nfI c v).length = v.length) := by unfold redW; rw [h]; rfl
set_option maxHeartbeats 1000000 in
theorem impl_IsReduced_any (gc oc n cc g o m cp : Nat) (c : List (List Int)) (v : List Int) (w : World) (hn : c.length = n) (hm : v.length = m) (hx : c.length ≤ 1048576) (hrl : ∀ j, j < c.length → (c.getD j []).length ≤ 1048576) (hl : v.length ≤ 1048576)
    (hgc : gc < w.heap.size) (hg : g < w.heap.size) (hr : Rows2 w gc oc c) (hv : Cells w g o v) :
    Calls Tryz.prog 27 #[(Value.slice (some ⟨gc, oc, none⟩) n cc), (Value.slice (some ⟨g, o, none⟩) m cp)] w (Gives w (.bool (redW c v))) := by
  have hIW := impl_IsWord_any gc oc n cc g o m cp c v w hn hm hx hrl hl hr hv
  cases hw : isWordB c v with
  | false =>
    rw [hw] at hIW
    rw [redW_not hw]
    have Hi := Lib.hid hIW
    clear hIW hw hr hv
    go_enter Tryz.func27, Tryz.ntmps27
    go_wp2_with fail
    refine Hi.out.mono ?_
    rintro e w1 ⟨rfl, hs1⟩
    have hb1 := below_still (Below.refl w.heap.size w) hs1
    go_wp2_with fail
    go_ret
    exact ⟨rfl, hb1⟩
  | true =>
    rw [hw] at hIW
    have hW := wordOk_of hw
    have hL := hW.lets.mono (show 15 ≤ 30 by omega)
    rw [redW_word hw]
    have Hi := Lib.hid hIW
    have hlen : ∀ W (hs : ∃ q, W = w.drewN q), Calls Tryz.prog 84 #[(Value.slice (some ⟨gc, oc, none⟩) n cc), (Value.slice (some ⟨g, o, none⟩) m cp)] W (Gives W (.int .i64 ((nfI c v).length : Int))) := by
      intro W hs
      have k1 := Lib.hid (impl_reduced_any gc oc n cc g o m cp c v W hn hm hL (Nat.lt_of_lt_of_le hgc (below_still (Below.refl w.heap.size w) hs).size) (Nat.lt_of_lt_of_le hg (below_still (Below.refl w.heap.size w) hs).size) (hr.still hs) (hv.still hs))
      clear hr hv hIW Hi
      generalize nfI c v = y at *
      go_enter Tryz.func84, Tryz.ntmps84
      go_wp2_with fail
      refine k1.out.mono ?_
      rintro e w1 ⟨g1, c1, rfl, ho1, hb1⟩
      go_wp2_with fail
      go_ret
      exact ⟨rfl, hb1⟩
    have Hlen := Lib.hid hlen
    have hd : (((nfI c v).length : Int) == (m : Int)) = decide ((nfI c v).length = v.length) := by
      rw [Bool.eq_iff_iff, beq_iff_eq, decide_eq_true_eq]; omega
    clear hIW hw hr hv hW hL hlen
    generalize decide ((nfI c v).length = v.length) = r at *
    generalize (nfI c v).length = k at *
    go_enter Tryz.func27, Tryz.ntmps27
    go_wp2_with fail
    refine Hi.out.mono ?_
    rintro e w1 ⟨rfl, hs1⟩
    have hb1 := below_still (Below.refl w.heap.size w) hs1
    go_wp2_with fail
    refine (Hlen.out w1 hs1).mono ?_
    rintro e w2 ⟨rfl, hb2⟩
    go_wp2_with fail
    go_ret
    exact ⟨by first | rfl | exact ret_bool hd, hb1.trans (hb2.mono hb1.size)⟩
set_option maxHeartbeats 1000000 in
theorem spec_IsReduced_any (gc oc n cc g o m cp : Nat) (c : List (List Int)) (v : List Int) (w : World) (hn : c.length = n) (hm : v.length = m) (hx : c.length ≤ 1048576) (hrl : ∀ j, j < c.length → (c.getD j []).length ≤ 1048576) (hl : v.length ≤ 1048576)
    (hgc : gc < w.heap.size) (hg : g < w.heap.size) (hr : Rows2 w gc oc c) (hv : Cells w g o v) :
    Calls Tryz.prog 12 #[(Value.slice (some ⟨gc, oc, none⟩) n cc), (Value.slice (some ⟨g, o, none⟩) m cp)] w (Gives w (.bool (redW c v))) := by
  have hNF := spec_NormalForm_any gc oc n cc g o m cp c v w hn hm hx hrl hl hgc hg hr hv
  have hlen : ∃ z : Int, (Calls Tryz.prog 57 #[(Value.slice (some ⟨gc, oc, none⟩) n cc), (Value.slice (some ⟨g, o, none⟩) m cp)] w (Gives w (.int .i64 z))) ∧ (z == (m : Int)) = redW c v := by
    cases hw : isWordB c v with
    | false =>
      rw [hw] at hNF
      refine ⟨-1, ?_, by rw [redW_not hw, beq_eq_false_iff_ne]; omega⟩
      have Hn := Lib.hid hNF
      clear hNF hw hr hv
      generalize nfA c v = y at *
      go_enter Tryz.func57, Tryz.ntmps57
      go_wp2_with fail
      refine Hn.out.mono ?_
      rintro e w1 ⟨g1, c1, rfl, ho1, hb1⟩
      go_wp2_with fail
      go_ret
      exact ⟨rfl, hb1⟩
    | true =>
      rw [hw] at hNF
      refine ⟨(nfI c v).length, ?_, by rw [redW_word hw, Bool.eq_iff_iff, beq_iff_eq, decide_eq_true_eq]; omega⟩
      rw [show nfA c v = nfI c v from if_pos hw] at hNF
      have Hn := Lib.hid hNF
      clear hNF hw hr hv
      generalize nfI c v = y at *
      go_enter Tryz.func57, Tryz.ntmps57
      go_wp2_with fail
      refine Hn.out.mono ?_
      rintro e w1 ⟨g1, c1, rfl, ho1, hb1⟩
      go_wp2_with fail
      go_ret
      exact ⟨rfl, hb1⟩
  obtain ⟨z, h1, h2⟩ := hlen
  have H1 := Lib.hid h1
  generalize redW c v = r at *
  clear h1 hNF hr hv
  go_enter Tryz.func12, Tryz.ntmps12
  go_wp2_with fail
  refine H1.out.mono ?_
  rintro e w1 ⟨rfl, hb1⟩
  go_wp2_with fail
  go_ret
  exact ⟨by first | rfl | exact ret_bool h2, hb1⟩
set_option maxHeartbeats 2000000 in
theorem impl_BraidPlaces_any (gc oc n cc g o m cp : Nat) (c : List (List Int)) (v : List Int) (w : World) (hn : c.length = n) (hm : v.length = m) (hx : c.length ≤ 1048576) (hrl : ∀ j, j < c.length → (c.getD j []).length ≤ 1048576) (hl : v.length ≤ 1048576) (hcap : v.length ≤ cp)
    (hgc : gc < w.heap.size) (hg : g < w.heap.size) (hr : Rows2 w gc oc c) (hv : Cells w g o v) :
    Calls Tryz.prog 87 #[(Value.slice (some ⟨gc, oc, none⟩) n cc), (Value.slice (some ⟨g, o, none⟩) m cp)] w (GotInts w (placesL c v)) := by
  subst hm
  have HB := Lib.hid (fun (k : Nat) (hk : k < v.length) (W : World) (hb : Below w.heap.size w W) => impl_BraidAt_any gc oc n cc g o v.length cp (k : Int) c v W hn rfl hx hrl hl hcap ⟨by omega, by omega⟩ (Nat.lt_of_lt_of_le hgc hb.size) (Nat.lt_of_lt_of_le hg hb.size) (hr.below hb hgc) (hv.below hb hg))
  clear hr hv hrl
  unfold placesL
  go_enter Tryz.func87, Tryz.ntmps87
  go_wp2
  go_loopw [5, 12] (fun ov kv wr => ∃ (k m g2 c2 : Nat), k ≤ v.length ∧ kv = .int .i64 k ∧ ov = (Value.slice (some ⟨g2, 0, none⟩) m c2) ∧ m ≤ k ∧ Hid ((placesTo c v k).length = m) ∧ Own wr w.heap.size g2 c2 (placesTo c v k) ∧ Below w.heap.size w wr) (fun _ kv _ => v.length - (intOf kv).toNat)
  case atStart => exact ⟨0, 0, w.heap.size, 0, Nat.zero_le _, rfl, rfl, Nat.le_refl _, rfl, Own.empty (Nat.le_refl _), (Below.refl _ _).alloc (Nat.le_refl _) _⟩
  case round =>
    obtain ⟨k, m, g2, c2, hk, rfl, rfl, hmk, hml, ho, hb⟩ := hrel
    by_cases hlt : k < v.length
    · have hcall := HB.out k hlt wr hb
      have hyes := fun h => placesTo_yes (c := c) (v := v) (k := k) h
      have hno := fun h => placesTo_no (c := c) (v := v) (k := k) h
      generalize braidA c v (k : Int) = r at *
      have Hcall := Lib.hid hcall
      cases r with
      | none =>
        have hp := hno rfl
        have Hp := Lib.hid hp
        clear hcall hyes hno hp
        go_wp2_with fail
        refine Hcall.out.mono ?_
        rintro e w5 ⟨g5, c5, rfl, ho5, hb5⟩
        have hB := hb.trans (hb5.mono hb.size)
        have hO := ho.below hb5 ho.lt
        clear ho hb ho5 hb5 Hcall
        go_wp2_with fail
        go_roundw
        case rel => exact ⟨k + 1, m, g2, c2, by omega, by go_num, rfl, by omega, by rw [Hp.out]; exact hml.out, by rw [Hp.out]; exact hO, hB⟩
        case measure => simp [intOf]; omega
      | some y =>
        have hp := hyes rfl
        have Hp := Lib.hid hp
        clear hcall hyes hno hp
        go_wp2_with fail
        refine Hcall.out.mono ?_
        rintro e w5 ⟨g5, c5, rfl, ho5, hb5⟩
        have hB := hb.trans (hb5.mono hb.size)
        have hO := ho.below hb5 ho.lt
        clear ho hb ho5 hb5 Hcall
        go_wp2_with (at_builtin; refine wpList_append_int_n (w := w5) rfl _ _ rfl w.heap.size g2 c2 m (placesTo c v k) (k : Int) hml.out hO rfl rfl (by omega) ?_)
        intro g6 c6 w6 ho6 hg6 hor6
        have hb6 : Below w.heap.size w w6 := hB.grown hg6 hB.size (by intro t ht; cases ht; exact hO.base)
        rw [← Hp.out] at ho6
        have hl6 : Hid ((placesTo c v (k + 1)).length = m + 1) := Lib.hid (by rw [Hp.out, List.length_append, hml.out]; rfl)
        clear hO hB hg6 hor6 hml
        go_wp2_with fail
        go_roundw
        case rel => exact ⟨k + 1, m + 1, g6, c6, by omega, by go_num, rfl, by omega, hl6.out, ho6, hb6⟩
        case measure => simp [intOf]; omega
    · obtain rfl : k = v.length := by omega
      go_wp2_with fail
      go_ret
      exact GotInts.mk' g2 c2 hml.out ho hb
set_option maxHeartbeats 2000000 in
theorem spec_BraidPlaces_any (gc oc n cc g o m cp : Nat) (c : List (List Int)) (v : List Int) (w : World) (hn : c.length = n) (hm : v.length = m) (hx : c.length ≤ 1048576) (hrl : ∀ j, j < c.length → (c.getD j []).length ≤ 1048576) (hl : v.length ≤ 1048576) (hcap : v.length ≤ cp)
    (hgc : gc < w.heap.size) (hg : g < w.heap.size) (hr : Rows2 w gc oc c) (hv : Cells w g o v) :
    Calls Tryz.prog 143 #[(Value.slice (some ⟨gc, oc, none⟩) n cc), (Value.slice (some ⟨g, o, none⟩) m cp)] w (GotInts w (placesL c v)) := by
  subst hm
  have HB := Lib.hid (fun (k : Nat) (hk : k < v.length) (W : World) (hb : Below w.heap.size w W) => spec_BraidAt_any gc oc n cc g o v.length cp (k : Int) c v W hn rfl hx hrl hl hcap ⟨by omega, by omega⟩ (Nat.lt_of_lt_of_le hgc hb.size) (Nat.lt_of_lt_of_le hg hb.size) (hr.below hb hgc) (hv.below hb hg))
  clear hr hv hrl
  unfold placesL
  go_enter Tryz.func143, Tryz.ntmps143
  go_wp2
  go_loopw [5, 6] (fun ov kv wr => ∃ (k m g2 c2 : Nat), k ≤ v.length ∧ kv = .int .i64 k ∧ ov = (Value.slice (some ⟨g2, 0, none⟩) m c2) ∧ m ≤ k ∧ Hid ((placesTo c v k).length = m) ∧ Own wr w.heap.size g2 c2 (placesTo c v k) ∧ Below w.heap.size w wr) (fun _ kv _ => v.length - (intOf kv).toNat)
  case atStart => exact ⟨0, 0, w.heap.size, 0, Nat.zero_le _, rfl, rfl, Nat.le_refl _, rfl, Own.empty (Nat.le_refl _), (Below.refl _ _).alloc (Nat.le_refl _) _⟩
  case round =>
    obtain ⟨k, m, g2, c2, hk, rfl, rfl, hmk, hml, ho, hb⟩ := hrel
    by_cases hlt : k < v.length
    · have hcall := HB.out k hlt wr hb
      have hyes := fun h => placesTo_yes (c := c) (v := v) (k := k) h
      have hno := fun h => placesTo_no (c := c) (v := v) (k := k) h
      generalize braidA c v (k : Int) = r at *
      have Hcall := Lib.hid hcall
      cases r with
      | none =>
        have hp := hno rfl
        have Hp := Lib.hid hp
        clear hcall hyes hno hp
        go_wp2_with fail
        refine Hcall.out.mono ?_
        rintro e w5 ⟨g5, c5, rfl, ho5, hb5⟩
        have hB := hb.trans (hb5.mono hb.size)
        have hO := ho.below hb5 ho.lt
        clear ho hb ho5 hb5 Hcall
        go_wp2_with fail
        go_roundw
        case rel => exact ⟨k + 1, m, g2, c2, by omega, by go_num, rfl, by omega, by rw [Hp.out]; exact hml.out, by rw [Hp.out]; exact hO, hB⟩
        case measure => simp [intOf]; omega
      | some y =>
        have hp := hyes rfl
        have Hp := Lib.hid hp
        clear hcall hyes hno hp
        go_wp2_with fail
        refine Hcall.out.mono ?_
        rintro e w5 ⟨g5, c5, rfl, ho5, hb5⟩
        have hB := hb.trans (hb5.mono hb.size)
        have hO := ho.below hb5 ho.lt
        clear ho hb ho5 hb5 Hcall
        go_wp2_with (at_builtin; refine wpList_append_int_n (w := w5) rfl _ _ rfl w.heap.size g2 c2 m (placesTo c v k) (k : Int) hml.out hO rfl rfl (by omega) ?_)
        intro g6 c6 w6 ho6 hg6 hor6
        have hb6 : Below w.heap.size w w6 := hB.grown hg6 hB.size (by intro t ht; cases ht; exact hO.base)
        rw [← Hp.out] at ho6
        have hl6 : Hid ((placesTo c v (k + 1)).length = m + 1) := Lib.hid (by rw [Hp.out, List.length_append, hml.out]; rfl)
        clear hO hB hg6 hor6 hml
        go_wp2_with fail
        go_roundw
        case rel => exact ⟨k + 1, m + 1, g6, c6, by omega, by go_num, rfl, by omega, hl6.out, ho6, hb6⟩
        case measure => simp [intOf]; omega
    · obtain rfl : k = v.length := by omega
      go_wp2_with fail
      go_ret
      exact GotInts.mk' g2 c2 hml.out ho hb
set_option maxHeartbeats 2000000 in
theorem impl_copied_any (g o n cp : Nat) (rows : List (List Int)) (w : World) (hn : rows.length = n) (hx : rows.length ≤ 1048576) (hrl : ∀ j, j < rows.length → (rows.getD j []).length ≤ 1048576) (hg : g < w.heap.size) (hr : Rows2 w g o rows) :
    Calls Tryz.prog 26 #[(Value.slice (some ⟨g, o, none⟩) n cp)] w (GotRows w rows) := by
  subst hn
  go_enter Tryz.func26, Tryz.ntmps26
  go_wp2
  go_loopw [3, 9] (fun ov kv wr => ∃ (k g2 c2 : Nat) (rs : List RowRef), k ≤ rows.length ∧ kv = .int .i64 k ∧ ov = (Value.slice (some ⟨g2, 0, none⟩) k c2) ∧ Hid (rs.length = k) ∧ Hid (contents rs = rows.take k) ∧ OwnRows wr w.heap.size g2 c2 rs ∧ Below w.heap.size w wr) (fun _ kv _ => rows.length - (intOf kv).toNat)
  case atStart => exact ⟨0, w.heap.size, 0, [], Nat.zero_le _, rfl, rfl, rfl, rfl, OwnRows.empty (Nat.le_refl _), (Below.refl _ _).alloc (Nat.le_refl _) _⟩
  case round =>
    obtain ⟨k, g2, c2, rs, hk, rfl, rfl, hrk, hcon, hO, hb⟩ := hrel
    by_cases hlt : k < rows.length
    · obtain ⟨gj, oj, cj, q1, q2, q3, q4⟩ := (hr.below hb hg) k hlt
      have hlk := hrl k hlt
      have ht : rows.take (k + 1) = rows.take k ++ [rows.getD k []] := by
        rw [List.take_succ_eq_append_getElem hlt]; simp [List.getD, hlt]
      generalize rows.getD k [] = x at *
      obtain ⟨lx, hlx⟩ : ∃ lx, x.length = lx := ⟨_, rfl⟩
      rw [hlx] at q1 q2 hlk
      have Ht := Lib.hid ht; have Hlx := Lib.hid hlx; have Q4 := Lib.hid q4
      have hB0 := Lib.hid (hb.alloc hb.size (.cells #[] 3))
      clear ht hlx q4
      go_wp2_with (at_builtin; refine wpList_clone rfl _ _ rfl gj oj lx cj x Hlx.out q3 Q4.out rfl rfl (by rw [Hlx.out]; omega) ?_)
      intro g3 c3 w3 ho3 hb3
      have hO3 := hO.below hb3
      have hB3 := hb.trans (hb3.mono hb.size)
      have hne : ∀ s ∈ rs, s.1 ≠ g3 := fun s hs e => by have h1 := (hO.2.1 s hs).lt; have h2 := ho3.base; omega
      have Hne := Lib.hid hne
      clear hO hne q1 q3 hb3 hB0
      go_wp2_with (at_builtin; refine wpList_append_row (w := w3) rfl _ _ rfl w.heap.size g2 c2 k w3.heap.size rs (g3, c3, x) _ hrk.out (by unfold rowVal; rw [Hlx.out]) rfl hO3 (ho3.mono hb.size) Hne.out rfl rfl (by omega) ?_)
      intro g4 c4 w4 hO4 hg4 hor4
      have hB4 : Below w.heap.size w w4 := hB3.grown hg4 hB3.size (by intro t ht; cases ht; exact hO3.base)
      have hl4 : Hid ((rs ++ [(g3, c3, x)]).length = k + 1) := Lib.hid (by rw [List.length_append, hrk.out]; rfl)
      have hc4 : Hid (contents (rs ++ [(g3, c3, x)]) = rows.take (k + 1)) := Lib.hid (by rw [Ht.out, ← hcon.out]; simp [contents])
      clear hO3 hB3 hg4 hor4 hb
      go_wp2_with fail
      go_roundw
      case rel => exact ⟨k + 1, g4, c4, _, by omega, by go_num, rfl, hl4.out, hc4.out, hO4, hB4⟩
      case measure => simp [intOf]; omega
    · obtain rfl : k = rows.length := by omega
      have hc := hcon.out
      rw [List.take_length] at hc
      have Hc := Lib.hid hc
      clear hc
      go_wp2_with fail
      go_ret
      exact ⟨g2, c2, rs, rfl, Hc.out, hO, hb⟩
end Go.Proofs.YtkjglfafphffiaaGreatDoor
namespace Go.Proofs.YtkjglfafphffiaaGreatDoor
set_option maxRecDepth 100000
open Go.RowKit Game
theorem wordCmp_vals (a b : List Int) : wordCmp a b = -1 ∨ wordCmp a b = 0 ∨ wordCmp a b = 1 := by
  have hl : ∀ a b : List Int, lexCmp a b = -1 ∨ lexCmp a b = 0 ∨ lexCmp a b = 1 := by
    intro a
    induction a with
    | nil => intro b; simp [lexCmp]
    | cons x a ih =>
      intro b
      cases b with
      | nil => simp [lexCmp]
      | cons y b =>
        simp only [lexCmp]
        split
        · simp
        · split
          · simp
          · exact ih b
  unfold wordCmp
  split
  · simp
  · split
    · simp
    · exact hl a b
theorem putL_eq {x word : List Int} {l : List (List Int)} (h : wordCmp word x = 0) : putL (x :: l) word = x :: l := by
  have := wordCmp_zero h; simp [putL, this]
theorem putL_lt {x word : List Int} {l : List (List Int)} (h : wordCmp word x = -1) : putL (x :: l) word = word :: x :: l := by
  have : word ≠ x := by intro e; subst e; rw [wordCmp_self] at h; omega
  simp [putL, this, h]
theorem putL_gt {x word : List Int} {l : List (List Int)} (h : wordCmp word x = 1) : putL (x :: l) word = x :: putL l word := by
  have : word ≠ x := by intro e; subst e; rw [wordCmp_self] at h; omega
  simp [putL, this, h]
set_option maxHeartbeats 4000000 in
theorem spec_l11Put_any (B0 g cap n g1 o1 n1 c1 : Nat) (rs : List RowRef) (word : List Int) (w : World) (hn : rs.length = n) (hn1 : word.length = n1) (hl : rs.length ≤ 1000000) (hwl : word.length ≤ 1048576)
    (ho : OwnRows w B0 g cap rs) (hg1 : g1 < w.heap.size) (hc1 : Cells w g1 o1 word) :
    Calls Tryz.prog 152 #[(Value.slice (some ⟨g, 0, none⟩) n cap), (Value.slice (some ⟨g1, o1, none⟩) n1 c1)] w (GotPut w B0 (putL (contents rs) word)) := by
  subst hn; subst hn1
  have hB0 : B0 ≤ w.heap.size := by have := ho.base; have := ho.lt; omega
  have hg := ho.lt
  go_enter Tryz.func152, Tryz.ntmps152
  go_wp2
  go_loopw [5, 6, 7, 8] (fun ov pv iv _ wr => ∃ (i p g' c' : Nat) (acc : List RowRef) (pl : Bool), i ≤ rs.length ∧ iv = .int .i64 i ∧ pv = .bool pl ∧ ov = (Value.slice (some ⟨g', 0, none⟩) p c') ∧ Hid (acc.length = p) ∧ p ≤ i + 1 ∧ Hid (PutSt (fun l => putL l word) w.heap.size rs i acc pl) ∧ OwnRows wr B0 g' c' acc ∧ w.heap.size ≤ g' ∧ Below w.heap.size w wr) (fun _ _ iv _ _ => rs.length - (intOf iv).toNat)
  case atStart =>
    exact ⟨0, 0, w.heap.size, 0, [], false, Nat.zero_le _, rfl, rfl, rfl, rfl, by omega, PutSt.start, OwnRows.empty hB0, Nat.le_refl _, (Below.refl _ _).alloc (Nat.le_refl _) _⟩
  case round =>
    obtain ⟨i, p, g', c', acc, pl, hi, rfl, rfl, rfl, hp, hpi, hst, hO, hgn, hb⟩ := hrel
    by_cases hlt : i < rs.length
    · have hm : rs[i] ∈ rs := List.getElem_mem hlt
      have hoi := ho.2.1 _ hm
      have hneI := hst.out.ne ho.2.2 hlt hoi.lt
      have hq : wr.cell? ⟨g, i, none⟩ = some (rowVal rs[i]) := by
        rw [hb.cell (p := ⟨g, i, none⟩) hg, ho.1.cell i (by simpa using hlt)]; simp
      have HS : ∀ (new : List RowRef) (pl' : Bool), (∀ s ∈ new, w.heap.size ≤ s.1) → acc.length + new.length ≤ i + 1 → (pl' = false → pl = false ∧ new = []) → (if pl then contents (rs.drop i) else putL (contents (rs.drop i)) word) = contents new ++ rs[i].2.2 :: (if pl' then contents (rs.drop (i + 1)) else putL (contents (rs.drop (i + 1))) word) → PutSt (fun l => putL l word) w.heap.size rs (i + 1) (acc ++ new ++ [rs[i]]) pl' :=
        fun new pl' h1 h2 h3 h4 => hst.out.step hlt new pl' h1 h2 h3 h4
      have HS' := Lib.hid HS
      have hcd := contents_drop rs hlt
      have Hcd := Lib.hid hcd
      have hlen := hst.out.lenF
      have Hlen := Lib.hid hlen
      clear HS hcd hlen
      generalize rs[i] = r at *
      obtain ⟨bi, ci, xi⟩ := r
      have hq' : wr.cell? ⟨g, i, none⟩ = some (Value.slice (some ⟨bi, 0, none⟩) xi.length ci) := hq
      have hoi' : Own wr B0 bi ci xi := hoi.below hb hoi.lt
      have hcall := spec_CompareWords_any g1 o1 word.length c1 bi 0 xi.length ci word xi wr rfl rfl (by omega) (hc1.below hb hg1) hoi'.cells
      have HneI := Lib.hid hneI
      have hbi : bi < w.heap.size := hoi.lt
      have hpl : p ≤ i + 1 := hpi
      have Ho := Lib.hid ho
      have Hst := Lib.hid hst
      clear hq hoi hm hneI ho hst
      rcases wordCmp_vals word xi with hv | hv | hv
      · rw [hv] at hcall
        have Hcall := Lib.hid hcall
        have Hv := Lib.hid hv
        clear hcall hv
        cases pl with
        | false =>
          have hpi : p ≤ i := by have := Hlen.out rfl; have := hp.out; omega
          clear Hlen
          go_wp2_with fail
          refine Hcall.out.mono ?_
          rintro e w2 ⟨rfl, hs2⟩
          have hq9 : w2.cell? ⟨g, i, none⟩ = some (Value.slice (some ⟨bi, 0, none⟩) xi.length ci) := (cell_still hs2 _).trans hq'
          have hB9 := below_still hb hs2
          have hO9 := hO.still hs2
          have hoi9 := hoi'.still hs2
          have hgn9 := hgn
          clear hb hO hoi' hq' Hcall hs2
          go_wp2_with (at_builtin; refine wpList_clone (w := w2) rfl _ _ rfl g1 o1 _ c1 word rfl (Nat.lt_of_lt_of_le hg1 hB9.size) (hc1.below hB9 hg1) rfl rfl (by omega) ?_)
          intro g3 c3 w3 ho3 hb3
          have hB3 : Below w.heap.size w w3 := hB9.trans (hb3.mono hB9.size)
          have hO3 : OwnRows w3 B0 g' c' acc := hO9.below hb3
          have hne3 : ∀ s ∈ acc, s.1 ≠ g3 := fun s hs e => by
            have h1 := (hO9.2.1 s hs).lt
            have h2 := ho3.base
            omega
          have hg3 : w.heap.size ≤ g3 := by have := ho3.base; have := hB9.size; omega
          have ho3' : Own w3 B0 g3 c3 word := ho3.mono (by have := hB9.size; omega)
          have hoi3 : Own w3 B0 bi ci xi := hoi9.below hb3 hoi9.lt
          have hq3 : w3.cell? ⟨g, i, none⟩ = some (Value.slice (some ⟨bi, 0, none⟩) xi.length ci) := (hb3.cell (p := ⟨g, i, none⟩) (Nat.lt_of_lt_of_le hg hB9.size)).trans hq9
          clear hq9 hoi9 hO9 hB9 hb3
          go_wp2_with (at_builtin; refine wpList_append_row rfl _ _ rfl B0 g' c' p w3.heap.size acc (g3, c3, word) _ hp.out rfl rfl hO3 ho3' hne3 rfl rfl (by omega) ?_)
          intro g4 c4 w4 hO9 hg4 hor4
          have hB9 : Below w.heap.size w w4 := hB3.grown hg4 hB3.size (by intro j hj; cases hj; exact hgn)
          have hoi9 : Own w4 B0 bi ci xi := hoi3.grown hg4 (fun e => hO3.1.ne hoi3.toV (by decide) (Option.some.inj e).symm)
          have hgn9 : w.heap.size ≤ g4 := by
            rcases hor4 with h | h
            · omega
            · have := hB3.size; omega
          have hq9 : w4.cell? ⟨g, i, none⟩ = some (Value.slice (some ⟨bi, 0, none⟩) xi.length ci) := hg4.cell (a := ⟨g, i, none⟩) hq3 (by simp; omega)
          have hne9 : ∀ s ∈ acc ++ [(g3, c3, word)], s.1 ≠ bi := fun s hs => by
            rcases List.mem_append.1 hs with h | h
            · exact HneI.out s h
            · simp at h; subst h; show g3 ≠ bi; omega
          have hl9 : (acc ++ [(g3, c3, word)]).length = p + 1 := by rw [List.length_append, hp.out]; rfl
          have Hl9 := Lib.hid hl9
          clear hq3 hoi3 hO3 hB3 hg4 hor4 ho3 ho3' hne3 hl9
          go_wp2_with (at_builtin; refine wpList_append_row rfl _ _ rfl B0 g4 _ (p + 1) w4.heap.size (acc ++ [(g3, c3, word)]) (bi, ci, xi) _ Hl9.out rfl rfl hO9 hoi9 hne9 rfl rfl (by omega) ?_)
          intro g5 c5 w5 hO5 hg5 hor5
          have hB5 : Below w.heap.size w w5 := hB9.grown hg5 hB9.size (by intro j hj; cases hj; exact hgn9)
          have hg5n : w.heap.size ≤ g5 := by
            rcases hor5 with h | h
            · omega
            · have := hB9.size; omega
          go_wp2
          go_roundw
          case rel =>
            refine ⟨i + 1, p + 1 + 1, g5, c5, acc ++ [(g3, c3, word), (bi, ci, xi)], true, by omega, by go_num, by first | rfl | trivial, by first | rfl | trivial, ?_, by omega, ?_, hO5, hg5n, hB5⟩
            · show _ = _
              have := Hl9.out
              simp at this ⊢; omega
            · show PutSt _ _ _ _ _ _
              have := HS'.out [(g3, c3, word)] true (by intro s hs; simp at hs; subst hs; exact hg3) (by rw [hp.out]; simpa using hpi) (by intro e; simp at e) (by simp only [if_true]; rw [Hcd.out]; exact (putL_lt Hv.out)); simpa using this
          case measure => simp [intOf]; omega
        | true =>
          clear Hlen
          go_wp2_with fail
          refine Hcall.out.mono ?_
          rintro e w2 ⟨rfl, hs2⟩
          have hq9 : w2.cell? ⟨g, i, none⟩ = some (Value.slice (some ⟨bi, 0, none⟩) xi.length ci) := (cell_still hs2 _).trans hq'
          have hB9 := below_still hb hs2
          have hO9 := hO.still hs2
          have hoi9 := hoi'.still hs2
          have hgn9 := hgn
          clear hb hO hoi' hq' Hcall hs2
          have hne9 := HneI.out
          go_wp2_with (at_builtin; refine wpList_append_row rfl _ _ rfl B0 g' _ (p) w2.heap.size (acc) (bi, ci, xi) _ hp.out rfl rfl hO9 hoi9 hne9 rfl rfl (by omega) ?_)
          intro g5 c5 w5 hO5 hg5 hor5
          have hB5 : Below w.heap.size w w5 := hB9.grown hg5 hB9.size (by intro j hj; cases hj; exact hgn9)
          have hg5n : w.heap.size ≤ g5 := by
            rcases hor5 with h | h
            · omega
            · have := hB9.size; omega
          go_wp2
          go_roundw
          case rel =>
            refine ⟨i + 1, p + 1, g5, c5, acc ++ [(bi, ci, xi)], true, by omega, by go_num, by first | rfl | trivial, by first | rfl | trivial, ?_, by omega, ?_, hO5, hg5n, hB5⟩
            · show _ = _
              have := hp.out
              simp at this ⊢; omega
            · show PutSt _ _ _ _ _ _
              have := HS'.out [] true (by simp) (by rw [hp.out]; simpa using hpl) (by simp) (by simp only [if_true]; rw [Hcd.out]; rfl); simpa using this
          case measure => simp [intOf]; omega
      · rw [hv] at hcall
        have Hcall := Lib.hid hcall
        have Hv := Lib.hid hv
        clear hcall hv
        cases pl with
        | false =>
          have hpi : p ≤ i := by have := Hlen.out rfl; have := hp.out; omega
          clear Hlen
          go_wp2_with fail
          refine Hcall.out.mono ?_
          rintro e w2 ⟨rfl, hs2⟩
          have hq9 : w2.cell? ⟨g, i, none⟩ = some (Value.slice (some ⟨bi, 0, none⟩) xi.length ci) := (cell_still hs2 _).trans hq'
          have hB9 := below_still hb hs2
          have hO9 := hO.still hs2
          have hoi9 := hoi'.still hs2
          have hgn9 := hgn
          clear hb hO hoi' hq' Hcall hs2
          have hne9 := HneI.out
          go_wp2_with (at_builtin; refine wpList_append_row rfl _ _ rfl B0 g' _ (p) w2.heap.size (acc) (bi, ci, xi) _ hp.out rfl rfl hO9 hoi9 hne9 rfl rfl (by omega) ?_)
          intro g5 c5 w5 hO5 hg5 hor5
          have hB5 : Below w.heap.size w w5 := hB9.grown hg5 hB9.size (by intro j hj; cases hj; exact hgn9)
          have hg5n : w.heap.size ≤ g5 := by
            rcases hor5 with h | h
            · omega
            · have := hB9.size; omega
          go_wp2
          go_roundw
          case rel =>
            refine ⟨i + 1, p + 1, g5, c5, acc ++ [(bi, ci, xi)], true, by omega, by go_num, by first | rfl | trivial, by first | rfl | trivial, ?_, by omega, ?_, hO5, hg5n, hB5⟩
            · show _ = _
              have := hp.out
              simp at this ⊢; omega
            · show PutSt _ _ _ _ _ _
              have := HS'.out [] true (by simp) (by rw [hp.out]; simpa using hpl) (by simp) (by simp only [if_true]; rw [Hcd.out]; exact (putL_eq Hv.out)); simpa using this
          case measure => simp [intOf]; omega
        | true =>
          clear Hlen
          go_wp2_with fail
          refine Hcall.out.mono ?_
          rintro e w2 ⟨rfl, hs2⟩
          have hq9 : w2.cell? ⟨g, i, none⟩ = some (Value.slice (some ⟨bi, 0, none⟩) xi.length ci) := (cell_still hs2 _).trans hq'
          have hB9 := below_still hb hs2
          have hO9 := hO.still hs2
          have hoi9 := hoi'.still hs2
          have hgn9 := hgn
          clear hb hO hoi' hq' Hcall hs2
          have hne9 := HneI.out
          go_wp2_with (at_builtin; refine wpList_append_row rfl _ _ rfl B0 g' _ (p) w2.heap.size (acc) (bi, ci, xi) _ hp.out rfl rfl hO9 hoi9 hne9 rfl rfl (by omega) ?_)
          intro g5 c5 w5 hO5 hg5 hor5
          have hB5 : Below w.heap.size w w5 := hB9.grown hg5 hB9.size (by intro j hj; cases hj; exact hgn9)
          have hg5n : w.heap.size ≤ g5 := by
            rcases hor5 with h | h
            · omega
            · have := hB9.size; omega
          go_wp2
          go_roundw
          case rel =>
            refine ⟨i + 1, p + 1, g5, c5, acc ++ [(bi, ci, xi)], true, by omega, by go_num, by first | rfl | trivial, by first | rfl | trivial, ?_, by omega, ?_, hO5, hg5n, hB5⟩
            · show _ = _
              have := hp.out
              simp at this ⊢; omega
            · show PutSt _ _ _ _ _ _
              have := HS'.out [] true (by simp) (by rw [hp.out]; simpa using hpl) (by simp) (by simp only [if_true]; rw [Hcd.out]; rfl); simpa using this
          case measure => simp [intOf]; omega
      · rw [hv] at hcall
        have Hcall := Lib.hid hcall
        have Hv := Lib.hid hv
        clear hcall hv
        cases pl with
        | false =>
          have hpi : p ≤ i := by have := Hlen.out rfl; have := hp.out; omega
          clear Hlen
          go_wp2_with fail
          refine Hcall.out.mono ?_
          rintro e w2 ⟨rfl, hs2⟩
          have hq9 : w2.cell? ⟨g, i, none⟩ = some (Value.slice (some ⟨bi, 0, none⟩) xi.length ci) := (cell_still hs2 _).trans hq'
          have hB9 := below_still hb hs2
          have hO9 := hO.still hs2
          have hoi9 := hoi'.still hs2
          have hgn9 := hgn
          clear hb hO hoi' hq' Hcall hs2
          have hne9 := HneI.out
          go_wp2_with (at_builtin; refine wpList_append_row rfl _ _ rfl B0 g' _ (p) w2.heap.size (acc) (bi, ci, xi) _ hp.out rfl rfl hO9 hoi9 hne9 rfl rfl (by omega) ?_)
          intro g5 c5 w5 hO5 hg5 hor5
          have hB5 : Below w.heap.size w w5 := hB9.grown hg5 hB9.size (by intro j hj; cases hj; exact hgn9)
          have hg5n : w.heap.size ≤ g5 := by
            rcases hor5 with h | h
            · omega
            · have := hB9.size; omega
          go_wp2
          go_roundw
          case rel =>
            refine ⟨i + 1, p + 1, g5, c5, acc ++ [(bi, ci, xi)], false, by omega, by go_num, by first | rfl | trivial, by first | rfl | trivial, ?_, by omega, ?_, hO5, hg5n, hB5⟩
            · show _ = _
              have := hp.out
              simp at this ⊢; omega
            · show PutSt _ _ _ _ _ _
              have := HS'.out [] false (by simp) (by rw [hp.out]; simpa using hpl) (by simp) (by rw [Hcd.out]; exact (putL_gt Hv.out)); simpa using this
          case measure => simp [intOf]; omega
        | true =>
          clear Hlen
          go_wp2_with fail
          refine Hcall.out.mono ?_
          rintro e w2 ⟨rfl, hs2⟩
          have hq9 : w2.cell? ⟨g, i, none⟩ = some (Value.slice (some ⟨bi, 0, none⟩) xi.length ci) := (cell_still hs2 _).trans hq'
          have hB9 := below_still hb hs2
          have hO9 := hO.still hs2
          have hoi9 := hoi'.still hs2
          have hgn9 := hgn
          clear hb hO hoi' hq' Hcall hs2
          have hne9 := HneI.out
          go_wp2_with (at_builtin; refine wpList_append_row rfl _ _ rfl B0 g' _ (p) w2.heap.size (acc) (bi, ci, xi) _ hp.out rfl rfl hO9 hoi9 hne9 rfl rfl (by omega) ?_)
          intro g5 c5 w5 hO5 hg5 hor5
          have hB5 : Below w.heap.size w w5 := hB9.grown hg5 hB9.size (by intro j hj; cases hj; exact hgn9)
          have hg5n : w.heap.size ≤ g5 := by
            rcases hor5 with h | h
            · omega
            · have := hB9.size; omega
          go_wp2
          go_roundw
          case rel =>
            refine ⟨i + 1, p + 1, g5, c5, acc ++ [(bi, ci, xi)], true, by omega, by go_num, by first | rfl | trivial, by first | rfl | trivial, ?_, by omega, ?_, hO5, hg5n, hB5⟩
            · show _ = _
              have := hp.out
              simp at this ⊢; omega
            · show PutSt _ _ _ _ _ _
              have := HS'.out [] true (by simp) (by rw [hp.out]; simpa using hpl) (by simp) (by simp only [if_true]; rw [Hcd.out]; rfl); simpa using this
          case measure => simp [intOf]; omega
    · obtain rfl : i = rs.length := by omega
      cases pl with
      | true =>
        go_wp2_with fail
        go_ret
        have hd := hst.out.done
        exact GotPut.mk' g' c' acc hp.out hd hO hgn hb
      | false =>
        go_wp2_with (at_builtin; refine wpList_clone (w := wr) rfl _ _ rfl g1 o1 _ c1 word rfl (Nat.lt_of_lt_of_le hg1 hb.size) (hc1.below hb hg1) rfl rfl (by omega) ?_)
        intro g3 c3 w3 ho3 hb3
        have hB3 : Below w.heap.size w w3 := hb.trans (hb3.mono hb.size)
        have hO3 : OwnRows w3 B0 g' c' acc := hO.below hb3
        have hne3 : ∀ s ∈ acc, s.1 ≠ g3 := fun s hs e => by
          have h1 := (hO.2.1 s hs).lt
          have h2 := ho3.base
          omega
        have ho3' : Own w3 B0 g3 c3 word := ho3.mono (by have := hb.size; omega)
        go_wp2_with (at_builtin; refine wpList_append_row rfl _ _ rfl B0 g' c' p w3.heap.size acc (g3, c3, word) _ hp.out rfl rfl hO3 ho3' hne3 rfl rfl (by omega) ?_)
        intro g4 c4 w4 hO4 hg4 hor4
        have hB4 : Below w.heap.size w w4 := hB3.grown hg4 hB3.size (by intro j hj; cases hj; exact hgn)
        have hg4n : w.heap.size ≤ g4 := by
          rcases hor4 with h | h
          · omega
          · have := hB3.size; omega
        go_wp2_with fail
        go_ret
        have hd := hst.out.last (g3, c3, word) rfl
        exact GotPut.mk' g4 c4 (acc ++ [(g3, c3, word)]) (by rw [List.length_append, hp.out]; rfl) hd hO4 hg4n hB4
end Go.Proofs.YtkjglfafphffiaaGreatDoor
