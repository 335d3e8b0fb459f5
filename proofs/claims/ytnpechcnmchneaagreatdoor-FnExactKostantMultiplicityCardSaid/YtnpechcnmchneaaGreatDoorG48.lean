/- The program's elements of a finite group of at most 200 elements; groups of at most 48: contracts. ActOnWeight (the reference's): contract. (Split off CoxS.) The dot action, signs: contracts of both. -/
import Derived.Test.YtnpechcnmchneaaGreatDoorG31
import Derived.Test.YtnpechcnmchneaaGreatDoorG20
import Derived.Test.YtnpechcnmchneaaGreatDoorG47
import Derived.Test.YtnpechcnmchneaaGreatDoorG21
import Derived.Test.YtnpechcnmchneaaGreatDoorG05
namespace Go.Proofs.YtnpechcnmchneaaGreatDoor
set_option maxRecDepth 100000
open Go.RowKit Game

set_option maxHeartbeats 1000000 in
theorem impl_elements_ok (gc oc n cc : Nat) (c : List (List Int)) (w : World) (hn : c.length = n) (hG : Grp c) (hgc : gc < w.heap.size) (hr : Rows2 w gc oc c) (hm : MaxL w) :
    Calls Tryz.prog 145 #[(Value.slice (some ⟨gc, oc, none⟩) n cc)] w (GotRows w (elemL c)) := by
  have hC := hG.hC
  have hx : c.length ≤ 1048576 := by have := hC.2.1; omega
  have hrl : ∀ j, j < c.length → (c.getD j []).length ≤ 1048576 := fun j hj => by rw [hC.2.2.1 j hj]; exact hx
  have hF := impl_IsFinite_any gc oc n cc c w hn hx hrl hgc hr
  rw [hG.fin] at hF
  have hZ := fun W (hW : Below w.heap.size w W) => impl_SizeOf_any gc oc n cc c W hn hx hrl (Nat.lt_of_lt_of_le hgc hW.size) (hr.below hW hgc) (hm.below hW)
  have hB := fun W (hW : Below w.heap.size w W) => impl_ball_any gc oc n cc 60 c W hn hC (fun t _ ht => by
    rcases Nat.lt_or_ge t 29 with h | h
    · omega
    · have h29 : levS c 29 = [] := by
        by_cases e : levS c 29 = []
        · exact e
        · obtain ⟨W, hW⟩ := (lev_ne hC (by omega)).1 e
          have := elt24 hC hG.fin hW
          omega
      have := lev_stop h29 (t - 29)
      rw [show 29 + (t - 29) = t by omega] at this
      exact absurd this ht) (Nat.lt_of_lt_of_le hgc hW.size) (hr.below hW hgc)
  have hs : szO c ≤ 200 := by have := hG.len; have := hG.few; omega
  have hs0 := (szO_bound c).1
  have HF := Lib.hid hF; have HZ := Lib.hid hZ
  have HB : Hid (∀ W, Below w.heap.size w W → Calls Tryz.prog 167 #[(Value.slice (some ⟨gc, oc, none⟩) n cc), .int .i64 60, .int .i64 200] W (GotRowsB W (elemL c) (ballOk c 60))) := Lib.hid hB
  clear hF hZ hB hrl hx hG hn hr hm
  generalize szO c = z at *
  generalize elemL c = L at *
  generalize ballOk c 60 = b at *
  go_enter Tryz.func145, Tryz.ntmps145
  go_wp2_with fail
  refine HF.out.mono ?_
  rintro e w1 ⟨rfl, hb1⟩
  go_wp2_with fail
  refine (HZ.out w1 hb1).mono ?_
  rintro e w2 ⟨rfl, hb2⟩
  have hB2 := hb1.trans (hb2.mono hb1.size)
  go_wp2_with fail
  refine (HB.out w2 hB2).mono ?_
  rintro e w3 ⟨g3, c3, rs3, rfl, hc3, ho3, hb3⟩
  go_wp2_with fail
  go_ret
  exact ⟨g3, c3, rs3, rfl, hc3, ho3.mono hB2.size, hB2.trans (hb3.mono hB2.size)⟩

set_option maxHeartbeats 1000000 in
theorem impl_ElementsOf_ok (gc oc n cc : Nat) (c : List (List Int)) (w : World) (hn : c.length = n) (hG : Grp c) (hgc : gc < w.heap.size) (hr : Rows2 w gc oc c) (hm : MaxL w) :
    Calls Tryz.prog 97 #[(Value.slice (some ⟨gc, oc, none⟩) n cc)] w (GotRowsB w (elemL c) true) := by
  have HA := Lib.hid (impl_elements_ok gc oc n cc c w hn hG hgc hr hm)
  clear hG hn hr hm
  generalize elemL c = L at *
  have hnil : ∀ (W : World) (g3 n c3 : Nat), (binOp .eql 22 (Value.slice (some ⟨g3, 0, none⟩) n c3) (.slice none 0 0)).run Tryz.prog W = .ok (.bool false) W := fun W g3 n c3 => Lib.run_eql_slice_nil W 22 28 _ _ _ _ _ Tryz.underlying22
  go_enter Tryz.func97, Tryz.ntmps97
  go_wp2_with fail
  refine HA.out.mono ?_
  rintro e w1 ⟨g3, c3, rs3, rfl, hc3, ho3, hb3⟩
  go_wp2_with fail
  go_ret2
  exact ⟨g3, c3, rs3, rfl, hc3, ho3, hb3⟩

set_option maxHeartbeats 1000000 in
theorem impl_few_yes (gc oc n cc : Nat) (c : List (List Int)) (w : World) (hn : c.length = n) (hf : fewB c = true) (hgc : gc < w.heap.size) (hr : Rows2 w gc oc c) (hm : MaxL w) :
    Calls Tryz.prog 48 #[(Value.slice (some ⟨gc, oc, none⟩) n cc), .int .i64 48] w (GotRowsB w (elemL c) true) := by
  have hG := grp_few hf
  have hC := hG.hC
  have hx : c.length ≤ 1048576 := by have := hC.2.1; omega
  have hrl : ∀ j, j < c.length → (c.getD j []).length ≤ 1048576 := fun j hj => by rw [hC.2.2.1 j hj]; exact hx
  have hF := impl_IsFinite_any gc oc n cc c w hn hx hrl hgc hr
  rw [hG.fin] at hF
  have hZ := fun W (hW : Below w.heap.size w W) => impl_SizeOf_any gc oc n cc c W hn hx hrl (Nat.lt_of_lt_of_le hgc hW.size) (hr.below hW hgc) (hm.below hW)
  have hB := fun W (hW : Below w.heap.size w W) => impl_ElementsOf_ok gc oc n cc c W hn hG (Nat.lt_of_lt_of_le hgc hW.size) (hr.below hW hgc) (hm.below hW)
  have hs := fewB_48 hf
  have hs0 := (szO_bound c).1
  have HF := Lib.hid hF; have HZ := Lib.hid hZ; have HB := Lib.hid hB
  clear hF hZ hB hrl hx hG hn hr hm hf
  generalize szO c = z at *
  generalize elemL c = L at *
  go_enter Tryz.func48, Tryz.ntmps48
  go_wp2_with fail
  refine HF.out.mono ?_
  rintro e w1 ⟨rfl, hb1⟩
  go_wp2_with fail
  refine (HZ.out w1 hb1).mono ?_
  rintro e w2 ⟨rfl, hb2⟩
  have hB2 := hb1.trans (hb2.mono hb1.size)
  go_wp2_with fail
  refine (HB.out w2 hB2).mono ?_
  rintro e w3 ⟨g3, c3, rs3, rfl, hc3, ho3, hb3⟩
  go_wp2_with fail
  go_ret2
  exact ⟨g3, c3, rs3, rfl, hc3, ho3.mono hB2.size, hB2.trans (hb3.mono hB2.size)⟩

set_option maxHeartbeats 1000000 in
theorem impl_few_no (gc oc n cc : Nat) (c : List (List Int)) (w : World) (hn : c.length = n) (hx : c.length ≤ 1048576) (hrl : ∀ j, j < c.length → (c.getD j []).length ≤ 1048576) (hf : fewB c = false) (hgc : gc < w.heap.size) (hr : Rows2 w gc oc c) (hm : MaxL w) :
    Calls Tryz.prog 48 #[(Value.slice (some ⟨gc, oc, none⟩) n cc), .int .i64 48] w (Gives w (.tuple #[.slice none 0 0, .bool false])) := by
  have hF := impl_IsFinite_any gc oc n cc c w hn hx hrl hgc hr
  have hZ := fun W (hW : Below w.heap.size w W) => impl_SizeOf_any gc oc n cc c W hn hx hrl (Nat.lt_of_lt_of_le hgc hW.size) (hr.below hW hgc) (hm.below hW)
  by_cases hfin : finB c = true
  · have hs : 48 < szO c := by
      rcases Int.lt_or_le 48 (szO c) with h | h
      · exact h
      · have : fewB c = true := by unfold fewB; rw [hfin, decide_eq_true h]; rfl
        rw [hf] at this; exact absurd this (by decide)
    have hs0 := (szO_bound c).2
    rw [hfin] at hF
    have HF := Lib.hid hF; have HZ := Lib.hid hZ
    clear hF hZ hrl hx hn hr hm hf hfin
    generalize szO c = z at *
    go_enter Tryz.func48, Tryz.ntmps48
    go_wp2_with fail
    refine HF.out.mono ?_
    rintro e w1 ⟨rfl, hb1⟩
    go_wp2_with fail
    refine (HZ.out w1 hb1).mono ?_
    rintro e w2 ⟨rfl, hb2⟩
    go_wp2_with fail
    go_ret2
    exact ⟨rfl, hb1.trans (hb2.mono hb1.size)⟩
  · have hfin' : finB c = false := by simpa using hfin
    rw [hfin'] at hF
    have HF := Lib.hid hF
    clear hF hZ hrl hx hn hr hm hf hfin hfin'
    go_enter Tryz.func48, Tryz.ntmps48
    go_wp2_with fail
    refine HF.out.mono ?_
    rintro e w1 ⟨rfl, hb1⟩
    go_wp2_with fail
    go_ret2
    exact ⟨rfl, hb1⟩
end Go.Proofs.YtnpechcnmchneaaGreatDoor
namespace Go.Proofs.YtnpechcnmchneaaGreatDoor
set_option maxRecDepth 100000
open Go.RowKit

set_option maxHeartbeats 2000000 in
theorem spec_ActOnWeight_ok (gc oc n cc g1 o1 n1 c1 g2 o2 n2 c2 : Nat) (c : List (List Int)) (l v : List Int) (w : World) (hn : c.length = n) (hn1 : l.length = n1) (hn2 : v.length = n2) (hC : IsC c) (hv : v.length = c.length) (hwd : isWordB c l = true) (hl : l.length ≤ 1048576)
    (hin : ∀ k, k < l.length → 0 ≤ l.getD k 0 ∧ l.getD k 0 < c.length) (hgc : gc < w.heap.size) (hg1 : g1 < w.heap.size) (hg2 : g2 < w.heap.size) (hr : Rows2 w gc oc c) (hc1 : Cells w g1 o1 l) (hc2 : Cells w g2 o2 v) :
    Calls Tryz.prog 65 #[(Value.slice (some ⟨gc, oc, none⟩) n cc), (Value.slice (some ⟨g1, o1, none⟩) n1 c1), (Value.slice (some ⟨g2, o2, none⟩) n2 c2)] w (GotInts w (actW c l v)) := by
  subst hn; subst hn1; subst hn2
  have hn4 := hC.2.1
  have ew : IntKind.i64.wrap ((l.length : Int) - 1) = (l.length : Int) - 1 := IntWalk.i64_in _ (by omega)
  have hword : Hid (∀ W, Below w.heap.size w W → Calls Tryz.prog 92 #[(Value.slice (some ⟨gc, oc, none⟩) c.length cc), (Value.slice (some ⟨g1, o1, none⟩) l.length c1)] W (Reads W (.bool true))) := fun W hW => by
    have := spec_IsWord_any gc oc _ cc g1 o1 _ c1 c l W rfl rfl (by omega) (fun j hj => by have := hC.2.2.1 j hj; omega) hl (hr.below hW hgc) (hc1.below hW hg1)
    rwa [hwd] at this
  have Hv := Lib.hid hv
  have hv4 : v.length ≤ 1048576 := by omega
  have hvv : ((v.length : Int) == (c.length : Int)) = true := by rw [hv]; simp
  clear hwd hv
  go_enter Tryz.func65, Tryz.ntmps65
  go_wp2_with (at_builtin; refine wpList_clone rfl _ _ rfl g2 o2 _ c2 v rfl hg2 hc2 rfl rfl (by omega) ?_)
  intro gv cv w1 ho1 hb1
  go_wp2_with fail
  clear ew

  go_loopw [7, 8] (fun s i wr => ∃ (k : Nat) (j : Int) (gv cv : Nat), k ≤ l.length ∧ i = .int .i64 j ∧ j = (k : Int) - 1 ∧ s = (Value.slice (some ⟨gv, 0, none⟩) v.length cv) ∧ Own wr w.heap.size gv cv (actW c (l.drop k) v) ∧ Below w.heap.size w wr) (fun _ i _ => (intOf i + 1).toNat)
  case atStart => exact ⟨l.length, _, gv, cv, Nat.le_refl _, rfl, rfl, rfl, by rw [List.drop_length]; exact ho1, hb1⟩
  case round =>
    obtain ⟨k, j, gv, cv, hk, rfl, hj, rfl, ho, hb⟩ := hrel
    by_cases hlt : 0 < k
    · obtain ⟨t, rfl⟩ : ∃ t, k = t + 1 := ⟨k - 1, by omega⟩
      obtain rfl : j = (t : Int) := by omega
      have htl : t < l.length := by omega
      have q1 := fun m => (hc1.below (below_drewN hb m) hg1) t htl
      have hit := hin t htl
      have hd := actW_drop c l v t htl
      obtain ⟨iN, hiN⟩ : ∃ iN : Nat, l.getD t 0 = iN := ⟨(l.getD t 0).toNat, by omega⟩
      rw [hiN] at q1 hit hd
      rw [Int.toNat_natCast] at hd
      have hic : iN < c.length := by omega
      have hal : (actW c (l.drop (t + 1)) v).length = v.length := actW_length _ _ _
      have hcall := fun m => spec_l6Reflect_any gc oc _ cc gv 0 v.length cv iN c (actW c (l.drop (t + 1)) v) (wr.drewN m) rfl hal (by rw [hal, Hv.out]; exact Nat.le_refl _) hn4 hC.2.2.1 (by rw [hal, Hv.out]; exact hic) (Nat.lt_of_lt_of_le hgc (below_drewN hb m).size) ho.lt (hr.below (below_drewN hb m) hgc) (ho.drewN m).cells
      have Hcall := Lib.hid hcall; have Hd := Lib.hid hd; have Q1 := Lib.hid q1
      clear hcall hd hiN hal hit q1
      clear hj
      go_wp2_with fail
      refine (hword.out _ hb).mono ?_
      rintro e w2 ⟨rfl, m2, rfl⟩
      have q1 := Q1.out m2
      have hb2 := below_drewN hb m2
      go_wp2_with fail
      refine (Hcall.out m2).mono ?_
      rintro e w3 ⟨g2, c2, rfl, ho2, hb3⟩
      rw [← Hd.out] at ho2
      have e2 : (refl c iN (actW c (List.drop (t + 1) l) v)).length = v.length := by rw [refl_length, actW_length]
      rw [e2]
      clear e2
      go_wp2_with fail
      go_roundw
      case rel =>
        exact ⟨t, (t : Int) - 1, g2, c2, by omega, by go_num, rfl, rfl, ho2.mono hb2.size, hb2.trans (hb3.mono hb2.size)⟩
      case measure => simp [intOf]
    · obtain rfl : k = 0 := by omega
      obtain rfl : j = -1 := by omega
      clear hj
      go_wp2_with fail
      go_ret
      exact GotInts.mk' gv cv (actW_length _ _ _) ho hb
end Go.Proofs.YtnpechcnmchneaaGreatDoor
namespace Go.Proofs.YtnpechcnmchneaaGreatDoor
set_option maxRecDepth 100000
open Go.RowKit Game

set_option maxHeartbeats 1000000 in
theorem impl_AddWeights_any (g1 o1 n c1 g2 o2 c2 : Nat) (v r : List Int) (w : World) (hn1 : v.length = n) (hn2 : r.length = n) (hx : n ≤ 1048576) (hg1 : g1 < w.heap.size) (hg2 : g2 < w.heap.size) (ha : Cells w g1 o1 v) (hr : Cells w g2 o2 r) :
    Calls Tryz.prog 104 #[(Value.slice (some ⟨g1, o1, none⟩) n c1), (Value.slice (some ⟨g2, o2, none⟩) n c2)] w (GotInts w (addTo v r n)) := by
  go_enter Tryz.func104, Tryz.ntmps104
  go_wp2
  go_loopw [5, 13] (fun s kv wr => ∃ t g' c' : Nat, t ≤ n ∧ kv = .int .i64 t ∧ s = (Value.slice (some ⟨g', 0, none⟩) t c') ∧ Own wr w.heap.size g' c' (addTo v r t) ∧ Below w.heap.size w wr) (fun _ kv _ => n - (intOf kv).toNat)
  case atStart => exact ⟨0, w.heap.size, 0, Nat.zero_le _, rfl, rfl, Own.empty (Nat.le_refl _), (Below.refl _ _).alloc (Nat.le_refl _) _⟩
  case round =>
    obtain ⟨t, g', c', ht, rfl, rfl, ho, hb⟩ := hrel
    by_cases hlt : t < n
    · have k1 := (hb.cell (p := ⟨g1, o1 + t, none⟩) hg1).trans (ha t (by omega))
      have k2 := (hb.cell (p := ⟨g2, o2 + t, none⟩) hg2).trans (hr t (by omega))
      have hsucc := addTo_succ v r t
      have hl := addTo_length v r t
      have hBg := ho.base
      have ne1 : some g1 ≠ some g' := by intro e; cases e; omega
      have ne2 : some g2 ≠ some g' := by intro e; cases e; omega
      generalize v.getD t 0 = x at *
      generalize r.getD t 0 = y at *
      generalize addTo v r t = ys at *
      have Hs := Lib.hid hsucc; clear hsucc
      go_wp2_with fail
      go_region_held3 (fun W => W.cell? ⟨g1, o1 + t, none⟩ = some (.int .i64 x) ∧ W.cell? ⟨g2, o2 + t, none⟩ = some (.int .i64 y))
        (first | go_keep | exact ⟨hg3.cell (a := ⟨g1, o1 + t, none⟩) k1 ne1, hg3.cell (a := ⟨g2, o2 + t, none⟩) k2 ne2⟩)
        ((refine step_append_int (w := wr.drew) (by rfl) _ _ (by rfl) w.heap.size g' c' t wr.heap.size ys (IntKind.i64.wrap (x + y)) _ hl (by rfl) (by rfl) ho.drew (by rfl) (by rfl) (by omega) ?_; intro g3 c3 w3 ho3 hg3 hor))
      go_wp2_with fail
      go_roundw
      case rel =>
        rw [show IntKind.i64.wrap (x + y) = wrap64 (x + y) by simp only [wrap64, IntKind.wrap_i64], ← Hs.out] at ho3
        exact ⟨t + 1, g3, c3, by omega, by go_num, rfl, ho3, (Below.drew hb).grown hg3 hb.size (by intro j hj; cases hj; exact ho.base)⟩
      case measure => simp [intOf]; omega
    · obtain rfl : t = n := by omega
      go_wp2_with fail
      go_ret
      exact GotInts.mk' g' c' (addTo_length _ _ _) ho hb

def lessTo (v : List Int) (k : Nat) : List Int := (List.range v.length).map fun j => if j < k then v.getD j 0 - 1 else v.getD j 0
theorem lessTo_length (v : List Int) (k : Nat) : (lessTo v k).length = v.length := by simp [lessTo]
theorem lessTo_zero (v : List Int) : lessTo v 0 = v := by
  apply List.ext_getElem (by simp [lessTo])
  intro i h1 h2
  simp [lessTo, List.getD, h2]
theorem lessTo_getD {v : List Int} {k : Nat} (hk : k < v.length) : (lessTo v k).getD k 0 = v.getD k 0 := by simp [lessTo, List.getD, hk]
theorem lessTo_set {v : List Int} {k : Nat} (_hk : k < v.length) : (lessTo v k).set k (v.getD k 0 - 1) = lessTo v (k + 1) := by
  apply List.ext_getElem (by simp [lessTo])
  intro i h1 h2
  have hi : i < v.length := by simpa [lessTo] using h2
  rw [List.getElem_set]
  by_cases e : k = i
  · subst e
    rw [if_pos rfl]
    simp [lessTo]
  · rw [if_neg e]
    simp only [lessTo, List.getElem_map, List.getElem_range]
    by_cases h : i < k
    · rw [if_pos h, if_pos (by omega)]
    · rw [if_neg h, if_neg (by omega)]
theorem lessTo_all (v : List Int) : lessTo v v.length = shiftL v (onesL v.length) (-1) := by
  apply List.ext_getElem (by simp [lessTo, shiftL])
  intro i h1 h2
  have hi : i < v.length := by simpa [lessTo] using h1
  simp [lessTo, shiftL, onesL, List.getD, hi]
  omega

set_option maxHeartbeats 1000000 in
theorem impl_lessRho_any (g o n cp : Nat) (v : List Int) (w : World) (hn : v.length = n) (hx : n ≤ 4) (hbd : ∀ j, j < n → -1000000 ≤ v.getD j 0 ∧ v.getD j 0 ≤ 1000000) (hg : g < w.heap.size) (hc : Cells w g o v) :
    Calls Tryz.prog 102 #[(Value.slice (some ⟨g, o, none⟩) n cp)] w (GotInts w (shiftL v (onesL n) (-1))) := by
  have HA := Lib.hid (lessTo_all v)
  rw [hn] at HA
  have HS := Lib.hid (fun k (hk : k < n) => lessTo_set (v := v) (k := k) (by rw [hn]; exact hk))
  have HG := Lib.hid (fun k (hk : k < n) => lessTo_getD (v := v) (k := k) (by rw [hn]; exact hk))
  have HL := Lib.hid (fun k => (lessTo_length v k).trans hn)
  have Hbd := Lib.hid hbd
  have H0 := Lib.hid (lessTo_zero v)
  rw [← HA.out]
  have Hn := Lib.hid hn
  clear hn hbd HA
  go_enter Tryz.func102, Tryz.ntmps102
  go_wp2_with (at_builtin; refine wpList_clone rfl _ _ rfl g o n cp v Hn.out hg hc rfl rfl (by rw [Hn.out]; omega) ?_)
  intro g1 c1 w1 ho1 hb1
  go_wp2_with fail
  go_loopw [10] (fun kv wr => ∃ k : Nat, k ≤ n ∧ kv = .int .i64 k ∧ Own wr w.heap.size g1 c1 (lessTo v k) ∧ Below w.heap.size w wr) (fun kv _ => n - (intOf kv).toNat)
  case atStart => exact ⟨0, Nat.zero_le _, rfl, by rw [H0.out]; exact ho1, hb1⟩
  case round =>
    obtain ⟨k, hk, rfl, ho, hb⟩ := hrel
    by_cases hlt : k < n
    · have hgt := HG.out k hlt
      have hst := HS.out k hlt
      have hbk := Hbd.out k hlt
      have x0 := ho.cell k (by rw [HL.out]; exact hlt)
      have y0 := ho.frozen k
      rw [hgt] at x0
      have s1 := ho.set k (v.getD k 0 - 1)
      rw [hst] at s1
      have hB1 : Below w.heap.size w (wr.setCell ⟨g1, k, none⟩ (.int .i64 (v.getD k 0 - 1))) := hb.grown s1.2 hb.size (by intro j hj; cases hj; exact ho.base)
      generalize v.getD k 0 = x at *
      have hw : IntKind.i64.wrap (x - 1) = x - 1 := IntWalk.i64_in _ ⟨by omega, by omega⟩
      obtain ⟨s1, -⟩ := s1
      clear ho hst hgt
      go_wp2_with fail
      go_roundw
      case rel => exact ⟨k + 1, by omega, by go_num, s1, hB1⟩
      case measure => simp [intOf]; omega
    · obtain rfl : k = n := by omega
      go_wp2_with fail
      go_ret
      exact GotInts.mk' g1 c1 (HL.out _) ho hb

theorem act_small {c : List (List Int)} (hG : Grp c) {v : List Int} (hv : Sml c.length v) {n : Nat} {W : List Nat} (hW : Elt c n W) : ∀ j, j < c.length → -199 ≤ (actW c (intsOf W) (plusL c.length v)).getD j 0 ∧ (actW c (intsOf W) (plusL c.length v)).getD j 0 ≤ 201 := by
  intro j hj
  have h := (dot_wt hG hv hW).2 j hj
  unfold dotL at h
  rw [shiftL_getD _ _ _ (by rw [actW_length, plusL_length]; exact hj)] at h
  have e1 : (onesL c.length).getD j 0 = 1 := by simp [onesL, List.getD, hj]
  rw [e1] at h
  omega

set_option maxHeartbeats 1000000 in
theorem impl_DotAction_ok (gc oc n cc g1 o1 n1 c1 g2 o2 c2 : Nat) (c : List (List Int)) (v : List Int) (W : List Nat) (N : Nat) (w : World) (hn : c.length = n) (hG : Grp c) (hv : Sml n v) (hW : Elt c N W) (hN : N ≤ 9) (hn1 : (intsOf W).length = n1)
    (hgc : gc < w.heap.size) (hg1 : g1 < w.heap.size) (hg2 : g2 < w.heap.size) (hr : Rows2 w gc oc c) (hc1 : Cells w g1 o1 (intsOf W)) (hc2 : Cells w g2 o2 v) :
    Calls Tryz.prog 53 #[(Value.slice (some ⟨gc, oc, none⟩) n cc), (Value.slice (some ⟨g1, o1, none⟩) n1 c1), (Value.slice (some ⟨g2, o2, none⟩) n c2)] w (GotInts w (dotL c (intsOf W) v)) := by
  subst hn
  have hC := hG.hC
  have hn4 := hC.2.1
  have hwd := elt_word hC hW hN
  have hl : (intsOf W).length ≤ 9 := by rw [intsOf_length]; have := hW.len; omega
  have hin : ∀ k, k < (intsOf W).length → 0 ≤ (intsOf W).getD k 0 ∧ (intsOf W).getD k 0 < c.length := fun k hk => by
    rw [intsOf_length] at hk
    rw [intsOf_getD _ _ hk]
    have := hW.nf.lt (W.getD k 0) (by simp [List.getD, hk])
    omega
  have hsm := act_small hG hv hW
  have HK := impl_IsWord_any gc oc c.length cc g1 o1 n1 c1 c (intsOf W) w rfl hn1 (by omega) (fun j hj => by rw [hC.2.2.1 j hj]; omega) (by omega) hr hc1
  rw [hwd] at HK
  have HO := Lib.hid (fun W' => impl_ones_any c.length W' (by omega))
  have HP := Lib.hid (fun g3 c3 W' (hB : Below w.heap.size w W') (hlt : g3 < W'.heap.size) (ho : Cells W' g3 0 (onesL c.length)) => impl_AddWeights_any g2 o2 c.length c2 g3 0 c3 v (onesL c.length) W' hv.1 (onesL_length _) (by omega) (Nat.lt_of_lt_of_le hg2 hB.size) hlt (hc2.below hB hg2) ho)
  have HA := Lib.hid (fun g3 c3 W' (hB : Below w.heap.size w W') (hlt : g3 < W'.heap.size) (ho : Cells W' g3 0 (plusL c.length v)) => impl_acted_any gc oc c.length cc g1 o1 n1 c1 g3 0 c.length c3 c (intsOf W) (plusL c.length v) W' rfl hn1 (plusL_length _ _) hC (plusL_length _ _) (by omega) hin (Nat.lt_of_lt_of_le hgc hB.size) (Nat.lt_of_lt_of_le hg1 hB.size) hlt (hr.below hB hgc) (hc1.below hB hg1) ho)
  have HR := Lib.hid (fun g3 c3 W' (hlt : g3 < W'.heap.size) (ho : Cells W' g3 0 (actW c (intsOf W) (plusL c.length v))) => impl_lessRho_any g3 0 c.length c3 (actW c (intsOf W) (plusL c.length v)) W' (by rw [actW_length, plusL_length]) hn4 (fun j hj => by have := hsm j hj; omega) hlt ho)
  have hpl : (addTo v (onesL c.length) c.length) = plusL c.length v := rfl
  have hdl : dotL c (intsOf W) v = shiftL (actW c (intsOf W) (plusL c.length v)) (onesL c.length) (-1) := rfl
  have Hdl := Lib.hid (dotL_length (c := c) (w := intsOf W) (v := v))
  have Hal := Lib.hid (show (actW c (intsOf W) (plusL c.length v)).length = c.length by rw [actW_length, plusL_length])
  have Hpl := Lib.hid (plusL_length c.length v)
  rw [hpl] at HP
  rw [← hdl] at HR
  have HK := Lib.hid HK
  have hvl := hv.1
  clear hsm hwd hin hdl hpl hv hl
  generalize dotL c (intsOf W) v = D at *
  generalize actW c (intsOf W) (plusL c.length v) = A at *
  generalize plusL c.length v = Pl at *
  generalize hWI : intsOf W = WI at *
  have HWI := Lib.hid hWI
  clear hWI hW hG
  go_enter Tryz.func53, Tryz.ntmps53
  go_wp2_with fail
  refine HK.out.mono ?_
  rintro e w1 ⟨rfl, hs1⟩
  have hB1 := below_still (Below.refl w.heap.size w) hs1
  clear hs1
  go_wp2_with fail
  refine (HO.out w1).mono ?_
  rintro e w2 ⟨g3, c3, rfl, ho3, hb2⟩
  rw [onesL_length]
  have hB2 := hB1.trans (hb2.mono hB1.size)
  go_wp2_with fail
  refine (HP.out g3 c3 w2 hB2 ho3.lt ho3.cells).mono ?_
  rintro e w3 ⟨g4, c4, rfl, ho4, hb3⟩
  rw [Hpl.out]
  have hB3 := hB2.trans (hb3.mono hB2.size)
  clear ho3 hb2 hb3
  go_wp2_with fail
  refine (HA.out g4 c4 w3 hB3 ho4.lt ho4.cells).mono ?_
  rintro e w4 ⟨g5, c5, rfl, ho5, hb4⟩
  rw [Hal.out]
  have hB4 := hB3.trans (hb4.mono hB3.size)
  clear ho4 hb4
  go_wp2_with fail
  refine (HR.out g5 c5 w4 ho5.lt ho5.cells).mono ?_
  rintro e w5 ⟨g6, c6, rfl, ho6, hb5⟩
  rw [Hdl.out]
  go_wp2_with fail
  go_ret
  exact ⟨g6, c6, by rw [Hdl.out]; rfl, ho6.mono hB4.size, hB4.trans (hb5.mono hB4.size)⟩

set_option maxHeartbeats 1000000 in
theorem spec_DotAction_ok (gc oc n cc g1 o1 n1 c1 g2 o2 c2 : Nat) (c : List (List Int)) (v : List Int) (W : List Nat) (N : Nat) (w : World) (hn : c.length = n) (hG : Grp c) (hv : Sml n v) (hW : Elt c N W) (hN : N ≤ 9) (hn1 : (intsOf W).length = n1)
    (hgc : gc < w.heap.size) (hg1 : g1 < w.heap.size) (hg2 : g2 < w.heap.size) (hr : Rows2 w gc oc c) (hc1 : Cells w g1 o1 (intsOf W)) (hc2 : Cells w g2 o2 v) :
    Calls Tryz.prog 44 #[(Value.slice (some ⟨gc, oc, none⟩) n cc), (Value.slice (some ⟨g1, o1, none⟩) n1 c1), (Value.slice (some ⟨g2, o2, none⟩) n c2)] w (GotInts w (dotL c (intsOf W) v)) := by
  subst hn
  have hC := hG.hC
  have hn4 := hC.2.1
  have hwd := elt_word hC hW hN
  have hl : (intsOf W).length ≤ 9 := by rw [intsOf_length]; have := hW.len; omega
  have hin : ∀ k, k < (intsOf W).length → 0 ≤ (intsOf W).getD k 0 ∧ (intsOf W).getD k 0 < c.length := fun k hk => by
    rw [intsOf_length] at hk
    rw [intsOf_getD _ _ hk]
    have := hW.nf.lt (W.getD k 0) (by simp [List.getD, hk])
    omega
  have hsm := act_small hG hv hW
  have HK := spec_IsWord_any gc oc c.length cc g1 o1 n1 c1 c (intsOf W) w rfl hn1 (by omega) (fun j hj => by rw [hC.2.2.1 j hj]; omega) (by omega) hr hc1
  rw [hwd] at HK
  have HO := Lib.hid (fun W' (hB : Below w.heap.size w W') => spec_RhoOf_ok gc oc c.length cc c W' rfl hC (Nat.lt_of_lt_of_le hgc hB.size) (hr.below hB hgc))
  have HP := Lib.hid (fun g3 c3 W' (hB : Below w.heap.size w W') (hlt : g3 < W'.heap.size) (ho : Cells W' g3 0 (onesL c.length)) => spec_AddWeights_any g2 o2 c.length c2 g3 0 c3 v (onesL c.length) W' hv.1 (onesL_length _) (by omega) (Nat.lt_of_lt_of_le hg2 hB.size) hlt (hc2.below hB hg2) ho)
  have HA := Lib.hid (fun g3 c3 W' (hB : Below w.heap.size w W') (hlt : g3 < W'.heap.size) (ho : Cells W' g3 0 (plusL c.length v)) => spec_ActOnWeight_ok gc oc c.length cc g1 o1 n1 c1 g3 0 c.length c3 c (intsOf W) (plusL c.length v) W' rfl hn1 (plusL_length _ _) hC (plusL_length _ _) hwd (by omega) hin (Nat.lt_of_lt_of_le hgc hB.size) (Nat.lt_of_lt_of_le hg1 hB.size) hlt (hr.below hB hgc) (hc1.below hB hg1) ho)
  have HR := Lib.hid (fun g3 c3 g4 c4 W' (hlt : g3 < W'.heap.size) (hlt4 : g4 < W'.heap.size) (ho : Cells W' g3 0 (actW c (intsOf W) (plusL c.length v))) (ho4 : Cells W' g4 0 (onesL c.length)) => spec_l27Add_shift g3 0 c.length c3 g4 0 c4 (actW c (intsOf W) (plusL c.length v)) (onesL c.length) (-1) W' (by rw [actW_length, plusL_length]) (onesL_length _) (by omega) (fun j hj => by have := hsm j hj; omega) (fun j hj => by simp [onesL, List.getD, hj]) (by omega) hlt hlt4 ho ho4)
  have hpl : (addTo v (onesL c.length) c.length) = plusL c.length v := rfl
  have hdl : dotL c (intsOf W) v = shiftL (actW c (intsOf W) (plusL c.length v)) (onesL c.length) (-1) := rfl
  have Hdl := Lib.hid (dotL_length (c := c) (w := intsOf W) (v := v))
  have Hal := Lib.hid (show (actW c (intsOf W) (plusL c.length v)).length = c.length by rw [actW_length, plusL_length])
  have Hpl := Lib.hid (plusL_length c.length v)
  rw [hpl] at HP
  rw [← hdl] at HR
  have HK := Lib.hid HK
  have hvl := hv.1
  clear hsm hwd hin hdl hpl hv hl
  generalize dotL c (intsOf W) v = D at *
  generalize actW c (intsOf W) (plusL c.length v) = A at *
  generalize plusL c.length v = Pl at *
  generalize hWI : intsOf W = WI at *
  have HWI := Lib.hid hWI
  clear hWI hW hG
  go_enter Tryz.func44, Tryz.ntmps44
  go_wp2_with fail
  refine HK.out.mono ?_
  rintro e w1 ⟨rfl, hs1⟩
  have hB1 := below_still (Below.refl w.heap.size w) hs1
  clear hs1
  go_wp2_with fail
  refine (HO.out w1 hB1).mono ?_
  rintro e w2 ⟨g3, c3, rfl, ho3, hb2⟩
  rw [onesL_length]
  have hB2 := hB1.trans (hb2.mono hB1.size)
  go_wp2_with fail
  refine (HP.out g3 c3 w2 hB2 ho3.lt ho3.cells).mono ?_
  rintro e w3 ⟨g4, c4, rfl, ho4, hb3⟩
  rw [Hpl.out]
  have hB3 := hB2.trans (hb3.mono hB2.size)
  clear ho3 hb2 hb3
  go_wp2_with fail
  refine (HA.out g4 c4 w3 hB3 ho4.lt ho4.cells).mono ?_
  rintro e w4 ⟨g5, c5, rfl, ho5, hb4⟩
  rw [Hal.out]
  have hB4 := hB3.trans (hb4.mono hB3.size)
  clear ho4 hb4
  go_wp2_with fail
  refine (HO.out w4 hB4).mono ?_
  rintro e w5 ⟨g6, c6, rfl, ho6, hb5⟩
  rw [onesL_length]
  have hB5 := hB4.trans (hb5.mono hB4.size)
  have ho5' := ho5.below hb5 ho5.lt
  clear ho5 hb5
  go_wp2_with fail
  refine (HR.out g5 c5 g6 c6 w5 ho5'.lt ho6.lt ho5'.cells ho6.cells).mono ?_
  rintro e w6 ⟨g7, c7, rfl, ho7, hb6⟩
  rw [Hdl.out]
  go_wp2_with fail
  go_ret
  exact ⟨g7, c7, by rw [Hdl.out]; rfl, ho7.mono hB5.size, hB5.trans (hb6.mono hB5.size)⟩

set_option maxHeartbeats 1000000 in
theorem impl_SignOf_any (g o n cp : Nat) (l : List Int) (w : World) (hn : l.length = n) : Calls Tryz.prog 55 #[(Value.slice (some ⟨g, o, none⟩) n cp)] w (Reads w (.int .i64 (sgnW l))) := by
  have e1 : Int.tmod (n : Int) 2 = ((n % 2 : Nat) : Int) := by rw [Int.tmod_eq_emod_of_nonneg (by omega)]; simp
  have e2 : (n : Int) % 2 = ((n % 2 : Nat) : Int) := by omega
  unfold sgnW
  rw [hn]
  by_cases hp : n % 2 = 0
  · rw [if_pos hp]
    rw [hp] at e1 e2
    go_enter Tryz.func55, Tryz.ntmps55
    go_wp2_with fail
    go_ret
    exact ⟨rfl, (by first | exact ⟨_, rfl⟩ | exact ⟨0, rfl⟩ | exact still2 _ _ _ | exact still3 _ _ _ _)⟩
  · rw [if_neg hp]
    have hp1 : n % 2 = 1 := by omega
    rw [hp1] at e1 e2
    go_enter Tryz.func55, Tryz.ntmps55
    go_wp2_with fail
    go_ret
    exact ⟨rfl, (by first | exact ⟨_, rfl⟩ | exact ⟨0, rfl⟩ | exact still2 _ _ _ | exact still3 _ _ _ _)⟩
set_option maxHeartbeats 1000000 in
theorem spec_SignOf_any (g o n cp : Nat) (l : List Int) (w : World) (hn : l.length = n) : Calls Tryz.prog 47 #[(Value.slice (some ⟨g, o, none⟩) n cp)] w (Reads w (.int .i64 (sgnW l))) := by
  have e1 : Int.tmod (n : Int) 2 = ((n % 2 : Nat) : Int) := by rw [Int.tmod_eq_emod_of_nonneg (by omega)]; simp
  have e2 : (n : Int) % 2 = ((n % 2 : Nat) : Int) := by omega
  unfold sgnW
  rw [hn]
  by_cases hp : n % 2 = 0
  · rw [if_pos hp]
    rw [hp] at e1 e2
    go_enter Tryz.func47, Tryz.ntmps47
    go_wp2_with fail
    go_ret
    exact ⟨rfl, (by first | exact ⟨_, rfl⟩ | exact ⟨0, rfl⟩ | exact still2 _ _ _ | exact still3 _ _ _ _)⟩
  · rw [if_neg hp]
    have hp1 : n % 2 = 1 := by omega
    rw [hp1] at e1 e2
    go_enter Tryz.func47, Tryz.ntmps47
    go_wp2_with fail
    go_ret
    exact ⟨rfl, (by first | exact ⟨_, rfl⟩ | exact ⟨0, rfl⟩ | exact still2 _ _ _ | exact still3 _ _ _ _)⟩
end Go.Proofs.YtnpechcnmchneaaGreatDoor
