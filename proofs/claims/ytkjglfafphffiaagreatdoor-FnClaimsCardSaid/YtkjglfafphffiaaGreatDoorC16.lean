/- Seq -/
import Derived.Test.YtkjglfafphffiaaGreatDoorC15
import Derived.Test.YtkjglfafphffiaaGreatDoorC00
import Derived.Deep.RegionHeld3
namespace Go.Proofs.YtkjglfafphffiaaGreatDoor
set_option maxRecDepth 100000
open Go.RowKit
structure WordOk (c : List (List Int)) (v : List Int) : Prop where
  isC : IsC c
  few : v.length ≤ 15
  inr : ∀ k, k < v.length → 0 ≤ v.getD k 0 ∧ v.getD k 0 < (c.length : Int)
theorem wordOk_of {c : List (List Int)} {v : List Int} (h : isWordB c v = true) : WordOk c v := by
  obtain ⟨h1, h2, h3⟩ := isWordB_of h
  exact ⟨h1, h2, fun k hk => h3 _ (by simp [List.getD, hk])⟩
theorem WordOk.isWord {c : List (List Int)} {v : List Int} (h : WordOk c v) : isWordB c v = true := by
  unfold isWordB
  rw [decide_eq_true h.isC, decide_eq_true h.few, letters_in h.inr]
  rfl
theorem WordOk.take {c : List (List Int)} {v : List Int} (h : WordOk c v) (k : Nat) : WordOk c (v.take k) :=
  ⟨h.isC, by rw [List.length_take]; have := h.few; omega, fun j hj => by
    have hj' : j < v.length := by rw [List.length_take] at hj; omega
    have hjk : j < k := by rw [List.length_take] at hj; omega
    have := h.inr j hj'
    simpa [List.getD, hj', hjk] using this⟩
def actR (c : List (List Int)) : List Int → List Int → List Int
  | [], r => r
  | i :: l, r => mirL c i.toNat (actR c l r)
theorem actR_length (c : List (List Int)) (l r : List Int) : (actR c l r).length = r.length := by
  induction l with
  | nil => rfl
  | cons i l ih => rw [actR, mirL_length, ih]
theorem actR_drop (c : List (List Int)) (l r : List Int) (k : Nat) (hk : k < l.length) : actR c (l.drop k) r = mirL c (l.getD k 0).toNat (actR c (l.drop (k + 1)) r) := by
  rw [List.drop_eq_getElem_cons hk]
  simp [actR, List.getD, hk]
def seqL (c : List (List Int)) (v : List Int) : List (List Int) := (List.range v.length).map fun k => actR c (v.take k) (simpL c.length (v.getD k 0).toNat)
def seqTo (c : List (List Int)) (v : List Int) (t : Nat) : List (List Int) := (List.range t).map fun k => actR c (v.take k) (simpL c.length (v.getD k 0).toNat)
theorem seqTo_succ (c : List (List Int)) (v : List Int) (t : Nat) : seqTo c v (t + 1) = seqTo c v t ++ [actR c (v.take t) (simpL c.length (v.getD t 0).toNat)] := by simp [seqTo, List.range_succ]
set_option maxHeartbeats 1000000 in
theorem impl_actedRoot_any (gc oc n cc g1 o1 n1 c1 g2 o2 n2 c2 : Nat) (c : List (List Int)) (l r : List Int) (w : World) (hn : c.length = n) (hn1 : l.length = n1) (hn2 : r.length = n2) (hC : IsC c) (hl : l.length ≤ 1048576)
    (hin : ∀ k, k < l.length → 0 ≤ l.getD k 0 ∧ l.getD k 0 < (c.length : Int)) (hrl : r.length = c.length) (hgc : gc < w.heap.size) (hg1 : g1 < w.heap.size) (hg2 : g2 < w.heap.size) (hr : Rows2 w gc oc c) (hc1 : Cells w g1 o1 l) (hc2 : Cells w g2 o2 r) :
    Calls Tryz.prog 137 #[(Value.slice (some ⟨gc, oc, none⟩) n cc), (Value.slice (some ⟨g1, o1, none⟩) n1 c1), (Value.slice (some ⟨g2, o2, none⟩) n2 c2)] w (GotInts w (actR c l r)) := by
  subst hn; subst hn1; subst hn2
  have hn4 := hC.2.1
  have hcl := hC.2.2.1
  have ew : IntKind.i64.wrap ((l.length : Int) - 1) = (l.length : Int) - 1 := IntWalk.i64_in _ (by omega)
  have Hrl := Lib.hid hrl; have Hcl := Lib.hid hcl; have Hr := Lib.hid hr
  clear hrl hcl hr
  go_enter Tryz.func137, Tryz.ntmps137
  go_wp2_with (at_builtin; refine wpList_clone rfl _ _ rfl g2 o2 _ c2 r rfl hg2 hc2 rfl rfl (by have := Hrl.out; omega) ?_)
  intro gv cv w1 ho1 hb1
  go_wp2
  clear ew
  go_loopw [7, 8] (fun s i wr => ∃ (k : Nat) (j : Int) (gv cv : Nat), k ≤ l.length ∧ i = .int .i64 j ∧ j = (k : Int) - 1 ∧ s = (Value.slice (some ⟨gv, 0, none⟩) r.length cv) ∧ Own wr w.heap.size gv cv (actR c (l.drop k) r) ∧ Below w.heap.size w wr) (fun _ i _ => (intOf i + 1).toNat)
  case atStart => exact ⟨l.length, _, gv, cv, Nat.le_refl _, rfl, rfl, rfl, by rw [List.drop_length]; exact ho1, hb1⟩
  case round =>
    clear ho1 hb1
    obtain ⟨k, j, gv, cv, hk, rfl, hj, rfl, ho, hb⟩ := hrel
    by_cases hlt : 0 < k
    · obtain ⟨t, rfl⟩ : ∃ t, k = t + 1 := ⟨k - 1, by omega⟩
      obtain rfl : j = (t : Int) := by omega
      have htl : t < l.length := by omega
      have q1 := hc1.below hb hg1 t htl
      have hit := hin t htl
      have hd := actR_drop c l r t htl
      obtain ⟨iN, hiN⟩ : ∃ iN : Nat, l.getD t 0 = iN := ⟨(l.getD t 0).toNat, by omega⟩
      rw [hiN] at q1 hit hd
      rw [Int.toNat_natCast] at hd
      have hic : iN < c.length := by omega
      have hal : (actR c (l.drop (t + 1)) r).length = r.length := actR_length _ _ _
      have hal2 : (actR c (l.drop (t + 1)) r).length = c.length := by rw [hal]; exact Hrl.out
      have hcall := impl_mirrored_any gc oc _ cc iN gv 0 r.length cv c (actR c (l.drop (t + 1)) r) wr rfl hal hic (by rw [hal2]; exact hic) (by rw [hal2, Hcl.out iN hic]; exact Nat.le_refl _) (by rw [Hcl.out iN hic]; omega) (Nat.lt_of_lt_of_le hgc hb.size) ho.lt (Hr.out.below hb hgc) ho.cells
      rw [← hd] at hcall
      have hal3 : (actR c (l.drop t) r).length = r.length := actR_length _ _ _
      have Hcall := Lib.hid hcall; have Hal3 := Lib.hid hal3
      clear hcall hd hiN hal hal2 hal3 hit
      clear hj
      go_wp2_with fail
      refine Hcall.out.mono ?_
      rintro e w2 ⟨g2, c2, rfl, ho2, hb2⟩
      rw [Hal3.out]
      go_wp2_with fail
      go_roundw
      case rel =>
        exact ⟨t, (t : Int) - 1, g2, c2, by omega, by go_num, rfl, rfl, ho2.mono hb.size, hb.trans (hb2.mono hb.size)⟩
      case measure => simp [intOf]
    · obtain rfl : k = 0 := by omega
      obtain rfl : j = -1 := by omega
      clear hj
      go_wp2
      go_ret
      exact GotInts.mk' gv cv (actR_length _ _ _) ho hb
set_option maxHeartbeats 1000000 in
theorem spec_ActOnRoot_ok (gc oc n cc g1 o1 n1 c1 g2 o2 n2 c2 : Nat) (c : List (List Int)) (l r : List Int) (w : World) (hn : c.length = n) (hn1 : l.length = n1) (hn2 : r.length = n2) (hW : WordOk c l)
    (hrl : r.length = c.length) (hgc : gc < w.heap.size) (hg1 : g1 < w.heap.size) (hg2 : g2 < w.heap.size) (hr : Rows2 w gc oc c) (hc1 : Cells w g1 o1 l) (hc2 : Cells w g2 o2 r) :
    Calls Tryz.prog 110 #[(Value.slice (some ⟨gc, oc, none⟩) n cc), (Value.slice (some ⟨g1, o1, none⟩) n1 c1), (Value.slice (some ⟨g2, o2, none⟩) n2 c2)] w (GotInts w (actR c l r)) := by
  subst hn; subst hn1; subst hn2
  have hC := hW.isC
  have hl := hW.few
  have hin := hW.inr
  have hn4 := hC.2.1
  have hcl := hC.2.2.1
  have ew : IntKind.i64.wrap ((l.length : Int) - 1) = (l.length : Int) - 1 := IntWalk.i64_in _ (by omega)
  have hrlI : ((r.length : Int) == (c.length : Int)) = true := by rw [hrl]; simp
  have hIW := Lib.hid (fun W (hb : Below w.heap.size w W) => spec_IsWord_any gc oc _ cc g1 o1 _ c1 c l W rfl rfl (by omega) (fun j hj => by have := hcl j hj; omega) (by omega) (hr.below hb hgc) (hc1.below hb hg1))
  rw [hW.isWord] at hIW
  have Hrl := Lib.hid hrl; have Hcl := Lib.hid hcl; have Hr := Lib.hid hr
  clear hrl hcl hr
  go_enter Tryz.func110, Tryz.ntmps110
  go_wp2_with (at_builtin; refine wpList_clone rfl _ _ rfl g2 o2 _ c2 r rfl hg2 hc2 rfl rfl (by have := Hrl.out; omega) ?_)
  intro gv cv w1 ho1 hb1
  go_wp2
  clear ew
  go_loopw [7, 8] (fun s i wr => ∃ (k : Nat) (j : Int) (gv cv : Nat), k ≤ l.length ∧ i = .int .i64 j ∧ j = (k : Int) - 1 ∧ s = (Value.slice (some ⟨gv, 0, none⟩) r.length cv) ∧ Own wr w.heap.size gv cv (actR c (l.drop k) r) ∧ Below w.heap.size w wr) (fun _ i _ => (intOf i + 1).toNat)
  case atStart => exact ⟨l.length, _, gv, cv, Nat.le_refl _, rfl, rfl, rfl, by rw [List.drop_length]; exact ho1, hb1⟩
  case round =>
    clear ho1 hb1
    obtain ⟨k, j, gv, cv, hk, rfl, hj, rfl, ho, hb⟩ := hrel
    by_cases hlt : 0 < k
    · obtain ⟨t, rfl⟩ : ∃ t, k = t + 1 := ⟨k - 1, by omega⟩
      obtain rfl : j = (t : Int) := by omega
      have htl : t < l.length := by omega
      have q1 := hc1.below hb hg1 t htl
      have hit := hin t htl
      have hd := actR_drop c l r t htl
      obtain ⟨iN, hiN⟩ : ∃ iN : Nat, l.getD t 0 = iN := ⟨(l.getD t 0).toNat, by omega⟩
      rw [hiN] at q1 hit hd
      rw [Int.toNat_natCast] at hd
      have hic : iN < c.length := by omega
      have hal : (actR c (l.drop (t + 1)) r).length = r.length := actR_length _ _ _
      have hal2 : (actR c (l.drop (t + 1)) r).length = c.length := by rw [hal]; exact Hrl.out
      have hcall := fun W (hs : ∃ q, W = wr.drewN q) => spec_l7Reflect_any gc oc _ cc iN gv 0 r.length cv c (actR c (l.drop (t + 1)) r) W rfl hal hic (by rw [hal2]; exact hic) (by rw [hal2, Hcl.out iN hic]; exact Nat.le_refl _) (by rw [Hcl.out iN hic]; omega) (Nat.lt_of_lt_of_le hgc (below_still hb hs).size) (ho.still hs).lt (Hr.out.below (below_still hb hs) hgc) (ho.still hs).cells
      rw [← hd] at hcall
      have hal3 : (actR c (l.drop t) r).length = r.length := actR_length _ _ _
      have Hcall := Lib.hid hcall; have Hal3 := Lib.hid hal3
      have hI := hIW.out wr hb
      have HI := Lib.hid hI
      clear hcall hd hiN hal hal2 hal3 hit hI
      clear hj
      go_wp2_with fail
      refine HI.out.mono ?_
      rintro e w3 ⟨rfl, hs3⟩
      have q1' := (cell_still hs3 _).trans q1
      have hb3 := below_still hb hs3
      go_wp2_with fail
      refine (Hcall.out _ hs3).mono ?_
      rintro e w2 ⟨g2, c2, rfl, ho2, hb2⟩
      rw [Hal3.out]
      go_wp2_with fail
      go_roundw
      case rel =>
        exact ⟨t, (t : Int) - 1, g2, c2, by omega, by go_num, rfl, rfl, ho2.mono hb3.size, hb3.trans (hb2.mono hb3.size)⟩
      case measure => simp [intOf]
    · obtain rfl : k = 0 := by omega
      obtain rfl : j = -1 := by omega
      clear hj
      go_wp2
      go_ret
      exact GotInts.mk' gv cv (actR_length _ _ _) ho hb
set_option maxRecDepth 100000 in
set_option maxHeartbeats 2000000 in
theorem impl_sequence_any (gc oc n cc g o m cp : Nat) (c : List (List Int)) (v : List Int) (w : World) (hn : c.length = n) (hm : v.length = m) (hcap : v.length ≤ cp) (hC : IsC c) (hl : v.length ≤ 1048576)
    (hin : ∀ k, k < v.length → 0 ≤ v.getD k 0 ∧ v.getD k 0 < (c.length : Int)) (hgc : gc < w.heap.size) (hg : g < w.heap.size) (hr : Rows2 w gc oc c) (hv : Cells w g o v) :
    Calls Tryz.prog 85 #[(Value.slice (some ⟨gc, oc, none⟩) n cc), (Value.slice (some ⟨g, o, none⟩) m cp)] w (GotRows w (seqL c v)) := by
  subst hn; subst hm
  have hn4 := hC.2.1
  have Hr := Lib.hid hr; have Hin := Lib.hid hin; have HC := Lib.hid hC
  clear hr hin hC
  go_enter Tryz.func85, Tryz.ntmps85
  go_wp2
  go_loopw [5, 11] (fun s i wr => ∃ (t gO cO : Nat) (rs : List RowRef), t ≤ v.length ∧ i = .int .i64 t ∧ s = (Value.slice (some ⟨gO, 0, none⟩) t cO) ∧ Hid (rs.length = t) ∧ Hid (contents rs = seqTo c v t) ∧ OwnRows wr w.heap.size gO cO rs ∧ Below w.heap.size w wr) (fun _ i _ => v.length - (intOf i).toNat)
  case atStart => exact ⟨0, _, 0, [], Nat.zero_le _, rfl, rfl, rfl, rfl, OwnRows.empty (Nat.le_refl _), (Below.refl _ _).alloc (Nat.le_refl _) _⟩
  case round =>
    obtain ⟨t, gO, cO, rs, ht, rfl, rfl, hrs, hcont, ho, hb⟩ := hrel
    by_cases hlt : t < v.length
    · have q1 := hv.below hb hg t hlt
      have hit := Hin.out t hlt
      have hsucc := seqTo_succ c v t
      obtain ⟨iN, hiN⟩ : ∃ iN : Nat, v.getD t 0 = iN := ⟨(v.getD t 0).toNat, by omega⟩
      rw [hiN] at q1 hit hsucc
      rw [Int.toNat_natCast] at hsucc
      have hic : iN < c.length := by omega
      have hsl := simpL_length c.length iN
      have hrl : (actR c (v.take t) (simpL c.length iN)).length = c.length := by rw [actR_length]; exact hsl
      have hinT : ∀ k, k < (v.take t).length → 0 ≤ (v.take t).getD k 0 ∧ (v.take t).getD k 0 < (c.length : Int) := fun k hk => by
        have hk' : k < v.length := by rw [List.length_take] at hk; omega
        have hkt : k < t := by rw [List.length_take] at hk; omega
        have := Hin.out k hk'
        simpa [List.getD, hk', hkt] using this
      have htl : (v.take t).length = t := by rw [List.length_take]; omega
      have kS := Lib.hid (fun W => impl_simple_any c.length iN W (by omega) hic)
      have kR := Lib.hid (fun (W : World) (B gA cA : Nat) (hW : Below w.heap.size w W) (hA : Own W B gA cA (simpL c.length iN)) => impl_actedRoot_any gc oc _ cc g o t cp gA 0 c.length cA c (v.take t) (simpL c.length iN) W rfl htl hsl HC.out (by rw [htl]; omega) hinT hsl (Nat.lt_of_lt_of_le hgc hW.size) (Nat.lt_of_lt_of_le hg hW.size) hA.lt (Hr.out.below hW hgc) ((hv.take t).below hW hg) hA.cells)
      generalize actR c (v.take t) (simpL c.length iN) = row at *
      generalize simpL c.length iN = x0 at *
      have Hsl := Lib.hid hsl; have Hrl := Lib.hid hrl; have Hsucc := Lib.hid hsucc
      clear hsl hrl hsucc hiN hinT htl hit
      have b1 : (0 : Int) ≤ (t : Int) := by omega
      have b2 : (t : Int) ≤ (cp : Int) := by omega
      have b3 : (t : Int) ≤ (v.length : Int) := by omega
      have hbD := Lib.hid (show Below w.heap.size w wr.drew from Below.drew hb)
      have hoD := Lib.hid (show OwnRows wr.drew w.heap.size gO cO rs from ho)
      have HNe := Lib.hid (fun (x : Nat) (hx : wr.drew.heap.size ≤ x) => show ∀ s ∈ rs, s.1 ≠ x from fun s hs e => by have h1 := (ho.2.1 s hs).lt; have h2 : wr.heap.size ≤ x := hx; omega)
      have HoB := Lib.hid (fun (W1 W2 : World) (h1 : Below wr.drew.heap.size wr.drew W1) (h2 : Below W1.heap.size W1 W2) => show OwnRows W2 w.heap.size gO cO rs from (hoD.out.below h1).below h2)
      have Hrv := Lib.hid (fun (gB cB : Nat) => show rowVal (gB, cB, row) = (Value.slice (some ⟨gB, 0, none⟩) c.length cB) from by unfold rowVal; rw [Hrl.out])
      clear ho
      go_wp2
      go_region_held3 (fun _ => True) (exact trivial)
        (first
          | (go_at_call 138; refine (kS.out _).mono ?_; rintro e wA ⟨gA, cA, rfl, hoA, hbA⟩; rw [Hsl.out])
          | (go_at_call 137; refine (kR.out _ _ gA cA (hbD.out.trans (hbA.mono hbD.out.size)) hoA).mono ?_; rintro e wB ⟨gB, cB, rfl, hoB, hbB⟩; rw [Hrl.out])
          | (refine step_append_row (w := wB) (by rfl) _ _ (by rfl) w.heap.size gO cO t wB.heap.size rs (gB, cB, row) _ hrs.out (by rw [Hrv.out]) (by rfl) (by exact HoB.out wA wB hbA hbB) (by exact hoB.mono (Nat.le_trans hbD.out.size hbA.size)) (by exact HNe.out gB (Nat.le_trans hbA.size hoB.base)) (by rfl) (by rfl) (by omega) ?_; intro g3 c3 w3 ho3 hg3 hor3))
      have hbB2 := hbD.out.trans (hbA.mono hbD.out.size)
      have hbC2 := hbB2.trans (hbB.mono hbB2.size)
      have hbE := hbC2.grown hg3 hbC2.size (by intro j hj; cases hj; exact hoD.out.base)
      have hcs : contents (rs ++ [(gB, cB, row)]) = seqTo c v (t + 1) := by rw [Hsucc.out, ← hcont.out]; simp [contents]
      have Hcs := Lib.hid hcs
      clear hbA hbB hoA hoB hbB2 hbC2 hg3 hcs hoD HoB HNe
      go_wp2_with fail
      go_roundw
      case rel => exact ⟨t + 1, g3, c3, rs ++ [(gB, cB, row)], by omega, by go_num, rfl, by show _ = _; rw [List.length_append, hrs.out]; rfl, Hcs.out, ho3, hbE⟩
      case measure => simp [intOf]; omega
    · obtain rfl : t = v.length := by omega
      go_wp2
      go_ret
      exact ⟨gO, cO, rs, by rw [← hrs.out, ← contents_length, hcont.out]; rfl, hcont.out, ho, hb⟩
set_option maxRecDepth 100000 in
set_option maxHeartbeats 2000000 in
theorem spec_RootSequence_ok (gc oc n cc g o m cp : Nat) (c : List (List Int)) (v : List Int) (w : World) (hn : c.length = n) (hm : v.length = m) (hcap : v.length ≤ cp) (hW : WordOk c v)
    (hgc : gc < w.heap.size) (hg : g < w.heap.size) (hr : Rows2 w gc oc c) (hv : Cells w g o v) :
    Calls Tryz.prog 48 #[(Value.slice (some ⟨gc, oc, none⟩) n cc), (Value.slice (some ⟨g, o, none⟩) m cp)] w (GotRows w (seqL c v)) := by
  subst hn; subst hm
  have hn4 := hW.isC.2.1
  have hcl := hW.isC.2.2.1
  have hl := hW.few
  have hIW := Lib.hid (fun W (hb : Below w.heap.size w W) => spec_IsWord_any gc oc _ cc g o _ cp c v W rfl rfl (by omega) (fun j hj => by have := hcl j hj; omega) (by omega) (hr.below hb hgc) (hv.below hb hg))
  rw [hW.isWord] at hIW
  have Hr := Lib.hid hr; have HW := Lib.hid hW
  clear hr hW hcl
  go_enter Tryz.func48, Tryz.ntmps48
  go_wp2
  go_loopw [5, 6] (fun s i wr => ∃ (t gO cO : Nat) (rs : List RowRef), t ≤ v.length ∧ i = .int .i64 t ∧ s = (Value.slice (some ⟨gO, 0, none⟩) t cO) ∧ Hid (rs.length = t) ∧ Hid (contents rs = seqTo c v t) ∧ OwnRows wr w.heap.size gO cO rs ∧ Below w.heap.size w wr) (fun _ i _ => v.length - (intOf i).toNat)
  case atStart => exact ⟨0, _, 0, [], Nat.zero_le _, rfl, rfl, rfl, rfl, OwnRows.empty (Nat.le_refl _), (Below.refl _ _).alloc (Nat.le_refl _) _⟩
  case round =>
    obtain ⟨t, gO, cO, rs, ht, rfl, rfl, hrs, hcont, ho, hb⟩ := hrel
    by_cases hlt : t < v.length
    · have hI := Lib.hid (hIW.out wr hb)
      have hsucc := seqTo_succ c v t
      have hit := HW.out.inr t hlt
      obtain ⟨iN, hiN⟩ : ∃ iN : Nat, v.getD t 0 = iN := ⟨(v.getD t 0).toNat, by omega⟩
      have q0 := hv t hlt
      rw [hiN] at q0 hit hsucc
      rw [Int.toNat_natCast] at hsucc
      have hic : iN < c.length := by omega
      have hsl := simpL_length c.length iN
      have hrl : (actR c (v.take t) (simpL c.length iN)).length = c.length := by rw [actR_length]; exact hsl
      have htl : (v.take t).length = t := by rw [List.length_take]; omega
      have kS := Lib.hid (fun W (hW : Below w.heap.size w W) => spec_SimpleRoot_any gc oc _ cc iN c W rfl HW.out.isC hic (Hr.out.below hW hgc))
      have kR := Lib.hid (fun (W : World) (B gA cA : Nat) (hW : Below w.heap.size w W) (hA : Own W B gA cA (simpL c.length iN)) => spec_ActOnRoot_ok gc oc _ cc g o t cp gA 0 c.length cA c (v.take t) (simpL c.length iN) W rfl htl hsl (HW.out.take t) hsl (Nat.lt_of_lt_of_le hgc hW.size) (Nat.lt_of_lt_of_le hg hW.size) hA.lt (Hr.out.below hW hgc) ((hv.take t).below hW hg) hA.cells)
      generalize actR c (v.take t) (simpL c.length iN) = row at *
      generalize simpL c.length iN = x0 at *
      have Hsl := Lib.hid hsl; have Hrl := Lib.hid hrl; have Hsucc := Lib.hid hsucc
      clear hsl hrl hsucc hiN htl hit
      have b1 : (0 : Int) ≤ (t : Int) := by omega
      have b2 : (t : Int) ≤ (cp : Int) := by omega
      have b3 : (t : Int) ≤ (v.length : Int) := by omega
      have b4 : (t : Int) < (v.length : Int) := by omega
      have q1 := (hb.cell (p := ⟨g, o + t, none⟩) hg).trans q0
      go_wp2_with fail
      refine hI.out.mono ?_
      rintro e w3 ⟨rfl, hs3⟩
      have q2 := (cell_still hs3 ⟨g, o + t, none⟩).trans q1
      have hb3 := below_still hb hs3
      have ho3 := ho.still hs3
      have hbD := Lib.hid (show Below w.heap.size w w3.drew from Below.drew hb3)
      have hoD := Lib.hid (show OwnRows w3.drew w.heap.size gO cO rs from ho3)
      clear ho hb hb3 hs3 q0 q1 hI ho3
      go_wp2_with fail
      go_region_held3 (fun W => W.cell? ⟨g, o + t, none⟩ = some (.int .i64 iN)) (first | exact q2 | exact keepCell hbA q2 | exact keepCell hbB (keepCell hbA q2))
        (first
          | (go_at_call 111; refine (kS.out _ hbD.out).mono ?_; rintro e wA ⟨gA, cA, rfl, hoA, hbA⟩; rw [Hsl.out])
          | (go_at_call 110; refine (kR.out _ _ gA cA (hbD.out.trans (hbA.mono hbD.out.size)) hoA).mono ?_; rintro e wB ⟨gB, cB, rfl, hoB, hbB⟩; rw [Hrl.out]))
      have hbB2 := hbD.out.trans (hbA.mono hbD.out.size)
      have hbC2 := hbB2.trans (hbB.mono hbB2.size)
      have hoR := (hoD.out.below hbA).below hbB
      have hne : ∀ s ∈ rs, s.1 ≠ gB := fun s hs e => by
        have h1 := (hoD.out.2.1 s hs).lt
        have h2 := hoB.base
        have h3 := hbA.size
        omega
      have hoB2 := hoB.mono (Nat.le_trans hbD.out.size hbA.size)
      have hrv : rowVal (gB, cB, row) = (Value.slice (some ⟨gB, 0, none⟩) c.length cB) := by unfold rowVal; rw [Hrl.out]
      have Hrv := Lib.hid hrv; have Hne := Lib.hid hne
      clear hbA hbB hoA hoB hbB2 hoD hrv hne q2
      go_wp2_with (at_builtin; refine wpList_append_row (w := wB) rfl _ _ rfl w.heap.size gO cO t wB.heap.size rs (gB, cB, row) _ hrs.out (by rw [Hrv.out]) rfl hoR hoB2 Hne.out rfl rfl (by omega) ?_)
      intro g3 c3 w4 ho4 hg4 hor4
      have hbE := hbC2.grown hg4 hbC2.size (by intro j hj; cases hj; exact hoR.base)
      have hcs : contents (rs ++ [(gB, cB, row)]) = seqTo c v (t + 1) := by rw [Hsucc.out, ← hcont.out]; simp [contents]
      have Hcs := Lib.hid hcs
      clear hbC2 hg4 hcs hoR hoB2
      go_wp2_with fail
      go_roundw
      case rel => exact ⟨t + 1, g3, c3, rs ++ [(gB, cB, row)], by omega, by go_num, rfl, by show _ = _; rw [List.length_append, hrs.out]; rfl, Hcs.out, ho4, hbE⟩
      case measure => simp [intOf]; omega
    · obtain rfl : t = v.length := by omega
      go_wp2
      go_ret
      exact ⟨gO, cO, rs, by rw [← hrs.out, ← contents_length, hcont.out]; rfl, hcont.out, ho, hb⟩
def seqA (c : List (List Int)) (v : List Int) : List (List Int) := if isWordB c v = true then seqL c v else []
set_option maxHeartbeats 1000000 in
theorem impl_RootSequence_any (gc oc n cc g o m cp : Nat) (c : List (List Int)) (v : List Int) (w : World) (hn : c.length = n) (hm : v.length = m) (hx : c.length ≤ 1048576) (hrl : ∀ j, j < c.length → (c.getD j []).length ≤ 1048576) (hl : v.length ≤ 1048576) (hcap : v.length ≤ cp)
    (hgc : gc < w.heap.size) (hg : g < w.heap.size) (hr : Rows2 w gc oc c) (hv : Cells w g o v) :
    Calls Tryz.prog 28 #[(Value.slice (some ⟨gc, oc, none⟩) n cc), (Value.slice (some ⟨g, o, none⟩) m cp)] w (GotRows w (seqA c v)) := by
  have hIW := impl_IsWord_any gc oc n cc g o m cp c v w hn hm hx hrl hl hr hv
  cases hw : isWordB c v with
  | false =>
    rw [hw] at hIW
    have Hi := Lib.hid hIW
    rw [show seqA c v = [] from if_neg (by rw [hw]; decide)]
    clear hIW hw hr hv
    go_enter Tryz.func28, Tryz.ntmps28
    go_wp2_with fail
    refine Hi.out.mono ?_
    rintro e w1 ⟨rfl, hs1⟩
    have hb1 := below_still (Below.refl w.heap.size w) hs1
    go_wp2_with fail
    go_ret
    exact ⟨_, 0, [], rfl, rfl, OwnRows.empty hb1.size, hb1.alloc hb1.size _⟩
  | true =>
    rw [hw] at hIW
    have hW := wordOk_of hw
    have Hi := Lib.hid hIW
    have Hs := Lib.hid (fun W (hs : ∃ q, W = w.drewN q) => impl_sequence_any gc oc n cc g o m cp c v W hn hm hcap hW.isC hl hW.inr (Nat.lt_of_lt_of_le hgc (below_still (Below.refl w.heap.size w) hs).size) (Nat.lt_of_lt_of_le hg (below_still (Below.refl w.heap.size w) hs).size) (hr.still hs) (hv.still hs))
    rw [show seqA c v = seqL c v from if_pos hw]
    clear hIW hw hr hv hW
    go_enter Tryz.func28, Tryz.ntmps28
    go_wp2_with fail
    refine Hi.out.mono ?_
    rintro e w1 ⟨rfl, hs1⟩
    have hb1 := below_still (Below.refl w.heap.size w) hs1
    go_wp2_with fail
    refine (Hs.out w1 hs1).mono ?_
    rintro e w2 ⟨g2, c2, rs, rfl, hcon, ho, hb2⟩
    go_wp2_with fail
    go_ret
    exact ⟨g2, c2, rs, rfl, hcon, ho.mono hb1.size, hb1.trans (hb2.mono hb1.size)⟩
set_option maxHeartbeats 1000000 in
theorem spec_RootSequence_any (gc oc n cc g o m cp : Nat) (c : List (List Int)) (v : List Int) (w : World) (hn : c.length = n) (hm : v.length = m) (hx : c.length ≤ 1048576) (hrl : ∀ j, j < c.length → (c.getD j []).length ≤ 1048576) (hl : v.length ≤ 1048576) (hcap : v.length ≤ cp)
    (hgc : gc < w.heap.size) (hg : g < w.heap.size) (hr : Rows2 w gc oc c) (hv : Cells w g o v) :
    Calls Tryz.prog 48 #[(Value.slice (some ⟨gc, oc, none⟩) n cc), (Value.slice (some ⟨g, o, none⟩) m cp)] w (GotRows w (seqA c v)) := by
  cases hw : isWordB c v with
  | true =>
    rw [show seqA c v = seqL c v from if_pos hw]
    exact spec_RootSequence_ok gc oc n cc g o m cp c v w hn hm hcap (wordOk_of hw) hgc hg hr hv
  | false =>
    have hIW := fun W (hb : Below w.heap.size w W) => spec_IsWord_any gc oc n cc g o m cp c v W hn hm hx hrl hl (hr.below hb hgc) (hv.below hb hg)
    rw [hw] at hIW
    have Hi := Lib.hid hIW
    rw [show seqA c v = [] from if_neg (by rw [hw]; decide)]
    have hlm : m ≤ 1048576 := by omega
    clear hIW hw hr hv
    have hA := (Below.refl w.heap.size w).alloc (Nat.le_refl _) (.cells #[] 25)
    have hO : OwnRows (w.alloc (.cells #[] 25)) w.heap.size w.heap.size 0 [] := OwnRows.empty (Nat.le_refl _)
    generalize hw1 : w.alloc (.cells #[] 25) = w1 at hA hO
    have HA := Lib.hid hA; have HO := Lib.hid hO; have Hw1 := Lib.hid hw1
    clear hA hO hw1
    go_enter Tryz.func48, Tryz.ntmps48
    go_wp2
    rw [Hw1.out]
    by_cases h0 : m = 0
    · subst h0
      go_loopw [5, 6] (fun s i wr => s = (Value.slice (some ⟨w.heap.size, 0, none⟩) 0 0) ∧ i = .int .i64 0 ∧ wr = w1) (fun _ _ _ => 0)
      case atStart => exact ⟨rfl, rfl, rfl⟩
      case round =>
        obtain ⟨rfl, rfl, rfl⟩ := hrel
        go_wp2
        go_ret
        exact ⟨_, 0, [], rfl, rfl, HO.out, HA.out⟩
    · have hI0 : (0 : Int) < (m : Int) := by omega
      go_loopw [5, 6] (fun s i wr => s = (Value.slice (some ⟨w.heap.size, 0, none⟩) 0 0) ∧ i = .int .i64 0 ∧ ∃ q, wr = w1.drewN q) (fun _ _ _ => 0)
      case atStart => exact ⟨rfl, rfl, 0, rfl⟩
      case round =>
        obtain ⟨rfl, rfl, q, rfl⟩ := hrel
        go_wp2_with fail
        refine (Hi.out _ (below_drewN HA.out q)).mono ?_
        rintro e w2 ⟨rfl, hs2⟩
        go_wp2_with fail
        go_ret
        exact ⟨_, 0, [], rfl, rfl, (show OwnRows (w1.drewN q) _ _ _ _ from HO.out).still hs2, below_still (below_drewN HA.out q) hs2⟩
end Go.Proofs.YtkjglfafphffiaaGreatDoor
