/- Images of roots under words, sequences of roots: contracts of both. -/
import Derived.Test.YtjhoimdfmcjkbaaGreatDoorG18
import Derived.Test.YtjhoimdfmcjkbaaGreatDoorG19
import Derived.Test.YtjhoimdfmcjkbaaGreatDoorG02
import Derived.Deep.RegionHeld3
namespace Go.Proofs.YtjhoimdfmcjkbaaGreatDoor
set_option maxRecDepth 100000
open Go.RowKit

structure WordOk (c : List (List Int)) (v : List Int) : Prop where
  isC : IsC c
  few : v.length ≤ 15
  inr : ∀ k, k < v.length → 0 ≤ v.getD k 0 ∧ v.getD k 0 < (c.length : Int)
theorem wordOk_of {c : List (List Int)} {v : List Int} (h : isWordB c v = true) : WordOk c v := by
  obtain ⟨h1, h2, h3⟩ := isWordB_of h
  exact ⟨h1, h2, fun k hk => h3 _ (by simp [List.getD, hk])⟩
theorem WordOk.isWord {c : List (List Int)} {v : List Int} (h : WordOk c v) : isWordB c v = true := by
  unfold isWordB
  rw [decide_eq_true h.isC, decide_eq_true h.few, letters_in h.inr]
  rfl
theorem WordOk.take {c : List (List Int)} {v : List Int} (h : WordOk c v) (k : Nat) : WordOk c (v.take k) :=
  ⟨h.isC, by rw [List.length_take]; have := h.few; omega, fun j hj => by
    have hj' : j < v.length := by rw [List.length_take] at hj; omega
    have hjk : j < k := by rw [List.length_take] at hj; omega
    have := h.inr j hj'
    simpa [List.getD, hj', hjk] using this⟩

/-- a root's image under a word -/
def actR (c : List (List Int)) : List Int → List Int → List Int
  | [], r => r
  | i :: l, r => mirL c i.toNat (actR c l r)
theorem actR_length (c : List (List Int)) (l r : List Int) : (actR c l r).length = r.length := by
  induction l with
  | nil => rfl
  | cons i l ih => rw [actR, mirL_length, ih]
theorem actR_drop (c : List (List Int)) (l r : List Int) (k : Nat) (hk : k < l.length) : actR c (l.drop k) r = mirL c (l.getD k 0).toNat (actR c (l.drop (k + 1)) r) := by
  rw [List.drop_eq_getElem_cons hk]
  simp [actR, List.getD, hk]
/-- the roots of a word's letters -/
def seqL (c : List (List Int)) (v : List Int) : List (List Int) := (List.range v.length).map fun k => actR c (v.take k) (simpL c.length (v.getD k 0).toNat)
def seqTo (c : List (List Int)) (v : List Int) (t : Nat) : List (List Int) := (List.range t).map fun k => actR c (v.take k) (simpL c.length (v.getD k 0).toNat)
theorem seqTo_succ (c : List (List Int)) (v : List Int) (t : Nat) : seqTo c v (t + 1) = seqTo c v t ++ [actR c (v.take t) (simpL c.length (v.getD t 0).toNat)] := by simp [seqTo, List.range_succ]

set_option maxHeartbeats 1000000 in
theorem impl_actedRoot_any (gc oc n cc g1 o1 n1 c1 g2 o2 n2 c2 : Nat) (c : List (List Int)) (l r : List Int) (w : World) (hn : c.length = n) (hn1 : l.length = n1) (hn2 : r.length = n2) (hC : IsC c) (hl : l.length ≤ 1048576)
    (hin : ∀ k, k < l.length → 0 ≤ l.getD k 0 ∧ l.getD k 0 < (c.length : Int)) (hrl : r.length = c.length) (hgc : gc < w.heap.size) (hg1 : g1 < w.heap.size) (hg2 : g2 < w.heap.size) (hr : Rows2 w gc oc c) (hc1 : Cells w g1 o1 l) (hc2 : Cells w g2 o2 r) :
    Calls Tryz.prog 75 #[(Value.slice (some ⟨gc, oc, none⟩) n cc), (Value.slice (some ⟨g1, o1, none⟩) n1 c1), (Value.slice (some ⟨g2, o2, none⟩) n2 c2)] w (GotInts w (actR c l r)) := by
  subst hn; subst hn1; subst hn2
  have hn4 := hC.2.1
  have hcl := hC.2.2.1
  have ew : IntKind.i64.wrap ((l.length : Int) - 1) = (l.length : Int) - 1 := IntWalk.i64_in _ (by omega)
  have Hrl := Lib.hid hrl; have Hcl := Lib.hid hcl; have Hr := Lib.hid hr
  clear hrl hcl hr
  go_enter Tryz.func75, Tryz.ntmps75
  go_wp2_with (at_builtin; refine wpList_clone rfl _ _ rfl g2 o2 _ c2 r rfl hg2 hc2 rfl rfl (by have := Hrl.out; omega) ?_)
  intro gv cv w1 ho1 hb1
  go_wp2
  clear ew
  go_loopw [7, 8] (fun s i wr => ∃ (k : Nat) (j : Int) (gv cv : Nat), k ≤ l.length ∧ i = .int .i64 j ∧ j = (k : Int) - 1 ∧ s = (Value.slice (some ⟨gv, 0, none⟩) r.length cv) ∧ Own wr w.heap.size gv cv (actR c (l.drop k) r) ∧ Below w.heap.size w wr) (fun _ i _ => (intOf i + 1).toNat)
  case atStart => exact ⟨l.length, _, gv, cv, Nat.le_refl _, rfl, rfl, rfl, by rw [List.drop_length]; exact ho1, hb1⟩
  case round =>
    clear ho1 hb1
    obtain ⟨k, j, gv, cv, hk, rfl, hj, rfl, ho, hb⟩ := hrel
    by_cases hlt : 0 < k
    · obtain ⟨t, rfl⟩ : ∃ t, k = t + 1 := ⟨k - 1, by omega⟩
      obtain rfl : j = (t : Int) := by omega
      have htl : t < l.length := by omega
      have q1 := hc1.below hb hg1 t htl
      have hit := hin t htl
      have hd := actR_drop c l r t htl
      obtain ⟨iN, hiN⟩ : ∃ iN : Nat, l.getD t 0 = iN := ⟨(l.getD t 0).toNat, by omega⟩
      rw [hiN] at q1 hit hd
      rw [Int.toNat_natCast] at hd
      have hic : iN < c.length := by omega
      have hal : (actR c (l.drop (t + 1)) r).length = r.length := actR_length _ _ _
      have hal2 : (actR c (l.drop (t + 1)) r).length = c.length := by rw [hal]; exact Hrl.out
      have hcall := impl_mirrored_any gc oc _ cc iN gv 0 r.length cv c (actR c (l.drop (t + 1)) r) wr rfl hal hic (by rw [hal2]; exact hic) (by rw [hal2, Hcl.out iN hic]; exact Nat.le_refl _) (by rw [Hcl.out iN hic]; omega) (Nat.lt_of_lt_of_le hgc hb.size) ho.lt (Hr.out.below hb hgc) ho.cells
      rw [← hd] at hcall
      have hal3 : (actR c (l.drop t) r).length = r.length := actR_length _ _ _
      have Hcall := Lib.hid hcall; have Hal3 := Lib.hid hal3
      clear hcall hd hiN hal hal2 hal3 hit
      clear hj
      go_wp2_with fail
      refine Hcall.out.mono ?_
      rintro e w2 ⟨g2, c2, rfl, ho2, hb2⟩
      rw [Hal3.out]
      go_wp2_with fail
      go_roundw
      case rel =>
        exact ⟨t, (t : Int) - 1, g2, c2, by omega, by go_num, rfl, rfl, ho2.mono hb.size, hb.trans (hb2.mono hb.size)⟩
      case measure => simp [intOf]
    · obtain rfl : k = 0 := by omega
      obtain rfl : j = -1 := by omega
      clear hj
      go_wp2
      go_ret
      exact GotInts.mk' gv cv (actR_length _ _ _) ho hb

set_option maxHeartbeats 1000000 in
theorem spec_ActOnRoot_ok (gc oc n cc g1 o1 n1 c1 g2 o2 n2 c2 : Nat) (c : List (List Int)) (l r : List Int) (w : World) (hn : c.length = n) (hn1 : l.length = n1) (hn2 : r.length = n2) (hW : WordOk c l)
    (hrl : r.length = c.length) (hgc : gc < w.heap.size) (hg1 : g1 < w.heap.size) (hg2 : g2 < w.heap.size) (hr : Rows2 w gc oc c) (hc1 : Cells w g1 o1 l) (hc2 : Cells w g2 o2 r) :
    Calls Tryz.prog 64 #[(Value.slice (some ⟨gc, oc, none⟩) n cc), (Value.slice (some ⟨g1, o1, none⟩) n1 c1), (Value.slice (some ⟨g2, o2, none⟩) n2 c2)] w (GotInts w (actR c l r)) := by
  subst hn; subst hn1; subst hn2
  have hC := hW.isC
  have hl := hW.few
  have hin := hW.inr
  have hn4 := hC.2.1
  have hcl := hC.2.2.1
  have ew : IntKind.i64.wrap ((l.length : Int) - 1) = (l.length : Int) - 1 := IntWalk.i64_in _ (by omega)
  have hrlI : ((r.length : Int) == (c.length : Int)) = true := by rw [hrl]; simp
  have hIW := Lib.hid (fun W (hb : Below w.heap.size w W) => spec_IsWord_any gc oc _ cc g1 o1 _ c1 c l W rfl rfl (by omega) (fun j hj => by have := hcl j hj; omega) (by omega) (hr.below hb hgc) (hc1.below hb hg1))
  rw [hW.isWord] at hIW
  have Hrl := Lib.hid hrl; have Hcl := Lib.hid hcl; have Hr := Lib.hid hr
  clear hrl hcl hr
  go_enter Tryz.func64, Tryz.ntmps64
  go_wp2_with (at_builtin; refine wpList_clone rfl _ _ rfl g2 o2 _ c2 r rfl hg2 hc2 rfl rfl (by have := Hrl.out; omega) ?_)
  intro gv cv w1 ho1 hb1
  go_wp2
  clear ew
  go_loopw [7, 8] (fun s i wr => ∃ (k : Nat) (j : Int) (gv cv : Nat), k ≤ l.length ∧ i = .int .i64 j ∧ j = (k : Int) - 1 ∧ s = (Value.slice (some ⟨gv, 0, none⟩) r.length cv) ∧ Own wr w.heap.size gv cv (actR c (l.drop k) r) ∧ Below w.heap.size w wr) (fun _ i _ => (intOf i + 1).toNat)
  case atStart => exact ⟨l.length, _, gv, cv, Nat.le_refl _, rfl, rfl, rfl, by rw [List.drop_length]; exact ho1, hb1⟩
  case round =>
    clear ho1 hb1
    obtain ⟨k, j, gv, cv, hk, rfl, hj, rfl, ho, hb⟩ := hrel
    by_cases hlt : 0 < k
    · obtain ⟨t, rfl⟩ : ∃ t, k = t + 1 := ⟨k - 1, by omega⟩
      obtain rfl : j = (t : Int) := by omega
      have htl : t < l.length := by omega
      have q1 := hc1.below hb hg1 t htl
      have hit := hin t htl
      have hd := actR_drop c l r t htl
      obtain ⟨iN, hiN⟩ : ∃ iN : Nat, l.getD t 0 = iN := ⟨(l.getD t 0).toNat, by omega⟩
      rw [hiN] at q1 hit hd
      rw [Int.toNat_natCast] at hd
      have hic : iN < c.length := by omega
      have hal : (actR c (l.drop (t + 1)) r).length = r.length := actR_length _ _ _
      have hal2 : (actR c (l.drop (t + 1)) r).length = c.length := by rw [hal]; exact Hrl.out
      have hcall := fun W (hs : ∃ q, W = wr.drewN q) => spec_l7Reflect_any gc oc _ cc iN gv 0 r.length cv c (actR c (l.drop (t + 1)) r) W rfl hal hic (by rw [hal2]; exact hic) (by rw [hal2, Hcl.out iN hic]; exact Nat.le_refl _) (by rw [Hcl.out iN hic]; omega) (Nat.lt_of_lt_of_le hgc (below_still hb hs).size) (ho.still hs).lt (Hr.out.below (below_still hb hs) hgc) (ho.still hs).cells
      rw [← hd] at hcall
      have hal3 : (actR c (l.drop t) r).length = r.length := actR_length _ _ _
      have Hcall := Lib.hid hcall; have Hal3 := Lib.hid hal3
      have hI := hIW.out wr hb
      have HI := Lib.hid hI
      clear hcall hd hiN hal hal2 hal3 hit hI
      clear hj
      go_wp2_with fail
      refine HI.out.mono ?_
      rintro e w3 ⟨rfl, hs3⟩
      have q1' := (cell_still hs3 _).trans q1
      have hb3 := below_still hb hs3
      go_wp2_with fail
      refine (Hcall.out _ hs3).mono ?_
      rintro e w2 ⟨g2, c2, rfl, ho2, hb2⟩
      rw [Hal3.out]
      go_wp2_with fail
      go_roundw
      case rel =>
        exact ⟨t, (t : Int) - 1, g2, c2, by omega, by go_num, rfl, rfl, ho2.mono hb3.size, hb3.trans (hb2.mono hb3.size)⟩
      case measure => simp [intOf]
    · obtain rfl : k = 0 := by omega
      obtain rfl : j = -1 := by omega
      clear hj
      go_wp2
      go_ret
      exact GotInts.mk' gv cv (actR_length _ _ _) ho hb

def seqA (c : List (List Int)) (v : List Int) : List (List Int) := if isWordB c v = true then seqL c v else []

end Go.Proofs.YtjhoimdfmcjkbaaGreatDoor
