/- ones, image, normal forms: contracts. The reference's normal forms: contracts. Longest elements and opposite letters: contracts. OppositeLetter, IsWeight: contracts. OppositeLetter of the reference, IsWeight: contracts. Connected parts, by breadth: plain law, by enumeration of zero patterns. -/
import Derived.Test.YtdedkfbiookofaaGreatDoorM10
import Derived.WalkSpells
import Derived.Test.YtdedkfbiookofaaGreatDoorM02
namespace Go.Proofs.YtdedkfbiookofaaGreatDoor
set_option maxRecDepth 100000
open Go.RowKit
def lenOfV : Value → Nat | .slice _ n _ => n | _ => 0
def nz (v : List Int) : Bool := v.all fun x => x != 0
/-- the normal form of what a vector tells, where it comes to an end within so many steps and meets no 0 -/
def normG (c : List (List Int)) : Nat → List Int → Option (List Int)
  | 0, v => if nz v && (firstNeg v).isNone then some [] else none
  | f + 1, v => if nz v then match firstNeg v with
      | none => some []
      | some i => (normG c f (refl c i v)).map fun l => (i : Int) :: l
    else none
theorem normG_none {c : List (List Int)} {f : Nat} {v rest : List Int} (h : normG c f v = some rest) (hf : firstNeg v = none) : rest = [] := by
  cases f with
  | zero => simp only [normG] at h; split at h <;> simp_all
  | succ f => simp only [normG, hf] at h; split at h <;> simp_all
theorem normG_some {c : List (List Int)} {f : Nat} {v rest : List Int} {i : Nat} (h : normG c f v = some rest) (hf : firstNeg v = some i) :
    ∃ f' rest', f = f' + 1 ∧ rest = (i : Int) :: rest' ∧ normG c f' (refl c i v) = some rest' := by
  cases f with
  | zero => simp only [normG, hf] at h; simp at h
  | succ f =>
    simp only [normG, hf] at h
    split at h
    · cases hr : normG c f (refl c i v) with
      | none => rw [hr] at h; simp at h
      | some l => rw [hr] at h; simp at h; exact ⟨f, l, rfl, h.symm, hr⟩
    · simp at h
theorem normG_nz {c : List (List Int)} {f : Nat} {v rest : List Int} (h : normG c f v = some rest) : ∀ j, j < v.length → v.getD j 0 ≠ 0 := by
  have hz : nz v = true := by
    cases f with
    | zero => simp only [normG] at h; split at h <;> simp_all
    | succ f => simp only [normG] at h; split at h <;> simp_all
  intro j hj
  have := List.all_eq_true.1 hz v[j] (List.getElem_mem hj)
  simpa [List.getD, hj] using this
theorem normG_len {c : List (List Int)} : ∀ {f : Nat} {v rest : List Int}, normG c f v = some rest → rest.length ≤ f := by
  intro f
  induction f with
  | zero => intro v rest h; simp only [normG] at h; split at h <;> simp_all
  | succ f ih =>
    intro v rest h
    cases hf : firstNeg v with
    | none => rw [normG_none h hf]; simp
    | some i =>
      obtain ⟨f', rest', e, rfl, h'⟩ := normG_some h hf
      have := ih (by rw [show f = f' by omega]; exact h')
      simp; omega
theorem normG_in {c : List (List Int)} : ∀ {f : Nat} {v rest : List Int}, normG c f v = some rest → ∀ k, k < rest.length → 0 ≤ rest.getD k 0 ∧ rest.getD k 0 < v.length := by
  intro f
  induction f with
  | zero => intro v rest h; simp only [normG] at h; split at h <;> simp_all
  | succ f ih =>
    intro v rest h
    cases hf : firstNeg v with
    | none => rw [normG_none h hf]; simp
    | some i =>
      obtain ⟨f', rest', e, rfl, h'⟩ := normG_some h hf
      intro k hk
      cases k with
      | zero => have := (firstNeg_lt hf).1; simp [List.getD]; omega
      | succ k =>
        have := ih (by rw [show f = f' by omega]; exact h') k (by simpa using hk)
        rw [refl_length] at this
        simpa [List.getD] using this
def onesL (n : Nat) : List Int := List.replicate n 1
set_option maxHeartbeats 1000000 in
theorem impl_ones_any (n : Nat) (w : World) (hn : n ≤ 1048576) : Calls Tryz.prog 141 #[.int .i64 n] w (GotInts w (onesL n)) := by
  go_enter Tryz.func141, Tryz.ntmps141
  go_wp2
  go_loopw [3, 6] (fun s i wr => ∃ t g' c' : Nat, t ≤ n ∧ i = .int .i64 t ∧ s = (Value.slice (some ⟨g', 0, none⟩) t c') ∧ Own wr w.heap.size g' c' (onesL t) ∧ Below w.heap.size w wr) (fun _ i _ => n - (intOf i).toNat)
  case atStart => exact ⟨0, w.heap.size, 0, Nat.zero_le _, rfl, rfl, Own.empty (w := w) (Nat.le_refl _), (Below.refl _ _).alloc (Nat.le_refl _) _⟩
  case round =>
    obtain ⟨t, g', c', ht, rfl, rfl, ho, hb⟩ := hrel
    by_cases hlt : t < n
    · have hI : (t : Int) < n := by omega
      go_wp2_with (at_builtin; refine wpList_append_int_n rfl _ _ rfl w.heap.size g' c' t (onesL t) 1 (by simp [onesL]) ho rfl rfl (by omega) ?_)
      intro g3 c3 w3 ho3 hg3 _
      go_wp2
      go_roundw
      case rel =>
        have e : onesL t ++ [1] = onesL (t + 1) := by unfold onesL; rw [List.replicate_succ']
        rw [e] at ho3
        exact ⟨t + 1, g3, c3, by omega, by go_num, rfl, ho3, hb.grown hg3 hb.size (by intro j hj; cases hj; exact ho.base)⟩
      case measure => simp [intOf]; omega
    · obtain rfl : n = t := by omega
      go_wp2
      go_ret
      exact GotInts.mk' g' c' (by simp [onesL]) ho hb
set_option maxHeartbeats 1000000 in
theorem impl_image_any (gc oc n cc g1 o1 n1 c1 : Nat) (c : List (List Int)) (l : List Int) (w : World) (hn : c.length = n) (hn1 : l.length = n1) (hC : IsC c) (hl : l.length ≤ 1048576)
    (hin : ∀ k, k < l.length → 0 ≤ l.getD k 0 ∧ l.getD k 0 < c.length) (hgc : gc < w.heap.size) (hg1 : g1 < w.heap.size) (hr : Rows2 w gc oc c) (hc1 : Cells w g1 o1 l) :
    Calls Tryz.prog 112 #[(Value.slice (some ⟨gc, oc, none⟩) n cc), (Value.slice (some ⟨g1, o1, none⟩) n1 c1)] w (GotInts w (actW c l (onesL c.length))) := by
  subst hn; subst hn1
  have hn4 := hC.2.1
  go_enter Tryz.func112, Tryz.ntmps112
  go_wp2_with fail
  refine (impl_ones_any c.length w (by omega)).mono ?_
  rintro e w1 ⟨g2, c2, rfl, ho2, hb2⟩
  have hol : (onesL c.length).length = c.length := by simp [onesL]
  rw [hol]
  go_wp2_with fail
  refine (impl_acted_any gc oc _ cc g1 o1 _ c1 g2 0 _ c2 c l (onesL c.length) w1 rfl rfl hol hC hol hl hin (Nat.lt_of_lt_of_le hgc hb2.size) (Nat.lt_of_lt_of_le hg1 hb2.size) ho2.lt (hr.below hb2 hgc) (hc1.below hb2 hg1) ho2.cells).mono ?_
  rintro e w3 ⟨g3, c3, rfl, ho3, hb3⟩
  go_wp2_with fail
  go_ret
  exact ⟨g3, c3, rfl, ho3.mono hb2.size, hb2.trans (hb3.mono hb2.size)⟩
set_option maxHeartbeats 2000000 in
theorem impl_normal_any (gc oc n cc g2 o2 n2 c2 f : Nat) (c : List (List Int)) (v word : List Int) (w : World) (hn : c.length = n) (hn2 : v.length = n2) (hC : IsC c) (hv : v.length = c.length) (hf : f ≤ 1000) (hword : normG c f v = some word)
    (hgc : gc < w.heap.size) (hg2 : g2 < w.heap.size) (hr : Rows2 w gc oc c) (hc2 : Cells w g2 o2 v) :
    Calls Tryz.prog 131 #[(Value.slice (some ⟨gc, oc, none⟩) n cc), (Value.slice (some ⟨g2, o2, none⟩) n2 c2)] w (GotInts w word) := by
  subst hn; subst hn2
  have hn4 := hC.2.1
  have hv4 : v.length ≤ 4 := by omega
  have Hv := Lib.hid hv; clear hv
  have hwl := normG_len hword
  go_enter Tryz.func131, Tryz.ntmps131
  go_wp2_with (at_builtin; refine wpList_clone rfl _ _ rfl g2 o2 _ c2 v rfl hg2 hc2 rfl rfl (by omega) ?_)
  intro gv cv w1 ho1 hb1
  go_wp2
  go_loopw [5, 6] (fun s _ wr => ∃ (p g' c' f' : Nat) (u pre rest : List Int), s = (Value.slice (some ⟨g', 0, none⟩) p c') ∧ Hid (pre.length = p) ∧ p + rest.length ≤ 1000 ∧ u.length = v.length ∧ Hid (normG c f' u = some rest) ∧ Hid (word = pre ++ rest) ∧ Own wr w.heap.size gv cv u ∧ Own wr w.heap.size g' c' pre ∧ gv ≠ g' ∧ Below w.heap.size w wr) (fun s _ _ => 1001 - lenOfV s)
  case atStart =>
    refine ⟨0, w1.heap.size, 0, f, v, [], word, rfl, rfl, by omega, rfl, hword, rfl, ho1.alloc _, Own.empty (w := w1) hb1.size, by have := ho1.lt; omega, hb1.alloc hb1.size _⟩
  case round =>
    obtain ⟨p, g', c', f', u, pre, rest, rfl, hp, hpl, hul, hnorm, hw, hou, hop, hne, hb⟩ := hrel
    have hfd := impl_firstDescent_any gv 0 v.length cv u wr hul (by omega) hou.cells
    have Hul := Lib.hid hul
    cases hfn : firstNeg u with
    | none =>
      have hI : firstNegI u = -1 := by unfold firstNegI; rw [hfn]
      rw [hI] at hfd
      have hrest := normG_none hnorm.out hfn
      have Hfd := Lib.hid hfd; have Hrest := Lib.hid hrest
      clear hfd hI hfn hul hrest
      go_wp2_with fail
      refine Hfd.out.mono ?_
      rintro e w2 ⟨rfl, m2, rfl⟩
      go_wp2_with fail
      go_ret
      rw [hw.out, Hrest.out, List.append_nil]
      exact GotInts.mk' g' c' hp.out (hop.drewN m2) (below_drewN hb m2)
    | some i =>
      have hI : firstNegI u = i := by unfold firstNegI; rw [hfn]
      rw [hI] at hfd
      obtain ⟨f2, rest2, -, hrest, hn2⟩ := normG_some hnorm.out hfn
      have hil := (firstNeg_lt hfn).1
      rw [hul] at hil
      have hic : i < c.length := by have := Hv.out; omega
      have hiI : ¬ ((i : Int) < 0) := by omega
      subst hrest
      have hpl2 : p + rest2.length + 1 ≤ 1000 := by simp at hpl; omega
      have Hfd := Lib.hid hfd; have Hn2 := Lib.hid hn2
      clear hfd hI hfn hul hn2 hnorm hpl
      go_wp2_with fail
      refine Hfd.out.mono ?_
      rintro e w2 ⟨rfl, m2, rfl⟩
      go_wp2_with (at_builtin; refine wpList_append_int_n (w := wr.drewN m2) rfl _ _ rfl w.heap.size g' c' p pre (i : Int) hp.out (hop.drewN m2) rfl rfl (by omega) ?_)
      intro g3 c3 w3 ho3 hg3 hor
      have hb3 : Below w.heap.size w w3 := (below_drewN hb m2).grown hg3 hb.size (by intro j hj; cases hj; exact hop.base)
      have hou3 : Own w3 w.heap.size gv cv u := (hou.drewN m2).grown hg3 (by intro e; cases e; exact hne rfl)
      have hne3 : gv ≠ g3 := by
        rcases hor with h | h
        · rw [h]; exact hne
        · have h1 := hou.lt
          have h2 : wr.heap.size < g3 := h
          omega
      have hcall := impl_reflected_any w gc oc _ cc gv cv i v.length c u w3 rfl Hul.out (by rw [Hul.out]; exact Hv.out) hn4 hC.2.2.1 hic hgc hr hb3 hou3
      have Hcall := Lib.hid hcall; clear hcall
      go_wp2_with fail
      refine Hcall.out.mono ?_
      rintro e w4 ⟨rfl, ho4, hg4⟩
      go_wp2_with fail
      go_roundw
      case rel =>
        refine ⟨p + 1, g3, c3, f2, refl c i u, pre ++ [(i : Int)], rest2, rfl, ?_, by omega, by rw [refl_length]; exact Hul.out, Hn2.out, ?_, ho4, ho3.grown hg4 (by intro e; cases e; exact hne3 rfl), hne3, hb3.grown hg4 hb3.size (by intro j hj; cases hj; exact hou.base)⟩
        · show _ = _; rw [List.length_append, hp.out]; rfl
        · show _ = _; rw [hw.out, List.append_assoc]; rfl
      case measure => simp [lenOfV]; omega
end Go.Proofs.YtdedkfbiookofaaGreatDoor
namespace Go.Proofs.YtdedkfbiookofaaGreatDoor
set_option maxRecDepth 100000
open Go.RowKit
set_option maxHeartbeats 4000000 in
theorem spec_l8Form_any (gc oc n cc g2 o2 n2 c2 f : Nat) (c : List (List Int)) (v word : List Int) (w : World) (hn : c.length = n) (hn2 : v.length = n2) (hC : IsC c) (hv : v.length = c.length) (hf : f ≤ 30) (hword : normG c f v = some word)
    (hgc : gc < w.heap.size) (hg2 : g2 < w.heap.size) (hr : Rows2 w gc oc c) (hc2 : Cells w g2 o2 v) :
    Calls Tryz.prog 94 #[(Value.slice (some ⟨gc, oc, none⟩) n cc), (Value.slice (some ⟨g2, o2, none⟩) n2 c2)] w (GotInts w word) := by
  subst hn; subst hn2
  have hn4 := hC.2.1
  have hv4 : v.length ≤ 4 := by omega
  have Hv := Lib.hid hv; clear hv
  have hwl := normG_len hword
  go_enter Tryz.func94, Tryz.ntmps94
  go_wp2
  go_loopw [1, 5, 6, 7] (fun vv s i _ wr => ∃ (p g' c' f' gu ou cu : Nat) (u pre rest : List Int), i = .int .i64 p ∧ s = (Value.slice (some ⟨g', 0, none⟩) p c') ∧ vv = (Value.slice (some ⟨gu, ou, none⟩) v.length cu) ∧ Hid (pre.length = p) ∧ p + f' ≤ 30 ∧ u.length = v.length ∧ Hid (normG c f' u = some rest) ∧ Hid (word = pre ++ rest) ∧ Cells wr gu ou u ∧ gu < wr.heap.size ∧ Own wr w.heap.size g' c' pre ∧ gu ≠ g' ∧ Below w.heap.size w wr) (fun _ _ i _ _ => 31 - (intOf i).toNat)
  case atStart =>
    exact ⟨0, w.heap.size, 0, f, g2, o2, c2, v, [], word, rfl, rfl, rfl, rfl, by omega, rfl, hword, rfl, hc2.below ((Below.refl _ _).alloc (Nat.le_refl _) _) hg2, by simp; omega, Own.empty (w := w) (Nat.le_refl _), by omega, (Below.refl _ _).alloc (Nat.le_refl _) _⟩
  case round =>
    obtain ⟨p, g', c', f', gu, ou, cu, u, pre, rest, rfl, rfl, rfl, hp, hpf, hul, hnorm, hw, hcu, hgu, hop, hne, hb⟩ := hrel
    have hp30 : (p : Int) ≤ 30 := by omega
    have hz := normG_nz hnorm.out
    have Hz := Lib.hid hz; have Hul := Lib.hid hul
    clear hz
    obtain ⟨wo, rfl⟩ : ∃ wo : World, wo = wr := ⟨_, rfl⟩
    have HCu := Lib.hid hcu
    clear hul
    go_wp2
    go_loopw [7] (fun i wr => ∃ k : Nat, k ≤ v.length ∧ i = .int .i64 k ∧ Hid (∀ j, j < k → 0 < u.getD j 0) ∧ wr = wo) (fun i _ => v.length - (intOf i).toNat)
    case atStart => exact ⟨0, Nat.zero_le _, rfl, fun j hj => absurd hj (by omega), rfl⟩
    case round =>
      obtain ⟨k, hk, rfl, hall, rfl⟩ := hrel
      by_cases hlt : k < v.length
      · have q1 := HCu.out k (by rw [Hul.out]; exact hlt)
        have hzk := Hz.out k (by rw [Hul.out]; exact hlt)
        by_cases hpos : 0 < u.getD k 0
        · have HY : Hid (∀ j, j < k + 1 → 0 < u.getD j 0) := fun j hj => by
            by_cases e : j = k
            · subst e; exact hpos
            · exact hall.out j (by omega)
          clear hzk
          generalize u.getD k 0 = x at *
          go_wp2
          go_roundw
          case rel => exact ⟨k + 1, by omega, by go_num, HY.out, trivial⟩
          case measure => simp [intOf]; omega
        · have hfn : firstNeg u = some k := firstNeg_of (by rw [Hul.out]; exact hlt) (by omega) (fun j hj => by have := hall.out j hj; omega)
          obtain ⟨f2, rest2, hf2, hrest, hn2⟩ := normG_some hnorm.out hfn
          have hic : k < c.length := by have := Hv.out; omega
          have hkne : ((k : Int) == (v.length : Int)) = false := by simp; omega
          subst hrest
          have Hn2 := Lib.hid hn2
          clear hzk hfn hn2 hnorm
          generalize u.getD k 0 = x at *
          go_wp2_with (at_builtin; refine wpList_append_int_n (w := wr) rfl _ _ rfl w.heap.size g' c' p pre (k : Int) hp.out hop rfl rfl (by omega) ?_)
          intro g3 c3 w3 ho3 hg3 hor
          have hcu3 : Cells w3 gu ou u := HCu.out.grown hg3 (by intro e; cases e; exact hne rfl)
          have hb3 : Below w.heap.size w w3 := hb.grown hg3 hb.size (by intro j hj; cases hj; exact hop.base)
          have hgu3 : gu < w3.heap.size := Nat.lt_of_lt_of_le hgu hg3.size
          have hcall3 := spec_l6Reflect_any gc oc _ cc gu ou v.length cu k c u w3 rfl Hul.out (by rw [Hul.out]; exact Nat.le_of_eq Hv.out) hn4 hC.2.2.1 (by rw [Hul.out]; exact hlt) (Nat.lt_of_lt_of_le hgc hb3.size) hgu3 (hr.below hb3 hgc) hcu3
          have Hcall3 := Lib.hid hcall3; clear hcall3
          go_wp2_with fail
          refine Hcall3.out.mono ?_
          rintro e w4 ⟨g5, c5, rfl, ho5, hb5⟩
          have hrl : (refl c k u).length = v.length := by rw [refl_length]; exact Hul.out
          rw [hrl]
          go_wp2_with fail
          go_roundw
          case rel =>
            refine ⟨p + 1, g3, c3, f2, g5, 0, c5, refl c k u, pre ++ [(k : Int)], rest2, by go_num, rfl, rfl, ?_, by omega, hrl, Hn2.out, ?_, ho5.cells, ho5.lt, ho3.below hb5 ho3.lt, by have h1 := ho3.lt; have h2 := ho5.base; omega, hb3.trans (hb5.mono hb3.size)⟩
            · show _ = _; rw [List.length_append, hp.out]; rfl
            · show _ = _; rw [hw.out, List.append_assoc]; rfl
          case measure => simp [intOf]; omega
      · obtain rfl : k = v.length := by omega
        have hfn : firstNeg u = none := firstNeg_nil (fun j hj => by have := hall.out j (by rw [← Hul.out]; exact hj); omega)
        have hrest := normG_none hnorm.out hfn
        have Hrest := Lib.hid hrest; clear hrest hfn
        go_wp2
        go_ret
        rw [hw.out, Hrest.out, List.append_nil]
        exact GotInts.mk' g' c' hp.out hop hb
end Go.Proofs.YtdedkfbiookofaaGreatDoor
namespace Go.Proofs.YtdedkfbiookofaaGreatDoor
set_option maxRecDepth 100000
open Go.RowKit
def negL (n : Nat) : List Int := List.replicate n (-1)
theorem onesL_length (n : Nat) : (onesL n).length = n := by simp [onesL]
theorem negL_length (n : Nat) : (negL n).length = n := by simp [negL]
/-- what a finite type's long word does -/
structure LongOf (c : List (List Int)) (long : List Int) (opp : Nat → Nat) : Prop where
  norm : normG c 30 (negL c.length) = some long
  act : actW c long (onesL c.length) = negL c.length
  opp_lt : ∀ i, i < c.length → opp i < c.length
  opp_eq : ∀ i, i < c.length → actW c long (refl c i (onesL c.length)) = refl c (opp i) (negL c.length)
set_option maxHeartbeats 2000000 in
theorem spec_RhoOf_ok (gc oc n cc : Nat) (c : List (List Int)) (w : World) (hn : c.length = n) (hC : IsC c) (hgc : gc < w.heap.size) (hr : Rows2 w gc oc c) :
    Calls Tryz.prog 133 #[(Value.slice (some ⟨gc, oc, none⟩) n cc)] w (GotInts w (onesL c.length)) := by
  subst hn
  have hn4 := hC.2.1
  have hcart : Hid (∀ W, Below w.heap.size w W → Calls Tryz.prog 93 #[(Value.slice (some ⟨gc, oc, none⟩) c.length cc)] W (Reads W (.bool true))) := fun W hW => by
    have := spec_IsCartan gc oc _ cc c W rfl (by omega) (fun j hj => by have := hC.2.2.1 j hj; omega) (hr.below hW hgc)
    rwa [decide_eq_true hC] at this
  go_enter Tryz.func133, Tryz.ntmps133
  go_wp2_with fail
  go_loopw [3, 4] (fun s i wr => ∃ t g' c' : Nat, t ≤ c.length ∧ i = .int .i64 t ∧ s = (Value.slice (some ⟨g', 0, none⟩) t c') ∧ Own wr w.heap.size g' c' (onesL t) ∧ Below w.heap.size w wr) (fun _ i _ => c.length - (intOf i).toNat)
  case atStart => exact ⟨0, w.heap.size, 0, Nat.zero_le _, rfl, rfl, Own.empty (w := w) (Nat.le_refl _), (Below.refl _ _).alloc (Nat.le_refl _) _⟩
  case round =>
    obtain ⟨t, g', c', ht, rfl, rfl, ho, hb⟩ := hrel
    by_cases hlt : t < c.length
    · go_wp2_with fail
      refine (hcart.out _ hb).mono ?_
      rintro e w2 ⟨rfl, m2, rfl⟩
      go_wp2_with (at_builtin; refine wpList_append_int_n (w := wr.drewN m2) rfl _ _ rfl w.heap.size g' c' t (onesL t) 1 (onesL_length _) (ho.drewN m2) rfl rfl (by omega) ?_)
      intro g3 c3 w3 ho3 hg3 _
      go_wp2
      go_roundw
      case rel =>
        have e : onesL t ++ [1] = onesL (t + 1) := by unfold onesL; rw [List.replicate_succ']
        rw [e] at ho3
        exact ⟨t + 1, g3, c3, by omega, by go_num, rfl, ho3, (below_drewN hb m2).grown hg3 hb.size (by intro j hj; cases hj; exact ho.base)⟩
      case measure => simp [intOf]; omega
    · obtain rfl : t = c.length := by omega
      go_wp2_with fail
      go_ret
      exact GotInts.mk' g' c' (onesL_length _) ho hb
end Go.Proofs.YtdedkfbiookofaaGreatDoor
namespace Go.Proofs.YtdedkfbiookofaaGreatDoor
set_option maxRecDepth 100000
open Go.RowKit
end Go.Proofs.YtdedkfbiookofaaGreatDoor
namespace Go.Proofs.YtdedkfbiookofaaGreatDoor
set_option maxRecDepth 100000
open Go.RowKit
end Go.Proofs.YtdedkfbiookofaaGreatDoor
namespace Go.Proofs.YtdedkfbiookofaaGreatDoor
set_option maxRecDepth 100000
def intsOf (l : List Nat) : List Int := l.map fun i : Nat => (i : Int)
theorem intsOf_length (l : List Nat) : (intsOf l).length = l.length := by simp [intsOf]
theorem intsOf_push (l : List Nat) (k : Nat) : intsOf (l ++ [k]) = intsOf l ++ [(k : Int)] := by simp [intsOf]
theorem intsOf_getD (l : List Nat) (k : Nat) (hk : k < l.length) : (intsOf l).getD k 0 = ((l.getD k 0 : Nat) : Int) := by simp [intsOf, List.getD, hk]
def nbL (c : List (List Int)) (i : Nat) : List Nat := (List.range c.length).filter fun j => j != i && (ent c i j != 0)
def nbTab (c : List (List Int)) : List (List Nat) := (List.range c.length).map (nbL c)
abbrev Bst := List Bool × List Nat
def visitOne (s : Bst) (j : Nat) : Bst := if s.1.getD j false then s else (s.1.set j true, s.2 ++ [j])
def visitAll (s : Bst) (l : List Nat) : Bst := l.foldl visitOne s
/-- the search, where it ends within so many rounds -/
def bfsG (tab : List (List Nat)) : Nat → Nat → Bst → Option Bst
  | 0, k, s => if k < s.2.length then none else some s
  | f + 1, k, s => if k < s.2.length then bfsG tab f (k + 1) (visitAll s (tab.getD (s.2.getD k 0) [])) else some s
def trueAt (seen : List Bool) : List Nat := (List.range seen.length).filter fun k => seen.getD k false
/-- the part of a point, with what is seen at the end -/
def partG (tab : List (List Nat)) (seen : List Bool) (i : Nat) : Option Bst := bfsG tab 5 0 (seen.set i true, [i])
/-- a list sorted by insertion -/
def insN (x : Nat) : List Nat → List Nat
  | [] => [x]
  | y :: l => if x < y then x :: y :: l else y :: insN x l
def sortN (l : List Nat) : List Nat := l.foldl (fun a x => insN x a) []
def partsIG (tab : List (List Nat)) : Nat → Option (List Bool × List (List Nat))
  | 0 => some (List.replicate tab.length false, [])
  | i + 1 => match partsIG tab i with
    | none => none
    | some (seen, out) => if seen.getD i false then some (seen, out) else match partG tab seen i with
      | none => none
      | some (seen', q) => some (seen', out ++ [sortN q])
def partS (tab : List (List Nat)) (i : Nat) : Option (List Nat) := (partG tab (List.replicate tab.length false) i).map fun s => trueAt s.1
def partsSG (tab : List (List Nat)) : Nat → Option (List (List Nat))
  | 0 => some []
  | i + 1 => match partsSG tab i, partS tab i with
    | some out, some p => some (if p.getD 0 0 == i then out ++ [p] else out)
    | _, _ => none
def ascB : List Nat → Bool
  | x :: y :: l => decide (x < y) && ascB (y :: l)
  | _ => true
def goodP (n : Nat) (p : List Nat) : Bool := ascB p && (decide (1 ≤ p.length) && (decide (p.length ≤ 4) && p.all fun x => decide (x < n)))
def chkP (c : List (List Int)) : Bool :=
  match partsIG (nbTab c) c.length, partsSG (nbTab c) c.length with
  | some (_, a), some b => ((a == b) && a.all (goodP c.length)) && (List.range c.length).all fun i => match partS (nbTab c) i with | some p => decide (1 ≤ p.length) && decide (p.length ≤ 4) | none => false
  | _, _ => false
def zo (c : List (List Int)) : List (List Int) := c.map fun r => r.map fun x => if x = 0 then 0 else 1
theorem zo_length (c : List (List Int)) : (zo c).length = c.length := by simp [zo]
theorem ent_zo (c : List (List Int)) (i j : Nat) : ent (zo c) i j = if ent c i j = 0 then 0 else 1 := by
  have key : ∀ o : Option (List Int), ((o.map fun r => r.map fun x : Int => if x = 0 then (0 : Int) else 1).getD [])[j]?.getD 0 = (fun x : Int => if x = 0 then (0 : Int) else 1) ((o.getD [])[j]?.getD 0) := by
    intro o
    cases o with
    | none => simp
    | some r =>
      simp only [Option.map_some, Option.getD_some, List.getElem?_map]
      have k2 : ∀ o : Option Int, (o.map fun x : Int => if x = 0 then (0 : Int) else 1).getD 0 = (fun x : Int => if x = 0 then (0 : Int) else 1) (o.getD 0) := by
        intro o
        cases o <;> simp
      exact k2 _
  unfold ent zo
  simp only [List.getD, List.getElem?_map]
  exact key _
theorem nbTab_zo (c : List (List Int)) : nbTab (zo c) = nbTab c := by
  unfold nbTab
  rw [zo_length]
  apply List.map_congr_left
  intro i _
  unfold nbL
  rw [zo_length]
  apply List.filter_congr
  intro j _
  rw [ent_zo]
  by_cases h : ent c i j = 0
  · simp [h]
  · simp [h]
def zm2 (a : Int) : List (List Int) := [[1, a], [a, 1]]
def zm3 (a b e : Int) : List (List Int) := [[1, a, b], [a, 1, e], [b, e, 1]]
def zm4 (a b d e f g : Int) : List (List Int) := [[1, a, b, d], [a, 1, e, f], [b, e, 1, g], [d, f, g, 1]]
def Z2 : List Int := [0, 1]
theorem chkP1 : chkP [[1]] = true := by kernel_rfl
theorem chkP2 : (Z2.all fun a => chkP (zm2 a)) = true := by kernel_rfl
theorem chkP3 : (Z2.all fun a => Z2.all fun b => Z2.all fun e => chkP (zm3 a b e)) = true := by kernel_rfl
theorem chkP4 : (Z2.all fun a => Z2.all fun b => Z2.all fun d => Z2.all fun e => Z2.all fun f => Z2.all fun g => chkP (zm4 a b d e f g)) = true := by kernel_rfl
theorem lst1 {α : Type} {l : List α} (h : l.length = 1) : ∃ a, l = [a] := by
  match l, h with
  | [a], _ => exact ⟨a, rfl⟩
theorem lst2 {α : Type} {l : List α} (h : l.length = 2) : ∃ a b, l = [a, b] := by
  match l, h with
  | [a, b], _ => exact ⟨a, b, rfl⟩
theorem lst3 {α : Type} {l : List α} (h : l.length = 3) : ∃ a b c, l = [a, b, c] := by
  match l, h with
  | [a, b, c], _ => exact ⟨a, b, c, rfl⟩
theorem lst4 {α : Type} {l : List α} (h : l.length = 4) : ∃ a b c d, l = [a, b, c, d] := by
  match l, h with
  | [a, b, c, d], _ => exact ⟨a, b, c, d, rfl⟩
theorem chkP_zo (c : List (List Int)) (h : chkP (zo c) = true) : chkP c = true := by
  unfold chkP at h ⊢
  rw [nbTab_zo, zo_length] at h
  exact h
theorem z_in (x : Int) : (if x = 0 then (0 : Int) else 1) ∈ Z2 := by split <;> simp [Z2]
theorem dg {c : List (List Int)} (hC : IsC c) {i : Nat} (hi : i < c.length) : ent c i i = 2 := by
  have := hC.2.2.2 i hi i hi
  unfold EntOk at this
  rwa [if_pos rfl] at this
theorem zsym {c : List (List Int)} (hC : IsC c) {i j : Nat} (hi : i < c.length) (hj : j < c.length) (hne : i ≠ j) : (if ent c i j = 0 then (0 : Int) else 1) = if ent c j i = 0 then 0 else 1 := by
  have := hC.2.2.2 i hi j hj
  unfold EntOk at this
  rw [if_neg hne] at this
  have h := this.2.2
  by_cases e : ent c i j = 0
  · have : ent c j i = 0 := by simpa [e] using h.symm
    simp [e, this]
  · have : ¬ ent c j i = 0 := by intro e2; apply e; simpa [e2] using h
    simp [e, this]
theorem chkP_all {c : List (List Int)} (hC : IsC c) : chkP c = true := by
  apply chkP_zo
  have : c.length = 1 ∨ c.length = 2 ∨ c.length = 3 ∨ c.length = 4 := by have := hC.1; have := hC.2.1; omega
  rcases this with hn | hn | hn | hn
  · obtain ⟨r0, rfl⟩ := lst1 hn
    obtain ⟨x00, rfl⟩ := lst1 (hC.2.2.1 0 (by simp))
    have d0 : x00 = 2 := dg hC (i := 0) (by simp)
    subst d0
    exact chkP1
  · obtain ⟨r0, r1, rfl⟩ := lst2 hn
    obtain ⟨x00, x01, rfl⟩ := lst2 (hC.2.2.1 0 (by simp))
    obtain ⟨x10, x11, rfl⟩ := lst2 (hC.2.2.1 1 (by simp))
    have d0 : x00 = 2 := dg hC (i := 0) (by simp)
    have d1 : x11 = 2 := dg hC (i := 1) (by simp)
    subst d0; subst d1
    have s10 : (if x10 = 0 then (0 : Int) else 1) = if x01 = 0 then 0 else 1 := zsym hC (i := 1) (j := 0) (by simp) (by simp) (by decide)
    have e : zo [[2, x01], [x10, 2]] = zm2 (if x01 = 0 then 0 else 1) := by simp [zo, zm2, s10]
    rw [e]
    exact List.all_eq_true.1 chkP2 _ (z_in x01)
  · obtain ⟨r0, r1, r2, rfl⟩ := lst3 hn
    obtain ⟨x00, x01, x02, rfl⟩ := lst3 (hC.2.2.1 0 (by simp))
    obtain ⟨x10, x11, x12, rfl⟩ := lst3 (hC.2.2.1 1 (by simp))
    obtain ⟨x20, x21, x22, rfl⟩ := lst3 (hC.2.2.1 2 (by simp))
    have d0 : x00 = 2 := dg hC (i := 0) (by simp)
    have d1 : x11 = 2 := dg hC (i := 1) (by simp)
    have d2 : x22 = 2 := dg hC (i := 2) (by simp)
    subst d0; subst d1; subst d2
    have s10 : (if x10 = 0 then (0 : Int) else 1) = if x01 = 0 then 0 else 1 := zsym hC (i := 1) (j := 0) (by simp) (by simp) (by decide)
    have s20 : (if x20 = 0 then (0 : Int) else 1) = if x02 = 0 then 0 else 1 := zsym hC (i := 2) (j := 0) (by simp) (by simp) (by decide)
    have s21 : (if x21 = 0 then (0 : Int) else 1) = if x12 = 0 then 0 else 1 := zsym hC (i := 2) (j := 1) (by simp) (by simp) (by decide)
    have e : zo [[2, x01, x02], [x10, 2, x12], [x20, x21, 2]] = zm3 (if x01 = 0 then 0 else 1) (if x02 = 0 then 0 else 1) (if x12 = 0 then 0 else 1) := by simp [zo, zm3, s10, s20, s21]
    rw [e]
    exact List.all_eq_true.1 (List.all_eq_true.1 (List.all_eq_true.1 chkP3 _ (z_in x01)) _ (z_in x02)) _ (z_in x12)
  · obtain ⟨r0, r1, r2, r3, rfl⟩ := lst4 hn
    obtain ⟨x00, x01, x02, x03, rfl⟩ := lst4 (hC.2.2.1 0 (by simp))
    obtain ⟨x10, x11, x12, x13, rfl⟩ := lst4 (hC.2.2.1 1 (by simp))
    obtain ⟨x20, x21, x22, x23, rfl⟩ := lst4 (hC.2.2.1 2 (by simp))
    obtain ⟨x30, x31, x32, x33, rfl⟩ := lst4 (hC.2.2.1 3 (by simp))
    have d0 : x00 = 2 := dg hC (i := 0) (by simp)
    have d1 : x11 = 2 := dg hC (i := 1) (by simp)
    have d2 : x22 = 2 := dg hC (i := 2) (by simp)
    have d3 : x33 = 2 := dg hC (i := 3) (by simp)
    subst d0; subst d1; subst d2; subst d3
    have s10 : (if x10 = 0 then (0 : Int) else 1) = if x01 = 0 then 0 else 1 := zsym hC (i := 1) (j := 0) (by simp) (by simp) (by decide)
    have s20 : (if x20 = 0 then (0 : Int) else 1) = if x02 = 0 then 0 else 1 := zsym hC (i := 2) (j := 0) (by simp) (by simp) (by decide)
    have s30 : (if x30 = 0 then (0 : Int) else 1) = if x03 = 0 then 0 else 1 := zsym hC (i := 3) (j := 0) (by simp) (by simp) (by decide)
    have s21 : (if x21 = 0 then (0 : Int) else 1) = if x12 = 0 then 0 else 1 := zsym hC (i := 2) (j := 1) (by simp) (by simp) (by decide)
    have s31 : (if x31 = 0 then (0 : Int) else 1) = if x13 = 0 then 0 else 1 := zsym hC (i := 3) (j := 1) (by simp) (by simp) (by decide)
    have s32 : (if x32 = 0 then (0 : Int) else 1) = if x23 = 0 then 0 else 1 := zsym hC (i := 3) (j := 2) (by simp) (by simp) (by decide)
    have e : zo [[2, x01, x02, x03], [x10, 2, x12, x13], [x20, x21, 2, x23], [x30, x31, x32, 2]] = zm4 (if x01 = 0 then 0 else 1) (if x02 = 0 then 0 else 1) (if x03 = 0 then 0 else 1) (if x12 = 0 then 0 else 1) (if x13 = 0 then 0 else 1) (if x23 = 0 then 0 else 1) := by simp [zo, zm4, s10, s20, s30, s21, s31, s32]
    rw [e]
    exact List.all_eq_true.1 (List.all_eq_true.1 (List.all_eq_true.1 (List.all_eq_true.1 (List.all_eq_true.1 (List.all_eq_true.1 chkP4 _ (z_in x01)) _ (z_in x02)) _ (z_in x03)) _ (z_in x12)) _ (z_in x13)) _ (z_in x23)
/-- the parts, of the program's search and of the reference's -/
theorem parts_of {c : List (List Int)} (hC : IsC c) : ∃ seen P, partsIG (nbTab c) c.length = some (seen, P) ∧ partsSG (nbTab c) c.length = some P ∧ (∀ p ∈ P, goodP c.length p = true) ∧ ∀ i, i < c.length → ∃ p, partS (nbTab c) i = some p ∧ 1 ≤ p.length ∧ p.length ≤ 4 := by
  have h := chkP_all hC
  unfold chkP at h
  split at h
  · rename_i seen a b h1 h2
    rw [Bool.and_eq_true, Bool.and_eq_true] at h
    have e : a = b := by simpa using h.1.1
    subst e
    refine ⟨seen, a, h1, h2, fun p hp => List.all_eq_true.1 h.1.2 p hp, fun i hi => ?_⟩
    have h3 := List.all_eq_true.1 h.2 i (List.mem_range.2 hi)
    split at h3
    · rename_i p hp
      rw [Bool.and_eq_true, decide_eq_true_eq, decide_eq_true_eq] at h3
      exact ⟨p, hp, h3⟩
    · simp at h3
  · simp at h
end Go.Proofs.YtdedkfbiookofaaGreatDoor
