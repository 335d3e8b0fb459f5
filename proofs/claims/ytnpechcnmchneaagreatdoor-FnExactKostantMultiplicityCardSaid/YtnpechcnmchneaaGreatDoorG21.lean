/- ones, image, normal forms: contracts. The reference's normal forms: contracts. Longest elements and opposite letters: contracts. OppositeLetter, IsWeight: contracts. OppositeLetter of the reference, IsWeight: contracts. Membership in a list of rows: the reference's. -/
import Derived.Test.YtnpechcnmchneaaGreatDoorG20
import Derived.WalkSpells
import Derived.Test.YtnpechcnmchneaaGreatDoorG05
namespace Go.Proofs.YtnpechcnmchneaaGreatDoor
set_option maxRecDepth 100000
open Go.RowKit

def lenOfV : Value → Nat | .slice _ n _ => n | _ => 0
def nz (v : List Int) : Bool := v.all fun x => x != 0
/-- the normal form of what a vector tells, where it comes to an end within so many steps and meets no 0 -/
def normG (c : List (List Int)) : Nat → List Int → Option (List Int)
  | 0, v => if nz v && (firstNeg v).isNone then some [] else none
  | f + 1, v => if nz v then match firstNeg v with
      | none => some []
      | some i => (normG c f (refl c i v)).map fun l => (i : Int) :: l
    else none
theorem normG_none {c : List (List Int)} {f : Nat} {v rest : List Int} (h : normG c f v = some rest) (hf : firstNeg v = none) : rest = [] := by
  cases f with
  | zero => simp only [normG] at h; split at h <;> simp_all
  | succ f => simp only [normG, hf] at h; split at h <;> simp_all
theorem normG_some {c : List (List Int)} {f : Nat} {v rest : List Int} {i : Nat} (h : normG c f v = some rest) (hf : firstNeg v = some i) :
    ∃ f' rest', f = f' + 1 ∧ rest = (i : Int) :: rest' ∧ normG c f' (refl c i v) = some rest' := by
  cases f with
  | zero => simp only [normG, hf] at h; simp at h
  | succ f =>
    simp only [normG, hf] at h
    split at h
    · cases hr : normG c f (refl c i v) with
      | none => rw [hr] at h; simp at h
      | some l => rw [hr] at h; simp at h; exact ⟨f, l, rfl, h.symm, hr⟩
    · simp at h
theorem normG_nz {c : List (List Int)} {f : Nat} {v rest : List Int} (h : normG c f v = some rest) : ∀ j, j < v.length → v.getD j 0 ≠ 0 := by
  have hz : nz v = true := by
    cases f with
    | zero => simp only [normG] at h; split at h <;> simp_all
    | succ f => simp only [normG] at h; split at h <;> simp_all
  intro j hj
  have := List.all_eq_true.1 hz v[j] (List.getElem_mem hj)
  simpa [List.getD, hj] using this
theorem normG_len {c : List (List Int)} : ∀ {f : Nat} {v rest : List Int}, normG c f v = some rest → rest.length ≤ f := by
  intro f
  induction f with
  | zero => intro v rest h; simp only [normG] at h; split at h <;> simp_all
  | succ f ih =>
    intro v rest h
    cases hf : firstNeg v with
    | none => rw [normG_none h hf]; simp
    | some i =>
      obtain ⟨f', rest', e, rfl, h'⟩ := normG_some h hf
      have := ih (by rw [show f = f' by omega]; exact h')
      simp; omega
theorem normG_in {c : List (List Int)} : ∀ {f : Nat} {v rest : List Int}, normG c f v = some rest → ∀ k, k < rest.length → 0 ≤ rest.getD k 0 ∧ rest.getD k 0 < v.length := by
  intro f
  induction f with
  | zero => intro v rest h; simp only [normG] at h; split at h <;> simp_all
  | succ f ih =>
    intro v rest h
    cases hf : firstNeg v with
    | none => rw [normG_none h hf]; simp
    | some i =>
      obtain ⟨f', rest', e, rfl, h'⟩ := normG_some h hf
      intro k hk
      cases k with
      | zero => have := (firstNeg_lt hf).1; simp [List.getD]; omega
      | succ k =>
        have := ih (by rw [show f = f' by omega]; exact h') k (by simpa using hk)
        rw [refl_length] at this
        simpa [List.getD] using this

def onesL (n : Nat) : List Int := List.replicate n 1
set_option maxHeartbeats 1000000 in
theorem impl_ones_any (n : Nat) (w : World) (hn : n ≤ 1048576) : Calls Tryz.prog 105 #[.int .i64 n] w (GotInts w (onesL n)) := by
  go_enter Tryz.func105, Tryz.ntmps105
  go_wp2
  go_loopw [3, 6] (fun s i wr => ∃ t g' c' : Nat, t ≤ n ∧ i = .int .i64 t ∧ s = (Value.slice (some ⟨g', 0, none⟩) t c') ∧ Own wr w.heap.size g' c' (onesL t) ∧ Below w.heap.size w wr) (fun _ i _ => n - (intOf i).toNat)
  case atStart => exact ⟨0, w.heap.size, 0, Nat.zero_le _, rfl, rfl, Own.empty (w := w) (Nat.le_refl _), (Below.refl _ _).alloc (Nat.le_refl _) _⟩
  case round =>
    obtain ⟨t, g', c', ht, rfl, rfl, ho, hb⟩ := hrel
    by_cases hlt : t < n
    · have hI : (t : Int) < n := by omega
      go_wp2_with (at_builtin; refine wpList_append_int_n rfl _ _ rfl w.heap.size g' c' t (onesL t) 1 (by simp [onesL]) ho rfl rfl (by omega) ?_)
      intro g3 c3 w3 ho3 hg3 _
      go_wp2
      go_roundw
      case rel =>
        have e : onesL t ++ [1] = onesL (t + 1) := by unfold onesL; rw [List.replicate_succ']
        rw [e] at ho3
        exact ⟨t + 1, g3, c3, by omega, by go_num, rfl, ho3, hb.grown hg3 hb.size (by intro j hj; cases hj; exact ho.base)⟩
      case measure => simp [intOf]; omega
    · obtain rfl : n = t := by omega
      go_wp2
      go_ret
      exact GotInts.mk' g' c' (by simp [onesL]) ho hb

set_option maxHeartbeats 1000000 in
theorem impl_image_any (gc oc n cc g1 o1 n1 c1 : Nat) (c : List (List Int)) (l : List Int) (w : World) (hn : c.length = n) (hn1 : l.length = n1) (hC : IsC c) (hl : l.length ≤ 1048576)
    (hin : ∀ k, k < l.length → 0 ≤ l.getD k 0 ∧ l.getD k 0 < c.length) (hgc : gc < w.heap.size) (hg1 : g1 < w.heap.size) (hr : Rows2 w gc oc c) (hc1 : Cells w g1 o1 l) :
    Calls Tryz.prog 131 #[(Value.slice (some ⟨gc, oc, none⟩) n cc), (Value.slice (some ⟨g1, o1, none⟩) n1 c1)] w (GotInts w (actW c l (onesL c.length))) := by
  subst hn; subst hn1
  have hn4 := hC.2.1
  go_enter Tryz.func131, Tryz.ntmps131
  go_wp2_with fail
  refine (impl_ones_any c.length w (by omega)).mono ?_
  rintro e w1 ⟨g2, c2, rfl, ho2, hb2⟩
  have hol : (onesL c.length).length = c.length := by simp [onesL]
  rw [hol]
  go_wp2_with fail
  refine (impl_acted_any gc oc _ cc g1 o1 _ c1 g2 0 _ c2 c l (onesL c.length) w1 rfl rfl hol hC hol hl hin (Nat.lt_of_lt_of_le hgc hb2.size) (Nat.lt_of_lt_of_le hg1 hb2.size) ho2.lt (hr.below hb2 hgc) (hc1.below hb2 hg1) ho2.cells).mono ?_
  rintro e w3 ⟨g3, c3, rfl, ho3, hb3⟩
  go_wp2_with fail
  go_ret
  exact ⟨g3, c3, rfl, ho3.mono hb2.size, hb2.trans (hb3.mono hb2.size)⟩

set_option maxHeartbeats 2000000 in
theorem impl_normal_any (gc oc n cc g2 o2 n2 c2 f : Nat) (c : List (List Int)) (v word : List Int) (w : World) (hn : c.length = n) (hn2 : v.length = n2) (hC : IsC c) (hv : v.length = c.length) (hf : f ≤ 1000) (hword : normG c f v = some word)
    (hgc : gc < w.heap.size) (hg2 : g2 < w.heap.size) (hr : Rows2 w gc oc c) (hc2 : Cells w g2 o2 v) :
    Calls Tryz.prog 128 #[(Value.slice (some ⟨gc, oc, none⟩) n cc), (Value.slice (some ⟨g2, o2, none⟩) n2 c2)] w (GotInts w word) := by
  subst hn; subst hn2
  have hn4 := hC.2.1
  have hv4 : v.length ≤ 4 := by omega
  have Hv := Lib.hid hv; clear hv
  have hwl := normG_len hword
  go_enter Tryz.func128, Tryz.ntmps128
  go_wp2_with (at_builtin; refine wpList_clone rfl _ _ rfl g2 o2 _ c2 v rfl hg2 hc2 rfl rfl (by omega) ?_)
  intro gv cv w1 ho1 hb1
  go_wp2
  go_loopw [5, 6] (fun s _ wr => ∃ (p g' c' f' : Nat) (u pre rest : List Int), s = (Value.slice (some ⟨g', 0, none⟩) p c') ∧ Hid (pre.length = p) ∧ p + rest.length ≤ 1000 ∧ u.length = v.length ∧ Hid (normG c f' u = some rest) ∧ Hid (word = pre ++ rest) ∧ Own wr w.heap.size gv cv u ∧ Own wr w.heap.size g' c' pre ∧ gv ≠ g' ∧ Below w.heap.size w wr) (fun s _ _ => 1001 - lenOfV s)
  case atStart =>
    refine ⟨0, w1.heap.size, 0, f, v, [], word, rfl, rfl, by omega, rfl, hword, rfl, ho1.alloc _, Own.empty (w := w1) hb1.size, by have := ho1.lt; omega, hb1.alloc hb1.size _⟩
  case round =>
    obtain ⟨p, g', c', f', u, pre, rest, rfl, hp, hpl, hul, hnorm, hw, hou, hop, hne, hb⟩ := hrel
    have hfd := impl_firstDescent_any gv 0 v.length cv u wr hul (by omega) hou.cells
    have Hul := Lib.hid hul
    cases hfn : firstNeg u with
    | none =>
      have hI : firstNegI u = -1 := by unfold firstNegI; rw [hfn]
      rw [hI] at hfd
      have hrest := normG_none hnorm.out hfn
      have Hfd := Lib.hid hfd; have Hrest := Lib.hid hrest
      clear hfd hI hfn hul hrest
      go_wp2_with fail
      refine Hfd.out.mono ?_
      rintro e w2 ⟨rfl, m2, rfl⟩
      go_wp2_with fail
      go_ret
      rw [hw.out, Hrest.out, List.append_nil]
      exact GotInts.mk' g' c' hp.out (hop.drewN m2) (below_drewN hb m2)
    | some i =>
      have hI : firstNegI u = i := by unfold firstNegI; rw [hfn]
      rw [hI] at hfd
      obtain ⟨f2, rest2, -, hrest, hn2⟩ := normG_some hnorm.out hfn
      have hil := (firstNeg_lt hfn).1
      rw [hul] at hil
      have hic : i < c.length := by have := Hv.out; omega
      have hiI : ¬ ((i : Int) < 0) := by omega
      subst hrest
      have hpl2 : p + rest2.length + 1 ≤ 1000 := by simp at hpl; omega
      have Hfd := Lib.hid hfd; have Hn2 := Lib.hid hn2
      clear hfd hI hfn hul hn2 hnorm hpl
      go_wp2_with fail
      refine Hfd.out.mono ?_
      rintro e w2 ⟨rfl, m2, rfl⟩
      go_wp2_with (at_builtin; refine wpList_append_int_n (w := wr.drewN m2) rfl _ _ rfl w.heap.size g' c' p pre (i : Int) hp.out (hop.drewN m2) rfl rfl (by omega) ?_)
      intro g3 c3 w3 ho3 hg3 hor
      have hb3 : Below w.heap.size w w3 := (below_drewN hb m2).grown hg3 hb.size (by intro j hj; cases hj; exact hop.base)
      have hou3 : Own w3 w.heap.size gv cv u := (hou.drewN m2).grown hg3 (by intro e; cases e; exact hne rfl)
      have hne3 : gv ≠ g3 := by
        rcases hor with h | h
        · rw [h]; exact hne
        · have h1 := hou.lt
          have h2 : wr.heap.size < g3 := h
          omega
      have hcall := impl_reflected_any w gc oc _ cc gv cv i v.length c u w3 rfl Hul.out (by rw [Hul.out]; exact Hv.out) hn4 hC.2.2.1 hic hgc hr hb3 hou3
      have Hcall := Lib.hid hcall; clear hcall
      go_wp2_with fail
      refine Hcall.out.mono ?_
      rintro e w4 ⟨rfl, ho4, hg4⟩
      go_wp2_with fail
      go_roundw
      case rel =>
        refine ⟨p + 1, g3, c3, f2, refl c i u, pre ++ [(i : Int)], rest2, rfl, ?_, by omega, by rw [refl_length]; exact Hul.out, Hn2.out, ?_, ho4, ho3.grown hg4 (by intro e; cases e; exact hne3 rfl), hne3, hb3.grown hg4 hb3.size (by intro j hj; cases hj; exact hou.base)⟩
        · show _ = _; rw [List.length_append, hp.out]; rfl
        · show _ = _; rw [hw.out, List.append_assoc]; rfl
      case measure => simp [lenOfV]; omega
end Go.Proofs.YtnpechcnmchneaaGreatDoor
namespace Go.Proofs.YtnpechcnmchneaaGreatDoor
set_option maxRecDepth 100000
open Go.RowKit

set_option maxHeartbeats 4000000 in
theorem spec_l8Form_any (gc oc n cc g2 o2 n2 c2 f : Nat) (c : List (List Int)) (v word : List Int) (w : World) (hn : c.length = n) (hn2 : v.length = n2) (hC : IsC c) (hv : v.length = c.length) (hf : f ≤ 30) (hword : normG c f v = some word)
    (hgc : gc < w.heap.size) (hg2 : g2 < w.heap.size) (hr : Rows2 w gc oc c) (hc2 : Cells w g2 o2 v) :
    Calls Tryz.prog 61 #[(Value.slice (some ⟨gc, oc, none⟩) n cc), (Value.slice (some ⟨g2, o2, none⟩) n2 c2)] w (GotInts w word) := by
  subst hn; subst hn2
  have hn4 := hC.2.1
  have hv4 : v.length ≤ 4 := by omega
  have Hv := Lib.hid hv; clear hv
  have hwl := normG_len hword
  go_enter Tryz.func61, Tryz.ntmps61
  go_wp2
  go_loopw [1, 5, 6, 7] (fun vv s i _ wr => ∃ (p g' c' f' gu ou cu : Nat) (u pre rest : List Int), i = .int .i64 p ∧ s = (Value.slice (some ⟨g', 0, none⟩) p c') ∧ vv = (Value.slice (some ⟨gu, ou, none⟩) v.length cu) ∧ Hid (pre.length = p) ∧ p + f' ≤ 30 ∧ u.length = v.length ∧ Hid (normG c f' u = some rest) ∧ Hid (word = pre ++ rest) ∧ Cells wr gu ou u ∧ gu < wr.heap.size ∧ Own wr w.heap.size g' c' pre ∧ gu ≠ g' ∧ Below w.heap.size w wr) (fun _ _ i _ _ => 31 - (intOf i).toNat)
  case atStart =>
    exact ⟨0, w.heap.size, 0, f, g2, o2, c2, v, [], word, rfl, rfl, rfl, rfl, by omega, rfl, hword, rfl, hc2.below ((Below.refl _ _).alloc (Nat.le_refl _) _) hg2, by simp; omega, Own.empty (w := w) (Nat.le_refl _), by omega, (Below.refl _ _).alloc (Nat.le_refl _) _⟩
  case round =>
    obtain ⟨p, g', c', f', gu, ou, cu, u, pre, rest, rfl, rfl, rfl, hp, hpf, hul, hnorm, hw, hcu, hgu, hop, hne, hb⟩ := hrel
    have hp30 : (p : Int) ≤ 30 := by omega
    have hz := normG_nz hnorm.out
    have Hz := Lib.hid hz; have Hul := Lib.hid hul
    clear hz
    obtain ⟨wo, rfl⟩ : ∃ wo : World, wo = wr := ⟨_, rfl⟩
    have HCu := Lib.hid hcu
    clear hul
    go_wp2
    go_loopw [7] (fun i wr => ∃ k : Nat, k ≤ v.length ∧ i = .int .i64 k ∧ Hid (∀ j, j < k → 0 < u.getD j 0) ∧ wr = wo) (fun i _ => v.length - (intOf i).toNat)
    case atStart => exact ⟨0, Nat.zero_le _, rfl, fun j hj => absurd hj (by omega), rfl⟩
    case round =>
      obtain ⟨k, hk, rfl, hall, rfl⟩ := hrel
      by_cases hlt : k < v.length
      · have q1 := HCu.out k (by rw [Hul.out]; exact hlt)
        have hzk := Hz.out k (by rw [Hul.out]; exact hlt)
        by_cases hpos : 0 < u.getD k 0
        · have HY : Hid (∀ j, j < k + 1 → 0 < u.getD j 0) := fun j hj => by
            by_cases e : j = k
            · subst e; exact hpos
            · exact hall.out j (by omega)
          clear hzk
          generalize u.getD k 0 = x at *
          go_wp2
          go_roundw
          case rel => exact ⟨k + 1, by omega, by go_num, HY.out, trivial⟩
          case measure => simp [intOf]; omega
        · have hfn : firstNeg u = some k := firstNeg_of (by rw [Hul.out]; exact hlt) (by omega) (fun j hj => by have := hall.out j hj; omega)
          obtain ⟨f2, rest2, hf2, hrest, hn2⟩ := normG_some hnorm.out hfn
          have hic : k < c.length := by have := Hv.out; omega
          have hkne : ((k : Int) == (v.length : Int)) = false := by simp; omega
          subst hrest
          have Hn2 := Lib.hid hn2
          clear hzk hfn hn2 hnorm
          generalize u.getD k 0 = x at *
          go_wp2_with (at_builtin; refine wpList_append_int_n (w := wr) rfl _ _ rfl w.heap.size g' c' p pre (k : Int) hp.out hop rfl rfl (by omega) ?_)
          intro g3 c3 w3 ho3 hg3 hor
          have hcu3 : Cells w3 gu ou u := HCu.out.grown hg3 (by intro e; cases e; exact hne rfl)
          have hb3 : Below w.heap.size w w3 := hb.grown hg3 hb.size (by intro j hj; cases hj; exact hop.base)
          have hgu3 : gu < w3.heap.size := Nat.lt_of_lt_of_le hgu hg3.size
          have hcall3 := spec_l6Reflect_any gc oc _ cc gu ou v.length cu k c u w3 rfl Hul.out (by rw [Hul.out]; exact Nat.le_of_eq Hv.out) hn4 hC.2.2.1 (by rw [Hul.out]; exact hlt) (Nat.lt_of_lt_of_le hgc hb3.size) hgu3 (hr.below hb3 hgc) hcu3
          have Hcall3 := Lib.hid hcall3; clear hcall3
          go_wp2_with fail
          refine Hcall3.out.mono ?_
          rintro e w4 ⟨g5, c5, rfl, ho5, hb5⟩
          have hrl : (refl c k u).length = v.length := by rw [refl_length]; exact Hul.out
          rw [hrl]
          go_wp2_with fail
          go_roundw
          case rel =>
            refine ⟨p + 1, g3, c3, f2, g5, 0, c5, refl c k u, pre ++ [(k : Int)], rest2, by go_num, rfl, rfl, ?_, by omega, hrl, Hn2.out, ?_, ho5.cells, ho5.lt, ho3.below hb5 ho3.lt, by have h1 := ho3.lt; have h2 := ho5.base; omega, hb3.trans (hb5.mono hb3.size)⟩
            · show _ = _; rw [List.length_append, hp.out]; rfl
            · show _ = _; rw [hw.out, List.append_assoc]; rfl
          case measure => simp [intOf]; omega
      · obtain rfl : k = v.length := by omega
        have hfn : firstNeg u = none := firstNeg_nil (fun j hj => by have := hall.out j (by rw [← Hul.out]; exact hj); omega)
        have hrest := normG_none hnorm.out hfn
        have Hrest := Lib.hid hrest; clear hrest hfn
        go_wp2
        go_ret
        rw [hw.out, Hrest.out, List.append_nil]
        exact GotInts.mk' g' c' hp.out hop hb
end Go.Proofs.YtnpechcnmchneaaGreatDoor
namespace Go.Proofs.YtnpechcnmchneaaGreatDoor
set_option maxRecDepth 100000
open Go.RowKit

def negL (n : Nat) : List Int := List.replicate n (-1)
theorem onesL_length (n : Nat) : (onesL n).length = n := by simp [onesL]
theorem negL_length (n : Nat) : (negL n).length = n := by simp [negL]
/-- what a finite type's long word does -/
structure LongOf (c : List (List Int)) (long : List Int) (opp : Nat → Nat) : Prop where
  norm : normG c 30 (negL c.length) = some long
  act : actW c long (onesL c.length) = negL c.length
  opp_lt : ∀ i, i < c.length → opp i < c.length
  opp_eq : ∀ i, i < c.length → actW c long (refl c i (onesL c.length)) = refl c (opp i) (negL c.length)

theorem actW_append (c : List (List Int)) (a b v : List Int) : actW c (a ++ b) v = actW c a (actW c b v) := by
  induction a with
  | nil => rfl
  | cons i a ih => simp [actW, ih]
theorem refl_neg_at {c : List (List Int)} (hC : IsC c) {j k : Nat} (hk : k < c.length) (hj : j < c.length) : (refl c j (negL c.length)).getD k 0 = -1 + ent c k j := by
  have hb := ent_bound hC k j
  have e1 : (negL c.length).getD k 0 = -1 := by simp [negL, List.getD, hk]
  have e2 : (negL c.length).getD j 0 = -1 := by simp [negL, List.getD, hj]
  have e : (refl c j (negL c.length)).getD k 0 = reflAt c j (negL c.length) k := by simp [refl, List.getD, negL_length, hk]
  rw [e]
  unfold reflAt
  have e3 : wrap64 (-1 * ent c k j) = -1 * ent c k j := IntWalk.wrap64_in _ ⟨by omega, by omega⟩
  rw [e1, e2, e3, IntWalk.wrap64_in _ ⟨by omega, by omega⟩]
  omega
theorem refl_neg_pos {c : List (List Int)} (hC : IsC c) {j k : Nat} (hk : k < c.length) (hj : j < c.length) : 0 < (refl c j (negL c.length)).getD k 0 ↔ k = j := by
  rw [refl_neg_at hC hk hj]
  have h := hC.2.2.2 k hk j hj
  unfold EntOk at h
  by_cases e : k = j
  · rw [if_pos e] at h; omega
  · rw [if_neg e] at h; omega
theorem refl_neg_inj {c : List (List Int)} (hC : IsC c) {j k : Nat} (hk : k < c.length) (hj : j < c.length) : refl c j (negL c.length) = refl c k (negL c.length) ↔ j = k := by
  constructor
  · intro h
    have h1 := (refl_neg_pos hC hj hj).2 rfl
    rw [h] at h1
    exact (refl_neg_pos hC hj hk).1 h1
  · rintro rfl; rfl

set_option maxHeartbeats 2000000 in
theorem impl_longestElement_any (gc oc n cc : Nat) (c : List (List Int)) (long : List Int) (w : World) (hn : c.length = n) (hC : IsC c) (hlong : normG c 30 (negL c.length) = some long)
    (hgc : gc < w.heap.size) (hr : Rows2 w gc oc c) : Calls Tryz.prog 78 #[(Value.slice (some ⟨gc, oc, none⟩) n cc)] w (GotInts w long) := by
  subst hn
  have hn4 := hC.2.1
  go_enter Tryz.func78, Tryz.ntmps78
  go_wp2_with fail
  refine (impl_ones_any c.length w (by omega)).mono ?_
  rintro e w1 ⟨g1, c1, rfl, ho1, hb1⟩
  rw [onesL_length]
  go_wp2_with fail
  go_loopw [10] (fun i wr => ∃ t : Nat, t ≤ c.length ∧ i = .int .i64 t ∧ Own wr w.heap.size g1 c1 (List.replicate t (-1) ++ List.replicate (c.length - t) 1) ∧ Below w.heap.size w wr) (fun i _ => c.length - (intOf i).toNat)
  case atStart => exact ⟨0, Nat.zero_le _, rfl, by simpa [onesL] using ho1, hb1⟩
  case round =>
    obtain ⟨t, ht, rfl, ho, hb⟩ := hrel
    by_cases hlt : t < c.length
    · have hl : (List.replicate t (-1 : Int) ++ List.replicate (c.length - t) 1).length = c.length := by simp; omega
      have q1 := ho.cell t (by rw [hl]; exact hlt)
      have f1 := ho.frozen t
      have hs := ho.set t (-1)
      have e : (List.replicate t (-1 : Int) ++ List.replicate (c.length - t) 1).set t (-1) = List.replicate (t + 1) (-1) ++ List.replicate (c.length - (t + 1)) 1 := by
        rw [List.set_append_right _ _ (by simp)]
        obtain ⟨d, hd⟩ : ∃ d, c.length - t = d + 1 := ⟨c.length - t - 1, by omega⟩
        rw [hd, show c.length - (t + 1) = d by omega]
        rw [List.length_replicate, Nat.sub_self, List.replicate_succ, List.set_cons_zero, List.replicate_succ', List.append_assoc]; rfl
      rw [e] at hs
      have Hs := Lib.hid hs
      clear hs e hl
      go_wp2
      go_roundw
      case rel => exact ⟨t + 1, by omega, by go_num, Hs.out.1, hb.grown Hs.out.2 hb.size (by intro j hj; cases hj; exact ho.base)⟩
      case measure => simp [intOf]; omega
    · obtain rfl : t = c.length := by omega
      rw [Nat.sub_self, List.replicate_zero, List.append_nil] at ho
      have ho' : Own wr w.heap.size g1 c1 (negL c.length) := ho
      go_wp2_with fail
      refine (impl_normal_any gc oc _ cc g1 0 c.length c1 30 c (negL c.length) long wr rfl (negL_length _) hC (negL_length _) (by omega) hlong (Nat.lt_of_lt_of_le hgc hb.size) ho'.lt (hr.below hb hgc) ho'.cells).mono ?_
      rintro e w2 ⟨g2, c2, rfl, ho2, hb2⟩
      go_wp2_with fail
      go_ret
      exact ⟨g2, c2, rfl, ho2.mono hb.size, hb.trans (hb2.mono hb.size)⟩

set_option maxHeartbeats 2000000 in
theorem spec_LongestElement_ok (gc oc n cc : Nat) (c : List (List Int)) (long : List Int) (w : World) (hn : c.length = n) (hC : IsC c) (hfin : finB c = true) (hlong : normG c 30 (negL c.length) = some long)
    (hgc : gc < w.heap.size) (hr : Rows2 w gc oc c) : Calls Tryz.prog 19 #[(Value.slice (some ⟨gc, oc, none⟩) n cc)] w (GotIntsB w long true) := by
  subst hn
  have hn4 := hC.2.1
  go_enter Tryz.func19, Tryz.ntmps19
  go_wp2_with fail
  refine (spec_IsFinite_any gc oc _ cc c w rfl (by omega) (fun j hj => by have := hC.2.2.1 j hj; omega) hgc hr).mono ?_
  rintro e w1 ⟨rfl, hb1⟩
  rw [hfin]
  go_wp2_with fail
  go_loopw [4, 5] (fun s i wr => ∃ t g' c' : Nat, t ≤ c.length ∧ i = .int .i64 t ∧ s = (Value.slice (some ⟨g', 0, none⟩) t c') ∧ Own wr w.heap.size g' c' (negL t) ∧ Below w.heap.size w wr) (fun _ i _ => c.length - (intOf i).toNat)
  case atStart => exact ⟨0, w1.heap.size, 0, Nat.zero_le _, rfl, rfl, Own.empty (w := w1) hb1.size, hb1.alloc hb1.size _⟩
  case round =>
    obtain ⟨t, g', c', ht, rfl, rfl, ho, hb⟩ := hrel
    by_cases hlt : t < c.length
    · go_wp2_with (at_builtin; refine wpList_append_int_n rfl _ _ rfl w.heap.size g' c' t (negL t) (-1) (negL_length _) ho rfl rfl (by omega) ?_)
      intro g3 c3 w3 ho3 hg3 _
      go_wp2
      go_roundw
      case rel =>
        have e : negL t ++ [-1] = negL (t + 1) := by unfold negL; rw [List.replicate_succ']
        rw [e] at ho3
        exact ⟨t + 1, g3, c3, by omega, by go_num, rfl, ho3, hb.grown hg3 hb.size (by intro j hj; cases hj; exact ho.base)⟩
      case measure => simp [intOf]; omega
    · obtain rfl : t = c.length := by omega
      go_wp2_with fail
      refine (spec_l8Form_any gc oc _ cc g' 0 c.length c' 30 c (negL c.length) long wr rfl (negL_length _) hC (negL_length _) (by omega) hlong (Nat.lt_of_lt_of_le hgc hb.size) ho.lt (hr.below hb hgc) ho.cells).mono ?_
      rintro e w2 ⟨g2, c2, rfl, ho2, hb2⟩
      go_wp2_with fail
      go_ret2
      exact ⟨g2, c2, rfl, ho2.mono hb.size, hb.trans (hb2.mono hb.size)⟩

set_option maxHeartbeats 2000000 in
theorem spec_RhoOf_ok (gc oc n cc : Nat) (c : List (List Int)) (w : World) (hn : c.length = n) (hC : IsC c) (hgc : gc < w.heap.size) (hr : Rows2 w gc oc c) :
    Calls Tryz.prog 64 #[(Value.slice (some ⟨gc, oc, none⟩) n cc)] w (GotInts w (onesL c.length)) := by
  subst hn
  have hn4 := hC.2.1
  have hcart : Hid (∀ W, Below w.heap.size w W → Calls Tryz.prog 15 #[(Value.slice (some ⟨gc, oc, none⟩) c.length cc)] W (Reads W (.bool true))) := fun W hW => by
    have := spec_IsCartan gc oc _ cc c W rfl (by omega) (fun j hj => by have := hC.2.2.1 j hj; omega) (hr.below hW hgc)
    rwa [decide_eq_true hC] at this
  go_enter Tryz.func64, Tryz.ntmps64
  go_wp2_with fail
  go_loopw [3, 4] (fun s i wr => ∃ t g' c' : Nat, t ≤ c.length ∧ i = .int .i64 t ∧ s = (Value.slice (some ⟨g', 0, none⟩) t c') ∧ Own wr w.heap.size g' c' (onesL t) ∧ Below w.heap.size w wr) (fun _ i _ => c.length - (intOf i).toNat)
  case atStart => exact ⟨0, w.heap.size, 0, Nat.zero_le _, rfl, rfl, Own.empty (w := w) (Nat.le_refl _), (Below.refl _ _).alloc (Nat.le_refl _) _⟩
  case round =>
    obtain ⟨t, g', c', ht, rfl, rfl, ho, hb⟩ := hrel
    by_cases hlt : t < c.length
    · go_wp2_with fail
      refine (hcart.out _ hb).mono ?_
      rintro e w2 ⟨rfl, m2, rfl⟩
      go_wp2_with (at_builtin; refine wpList_append_int_n (w := wr.drewN m2) rfl _ _ rfl w.heap.size g' c' t (onesL t) 1 (onesL_length _) (ho.drewN m2) rfl rfl (by omega) ?_)
      intro g3 c3 w3 ho3 hg3 _
      go_wp2
      go_roundw
      case rel =>
        have e : onesL t ++ [1] = onesL (t + 1) := by unfold onesL; rw [List.replicate_succ']
        rw [e] at ho3
        exact ⟨t + 1, g3, c3, by omega, by go_num, rfl, ho3, (below_drewN hb m2).grown hg3 hb.size (by intro j hj; cases hj; exact ho.base)⟩
      case measure => simp [intOf]; omega
    · obtain rfl : t = c.length := by omega
      go_wp2_with fail
      go_ret
      exact GotInts.mk' g' c' (onesL_length _) ho hb

set_option maxHeartbeats 400000 in
theorem slices_Clone_any (g o n cp : Nat) (v : List Int) (w : World) (hn : v.length = n) (hx : v.length ≤ 1048576) (hg : g < w.heap.size) (hc : Cells w g o v) :
    Calls Tryz.prog 133 #[(Value.slice (some ⟨g, o, none⟩) n cp)] w (GotInts w v) := by
  subst hn
  have hnil : ∀ W, (binOp .eql 28 (Value.slice (some ⟨g, o, none⟩) v.length cp) (.slice none 0 0)).run Tryz.prog W = .ok (.bool false) W := fun W => Lib.run_eql_slice_nil W 28 3 _ _ _ _ _ Tryz.underlying28
  go_enter Tryz.func133, Tryz.ntmps133
  go_wp2_with (at_builtin; refine wpList_clone rfl _ _ rfl g o _ cp v rfl hg hc rfl rfl (by omega) ?_)
  intro g1 c1 w1 ho hb
  go_wp2_with fail
  go_ret
  exact GotInts.mk' g1 c1 rfl ho hb
end Go.Proofs.YtnpechcnmchneaaGreatDoor
namespace Go.Proofs.YtnpechcnmchneaaGreatDoor
set_option maxRecDepth 100000
open Go.RowKit

end Go.Proofs.YtnpechcnmchneaaGreatDoor
namespace Go.Proofs.YtnpechcnmchneaaGreatDoor
set_option maxRecDepth 100000
open Go.RowKit

def wtOk (c : List (List Int)) (v : List Int) : Prop := IsC c ∧ v.length = c.length ∧ ∀ j, j < v.length → -1000 ≤ v.getD j 0 ∧ v.getD j 0 ≤ 1000
instance (c : List (List Int)) (v : List Int) : Decidable (wtOk c v) := by unfold wtOk; infer_instance

set_option maxHeartbeats 2000000 in
theorem impl_IsWeight_any (gc oc n cc g o m cv : Nat) (c : List (List Int)) (v : List Int) (w : World) (hn : c.length = n) (hm : v.length = m) (hx : c.length ≤ 1048576) (hvx : v.length ≤ 1048576)
    (hrl : ∀ j, j < c.length → (c.getD j []).length ≤ 1048576) (hr : Rows2 w gc oc c) (hv : Cells w g o v) :
    Calls Tryz.prog 51 #[(Value.slice (some ⟨gc, oc, none⟩) n cc), (Value.slice (some ⟨g, o, none⟩) m cv)] w (Reads w (.bool (decide (wtOk c v)))) := by
  subst hn; subst hm
  go_enter Tryz.func51, Tryz.ntmps51
  go_wp2_with fail
  refine (impl_IsCartan gc oc _ cc c w rfl (by omega) (fun j hj => by have := hrl j hj; omega) hr).mono ?_
  rintro e w1 ⟨rfl, m1, rfl⟩
  by_cases hC : IsC c
  · have hC' : decide (IsC c) = true := decide_eq_true hC
    rw [hC']
    by_cases hlen : v.length = c.length
    · have hlen' : ((v.length : Int) != (c.length : Int)) = false := by rw [hlen]; simp
      have Hlen := Lib.hid hlen; clear hlen
      go_wp2_with fail
      go_loopw [19] (fun i wr => ∃ k : Nat, k ≤ v.length ∧ i = .int .i64 k ∧ Hid (∀ j, j < k → -1000 ≤ v.getD j 0 ∧ v.getD j 0 ≤ 1000) ∧ ∃ m, wr = w.drewN m) (fun i _ => v.length - (intOf i).toNat)
      case atStart => exact ⟨0, Nat.zero_le _, rfl, fun j hj => absurd hj (by omega), (by first | exact ⟨_, rfl⟩ | exact ⟨0, rfl⟩ | exact still2 _ _ _ | exact still3 _ _ _ _)⟩
      case round =>
        obtain ⟨k, hk, rfl, hall, m, rfl⟩ := hrel
        by_cases hlt : k < v.length
        · have q1 := hv k hlt
          have HX : Hid (¬ (-1000 ≤ v.getD k 0 ∧ v.getD k 0 ≤ 1000) → decide (wtOk c v) = false) := fun h => decide_eq_false (fun h2 => h (h2.2.2 k hlt))
          have HY : Hid (-1000 ≤ v.getD k 0 ∧ v.getD k 0 ≤ 1000 → ∀ j, j < k + 1 → -1000 ≤ v.getD j 0 ∧ v.getD j 0 ≤ 1000) := fun h j hj => by
            by_cases e : j = k
            · subst e; exact h
            · exact hall.out j (by omega)
          generalize v.getD k 0 = x at *
          by_cases h1 : x < -1000
          · have hf := HX.out (by omega)
            have Hf := Lib.hid hf; clear hf
            go_wp2
            go_ret
            exact ⟨ret_bool Hf.out.symm, (by first | exact ⟨_, rfl⟩ | exact ⟨0, rfl⟩ | exact still2 _ _ _ | exact still3 _ _ _ _)⟩
          · by_cases h2 : 1000 < x
            · have hf := HX.out (by omega)
              have Hf := Lib.hid hf; clear hf
              go_wp2
              go_ret
              exact ⟨ret_bool Hf.out.symm, (by first | exact ⟨_, rfl⟩ | exact ⟨0, rfl⟩ | exact still2 _ _ _ | exact still3 _ _ _ _)⟩
            · have hy := HY.out (by omega)
              have Hy := Lib.hid hy; clear hy
              go_wp2
              go_roundw
              case rel => exact ⟨k + 1, by omega, by go_num, Hy.out, (by first | exact ⟨_, rfl⟩ | exact ⟨0, rfl⟩ | exact still2 _ _ _ | exact still3 _ _ _ _)⟩
              case measure => simp [intOf]; omega
        · obtain rfl : k = v.length := by omega
          have hf : decide (wtOk c v) = true := decide_eq_true ⟨hC, Hlen.out, hall.out⟩
          have Hf := Lib.hid hf; clear hf
          go_wp2
          go_ret
          exact ⟨ret_bool Hf.out.symm, (by first | exact ⟨_, rfl⟩ | exact ⟨0, rfl⟩ | exact still2 _ _ _ | exact still3 _ _ _ _)⟩
    · have hlen' : ((v.length : Int) != (c.length : Int)) = true := by simp; omega
      have hf : decide (wtOk c v) = false := decide_eq_false (fun h => hlen h.2.1)
      have Hf := Lib.hid hf; clear hf hlen
      go_wp2_with fail
      go_ret
      exact ⟨ret_bool Hf.out.symm, (by first | exact ⟨_, rfl⟩ | exact ⟨0, rfl⟩ | exact still2 _ _ _ | exact still3 _ _ _ _)⟩
  · have hC' : decide (IsC c) = false := decide_eq_false hC
    have hf : decide (wtOk c v) = false := decide_eq_false (fun h => hC h.1)
    have Hf := Lib.hid hf; clear hf
    rw [hC']
    clear hC
    go_wp2_with fail
    go_ret
    exact ⟨ret_bool Hf.out.symm, (by first | exact ⟨_, rfl⟩ | exact ⟨0, rfl⟩ | exact still2 _ _ _ | exact still3 _ _ _ _)⟩

set_option maxHeartbeats 2000000 in
theorem spec_IsWeight_any (gc oc n cc g o m cv : Nat) (c : List (List Int)) (v : List Int) (w : World) (hn : c.length = n) (hm : v.length = m) (hx : c.length ≤ 1048576) (hvx : v.length ≤ 1048576)
    (hrl : ∀ j, j < c.length → (c.getD j []).length ≤ 1048576) (hr : Rows2 w gc oc c) (hv : Cells w g o v) :
    Calls Tryz.prog 42 #[(Value.slice (some ⟨gc, oc, none⟩) n cc), (Value.slice (some ⟨g, o, none⟩) m cv)] w (Reads w (.bool (decide (wtOk c v)))) := by
  subst hn; subst hm
  go_enter Tryz.func42, Tryz.ntmps42
  go_wp2_with fail
  go_loopw [5] (fun i wr => ∃ k : Nat, k ≤ v.length ∧ i = .int .i64 k ∧ Hid (∀ j, j < k → -1000 ≤ v.getD j 0 ∧ v.getD j 0 ≤ 1000) ∧ ∃ m, wr = w.drewN m) (fun i _ => v.length - (intOf i).toNat)
  case atStart => exact ⟨0, Nat.zero_le _, rfl, fun j hj => absurd hj (by omega), (by first | exact ⟨_, rfl⟩ | exact ⟨0, rfl⟩ | exact still2 _ _ _ | exact still3 _ _ _ _)⟩
  case round =>
    obtain ⟨k, hk, rfl, hall, m, rfl⟩ := hrel
    by_cases hlt : k < v.length
    · have q1 := hv k hlt
      have HX : Hid (¬ (-1000 ≤ v.getD k 0 ∧ v.getD k 0 ≤ 1000) → decide (wtOk c v) = false) := fun h => decide_eq_false (fun h2 => h (h2.2.2 k hlt))
      have HY : Hid (-1000 ≤ v.getD k 0 ∧ v.getD k 0 ≤ 1000 → ∀ j, j < k + 1 → -1000 ≤ v.getD j 0 ∧ v.getD j 0 ≤ 1000) := fun h j hj => by
        by_cases e : j = k
        · subst e; exact h
        · exact hall.out j (by omega)
      generalize v.getD k 0 = x at *
      go_wp2_with fail
      refine (spec_l1In x (-1000) 1000 (w.drewN m)).mono ?_
      rintro e w2 ⟨rfl, m2, rfl⟩
      by_cases hin : -1000 ≤ x ∧ x ≤ 1000
      · have hT : (decide (-1000 ≤ x) && decide (x ≤ 1000)) = true := by simp; exact hin
        have hy := HY.out hin
        have Hy := Lib.hid hy; clear hy hin
        rw [hT]
        go_wp2_with fail
        go_roundw
        case rel => exact ⟨k + 1, by omega, by go_num, Hy.out, (by first | exact ⟨_, rfl⟩ | exact ⟨0, rfl⟩ | exact still2 _ _ _ | exact still3 _ _ _ _)⟩
        case measure => simp [intOf]; omega
      · have hT : (decide (-1000 ≤ x) && decide (x ≤ 1000)) = false := by rw [Bool.and_eq_false_iff, decide_eq_false_iff_not, decide_eq_false_iff_not]; omega
        have hf := HX.out hin
        have Hf := Lib.hid hf; clear hf hin
        rw [hT]
        go_wp2_with fail
        go_ret
        exact ⟨ret_bool Hf.out.symm, (by first | exact ⟨_, rfl⟩ | exact ⟨0, rfl⟩ | exact still2 _ _ _ | exact still3 _ _ _ _)⟩
    · obtain rfl : k = v.length := by omega
      have hf : decide (wtOk c v) = (decide (IsC c) && decide (v.length = c.length)) := by
        rw [← Bool.decide_and]
        exact decide_eq_decide.2 ⟨fun h => ⟨h.1, h.2.1⟩, fun h => ⟨h.1, h.2, hall.out⟩⟩
      have Hf := Lib.hid hf; clear hf
      go_wp2_with fail
      refine (spec_IsCartan gc oc _ cc c (w.drewN m) rfl (by omega) (fun j hj => by have := hrl j hj; omega) hr).mono ?_
      rintro e w2 ⟨rfl, m2, rfl⟩
      by_cases hC : IsC c
      · have hC' : decide (IsC c) = true := decide_eq_true hC
        rw [hC'] at Hf ⊢
        by_cases hlen : v.length = c.length
        · have hT : ((v.length : Int) == (c.length : Int)) = true := by rw [hlen]; simp
          have hT2 : decide (v.length = c.length) = true := decide_eq_true hlen
          rw [hT2] at Hf
          clear hlen hT2
          go_wp2_with fail
          go_ret
          exact ⟨ret_bool (by rw [Hf.out]; rfl), (by first | exact ⟨_, rfl⟩ | exact ⟨0, rfl⟩ | exact still2 _ _ _ | exact still3 _ _ _ _)⟩
        · have hT : ((v.length : Int) == (c.length : Int)) = false := by simp; omega
          have hT2 : decide (v.length = c.length) = false := decide_eq_false hlen
          rw [hT2] at Hf
          clear hlen hT2
          go_wp2_with fail
          go_ret
          exact ⟨ret_bool (by rw [Hf.out]; rfl), (by first | exact ⟨_, rfl⟩ | exact ⟨0, rfl⟩ | exact still2 _ _ _ | exact still3 _ _ _ _)⟩
      · have hC' : decide (IsC c) = false := decide_eq_false hC
        rw [hC'] at Hf ⊢
        clear hC
        go_wp2_with fail
        go_ret
        exact ⟨ret_bool (by rw [Hf.out]; rfl), (by first | exact ⟨_, rfl⟩ | exact ⟨0, rfl⟩ | exact still2 _ _ _ | exact still3 _ _ _ _)⟩
end Go.Proofs.YtnpechcnmchneaaGreatDoor
namespace Go.Proofs.YtnpechcnmchneaaGreatDoor
set_option maxRecDepth 100000
open Go.RowKit Game

def inTo (l : List (List Int)) (r : List Int) (k : Nat) : Prop := ∀ j, j < k → l.getD j [] ≠ r
theorem inTo_all {l : List (List Int)} {r : List Int} (h : inTo l r l.length) : decide (r ∈ l) = false := by
  apply decide_eq_false
  intro hm
  obtain ⟨t, ht, e⟩ := List.mem_iff_getElem.1 hm
  exact h t ht (by simp [List.getD, ht, e])
theorem inTo_some {l : List (List Int)} {r : List Int} {k : Nat} (hk : k < l.length) (h : l.getD k [] = r) : decide (r ∈ l) = true := by
  apply decide_eq_true
  rw [← h]; simp [List.getD, hk]
set_option maxHeartbeats 2000000 in
theorem spec_l7In_any (g o n cp g1 o1 n1 c1 : Nat) (l : List (List Int)) (r : List Int) (w : World) (hn : l.length = n) (hn1 : r.length = n1) (hl : l.length ≤ 1048576) (hrl : ∀ j, j < l.length → (l.getD j []).length ≤ 1048576)
    (hr : Rows2 w g o l) (hc1 : Cells w g1 o1 r) :
    Calls Tryz.prog 137 #[(Value.slice (some ⟨g, o, none⟩) n cp), (Value.slice (some ⟨g1, o1, none⟩) n1 c1)] w (Reads w (.bool (decide (r ∈ l)))) := by
  subst hn; subst hn1
  go_enter Tryz.func137, Tryz.ntmps137
  go_wp2
  go_loopw [5] (fun i wr => ∃ k : Nat, k ≤ l.length ∧ i = .int .i64 k ∧ Hid (inTo l r k) ∧ ∃ m, wr = w.drewN m) (fun i _ => l.length - (intOf i).toNat)
  case atStart => exact ⟨0, Nat.zero_le _, rfl, fun j hj => absurd hj (by omega), (by first | exact ⟨_, rfl⟩ | exact ⟨0, rfl⟩ | exact still2 _ _ _ | exact still3 _ _ _ _)⟩
  case round =>
    obtain ⟨k, hk, rfl, hin, m, rfl⟩ := hrel
    by_cases hlt : k < l.length
    · obtain ⟨gj, oj, cj, q1, q2, q3, q4⟩ := hr k hlt
      have hlk := hrl k hlt
      have HY : Hid (l.getD k [] ≠ r → inTo l r (k + 1)) := fun h j hj => by
        by_cases e : j = k
        · subst e; exact h
        · exact hin.out j (by omega)
      have HX : Hid (l.getD k [] = r → decide (r ∈ l) = true) := inTo_some hlt
      generalize l.getD k [] = x at *
      have hcall := spec_EqualWords_any gj oj x.length cj g1 o1 r.length c1 x r (w.drewN m) rfl rfl (by omega) q4 hc1
      by_cases e : x = r
      · have hd := HX.out e
        rw [decide_eq_true e] at hcall
        have Hd := Lib.hid hd; have He := Lib.hid e; have Hcall := Lib.hid hcall
        clear hd hcall e
        go_wp2_with fail
        refine Hcall.out.mono ?_
        rintro e w2 ⟨rfl, m2, rfl⟩
        go_wp2_with fail
        go_ret
        exact ⟨ret_bool Hd.out.symm, (by first | exact ⟨_, rfl⟩ | exact ⟨0, rfl⟩ | exact still2 _ _ _ | exact still3 _ _ _ _)⟩
      · have hd := HY.out e
        rw [decide_eq_false e] at hcall
        have Hd := Lib.hid hd; have He := Lib.hid e; have Hcall := Lib.hid hcall
        clear hd hcall e
        go_wp2_with fail
        refine Hcall.out.mono ?_
        rintro e w2 ⟨rfl, m2, rfl⟩
        go_wp2_with fail
        go_roundw
        case rel => exact ⟨k + 1, by omega, by go_num, Hd.out, (by first | exact ⟨_, rfl⟩ | exact ⟨0, rfl⟩ | exact still2 _ _ _ | exact still3 _ _ _ _)⟩
        case measure => simp [intOf]; omega
    · obtain rfl : k = l.length := by omega
      have hf := inTo_all hin.out
      have Hf := Lib.hid hf; clear hf
      go_wp2
      go_ret
      exact ⟨ret_bool Hf.out.symm, (by first | exact ⟨_, rfl⟩ | exact ⟨0, rfl⟩ | exact still2 _ _ _ | exact still3 _ _ _ _)⟩
end Go.Proofs.YtnpechcnmchneaaGreatDoor
