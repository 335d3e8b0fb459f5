/- Words acting on weights, normal forms: contracts. ones, image, normal forms: contracts. The reference's normal forms: contracts. Longest elements and opposite letters: contracts. OppositeLetter, IsWeight: contracts. OppositeLetter of the reference, IsWeight: contracts. Membership in a list of rows: the reference's. -/
import Derived.Test.YtobeigdjhepedaaGreatDoorG16
import Derived.Test.YtobeigdjhepedaaGreatDoorG03
import Derived.WalkSpells
import Derived.Test.YtobeigdjhepedaaGreatDoorG05
namespace Go.Proofs.YtobeigdjhepedaaGreatDoor
set_option maxRecDepth 100000
open Go.RowKit

/-- the first negative place -/
def firstNeg : List Int → Option Nat
  | [] => none
  | x :: l => if x < 0 then some 0 else (firstNeg l).map (· + 1)
def firstNegI (v : List Int) : Int := match firstNeg v with | none => -1 | some i => i
theorem firstNeg_lt {v : List Int} {i : Nat} (h : firstNeg v = some i) : i < v.length ∧ v.getD i 0 < 0 ∧ ∀ j, j < i → 0 ≤ v.getD j 0 := by
  induction v generalizing i with
  | nil => simp [firstNeg] at h
  | cons x l ih =>
    simp only [firstNeg] at h
    split at h
    · simp at h; subst h; refine ⟨by simp, by simpa [List.getD] using by assumption, by omega⟩
    · rename_i hx
      cases hl : firstNeg l with
      | none => rw [hl] at h; simp at h
      | some k =>
        rw [hl] at h; simp at h; subst h
        have := ih hl
        refine ⟨by simp; omega, by simpa [List.getD] using this.2.1, fun j hj => ?_⟩
        cases j with
        | zero => simp [List.getD]; omega
        | succ j => have := this.2.2 j (by omega); simpa [List.getD] using this
theorem firstNeg_none {v : List Int} (h : firstNeg v = none) : ∀ j, j < v.length → 0 ≤ v.getD j 0 := by
  induction v with
  | nil => intro j hj; simp at hj
  | cons x l ih =>
    simp only [firstNeg] at h
    split at h
    · simp at h
    · rename_i hx
      have hl : firstNeg l = none := by cases hl : firstNeg l with
        | none => rfl
        | some k => rw [hl] at h; simp at h
      intro j hj
      cases j with
      | zero => simp [List.getD]; omega
      | succ j => have := ih hl j (by simpa using hj); simpa [List.getD] using this
theorem firstNeg_of {v : List Int} {i : Nat} (hi : i < v.length) (h : v.getD i 0 < 0) (hb : ∀ j, j < i → 0 ≤ v.getD j 0) : firstNeg v = some i := by
  cases hf : firstNeg v with
  | none => have := firstNeg_none hf i hi; omega
  | some k =>
    have hk := firstNeg_lt hf
    rcases Nat.lt_trichotomy i k with h1 | h1 | h1
    · have := hk.2.2 i h1; omega
    · rw [h1]
    · have := hb k h1; omega
theorem firstNeg_nil {v : List Int} (hb : ∀ j, j < v.length → 0 ≤ v.getD j 0) : firstNeg v = none := by
  cases hf : firstNeg v with
  | none => rfl
  | some k => have hk := firstNeg_lt hf; have := hb k hk.1; omega

set_option maxHeartbeats 1000000 in
theorem impl_firstDescent_any (g o n cp : Nat) (v : List Int) (w : World) (hn : v.length = n) (hx : v.length ≤ 1048576) (hc : Cells w g o v) :
    Calls Tryz.prog 109 #[(Value.slice (some ⟨g, o, none⟩) n cp)] w (Reads w (.int .i64 (firstNegI v))) := by
  subst hn
  go_enter Tryz.func109, Tryz.ntmps109
  go_wp2
  go_loopw [7] (fun i wr => ∃ k : Nat, k ≤ v.length ∧ i = .int .i64 k ∧ Hid (∀ j, j < k → 0 ≤ v.getD j 0) ∧ ∃ m, wr = w.drewN m) (fun i _ => v.length - (intOf i).toNat)
  case atStart => exact ⟨0, Nat.zero_le _, rfl, fun j hj => absurd hj (by omega), (by first | exact ⟨_, rfl⟩ | exact ⟨0, rfl⟩ | exact still2 _ _ _ | exact still3 _ _ _ _)⟩
  case round =>
    obtain ⟨k, hk, rfl, hall, m, rfl⟩ := hrel
    by_cases hlt : k < v.length
    · have q1 := hc k hlt
      have HX : Hid (v.getD k 0 < 0 → firstNegI v = k) := fun h => by unfold firstNegI; rw [firstNeg_of hlt h hall.out]
      have HY : Hid (0 ≤ v.getD k 0 → ∀ j, j < k + 1 → 0 ≤ v.getD j 0) := fun h j hj => by
        by_cases e : j = k
        · subst e; exact h
        · exact hall.out j (by omega)
      generalize v.getD k 0 = x at *
      by_cases hneg : x < 0
      · have hf := HX.out hneg
        have Hf := Lib.hid hf; clear hf
        go_wp2
        go_ret
        exact ⟨ret_int Hf.out.symm, (by first | exact ⟨_, rfl⟩ | exact ⟨0, rfl⟩ | exact still2 _ _ _ | exact still3 _ _ _ _)⟩
      · go_wp2
        go_roundw
        case rel => exact ⟨k + 1, by omega, by go_num, HY.out (by omega), (by first | exact ⟨_, rfl⟩ | exact ⟨0, rfl⟩ | exact still2 _ _ _ | exact still3 _ _ _ _)⟩
        case measure => simp [intOf]; omega
    · obtain rfl : k = v.length := by omega
      have hf : firstNegI v = -1 := by unfold firstNegI; rw [firstNeg_nil hall.out]
      have Hf := Lib.hid hf; clear hf
      go_wp2
      go_ret
      exact ⟨ret_int Hf.out.symm, (by first | exact ⟨_, rfl⟩ | exact ⟨0, rfl⟩ | exact still2 _ _ _ | exact still3 _ _ _ _)⟩

/-- a word applied, the last letter first -/
def actW (c : List (List Int)) : List Int → List Int → List Int
  | [], v => v
  | i :: l, v => refl c i.toNat (actW c l v)
theorem actW_length (c : List (List Int)) (l v : List Int) : (actW c l v).length = v.length := by
  induction l with
  | nil => rfl
  | cons i l ih => simp [actW, refl_length, ih]
theorem actW_drop (c : List (List Int)) (l v : List Int) (k : Nat) (hk : k < l.length) : actW c (l.drop k) v = refl c (l.getD k 0).toNat (actW c (l.drop (k + 1)) v) := by
  have e : l.drop k = l[k] :: l.drop (k + 1) := List.drop_eq_getElem_cons hk
  rw [e]; simp [actW, List.getD, hk]

set_option maxHeartbeats 2000000 in
theorem impl_acted_any (gc oc n cc g1 o1 n1 c1 g2 o2 n2 c2 : Nat) (c : List (List Int)) (l v : List Int) (w : World) (hn : c.length = n) (hn1 : l.length = n1) (hn2 : v.length = n2) (hC : IsC c) (hv : v.length = c.length) (hl : l.length ≤ 1048576)
    (hin : ∀ k, k < l.length → 0 ≤ l.getD k 0 ∧ l.getD k 0 < c.length) (hgc : gc < w.heap.size) (hg1 : g1 < w.heap.size) (hg2 : g2 < w.heap.size) (hr : Rows2 w gc oc c) (hc1 : Cells w g1 o1 l) (hc2 : Cells w g2 o2 v) :
    Calls Tryz.prog 105 #[(Value.slice (some ⟨gc, oc, none⟩) n cc), (Value.slice (some ⟨g1, o1, none⟩) n1 c1), (Value.slice (some ⟨g2, o2, none⟩) n2 c2)] w (GotInts w (actW c l v)) := by
  subst hn; subst hn1; subst hn2
  have hn4 := hC.2.1
  have ew : IntKind.i64.wrap ((l.length : Int) - 1) = (l.length : Int) - 1 := IntWalk.i64_in _ (by omega)
  have hv4 : v.length ≤ 4 := by omega
  have Hv := Lib.hid hv; clear hv
  go_enter Tryz.func105, Tryz.ntmps105
  go_wp2_with (at_builtin; refine wpList_clone rfl _ _ rfl g2 o2 _ c2 v rfl hg2 hc2 rfl rfl (by omega) ?_)
  intro gv cv w1 ho1 hb1
  go_wp2
  clear ew
  go_loopw [8] (fun i wr => ∃ (k : Nat) (j : Int), k ≤ l.length ∧ i = .int .i64 j ∧ j = (k : Int) - 1 ∧ Own wr w.heap.size gv cv (actW c (l.drop k) v) ∧ Below w.heap.size w wr) (fun i _ => (intOf i + 1).toNat)
  case atStart => exact ⟨l.length, _, Nat.le_refl _, rfl, rfl, by rw [List.drop_length]; exact ho1, hb1⟩
  case round =>
    obtain ⟨k, j, hk, rfl, hj, ho, hb⟩ := hrel
    by_cases hlt : 0 < k
    · obtain ⟨t, rfl⟩ : ∃ t, k = t + 1 := ⟨k - 1, by omega⟩
      obtain rfl : j = (t : Int) := by omega
      have htl : t < l.length := by omega
      have q1 := hc1.below hb hg1 t htl
      have hit := hin t htl
      have hd := actW_drop c l v t htl
      obtain ⟨iN, hiN⟩ : ∃ iN : Nat, l.getD t 0 = iN := ⟨(l.getD t 0).toNat, by omega⟩
      rw [hiN] at q1 hit hd
      rw [Int.toNat_natCast] at hd
      have hic : iN < c.length := by omega
      have hal : (actW c (l.drop (t + 1)) v).length = v.length := actW_length _ _ _
      have hcall := impl_reflected_any w gc oc _ cc gv cv iN v.length c (actW c (l.drop (t + 1)) v) wr rfl hal (by rw [hal]; exact Hv.out) hn4 hC.2.2.1 hic hgc hr hb ho
      have Hcall := Lib.hid hcall; have Hd := Lib.hid hd
      clear hcall hd hiN hal hit
      clear hj
      go_wp2_with fail
      refine Hcall.out.mono ?_
      rintro e w2 ⟨rfl, ho2, hg2⟩
      go_wp2_with fail
      go_roundw
      case rel =>
        rw [← Hd.out] at ho2
        exact ⟨t, (t : Int) - 1, by omega, by go_num, rfl, ho2, hb.grown hg2 hb.size (by intro j hj; cases hj; exact ho.base)⟩
      case measure => simp [intOf]
    · obtain rfl : k = 0 := by omega
      obtain rfl : j = -1 := by omega
      clear hj
      go_wp2
      go_ret
      exact GotInts.mk' gv cv (actW_length _ _ _) ho hb
end Go.Proofs.YtobeigdjhepedaaGreatDoor
namespace Go.Proofs.YtobeigdjhepedaaGreatDoor
set_option maxRecDepth 100000
open Go.RowKit

def lenOfV : Value → Nat | .slice _ n _ => n | _ => 0
def nz (v : List Int) : Bool := v.all fun x => x != 0
/-- the normal form of what a vector tells, where it comes to an end within so many steps and meets no 0 -/
def normG (c : List (List Int)) : Nat → List Int → Option (List Int)
  | 0, v => if nz v && (firstNeg v).isNone then some [] else none
  | f + 1, v => if nz v then match firstNeg v with
      | none => some []
      | some i => (normG c f (refl c i v)).map fun l => (i : Int) :: l
    else none
theorem normG_none {c : List (List Int)} {f : Nat} {v rest : List Int} (h : normG c f v = some rest) (hf : firstNeg v = none) : rest = [] := by
  cases f with
  | zero => simp only [normG] at h; split at h <;> simp_all
  | succ f => simp only [normG, hf] at h; split at h <;> simp_all
theorem normG_some {c : List (List Int)} {f : Nat} {v rest : List Int} {i : Nat} (h : normG c f v = some rest) (hf : firstNeg v = some i) :
    ∃ f' rest', f = f' + 1 ∧ rest = (i : Int) :: rest' ∧ normG c f' (refl c i v) = some rest' := by
  cases f with
  | zero => simp only [normG, hf] at h; simp at h
  | succ f =>
    simp only [normG, hf] at h
    split at h
    · cases hr : normG c f (refl c i v) with
      | none => rw [hr] at h; simp at h
      | some l => rw [hr] at h; simp at h; exact ⟨f, l, rfl, h.symm, hr⟩
    · simp at h
theorem normG_nz {c : List (List Int)} {f : Nat} {v rest : List Int} (h : normG c f v = some rest) : ∀ j, j < v.length → v.getD j 0 ≠ 0 := by
  have hz : nz v = true := by
    cases f with
    | zero => simp only [normG] at h; split at h <;> simp_all
    | succ f => simp only [normG] at h; split at h <;> simp_all
  intro j hj
  have := List.all_eq_true.1 hz v[j] (List.getElem_mem hj)
  simpa [List.getD, hj] using this
theorem normG_len {c : List (List Int)} : ∀ {f : Nat} {v rest : List Int}, normG c f v = some rest → rest.length ≤ f := by
  intro f
  induction f with
  | zero => intro v rest h; simp only [normG] at h; split at h <;> simp_all
  | succ f ih =>
    intro v rest h
    cases hf : firstNeg v with
    | none => rw [normG_none h hf]; simp
    | some i =>
      obtain ⟨f', rest', e, rfl, h'⟩ := normG_some h hf
      have := ih (by rw [show f = f' by omega]; exact h')
      simp; omega
theorem normG_in {c : List (List Int)} : ∀ {f : Nat} {v rest : List Int}, normG c f v = some rest → ∀ k, k < rest.length → 0 ≤ rest.getD k 0 ∧ rest.getD k 0 < v.length := by
  intro f
  induction f with
  | zero => intro v rest h; simp only [normG] at h; split at h <;> simp_all
  | succ f ih =>
    intro v rest h
    cases hf : firstNeg v with
    | none => rw [normG_none h hf]; simp
    | some i =>
      obtain ⟨f', rest', e, rfl, h'⟩ := normG_some h hf
      intro k hk
      cases k with
      | zero => have := (firstNeg_lt hf).1; simp [List.getD]; omega
      | succ k =>
        have := ih (by rw [show f = f' by omega]; exact h') k (by simpa using hk)
        rw [refl_length] at this
        simpa [List.getD] using this

def onesL (n : Nat) : List Int := List.replicate n 1
set_option maxHeartbeats 1000000 in
theorem impl_ones_any (n : Nat) (w : World) (hn : n ≤ 1048576) : Calls Tryz.prog 106 #[.int .i64 n] w (GotInts w (onesL n)) := by
  go_enter Tryz.func106, Tryz.ntmps106
  go_wp2
  go_loopw [3, 6] (fun s i wr => ∃ t g' c' : Nat, t ≤ n ∧ i = .int .i64 t ∧ s = (Value.slice (some ⟨g', 0, none⟩) t c') ∧ Own wr w.heap.size g' c' (onesL t) ∧ Below w.heap.size w wr) (fun _ i _ => n - (intOf i).toNat)
  case atStart => exact ⟨0, w.heap.size, 0, Nat.zero_le _, rfl, rfl, Own.empty (w := w) (Nat.le_refl _), (Below.refl _ _).alloc (Nat.le_refl _) _⟩
  case round =>
    obtain ⟨t, g', c', ht, rfl, rfl, ho, hb⟩ := hrel
    by_cases hlt : t < n
    · have hI : (t : Int) < n := by omega
      go_wp2_with (at_builtin; refine wpList_append_int_n rfl _ _ rfl w.heap.size g' c' t (onesL t) 1 (by simp [onesL]) ho rfl rfl (by omega) ?_)
      intro g3 c3 w3 ho3 hg3 _
      go_wp2
      go_roundw
      case rel =>
        have e : onesL t ++ [1] = onesL (t + 1) := by unfold onesL; rw [List.replicate_succ']
        rw [e] at ho3
        exact ⟨t + 1, g3, c3, by omega, by go_num, rfl, ho3, hb.grown hg3 hb.size (by intro j hj; cases hj; exact ho.base)⟩
      case measure => simp [intOf]; omega
    · obtain rfl : n = t := by omega
      go_wp2
      go_ret
      exact GotInts.mk' g' c' (by simp [onesL]) ho hb

set_option maxHeartbeats 1000000 in
theorem impl_image_any (gc oc n cc g1 o1 n1 c1 : Nat) (c : List (List Int)) (l : List Int) (w : World) (hn : c.length = n) (hn1 : l.length = n1) (hC : IsC c) (hl : l.length ≤ 1048576)
    (hin : ∀ k, k < l.length → 0 ≤ l.getD k 0 ∧ l.getD k 0 < c.length) (hgc : gc < w.heap.size) (hg1 : g1 < w.heap.size) (hr : Rows2 w gc oc c) (hc1 : Cells w g1 o1 l) :
    Calls Tryz.prog 67 #[(Value.slice (some ⟨gc, oc, none⟩) n cc), (Value.slice (some ⟨g1, o1, none⟩) n1 c1)] w (GotInts w (actW c l (onesL c.length))) := by
  subst hn; subst hn1
  have hn4 := hC.2.1
  go_enter Tryz.func67, Tryz.ntmps67
  go_wp2_with fail
  refine (impl_ones_any c.length w (by omega)).mono ?_
  rintro e w1 ⟨g2, c2, rfl, ho2, hb2⟩
  have hol : (onesL c.length).length = c.length := by simp [onesL]
  rw [hol]
  go_wp2_with fail
  refine (impl_acted_any gc oc _ cc g1 o1 _ c1 g2 0 _ c2 c l (onesL c.length) w1 rfl rfl hol hC hol hl hin (Nat.lt_of_lt_of_le hgc hb2.size) (Nat.lt_of_lt_of_le hg1 hb2.size) ho2.lt (hr.below hb2 hgc) (hc1.below hb2 hg1) ho2.cells).mono ?_
  rintro e w3 ⟨g3, c3, rfl, ho3, hb3⟩
  go_wp2_with fail
  go_ret
  exact ⟨g3, c3, rfl, ho3.mono hb2.size, hb2.trans (hb3.mono hb2.size)⟩

set_option maxHeartbeats 2000000 in
theorem impl_normal_any (gc oc n cc g2 o2 n2 c2 f : Nat) (c : List (List Int)) (v word : List Int) (w : World) (hn : c.length = n) (hn2 : v.length = n2) (hC : IsC c) (hv : v.length = c.length) (hf : f ≤ 1000) (hword : normG c f v = some word)
    (hgc : gc < w.heap.size) (hg2 : g2 < w.heap.size) (hr : Rows2 w gc oc c) (hc2 : Cells w g2 o2 v) :
    Calls Tryz.prog 110 #[(Value.slice (some ⟨gc, oc, none⟩) n cc), (Value.slice (some ⟨g2, o2, none⟩) n2 c2)] w (GotInts w word) := by
  subst hn; subst hn2
  have hn4 := hC.2.1
  have hv4 : v.length ≤ 4 := by omega
  have Hv := Lib.hid hv; clear hv
  have hwl := normG_len hword
  go_enter Tryz.func110, Tryz.ntmps110
  go_wp2_with (at_builtin; refine wpList_clone rfl _ _ rfl g2 o2 _ c2 v rfl hg2 hc2 rfl rfl (by omega) ?_)
  intro gv cv w1 ho1 hb1
  go_wp2
  go_loopw [5, 6] (fun s _ wr => ∃ (p g' c' f' : Nat) (u pre rest : List Int), s = (Value.slice (some ⟨g', 0, none⟩) p c') ∧ Hid (pre.length = p) ∧ p + rest.length ≤ 1000 ∧ u.length = v.length ∧ Hid (normG c f' u = some rest) ∧ Hid (word = pre ++ rest) ∧ Own wr w.heap.size gv cv u ∧ Own wr w.heap.size g' c' pre ∧ gv ≠ g' ∧ Below w.heap.size w wr) (fun s _ _ => 1001 - lenOfV s)
  case atStart =>
    refine ⟨0, w1.heap.size, 0, f, v, [], word, rfl, rfl, by omega, rfl, hword, rfl, ho1.alloc _, Own.empty (w := w1) hb1.size, by have := ho1.lt; omega, hb1.alloc hb1.size _⟩
  case round =>
    obtain ⟨p, g', c', f', u, pre, rest, rfl, hp, hpl, hul, hnorm, hw, hou, hop, hne, hb⟩ := hrel
    have hfd := impl_firstDescent_any gv 0 v.length cv u wr hul (by omega) hou.cells
    have Hul := Lib.hid hul
    cases hfn : firstNeg u with
    | none =>
      have hI : firstNegI u = -1 := by unfold firstNegI; rw [hfn]
      rw [hI] at hfd
      have hrest := normG_none hnorm.out hfn
      have Hfd := Lib.hid hfd; have Hrest := Lib.hid hrest
      clear hfd hI hfn hul hrest
      go_wp2_with fail
      refine Hfd.out.mono ?_
      rintro e w2 ⟨rfl, m2, rfl⟩
      go_wp2_with fail
      go_ret
      rw [hw.out, Hrest.out, List.append_nil]
      exact GotInts.mk' g' c' hp.out (hop.drewN m2) (below_drewN hb m2)
    | some i =>
      have hI : firstNegI u = i := by unfold firstNegI; rw [hfn]
      rw [hI] at hfd
      obtain ⟨f2, rest2, -, hrest, hn2⟩ := normG_some hnorm.out hfn
      have hil := (firstNeg_lt hfn).1
      rw [hul] at hil
      have hic : i < c.length := by have := Hv.out; omega
      have hiI : ¬ ((i : Int) < 0) := by omega
      subst hrest
      have hpl2 : p + rest2.length + 1 ≤ 1000 := by simp at hpl; omega
      have Hfd := Lib.hid hfd; have Hn2 := Lib.hid hn2
      clear hfd hI hfn hul hn2 hnorm hpl
      go_wp2_with fail
      refine Hfd.out.mono ?_
      rintro e w2 ⟨rfl, m2, rfl⟩
      go_wp2_with (at_builtin; refine wpList_append_int_n (w := wr.drewN m2) rfl _ _ rfl w.heap.size g' c' p pre (i : Int) hp.out (hop.drewN m2) rfl rfl (by omega) ?_)
      intro g3 c3 w3 ho3 hg3 hor
      have hb3 : Below w.heap.size w w3 := (below_drewN hb m2).grown hg3 hb.size (by intro j hj; cases hj; exact hop.base)
      have hou3 : Own w3 w.heap.size gv cv u := (hou.drewN m2).grown hg3 (by intro e; cases e; exact hne rfl)
      have hne3 : gv ≠ g3 := by
        rcases hor with h | h
        · rw [h]; exact hne
        · have h1 := hou.lt
          have h2 : wr.heap.size < g3 := h
          omega
      have hcall := impl_reflected_any w gc oc _ cc gv cv i v.length c u w3 rfl Hul.out (by rw [Hul.out]; exact Hv.out) hn4 hC.2.2.1 hic hgc hr hb3 hou3
      have Hcall := Lib.hid hcall; clear hcall
      go_wp2_with fail
      refine Hcall.out.mono ?_
      rintro e w4 ⟨rfl, ho4, hg4⟩
      go_wp2_with fail
      go_roundw
      case rel =>
        refine ⟨p + 1, g3, c3, f2, refl c i u, pre ++ [(i : Int)], rest2, rfl, ?_, by omega, by rw [refl_length]; exact Hul.out, Hn2.out, ?_, ho4, ho3.grown hg4 (by intro e; cases e; exact hne3 rfl), hne3, hb3.grown hg4 hb3.size (by intro j hj; cases hj; exact hou.base)⟩
        · show _ = _; rw [List.length_append, hp.out]; rfl
        · show _ = _; rw [hw.out, List.append_assoc]; rfl
      case measure => simp [lenOfV]; omega
end Go.Proofs.YtobeigdjhepedaaGreatDoor
namespace Go.Proofs.YtobeigdjhepedaaGreatDoor
set_option maxRecDepth 100000
open Go.RowKit

set_option maxHeartbeats 4000000 in
theorem spec_l8Form_any (gc oc n cc g2 o2 n2 c2 f : Nat) (c : List (List Int)) (v word : List Int) (w : World) (hn : c.length = n) (hn2 : v.length = n2) (hC : IsC c) (hv : v.length = c.length) (hf : f ≤ 30) (hword : normG c f v = some word)
    (hgc : gc < w.heap.size) (hg2 : g2 < w.heap.size) (hr : Rows2 w gc oc c) (hc2 : Cells w g2 o2 v) :
    Calls Tryz.prog 98 #[(Value.slice (some ⟨gc, oc, none⟩) n cc), (Value.slice (some ⟨g2, o2, none⟩) n2 c2)] w (GotInts w word) := by
  subst hn; subst hn2
  have hn4 := hC.2.1
  have hv4 : v.length ≤ 4 := by omega
  have Hv := Lib.hid hv; clear hv
  have hwl := normG_len hword
  go_enter Tryz.func98, Tryz.ntmps98
  go_wp2
  go_loopw [1, 5, 6, 7] (fun vv s i _ wr => ∃ (p g' c' f' gu ou cu : Nat) (u pre rest : List Int), i = .int .i64 p ∧ s = (Value.slice (some ⟨g', 0, none⟩) p c') ∧ vv = (Value.slice (some ⟨gu, ou, none⟩) v.length cu) ∧ Hid (pre.length = p) ∧ p + f' ≤ 30 ∧ u.length = v.length ∧ Hid (normG c f' u = some rest) ∧ Hid (word = pre ++ rest) ∧ Cells wr gu ou u ∧ gu < wr.heap.size ∧ Own wr w.heap.size g' c' pre ∧ gu ≠ g' ∧ Below w.heap.size w wr) (fun _ _ i _ _ => 31 - (intOf i).toNat)
  case atStart =>
    exact ⟨0, w.heap.size, 0, f, g2, o2, c2, v, [], word, rfl, rfl, rfl, rfl, by omega, rfl, hword, rfl, hc2.below ((Below.refl _ _).alloc (Nat.le_refl _) _) hg2, by simp; omega, Own.empty (w := w) (Nat.le_refl _), by omega, (Below.refl _ _).alloc (Nat.le_refl _) _⟩
  case round =>
    obtain ⟨p, g', c', f', gu, ou, cu, u, pre, rest, rfl, rfl, rfl, hp, hpf, hul, hnorm, hw, hcu, hgu, hop, hne, hb⟩ := hrel
    have hp30 : (p : Int) ≤ 30 := by omega
    have hz := normG_nz hnorm.out
    have Hz := Lib.hid hz; have Hul := Lib.hid hul
    clear hz
    obtain ⟨wo, rfl⟩ : ∃ wo : World, wo = wr := ⟨_, rfl⟩
    have HCu := Lib.hid hcu
    clear hul
    go_wp2
    go_loopw [7] (fun i wr => ∃ k : Nat, k ≤ v.length ∧ i = .int .i64 k ∧ Hid (∀ j, j < k → 0 < u.getD j 0) ∧ wr = wo) (fun i _ => v.length - (intOf i).toNat)
    case atStart => exact ⟨0, Nat.zero_le _, rfl, fun j hj => absurd hj (by omega), rfl⟩
    case round =>
      obtain ⟨k, hk, rfl, hall, rfl⟩ := hrel
      by_cases hlt : k < v.length
      · have q1 := HCu.out k (by rw [Hul.out]; exact hlt)
        have hzk := Hz.out k (by rw [Hul.out]; exact hlt)
        by_cases hpos : 0 < u.getD k 0
        · have HY : Hid (∀ j, j < k + 1 → 0 < u.getD j 0) := fun j hj => by
            by_cases e : j = k
            · subst e; exact hpos
            · exact hall.out j (by omega)
          clear hzk
          generalize u.getD k 0 = x at *
          go_wp2
          go_roundw
          case rel => exact ⟨k + 1, by omega, by go_num, HY.out, trivial⟩
          case measure => simp [intOf]; omega
        · have hfn : firstNeg u = some k := firstNeg_of (by rw [Hul.out]; exact hlt) (by omega) (fun j hj => by have := hall.out j hj; omega)
          obtain ⟨f2, rest2, hf2, hrest, hn2⟩ := normG_some hnorm.out hfn
          have hic : k < c.length := by have := Hv.out; omega
          have hkne : ((k : Int) == (v.length : Int)) = false := by simp; omega
          subst hrest
          have Hn2 := Lib.hid hn2
          clear hzk hfn hn2 hnorm
          generalize u.getD k 0 = x at *
          go_wp2_with (at_builtin; refine wpList_append_int_n (w := wr) rfl _ _ rfl w.heap.size g' c' p pre (k : Int) hp.out hop rfl rfl (by omega) ?_)
          intro g3 c3 w3 ho3 hg3 hor
          have hcu3 : Cells w3 gu ou u := HCu.out.grown hg3 (by intro e; cases e; exact hne rfl)
          have hb3 : Below w.heap.size w w3 := hb.grown hg3 hb.size (by intro j hj; cases hj; exact hop.base)
          have hgu3 : gu < w3.heap.size := Nat.lt_of_lt_of_le hgu hg3.size
          have hcall3 := spec_l6Reflect_any gc oc _ cc gu ou v.length cu k c u w3 rfl Hul.out (by rw [Hul.out]; exact Nat.le_of_eq Hv.out) hn4 hC.2.2.1 (by rw [Hul.out]; exact hlt) (Nat.lt_of_lt_of_le hgc hb3.size) hgu3 (hr.below hb3 hgc) hcu3
          have Hcall3 := Lib.hid hcall3; clear hcall3
          go_wp2_with fail
          refine Hcall3.out.mono ?_
          rintro e w4 ⟨g5, c5, rfl, ho5, hb5⟩
          have hrl : (refl c k u).length = v.length := by rw [refl_length]; exact Hul.out
          rw [hrl]
          go_wp2_with fail
          go_roundw
          case rel =>
            refine ⟨p + 1, g3, c3, f2, g5, 0, c5, refl c k u, pre ++ [(k : Int)], rest2, by go_num, rfl, rfl, ?_, by omega, hrl, Hn2.out, ?_, ho5.cells, ho5.lt, ho3.below hb5 ho3.lt, by have h1 := ho3.lt; have h2 := ho5.base; omega, hb3.trans (hb5.mono hb3.size)⟩
            · show _ = _; rw [List.length_append, hp.out]; rfl
            · show _ = _; rw [hw.out, List.append_assoc]; rfl
          case measure => simp [intOf]; omega
      · obtain rfl : k = v.length := by omega
        have hfn : firstNeg u = none := firstNeg_nil (fun j hj => by have := hall.out j (by rw [← Hul.out]; exact hj); omega)
        have hrest := normG_none hnorm.out hfn
        have Hrest := Lib.hid hrest; clear hrest hfn
        go_wp2
        go_ret
        rw [hw.out, Hrest.out, List.append_nil]
        exact GotInts.mk' g' c' hp.out hop hb
end Go.Proofs.YtobeigdjhepedaaGreatDoor
namespace Go.Proofs.YtobeigdjhepedaaGreatDoor
set_option maxRecDepth 100000
open Go.RowKit

def negL (n : Nat) : List Int := List.replicate n (-1)
theorem onesL_length (n : Nat) : (onesL n).length = n := by simp [onesL]
theorem negL_length (n : Nat) : (negL n).length = n := by simp [negL]
/-- what a finite type's long word does -/
structure LongOf (c : List (List Int)) (long : List Int) (opp : Nat → Nat) : Prop where
  norm : normG c 30 (negL c.length) = some long
  act : actW c long (onesL c.length) = negL c.length
  opp_lt : ∀ i, i < c.length → opp i < c.length
  opp_eq : ∀ i, i < c.length → actW c long (refl c i (onesL c.length)) = refl c (opp i) (negL c.length)

theorem actW_append (c : List (List Int)) (a b v : List Int) : actW c (a ++ b) v = actW c a (actW c b v) := by
  induction a with
  | nil => rfl
  | cons i a ih => simp [actW, ih]
theorem refl_neg_at {c : List (List Int)} (hC : IsC c) {j k : Nat} (hk : k < c.length) (hj : j < c.length) : (refl c j (negL c.length)).getD k 0 = -1 + ent c k j := by
  have hb := ent_bound hC k j
  have e1 : (negL c.length).getD k 0 = -1 := by simp [negL, List.getD, hk]
  have e2 : (negL c.length).getD j 0 = -1 := by simp [negL, List.getD, hj]
  have e : (refl c j (negL c.length)).getD k 0 = reflAt c j (negL c.length) k := by simp [refl, List.getD, negL_length, hk]
  rw [e]
  unfold reflAt
  have e3 : wrap64 (-1 * ent c k j) = -1 * ent c k j := IntWalk.wrap64_in _ ⟨by omega, by omega⟩
  rw [e1, e2, e3, IntWalk.wrap64_in _ ⟨by omega, by omega⟩]
  omega
theorem refl_neg_pos {c : List (List Int)} (hC : IsC c) {j k : Nat} (hk : k < c.length) (hj : j < c.length) : 0 < (refl c j (negL c.length)).getD k 0 ↔ k = j := by
  rw [refl_neg_at hC hk hj]
  have h := hC.2.2.2 k hk j hj
  unfold EntOk at h
  by_cases e : k = j
  · rw [if_pos e] at h; omega
  · rw [if_neg e] at h; omega
theorem refl_neg_inj {c : List (List Int)} (hC : IsC c) {j k : Nat} (hk : k < c.length) (hj : j < c.length) : refl c j (negL c.length) = refl c k (negL c.length) ↔ j = k := by
  constructor
  · intro h
    have h1 := (refl_neg_pos hC hj hj).2 rfl
    rw [h] at h1
    exact (refl_neg_pos hC hj hk).1 h1
  · rintro rfl; rfl

set_option maxHeartbeats 2000000 in
theorem spec_RhoOf_ok (gc oc n cc : Nat) (c : List (List Int)) (w : World) (hn : c.length = n) (hC : IsC c) (hgc : gc < w.heap.size) (hr : Rows2 w gc oc c) :
    Calls Tryz.prog 96 #[(Value.slice (some ⟨gc, oc, none⟩) n cc)] w (GotInts w (onesL c.length)) := by
  subst hn
  have hn4 := hC.2.1
  have hcart : Hid (∀ W, Below w.heap.size w W → Calls Tryz.prog 52 #[(Value.slice (some ⟨gc, oc, none⟩) c.length cc)] W (Reads W (.bool true))) := fun W hW => by
    have := spec_IsCartan gc oc _ cc c W rfl (by omega) (fun j hj => by have := hC.2.2.1 j hj; omega) (hr.below hW hgc)
    rwa [decide_eq_true hC] at this
  go_enter Tryz.func96, Tryz.ntmps96
  go_wp2_with fail
  go_loopw [3, 4] (fun s i wr => ∃ t g' c' : Nat, t ≤ c.length ∧ i = .int .i64 t ∧ s = (Value.slice (some ⟨g', 0, none⟩) t c') ∧ Own wr w.heap.size g' c' (onesL t) ∧ Below w.heap.size w wr) (fun _ i _ => c.length - (intOf i).toNat)
  case atStart => exact ⟨0, w.heap.size, 0, Nat.zero_le _, rfl, rfl, Own.empty (w := w) (Nat.le_refl _), (Below.refl _ _).alloc (Nat.le_refl _) _⟩
  case round =>
    obtain ⟨t, g', c', ht, rfl, rfl, ho, hb⟩ := hrel
    by_cases hlt : t < c.length
    · go_wp2_with fail
      refine (hcart.out _ hb).mono ?_
      rintro e w2 ⟨rfl, m2, rfl⟩
      go_wp2_with (at_builtin; refine wpList_append_int_n (w := wr.drewN m2) rfl _ _ rfl w.heap.size g' c' t (onesL t) 1 (onesL_length _) (ho.drewN m2) rfl rfl (by omega) ?_)
      intro g3 c3 w3 ho3 hg3 _
      go_wp2
      go_roundw
      case rel =>
        have e : onesL t ++ [1] = onesL (t + 1) := by unfold onesL; rw [List.replicate_succ']
        rw [e] at ho3
        exact ⟨t + 1, g3, c3, by omega, by go_num, rfl, ho3, (below_drewN hb m2).grown hg3 hb.size (by intro j hj; cases hj; exact ho.base)⟩
      case measure => simp [intOf]; omega
    · obtain rfl : t = c.length := by omega
      go_wp2_with fail
      go_ret
      exact GotInts.mk' g' c' (onesL_length _) ho hb

set_option maxHeartbeats 400000 in
theorem slices_Clone_any (g o n cp : Nat) (v : List Int) (w : World) (hn : v.length = n) (hx : v.length ≤ 1048576) (hg : g < w.heap.size) (hc : Cells w g o v) :
    Calls Tryz.prog 72 #[(Value.slice (some ⟨g, o, none⟩) n cp)] w (GotInts w v) := by
  subst hn
  have hnil : ∀ W, (binOp .eql 28 (Value.slice (some ⟨g, o, none⟩) v.length cp) (.slice none 0 0)).run Tryz.prog W = .ok (.bool false) W := fun W => Lib.run_eql_slice_nil W 28 3 _ _ _ _ _ Tryz.underlying28
  go_enter Tryz.func72, Tryz.ntmps72
  go_wp2_with (at_builtin; refine wpList_clone rfl _ _ rfl g o _ cp v rfl hg hc rfl rfl (by omega) ?_)
  intro g1 c1 w1 ho hb
  go_wp2_with fail
  go_ret
  exact GotInts.mk' g1 c1 rfl ho hb
end Go.Proofs.YtobeigdjhepedaaGreatDoor
namespace Go.Proofs.YtobeigdjhepedaaGreatDoor
set_option maxRecDepth 100000
open Go.RowKit

end Go.Proofs.YtobeigdjhepedaaGreatDoor
namespace Go.Proofs.YtobeigdjhepedaaGreatDoor
set_option maxRecDepth 100000
open Go.RowKit

def wtOk (c : List (List Int)) (v : List Int) : Prop := IsC c ∧ v.length = c.length ∧ ∀ j, j < v.length → -1000 ≤ v.getD j 0 ∧ v.getD j 0 ≤ 1000
instance (c : List (List Int)) (v : List Int) : Decidable (wtOk c v) := by unfold wtOk; infer_instance

end Go.Proofs.YtobeigdjhepedaaGreatDoor
namespace Go.Proofs.YtobeigdjhepedaaGreatDoor
set_option maxRecDepth 100000
open Go.RowKit Game

def inTo (l : List (List Int)) (r : List Int) (k : Nat) : Prop := ∀ j, j < k → l.getD j [] ≠ r
theorem inTo_all {l : List (List Int)} {r : List Int} (h : inTo l r l.length) : decide (r ∈ l) = false := by
  apply decide_eq_false
  intro hm
  obtain ⟨t, ht, e⟩ := List.mem_iff_getElem.1 hm
  exact h t ht (by simp [List.getD, ht, e])
theorem inTo_some {l : List (List Int)} {r : List Int} {k : Nat} (hk : k < l.length) (h : l.getD k [] = r) : decide (r ∈ l) = true := by
  apply decide_eq_true
  rw [← h]; simp [List.getD, hk]
set_option maxHeartbeats 2000000 in
theorem spec_l7In_any (g o n cp g1 o1 n1 c1 : Nat) (l : List (List Int)) (r : List Int) (w : World) (hn : l.length = n) (hn1 : r.length = n1) (hl : l.length ≤ 1048576) (hrl : ∀ j, j < l.length → (l.getD j []).length ≤ 1048576)
    (hr : Rows2 w g o l) (hc1 : Cells w g1 o1 r) :
    Calls Tryz.prog 126 #[(Value.slice (some ⟨g, o, none⟩) n cp), (Value.slice (some ⟨g1, o1, none⟩) n1 c1)] w (Reads w (.bool (decide (r ∈ l)))) := by
  subst hn; subst hn1
  go_enter Tryz.func126, Tryz.ntmps126
  go_wp2
  go_loopw [5] (fun i wr => ∃ k : Nat, k ≤ l.length ∧ i = .int .i64 k ∧ Hid (inTo l r k) ∧ ∃ m, wr = w.drewN m) (fun i _ => l.length - (intOf i).toNat)
  case atStart => exact ⟨0, Nat.zero_le _, rfl, fun j hj => absurd hj (by omega), (by first | exact ⟨_, rfl⟩ | exact ⟨0, rfl⟩ | exact still2 _ _ _ | exact still3 _ _ _ _)⟩
  case round =>
    obtain ⟨k, hk, rfl, hin, m, rfl⟩ := hrel
    by_cases hlt : k < l.length
    · obtain ⟨gj, oj, cj, q1, q2, q3, q4⟩ := hr k hlt
      have hlk := hrl k hlt
      have HY : Hid (l.getD k [] ≠ r → inTo l r (k + 1)) := fun h j hj => by
        by_cases e : j = k
        · subst e; exact h
        · exact hin.out j (by omega)
      have HX : Hid (l.getD k [] = r → decide (r ∈ l) = true) := inTo_some hlt
      generalize l.getD k [] = x at *
      have hcall := spec_EqualWords_any gj oj x.length cj g1 o1 r.length c1 x r (w.drewN m) rfl rfl (by omega) q4 hc1
      by_cases e : x = r
      · have hd := HX.out e
        rw [decide_eq_true e] at hcall
        have Hd := Lib.hid hd; have He := Lib.hid e; have Hcall := Lib.hid hcall
        clear hd hcall e
        go_wp2_with fail
        refine Hcall.out.mono ?_
        rintro e w2 ⟨rfl, m2, rfl⟩
        go_wp2_with fail
        go_ret
        exact ⟨ret_bool Hd.out.symm, (by first | exact ⟨_, rfl⟩ | exact ⟨0, rfl⟩ | exact still2 _ _ _ | exact still3 _ _ _ _)⟩
      · have hd := HY.out e
        rw [decide_eq_false e] at hcall
        have Hd := Lib.hid hd; have He := Lib.hid e; have Hcall := Lib.hid hcall
        clear hd hcall e
        go_wp2_with fail
        refine Hcall.out.mono ?_
        rintro e w2 ⟨rfl, m2, rfl⟩
        go_wp2_with fail
        go_roundw
        case rel => exact ⟨k + 1, by omega, by go_num, Hd.out, (by first | exact ⟨_, rfl⟩ | exact ⟨0, rfl⟩ | exact still2 _ _ _ | exact still3 _ _ _ _)⟩
        case measure => simp [intOf]; omega
    · obtain rfl : k = l.length := by omega
      have hf := inTo_all hin.out
      have Hf := Lib.hid hf; clear hf
      go_wp2
      go_ret
      exact ⟨ret_bool Hf.out.symm, (by first | exact ⟨_, rfl⟩ | exact ⟨0, rfl⟩ | exact still2 _ _ _ | exact still3 _ _ _ _)⟩
end Go.Proofs.YtobeigdjhepedaaGreatDoor
