/- FinS Nf Nf2 -/
import Derived.Test.YtkjglfafphffiaaGreatDoorC12
import Derived.Test.YtkjglfafphffiaaGreatDoorC02
namespace Go.Proofs.YtkjglfafphffiaaGreatDoor
set_option maxRecDepth 100000
open Go.RowKit
theorem setTo_eq_setL {m n : Nat} (hn : n ≤ 4) (hm : m < 2 ^ n) : setTo m n = setL m := by
  have h := setTo_stop (m := m) (t := n) (Nat.div_eq_of_lt hm) (4 - n)
  have h4 : n + (4 - n) = 4 := by omega
  rw [h4] at h
  exact h.symm
theorem setL_ne (m : Nat) (h1 : 1 ≤ m) (h2 : m ≤ 15) : 1 ≤ (setL m).length := by
  have : ∀ m, m < 16 → 1 ≤ m → 1 ≤ (setL m).length := by decide
  exact this m (by omega) h1
theorem setL_asc (m : Nat) (t : Nat) (ht : t + 1 < (setL m).length) : (setL m).getD t 0 < (setL m).getD (t + 1) 0 := by
  have hp : (setNat m 4).Pairwise (· < ·) := List.Pairwise.filter _ List.pairwise_lt_range
  have hl : (setL m).length = (setNat m 4).length := by simp [setL, setTo]
  have h1 : t < (setNat m 4).length := by omega
  have h2 : t + 1 < (setNat m 4).length := by omega
  have := List.pairwise_iff_getElem.1 hp t (t + 1) h1 h2 (by omega)
  simp only [setL, setTo, List.getD, List.getElem?_map]
  rw [List.getElem?_eq_getElem h1, List.getElem?_eq_getElem h2]
  simpa using this
set_option maxHeartbeats 4000000 in
theorem spec_WitnessOf_any (g o n cp : Nat) (c : List (List Int)) (w : World) (hn : c.length = n) (hx : c.length ≤ 1048576) (hrl : ∀ j, j < c.length → (c.getD j []).length ≤ 1048576) (hg : g < w.heap.size) (hr : Rows2 w g o c) :
    Calls Tryz.prog 61 #[(Value.slice (some ⟨g, o, none⟩) n cp)] w (GotInts w (witness c)) := by
  subst hn
  go_enter Tryz.func61, Tryz.ntmps61
  go_wp2_with fail
  refine (spec_IsCartan g o _ cp c w rfl (by omega) (fun j hj => by have := hrl j hj; omega) hr).mono ?_
  rintro e w1 ⟨rfl, m1, rfl⟩
  by_cases hC : IsC c
  · have hC' : decide (IsC c) = true := decide_eq_true hC
    rw [hC']
    have hn4 := hC.2.1
    have hn1 := hC.1
    go_wp2_with fail
    refine (spec_l4Sets_any c.length (w.drewN m1) hn4).mono ?_
    rintro e w2 ⟨g2, c2, rs2, rfl, hc2, ho2, hb2⟩
    have hbb2 : Below w.heap.size w w2 := (below_drewN' w m1).trans hb2
    have hQ := pow_le16 hn4
    have hwit : witness c = witFrom c 1 (2 ^ c.length - 1) := by unfold witness; rw [if_pos hC]
    have hsz : (setsTo c.length (2 ^ c.length - 1)).length = 2 ^ c.length - 1 := setsTo_length _ _
    obtain ⟨Q, hQe⟩ : ∃ Q, 2 ^ c.length - 1 = Q := ⟨_, rfl⟩
    rw [hQe] at hsz hc2 hwit ⊢
    rw [hsz]
    have hQ15 : Q ≤ 15 := by omega
    have HQe := Lib.hid hQe; clear hQe hsz hQ
    have hrow : ∀ k, k < Q → (contents rs2).getD k [] = setL (k + 1) := by
      intro k hk
      rw [hc2]
      simp only [setsTo, List.getD, List.getElem?_map, List.getElem?_range hk]
      exact setTo_eq_setL hn4 (by have := HQe.out; omega)
    have hrl2 : rs2.length = Q := by have := congrArg List.length hc2; rw [setsTo_length] at this; simpa [contents] using this
    have Hrow := Lib.hid hrow; have Hrl2 := Lib.hid hrl2; have Hwit := Lib.hid hwit
    clear hrow hrl2 hc2 hwit
    go_wp2_with fail
    go_loopw [4, 5, 6] (fun i _ _ wr => ∃ k : Nat, k ≤ Q ∧ i = .int .i64 k ∧ Hid (witness c = witFrom c (k + 1) (Q - k)) ∧ Below w.heap.size w wr ∧ OwnRows wr w.heap.size g2 c2 rs2) (fun i _ _ _ => Q - (intOf i).toNat)
    case atStart => exact ⟨0, Nat.zero_le _, rfl, Hwit.out, hbb2, ho2.mono (Nat.le_refl _)⟩
    case round =>
      obtain ⟨k, hk, rfl, hw, hb, ho⟩ := hrel
      by_cases hlt : k < Q
      · have hkr : k < rs2.length := by rw [Hrl2.out]; exact hlt
        have hcell := ho.1.cell k (by simpa using hkr)
        have hmem : rs2[k] ∈ rs2 := List.getElem_mem hkr
        have howk := ho.2.1 _ hmem
        have hcont : rs2[k].2.2 = setL (k + 1) := by
          have := Hrow.out k hlt
          rw [← this]
          simp [contents, List.getD, hkr]
        obtain ⟨ga, ca, hra⟩ : ∃ ga ca, rs2[k] = (ga, ca, setL (k + 1)) := ⟨rs2[k].1, rs2[k].2.1, by rw [← hcont]⟩
        rw [hra] at howk
        have hcell' : wr.cell? ⟨g2, k, none⟩ = some (Value.slice (some ⟨ga, 0, none⟩) ((setL (k + 1)).length) ca) := by
          rw [hcell]
          simp only [List.getElem_map, hra]; rfl
        have howk' : Own wr w.heap.size ga ca (setL (k + 1)) := howk
        have hstep : witFrom c (k + 1) (Q - k) = if minorAt c (k + 1) ≤ 0 then setL (k + 1) else witFrom c (k + 1 + 1) (Q - (k + 1)) := by
          rw [show Q - k = (Q - (k + 1)) + 1 by omega]; rfl
        have hmd : minorAt c (k + 1) = det (setL (k + 1)).length (pickL c (setL (k + 1))) := rfl
        have hsl := setL_len (k + 1)
        have hs1 := setL_ne (k + 1) (by omega) (by omega)
        have hsin := fun t ht => setL_in (m := k + 1) (n := c.length) (by have := HQe.out; omega) t ht
        have hasc := setL_asc (k + 1)
        have hpsq := pick_sq hC (setL (k + 1))
        have hmb := minorAt_bound hC (k + 1)
        have hpl : (pickL c (setL (k + 1))).length = (setL (k + 1)).length := by simp [pickL]
        have Hstep := Lib.hid hstep
        clear hcell hmem howk hcont hra hstep
        generalize setL (k + 1) = s at *
        have Hsin := Lib.hid hsin; have Hasc := Lib.hid hasc; have Hpsq := Lib.hid hpsq; have Hpl := Lib.hid hpl
        clear hsin hasc hpsq hpl
        go_wp2_with fail
        refine (spec_SubCartan_ok g o _ cp ga 0 _ ca c s wr rfl rfl hC hsl hs1 Hsin.out Hasc.out (Nat.lt_of_lt_of_le hg hb.size) howk'.lt (hr.below hb hg) howk'.cells).mono ?_
        rintro e w3 ⟨g3, c3, rs3, rfl, hc3, ho3, hb3⟩
        have hB3 := hb.trans (hb3.mono hb.size)
        go_wp2_with fail
        refine (spec_l4Det_any s.length hsl g3 0 c3 (pickL c s) w3 Hpsq.out ho3.lt (by rw [← hc3]; exact ho3.rows2)).mono ?_
        rintro e w4 ⟨rfl, hb4⟩
        rw [← hmd]
        have hB4 := hB3.trans (hb4.mono hB3.size)
        have ho4 := (ho.below hb3).below hb4
        have how4 := (howk'.below hb3 howk'.lt).below hb4 (Nat.lt_of_lt_of_le howk'.lt hb3.size)
        have hcell4 := keepCell hb4 (keepCell hb3 hcell')
        generalize minorAt c (k + 1) = d at *
        clear hb3 hb4 ho3 hB3 hmd hcell' howk' ho hb
        by_cases hd : d ≤ 0
        · go_wp2_with fail
          go_ret
          rw [hw.out, Hstep.out, if_pos hd]
          exact GotInts.mk' ga ca rfl how4 hB4
        · go_wp2_with fail
          go_roundw
          case rel => exact ⟨k + 1, by omega, by go_num, by show _ = _; rw [hw.out, Hstep.out, if_neg (by omega)], hB4, ho4⟩
          case measure => simp [intOf]; omega
      · obtain rfl : Q = k := by omega
        go_wp2
        go_ret
        have hw2 := hw.out
        rw [Nat.sub_self] at hw2
        rw [hw2]
        exact GotInts.mk' wr.heap.size 0 rfl (Own.empty (w := wr) hb.size) (hb.alloc hb.size _)
  · have hC' : decide (IsC c) = false := decide_eq_false hC
    have hwit : witness c = [] := by unfold witness; rw [if_neg hC]
    rw [hC']
    clear hC
    go_wp2_with fail
    go_ret
    rw [hwit]
    exact GotInts.mk' w.heap.size 0 rfl (Own.empty (w := w.drewN m1) (Nat.le_refl _)) ((below_drewN' w m1).alloc (Nat.le_refl _) _)
set_option maxHeartbeats 1000000 in
theorem spec_IsFinite_any (g o n cp : Nat) (c : List (List Int)) (w : World) (hn : c.length = n) (hx : c.length ≤ 1048576) (hrl : ∀ j, j < c.length → (c.getD j []).length ≤ 1048576) (hg : g < w.heap.size) (hr : Rows2 w g o c) :
    Calls Tryz.prog 15 #[(Value.slice (some ⟨g, o, none⟩) n cp)] w (Gives w (.bool (finB c))) := by
  have hwl := witness_len c
  go_enter Tryz.func15, Tryz.ntmps15
  go_wp2_with fail
  refine (spec_IsCartan g o n cp c w hn (by omega) (fun j hj => by have := hrl j hj; omega) hr).mono ?_
  rintro e w1 ⟨rfl, m1, rfl⟩
  by_cases hC : IsC c
  · have hC' : decide (IsC c) = true := decide_eq_true hC
    have hf : finB c = ((witness c).length == 0) := by unfold finB; rw [hC']; simp
    rw [hC']
    go_wp2_with fail
    refine (spec_WitnessOf_any g o n cp c (w.drewN m1) hn hx hrl hg hr).mono ?_
    rintro e w2 ⟨g2, c2, rfl, ho2, hb2⟩
    generalize (witness c).length = L at *
    go_wp2_with fail
    go_ret
    refine ⟨?_, (below_drewN' w m1).trans hb2⟩
    rw [hf]
    refine ret_bool ?_
    by_cases h0 : L = 0
    · subst h0; rfl
    · have e1 : (L == 0) = false := by simpa using h0
      have e2 : ((L : Int) == 0) = false := by simp; omega
      rw [e1, e2]
  · have hC' : decide (IsC c) = false := decide_eq_false hC
    have hf : finB c = false := by unfold finB; rw [hC']; simp
    rw [hC']
    clear hC
    go_wp2_with fail
    go_ret
    exact ⟨by rw [hf]; rfl, below_drewN' w m1⟩
end Go.Proofs.YtkjglfafphffiaaGreatDoor
namespace Go.Proofs.YtkjglfafphffiaaGreatDoor
set_option maxRecDepth 100000
open Go.RowKit
def firstNeg : List Int → Option Nat
  | [] => none
  | x :: l => if x < 0 then some 0 else (firstNeg l).map (· + 1)
def firstNegI (v : List Int) : Int := match firstNeg v with | none => -1 | some i => i
theorem firstNeg_lt {v : List Int} {i : Nat} (h : firstNeg v = some i) : i < v.length ∧ v.getD i 0 < 0 ∧ ∀ j, j < i → 0 ≤ v.getD j 0 := by
  induction v generalizing i with
  | nil => simp [firstNeg] at h
  | cons x l ih =>
    simp only [firstNeg] at h
    split at h
    · simp at h; subst h; refine ⟨by simp, by simpa [List.getD] using by assumption, by omega⟩
    · rename_i hx
      cases hl : firstNeg l with
      | none => rw [hl] at h; simp at h
      | some k =>
        rw [hl] at h; simp at h; subst h
        have := ih hl
        refine ⟨by simp; omega, by simpa [List.getD] using this.2.1, fun j hj => ?_⟩
        cases j with
        | zero => simp [List.getD]; omega
        | succ j => have := this.2.2 j (by omega); simpa [List.getD] using this
theorem firstNeg_none {v : List Int} (h : firstNeg v = none) : ∀ j, j < v.length → 0 ≤ v.getD j 0 := by
  induction v with
  | nil => intro j hj; simp at hj
  | cons x l ih =>
    simp only [firstNeg] at h
    split at h
    · simp at h
    · rename_i hx
      have hl : firstNeg l = none := by cases hl : firstNeg l with
        | none => rfl
        | some k => rw [hl] at h; simp at h
      intro j hj
      cases j with
      | zero => simp [List.getD]; omega
      | succ j => have := ih hl j (by simpa using hj); simpa [List.getD] using this
theorem firstNeg_of {v : List Int} {i : Nat} (hi : i < v.length) (h : v.getD i 0 < 0) (hb : ∀ j, j < i → 0 ≤ v.getD j 0) : firstNeg v = some i := by
  cases hf : firstNeg v with
  | none => have := firstNeg_none hf i hi; omega
  | some k =>
    have hk := firstNeg_lt hf
    rcases Nat.lt_trichotomy i k with h1 | h1 | h1
    · have := hk.2.2 i h1; omega
    · rw [h1]
    · have := hb k h1; omega
theorem firstNeg_nil {v : List Int} (hb : ∀ j, j < v.length → 0 ≤ v.getD j 0) : firstNeg v = none := by
  cases hf : firstNeg v with
  | none => rfl
  | some k => have hk := firstNeg_lt hf; have := hb k hk.1; omega
set_option maxHeartbeats 1000000 in
theorem impl_firstDescent_any (g o n cp : Nat) (v : List Int) (w : World) (hn : v.length = n) (hx : v.length ≤ 1048576) (hc : Cells w g o v) :
    Calls Tryz.prog 92 #[(Value.slice (some ⟨g, o, none⟩) n cp)] w (Reads w (.int .i64 (firstNegI v))) := by
  subst hn
  go_enter Tryz.func92, Tryz.ntmps92
  go_wp2
  go_loopw [7] (fun i wr => ∃ k : Nat, k ≤ v.length ∧ i = .int .i64 k ∧ Hid (∀ j, j < k → 0 ≤ v.getD j 0) ∧ ∃ m, wr = w.drewN m) (fun i _ => v.length - (intOf i).toNat)
  case atStart => exact ⟨0, Nat.zero_le _, rfl, fun j hj => absurd hj (by omega), (by first | exact ⟨_, rfl⟩ | exact ⟨0, rfl⟩ | exact still2 _ _ _ | exact still3 _ _ _ _)⟩
  case round =>
    obtain ⟨k, hk, rfl, hall, m, rfl⟩ := hrel
    by_cases hlt : k < v.length
    · have q1 := hc k hlt
      have HX : Hid (v.getD k 0 < 0 → firstNegI v = k) := fun h => by unfold firstNegI; rw [firstNeg_of hlt h hall.out]
      have HY : Hid (0 ≤ v.getD k 0 → ∀ j, j < k + 1 → 0 ≤ v.getD j 0) := fun h j hj => by
        by_cases e : j = k
        · subst e; exact h
        · exact hall.out j (by omega)
      generalize v.getD k 0 = x at *
      by_cases hneg : x < 0
      · have hf := HX.out hneg
        have Hf := Lib.hid hf; clear hf
        go_wp2
        go_ret
        exact ⟨ret_int Hf.out.symm, (by first | exact ⟨_, rfl⟩ | exact ⟨0, rfl⟩ | exact still2 _ _ _ | exact still3 _ _ _ _)⟩
      · go_wp2
        go_roundw
        case rel => exact ⟨k + 1, by omega, by go_num, HY.out (by omega), (by first | exact ⟨_, rfl⟩ | exact ⟨0, rfl⟩ | exact still2 _ _ _ | exact still3 _ _ _ _)⟩
        case measure => simp [intOf]; omega
    · obtain rfl : k = v.length := by omega
      have hf : firstNegI v = -1 := by unfold firstNegI; rw [firstNeg_nil hall.out]
      have Hf := Lib.hid hf; clear hf
      go_wp2
      go_ret
      exact ⟨ret_int Hf.out.symm, (by first | exact ⟨_, rfl⟩ | exact ⟨0, rfl⟩ | exact still2 _ _ _ | exact still3 _ _ _ _)⟩
def actW (c : List (List Int)) : List Int → List Int → List Int
  | [], v => v
  | i :: l, v => refl c i.toNat (actW c l v)
theorem actW_length (c : List (List Int)) (l v : List Int) : (actW c l v).length = v.length := by
  induction l with
  | nil => rfl
  | cons i l ih => simp [actW, refl_length, ih]
theorem actW_drop (c : List (List Int)) (l v : List Int) (k : Nat) (hk : k < l.length) : actW c (l.drop k) v = refl c (l.getD k 0).toNat (actW c (l.drop (k + 1)) v) := by
  have e : l.drop k = l[k] :: l.drop (k + 1) := List.drop_eq_getElem_cons hk
  rw [e]; simp [actW, List.getD, hk]
set_option maxHeartbeats 2000000 in
theorem impl_acted_any (gc oc n cc g1 o1 n1 c1 g2 o2 n2 c2 : Nat) (c : List (List Int)) (l v : List Int) (w : World) (hn : c.length = n) (hn1 : l.length = n1) (hn2 : v.length = n2) (hC : IsC c) (hv : v.length = c.length) (hl : l.length ≤ 1048576)
    (hin : ∀ k, k < l.length → 0 ≤ l.getD k 0 ∧ l.getD k 0 < c.length) (hgc : gc < w.heap.size) (hg1 : g1 < w.heap.size) (hg2 : g2 < w.heap.size) (hr : Rows2 w gc oc c) (hc1 : Cells w g1 o1 l) (hc2 : Cells w g2 o2 v) :
    Calls Tryz.prog 140 #[(Value.slice (some ⟨gc, oc, none⟩) n cc), (Value.slice (some ⟨g1, o1, none⟩) n1 c1), (Value.slice (some ⟨g2, o2, none⟩) n2 c2)] w (GotInts w (actW c l v)) := by
  subst hn; subst hn1; subst hn2
  have hn4 := hC.2.1
  have ew : IntKind.i64.wrap ((l.length : Int) - 1) = (l.length : Int) - 1 := IntWalk.i64_in _ (by omega)
  have hv4 : v.length ≤ 4 := by omega
  have Hv := Lib.hid hv; clear hv
  go_enter Tryz.func140, Tryz.ntmps140
  go_wp2_with (at_builtin; refine wpList_clone rfl _ _ rfl g2 o2 _ c2 v rfl hg2 hc2 rfl rfl (by omega) ?_)
  intro gv cv w1 ho1 hb1
  go_wp2
  clear ew
  go_loopw [8] (fun i wr => ∃ (k : Nat) (j : Int), k ≤ l.length ∧ i = .int .i64 j ∧ j = (k : Int) - 1 ∧ Own wr w.heap.size gv cv (actW c (l.drop k) v) ∧ Below w.heap.size w wr) (fun i _ => (intOf i + 1).toNat)
  case atStart => exact ⟨l.length, _, Nat.le_refl _, rfl, rfl, by rw [List.drop_length]; exact ho1, hb1⟩
  case round =>
    obtain ⟨k, j, hk, rfl, hj, ho, hb⟩ := hrel
    by_cases hlt : 0 < k
    · obtain ⟨t, rfl⟩ : ∃ t, k = t + 1 := ⟨k - 1, by omega⟩
      obtain rfl : j = (t : Int) := by omega
      have htl : t < l.length := by omega
      have q1 := hc1.below hb hg1 t htl
      have hit := hin t htl
      have hd := actW_drop c l v t htl
      obtain ⟨iN, hiN⟩ : ∃ iN : Nat, l.getD t 0 = iN := ⟨(l.getD t 0).toNat, by omega⟩
      rw [hiN] at q1 hit hd
      rw [Int.toNat_natCast] at hd
      have hic : iN < c.length := by omega
      have hal : (actW c (l.drop (t + 1)) v).length = v.length := actW_length _ _ _
      have hcall := impl_reflected_any w gc oc _ cc gv cv iN v.length c (actW c (l.drop (t + 1)) v) wr rfl hal (by rw [hal]; exact Hv.out) hn4 hC.2.2.1 hic hgc hr hb ho
      have Hcall := Lib.hid hcall; have Hd := Lib.hid hd
      clear hcall hd hiN hal hit
      clear hj
      go_wp2_with fail
      refine Hcall.out.mono ?_
      rintro e w2 ⟨rfl, ho2, hg2⟩
      go_wp2_with fail
      go_roundw
      case rel =>
        rw [← Hd.out] at ho2
        exact ⟨t, (t : Int) - 1, by omega, by go_num, rfl, ho2, hb.grown hg2 hb.size (by intro j hj; cases hj; exact ho.base)⟩
      case measure => simp [intOf]
    · obtain rfl : k = 0 := by omega
      obtain rfl : j = -1 := by omega
      clear hj
      go_wp2
      go_ret
      exact GotInts.mk' gv cv (actW_length _ _ _) ho hb
end Go.Proofs.YtkjglfafphffiaaGreatDoor
namespace Go.Proofs.YtkjglfafphffiaaGreatDoor
set_option maxRecDepth 100000
open Go.RowKit
def lenOfV : Value → Nat | .slice _ n _ => n | _ => 0
def nz (v : List Int) : Bool := v.all fun x => x != 0
def normG (c : List (List Int)) : Nat → List Int → Option (List Int)
  | 0, v => if nz v && (firstNeg v).isNone then some [] else none
  | f + 1, v => if nz v then match firstNeg v with
      | none => some []
      | some i => (normG c f (refl c i v)).map fun l => (i : Int) :: l
    else none
theorem normG_none {c : List (List Int)} {f : Nat} {v rest : List Int} (h : normG c f v = some rest) (hf : firstNeg v = none) : rest = [] := by
  cases f with
  | zero => simp only [normG] at h; split at h <;> simp_all
  | succ f => simp only [normG, hf] at h; split at h <;> simp_all
theorem normG_some {c : List (List Int)} {f : Nat} {v rest : List Int} {i : Nat} (h : normG c f v = some rest) (hf : firstNeg v = some i) :
    ∃ f' rest', f = f' + 1 ∧ rest = (i : Int) :: rest' ∧ normG c f' (refl c i v) = some rest' := by
  cases f with
  | zero => simp only [normG, hf] at h; simp at h
  | succ f =>
    simp only [normG, hf] at h
    split at h
    · cases hr : normG c f (refl c i v) with
      | none => rw [hr] at h; simp at h
      | some l => rw [hr] at h; simp at h; exact ⟨f, l, rfl, h.symm, hr⟩
    · simp at h
theorem normG_nz {c : List (List Int)} {f : Nat} {v rest : List Int} (h : normG c f v = some rest) : ∀ j, j < v.length → v.getD j 0 ≠ 0 := by
  have hz : nz v = true := by
    cases f with
    | zero => simp only [normG] at h; split at h <;> simp_all
    | succ f => simp only [normG] at h; split at h <;> simp_all
  intro j hj
  have := List.all_eq_true.1 hz v[j] (List.getElem_mem hj)
  simpa [List.getD, hj] using this
theorem normG_len {c : List (List Int)} : ∀ {f : Nat} {v rest : List Int}, normG c f v = some rest → rest.length ≤ f := by
  intro f
  induction f with
  | zero => intro v rest h; simp only [normG] at h; split at h <;> simp_all
  | succ f ih =>
    intro v rest h
    cases hf : firstNeg v with
    | none => rw [normG_none h hf]; simp
    | some i =>
      obtain ⟨f', rest', e, rfl, h'⟩ := normG_some h hf
      have := ih (by rw [show f = f' by omega]; exact h')
      simp; omega
def onesL (n : Nat) : List Int := List.replicate n 1
set_option maxHeartbeats 1000000 in
theorem impl_ones_any (n : Nat) (w : World) (hn : n ≤ 1048576) : Calls Tryz.prog 141 #[.int .i64 n] w (GotInts w (onesL n)) := by
  go_enter Tryz.func141, Tryz.ntmps141
  go_wp2
  go_loopw [3, 6] (fun s i wr => ∃ t g' c' : Nat, t ≤ n ∧ i = .int .i64 t ∧ s = (Value.slice (some ⟨g', 0, none⟩) t c') ∧ Own wr w.heap.size g' c' (onesL t) ∧ Below w.heap.size w wr) (fun _ i _ => n - (intOf i).toNat)
  case atStart => exact ⟨0, w.heap.size, 0, Nat.zero_le _, rfl, rfl, Own.empty (w := w) (Nat.le_refl _), (Below.refl _ _).alloc (Nat.le_refl _) _⟩
  case round =>
    obtain ⟨t, g', c', ht, rfl, rfl, ho, hb⟩ := hrel
    by_cases hlt : t < n
    · have hI : (t : Int) < n := by omega
      go_wp2_with (at_builtin; refine wpList_append_int_n rfl _ _ rfl w.heap.size g' c' t (onesL t) 1 (by simp [onesL]) ho rfl rfl (by omega) ?_)
      intro g3 c3 w3 ho3 hg3 _
      go_wp2
      go_roundw
      case rel =>
        have e : onesL t ++ [1] = onesL (t + 1) := by unfold onesL; rw [List.replicate_succ']
        rw [e] at ho3
        exact ⟨t + 1, g3, c3, by omega, by go_num, rfl, ho3, hb.grown hg3 hb.size (by intro j hj; cases hj; exact ho.base)⟩
      case measure => simp [intOf]; omega
    · obtain rfl : n = t := by omega
      go_wp2
      go_ret
      exact GotInts.mk' g' c' (by simp [onesL]) ho hb
set_option maxHeartbeats 1000000 in
theorem impl_image_any (gc oc n cc g1 o1 n1 c1 : Nat) (c : List (List Int)) (l : List Int) (w : World) (hn : c.length = n) (hn1 : l.length = n1) (hC : IsC c) (hl : l.length ≤ 1048576)
    (hin : ∀ k, k < l.length → 0 ≤ l.getD k 0 ∧ l.getD k 0 < c.length) (hgc : gc < w.heap.size) (hg1 : g1 < w.heap.size) (hr : Rows2 w gc oc c) (hc1 : Cells w g1 o1 l) :
    Calls Tryz.prog 90 #[(Value.slice (some ⟨gc, oc, none⟩) n cc), (Value.slice (some ⟨g1, o1, none⟩) n1 c1)] w (GotInts w (actW c l (onesL c.length))) := by
  subst hn; subst hn1
  have hn4 := hC.2.1
  go_enter Tryz.func90, Tryz.ntmps90
  go_wp2_with fail
  refine (impl_ones_any c.length w (by omega)).mono ?_
  rintro e w1 ⟨g2, c2, rfl, ho2, hb2⟩
  have hol : (onesL c.length).length = c.length := by simp [onesL]
  rw [hol]
  go_wp2_with fail
  refine (impl_acted_any gc oc _ cc g1 o1 _ c1 g2 0 _ c2 c l (onesL c.length) w1 rfl rfl hol hC hol hl hin (Nat.lt_of_lt_of_le hgc hb2.size) (Nat.lt_of_lt_of_le hg1 hb2.size) ho2.lt (hr.below hb2 hgc) (hc1.below hb2 hg1) ho2.cells).mono ?_
  rintro e w3 ⟨g3, c3, rfl, ho3, hb3⟩
  go_wp2_with fail
  go_ret
  exact ⟨g3, c3, rfl, ho3.mono hb2.size, hb2.trans (hb3.mono hb2.size)⟩
set_option maxHeartbeats 2000000 in
theorem impl_normal_any (gc oc n cc g2 o2 n2 c2 f : Nat) (c : List (List Int)) (v word : List Int) (w : World) (hn : c.length = n) (hn2 : v.length = n2) (hC : IsC c) (hv : v.length = c.length) (hf : f ≤ 1000) (hword : normG c f v = some word)
    (hgc : gc < w.heap.size) (hg2 : g2 < w.heap.size) (hr : Rows2 w gc oc c) (hc2 : Cells w g2 o2 v) :
    Calls Tryz.prog 93 #[(Value.slice (some ⟨gc, oc, none⟩) n cc), (Value.slice (some ⟨g2, o2, none⟩) n2 c2)] w (GotInts w word) := by
  subst hn; subst hn2
  have hn4 := hC.2.1
  have hv4 : v.length ≤ 4 := by omega
  have Hv := Lib.hid hv; clear hv
  have hwl := normG_len hword
  go_enter Tryz.func93, Tryz.ntmps93
  go_wp2_with (at_builtin; refine wpList_clone rfl _ _ rfl g2 o2 _ c2 v rfl hg2 hc2 rfl rfl (by omega) ?_)
  intro gv cv w1 ho1 hb1
  go_wp2
  go_loopw [5, 6] (fun s _ wr => ∃ (p g' c' f' : Nat) (u pre rest : List Int), s = (Value.slice (some ⟨g', 0, none⟩) p c') ∧ Hid (pre.length = p) ∧ p + rest.length ≤ 1000 ∧ u.length = v.length ∧ Hid (normG c f' u = some rest) ∧ Hid (word = pre ++ rest) ∧ Own wr w.heap.size gv cv u ∧ Own wr w.heap.size g' c' pre ∧ gv ≠ g' ∧ Below w.heap.size w wr) (fun s _ _ => 1001 - lenOfV s)
  case atStart =>
    refine ⟨0, w1.heap.size, 0, f, v, [], word, rfl, rfl, by omega, rfl, hword, rfl, ho1.alloc _, Own.empty (w := w1) hb1.size, by have := ho1.lt; omega, hb1.alloc hb1.size _⟩
  case round =>
    obtain ⟨p, g', c', f', u, pre, rest, rfl, hp, hpl, hul, hnorm, hw, hou, hop, hne, hb⟩ := hrel
    have hfd := impl_firstDescent_any gv 0 v.length cv u wr hul (by omega) hou.cells
    have Hul := Lib.hid hul
    cases hfn : firstNeg u with
    | none =>
      have hI : firstNegI u = -1 := by unfold firstNegI; rw [hfn]
      rw [hI] at hfd
      have hrest := normG_none hnorm.out hfn
      have Hfd := Lib.hid hfd; have Hrest := Lib.hid hrest
      clear hfd hI hfn hul hrest
      go_wp2_with fail
      refine Hfd.out.mono ?_
      rintro e w2 ⟨rfl, m2, rfl⟩
      go_wp2_with fail
      go_ret
      rw [hw.out, Hrest.out, List.append_nil]
      exact GotInts.mk' g' c' hp.out (hop.drewN m2) (below_drewN hb m2)
    | some i =>
      have hI : firstNegI u = i := by unfold firstNegI; rw [hfn]
      rw [hI] at hfd
      obtain ⟨f2, rest2, -, hrest, hn2⟩ := normG_some hnorm.out hfn
      have hil := (firstNeg_lt hfn).1
      rw [hul] at hil
      have hic : i < c.length := by have := Hv.out; omega
      have hiI : ¬ ((i : Int) < 0) := by omega
      subst hrest
      have hpl2 : p + rest2.length + 1 ≤ 1000 := by simp at hpl; omega
      have Hfd := Lib.hid hfd; have Hn2 := Lib.hid hn2
      clear hfd hI hfn hul hn2 hnorm hpl
      go_wp2_with fail
      refine Hfd.out.mono ?_
      rintro e w2 ⟨rfl, m2, rfl⟩
      go_wp2_with (at_builtin; refine wpList_append_int_n (w := wr.drewN m2) rfl _ _ rfl w.heap.size g' c' p pre (i : Int) hp.out (hop.drewN m2) rfl rfl (by omega) ?_)
      intro g3 c3 w3 ho3 hg3 hor
      have hb3 : Below w.heap.size w w3 := (below_drewN hb m2).grown hg3 hb.size (by intro j hj; cases hj; exact hop.base)
      have hou3 : Own w3 w.heap.size gv cv u := (hou.drewN m2).grown hg3 (by intro e; cases e; exact hne rfl)
      have hne3 : gv ≠ g3 := by
        rcases hor with h | h
        · rw [h]; exact hne
        · have h1 := hou.lt
          have h2 : wr.heap.size < g3 := h
          omega
      have hcall := impl_reflected_any w gc oc _ cc gv cv i v.length c u w3 rfl Hul.out (by rw [Hul.out]; exact Hv.out) hn4 hC.2.2.1 hic hgc hr hb3 hou3
      have Hcall := Lib.hid hcall; clear hcall
      go_wp2_with fail
      refine Hcall.out.mono ?_
      rintro e w4 ⟨rfl, ho4, hg4⟩
      go_wp2_with fail
      go_roundw
      case rel =>
        refine ⟨p + 1, g3, c3, f2, refl c i u, pre ++ [(i : Int)], rest2, rfl, ?_, by omega, by rw [refl_length]; exact Hul.out, Hn2.out, ?_, ho4, ho3.grown hg4 (by intro e; cases e; exact hne3 rfl), hne3, hb3.grown hg4 hb3.size (by intro j hj; cases hj; exact hou.base)⟩
        · show _ = _; rw [List.length_append, hp.out]; rfl
        · show _ = _; rw [hw.out, List.append_assoc]; rfl
      case measure => simp [lenOfV]; omega
end Go.Proofs.YtkjglfafphffiaaGreatDoor
