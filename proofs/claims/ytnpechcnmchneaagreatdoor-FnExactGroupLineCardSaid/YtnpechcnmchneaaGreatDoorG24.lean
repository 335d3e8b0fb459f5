/- The Coxeter number: powers of the word of all points, reduced, and what they do to rho. Plain law. The reference's CoxeterElement, ActOnWeight, CoxeterNumber: contracts. The program's ConcatWords, CoxeterElement, CoxeterNumber: contracts. -/
import Derived.Test.YtnpechcnmchneaaGreatDoorG22
import Derived.Test.YtnpechcnmchneaaGreatDoorG23
import Derived.Test.YtnpechcnmchneaaGreatDoorG16
import Derived.Test.YtnpechcnmchneaaGreatDoorG17
namespace Go.Proofs.YtnpechcnmchneaaGreatDoor
set_option maxRecDepth 100000
open Go.RowKit Game

def wAll (n : Nat) : List Int := intsOf (List.range n)
def vK (c : List (List Int)) : Nat → List Int
  | 0 => onesL c.length
  | k + 1 => actW c (wAll c.length) (vK c k)
def pK (c : List (List Int)) : Nat → List Int
  | 0 => []
  | k + 1 => nfI c (pK c k ++ wAll c.length)
def firstK (P : Nat → Bool) : Nat → Nat → Nat
  | 0, _ => 0
  | f + 1, k => if P k then k else firstK P f (k + 1)
theorem firstK_ok (P : Nat → Bool) : ∀ (f k : Nat), (∃ j, k ≤ j ∧ j < k + f ∧ P j = true) → k ≤ firstK P f k ∧ firstK P f k < k + f ∧ P (firstK P f k) = true ∧ ∀ j, k ≤ j → j < firstK P f k → P j = false
  | 0, k, ⟨j, h1, h2, _⟩ => by omega
  | f + 1, k, ⟨j, h1, h2, h3⟩ => by
    unfold firstK
    by_cases hk : P k = true
    · rw [if_pos hk]
      exact ⟨Nat.le_refl _, by omega, hk, fun j' h4 h5 => by omega⟩
    · rw [if_neg hk]
      have hne : j ≠ k := fun e => hk (e ▸ h3)
      obtain ⟨g1, g2, g3, g4⟩ := firstK_ok P f (k + 1) ⟨j, by omega, by omega, h3⟩
      refine ⟨by omega, by omega, g3, fun j' h4 h5 => ?_⟩
      by_cases e : j' = k
      · rw [e]; simpa using hk
      · exact g4 j' (by omega) h5
def coxN (c : List (List Int)) : Nat := firstK (fun k => decide (vK c k = onesL c.length)) 12 1
def coxB (c : List (List Int)) : Bool := (List.range 12).any fun k => decide (vK c (k + 1) = onesL c.length)
theorem cox_1 : coxB [[2]] = true := by kernel_rfl
theorem cox_2 : chk2 coxB = true := by kernel_rfl
theorem cox_3 : chk3 coxB = true := by kernel_rfl
theorem cox_4 : chk4 coxB = true := by kernel_rfl
theorem cox_ok {c : List (List Int)} (hC : IsC c) (hf : finB c = true) : 1 ≤ coxN c ∧ coxN c ≤ 12 ∧ vK c (coxN c) = onesL c.length ∧ ∀ j, 1 ≤ j → j < coxN c → vK c j ≠ onesL c.length := by
  have h := fin_all coxB cox_1 cox_2 cox_3 cox_4 hC hf
  obtain ⟨k, hk, hp⟩ := List.any_eq_true.1 h
  rw [List.mem_range] at hk
  obtain ⟨g1, g2, g3, g4⟩ := firstK_ok (fun k => decide (vK c k = onesL c.length)) 12 1 ⟨k + 1, by omega, by omega, hp⟩
  exact ⟨g1, by unfold coxN; omega, of_decide_eq_true g3, fun j h1 h2 => of_decide_eq_false (g4 j h1 h2)⟩

theorem wAll_lets {c : List (List Int)} (hC : IsC c) : Lets c c.length (wAll c.length) :=
  lets_of hC (by simp [wAll, intsOf]) fun x hx => by
    unfold wAll intsOf at hx
    obtain ⟨i, hi, rfl⟩ := List.mem_map.1 hx
    rw [List.mem_range] at hi
    omega
theorem toV_im {c : List (List Int)} {m : Nat} {v : List Int} (h : Lets c m v) (hm : m ≤ 30) : toV (imI c v) = act (ent c) (v.map Int.toNat) (toV (onesL c.length)) := by
  have := toV_image h.isC h.nats_lt (by rw [List.length_map]; have := h.few; omega)
  rwa [h.nats] at this
theorem nf_24 {c : List (List Int)} (hC : IsC c) (hf : finB c = true) {v : List Int} (h : Lets c 30 v) : Lets c 24 (nfI c v) ∧ ∀ u, act (ent c) ((nfI c v).map Int.toNat) u = act (ent c) (v.map Int.toNat) u := by
  obtain ⟨W, hW, e⟩ := nfI_ex h
  obtain ⟨long, opp, hL, h24⟩ := longOf_fin24 hC hf
  have hE : Elt c W.length W := ⟨hW.self, rfl⟩
  have hle := Nat.le_trans (elt_le hC hL.norm hL.act hE) h24
  have hm : (nfI c v).map Int.toNat = W := by rw [e]; unfold intsOf; rw [List.map_map]; exact (List.map_congr_left (fun x _ => by simp)).trans (List.map_id W)
  refine ⟨lets_of hC ?_ (nfI_ok h).lets.mem, fun u => ?_⟩
  · rw [e]; unfold intsOf; rw [List.length_map]; exact hle
  · rw [hm]; exact (hW.act u).symm
structure CoxSt (c : List (List Int)) (k : Nat) : Prop where
  lets : Lets c 24 (pK c k)
  im : vK c k = imI c (pK c k)
  com : ∀ u, act (ent c) ((wAll c.length).map Int.toNat) (act (ent c) ((pK c k).map Int.toNat) u) = act (ent c) ((pK c k).map Int.toNat) (act (ent c) ((wAll c.length).map Int.toNat) u)
theorem cox_len {c : List (List Int)} (hC : IsC c) {k : Nat} (h : CoxSt c k) : Lets c 30 (pK c k ++ wAll c.length) := (h.lets.app (wAll_lets hC)).mono (by have := hC.2.1; omega)
theorem cox_st {c : List (List Int)} (hC : IsC c) (hf : finB c = true) : ∀ k, CoxSt c k
  | 0 => ⟨lets_of hC (by simp [pK]) (by simp [pK]), rfl, fun _ => rfl⟩
  | k + 1 => by
    have ih := cox_st hC hf k
    have hL := cox_len hC ih
    have hL2 : Lets c 30 (wAll c.length ++ pK c k) := ((wAll_lets hC).app ih.lets).mono (by have := hC.2.1; omega)
    obtain ⟨h1, h2⟩ := nf_24 hC hf hL
    refine ⟨h1, ?_, fun u => ?_⟩
    · show actW c (wAll c.length) (vK c k) = imI c (nfI c (pK c k ++ wAll c.length))
      rw [ih.im, (nfI_ok hL).img]
      have e1 : actW c (wAll c.length) (imI c (pK c k)) = imI c (wAll c.length ++ pK c k) := by unfold imI; rw [actW_append]
      rw [e1]
      refine toV_inj (by rw [imI_length, imI_length]) ?_
      rw [toV_im hL (Nat.le_refl _), toV_im hL2 (Nat.le_refl _), List.map_append, List.map_append, act_append, act_append]
      exact ih.com _
    · show act _ _ (act _ ((nfI c (pK c k ++ wAll c.length)).map Int.toNat) u) = act _ ((nfI c (pK c k ++ wAll c.length)).map Int.toNat) _
      rw [h2, h2, List.map_append, act_append, act_append, ih.com]
theorem cox_nil {c : List (List Int)} (hC : IsC c) (hf : finB c = true) (k : Nat) : (pK c k).length = 0 ↔ vK c k = onesL c.length := by
  have h := cox_st hC hf k
  constructor
  · intro h0
    rw [h.im, List.length_eq_zero_iff.1 h0]
    rfl
  · intro h1
    match k with
    | 0 => rfl
    | k + 1 =>
      have hk := cox_st hC hf k
      have e : imI c (pK c (k + 1)) = imI c [] := by rw [← h.im, h1]; rfl
      have e2 := nfI_img e
      have e3 : nfI c (pK c (k + 1)) = pK c (k + 1) := nfI_self (cox_len hC hk)
      have e4 := (nfI_ok (lets_of hC (v := []) (m := 30) (by simp) (by simp))).len
      rw [e2] at e3
      rw [← e3]
      simpa using e4
end Go.Proofs.YtnpechcnmchneaaGreatDoor
namespace Go.Proofs.YtnpechcnmchneaaGreatDoor
set_option maxRecDepth 100000
open Go.RowKit Game

theorem wAll_length (n : Nat) : (wAll n).length = n := by simp [wAll, intsOf]
theorem wAll_succ (n : Nat) : wAll (n + 1) = wAll n ++ [(n : Int)] := by simp [wAll, intsOf, List.range_succ]
theorem vK_length (c : List (List Int)) : ∀ k, (vK c k).length = c.length
  | 0 => onesL_len _
  | k + 1 => by show (actW _ _ _).length = _; rw [actW_length]; exact vK_length c k

set_option maxHeartbeats 2000000 in
theorem spec_CoxeterElement_ok (gc oc n cc : Nat) (c : List (List Int)) (w : World) (hn : c.length = n) (hC : IsC c) (hgc : gc < w.heap.size) (hr : Rows2 w gc oc c) :
    Calls Tryz.prog 63 #[(Value.slice (some ⟨gc, oc, none⟩) n cc)] w (GotIntsB w (wAll c.length) true) := by
  subst hn
  have hn4 := hC.2.1
  have hcart : Hid (∀ W, Below w.heap.size w W → Calls Tryz.prog 15 #[(Value.slice (some ⟨gc, oc, none⟩) c.length cc)] W (Reads W (.bool true))) := fun W hW => by
    have := spec_IsCartan gc oc _ cc c W rfl (by omega) (fun j hj => by have := hC.2.2.1 j hj; omega) (hr.below hW hgc)
    rwa [decide_eq_true hC] at this
  go_enter Tryz.func63, Tryz.ntmps63
  go_wp2_with fail
  go_loopw [4, 5] (fun s i wr => ∃ t g' c' : Nat, t ≤ c.length ∧ i = .int .i64 t ∧ s = (Value.slice (some ⟨g', 0, none⟩) t c') ∧ Own wr w.heap.size g' c' (wAll t) ∧ Below w.heap.size w wr) (fun _ i _ => c.length - (intOf i).toNat)
  case atStart => exact ⟨0, w.heap.size, 0, Nat.zero_le _, rfl, rfl, Own.empty (w := w) (Nat.le_refl _), (Below.refl _ _).alloc (Nat.le_refl _) _⟩
  case round =>
    obtain ⟨t, g', c', ht, rfl, rfl, ho, hb⟩ := hrel
    by_cases hlt : t < c.length
    · go_wp2_with fail
      refine (hcart.out _ hb).mono ?_
      rintro e w2 ⟨rfl, m2, rfl⟩
      go_wp2_with (at_builtin; refine wpList_append_int_n (w := wr.drewN m2) rfl _ _ rfl w.heap.size g' c' t (wAll t) t (wAll_length _) (ho.drewN m2) rfl rfl (by omega) ?_)
      intro g3 c3 w3 ho3 hg3 _
      go_wp2
      go_roundw
      case rel =>
        rw [← wAll_succ] at ho3
        exact ⟨t + 1, g3, c3, by omega, by go_num, rfl, ho3, (below_drewN hb m2).grown hg3 hb.size (by intro j hj; cases hj; exact ho.base)⟩
      case measure => simp [intOf]; omega
    · obtain rfl : t = c.length := by omega
      go_wp2_with fail
      refine (hcart.out _ hb).mono ?_
      rintro e w2 ⟨rfl, m2, rfl⟩
      go_wp2_with fail
      go_ret2
      exact GotIntsB.mk' g' c' (wAll_length _) (ho.drewN m2) (below_drewN hb m2)

set_option maxHeartbeats 2000000 in
theorem spec_ActOnWeight_ok (gc oc n cc g1 o1 n1 c1 g2 o2 n2 c2 : Nat) (c : List (List Int)) (l v : List Int) (w : World) (hn : c.length = n) (hn1 : l.length = n1) (hn2 : v.length = n2) (hC : IsC c) (hv : v.length = c.length) (hwd : isWordB c l = true) (hl : l.length ≤ 1048576)
    (hin : ∀ k, k < l.length → 0 ≤ l.getD k 0 ∧ l.getD k 0 < c.length) (hgc : gc < w.heap.size) (hg1 : g1 < w.heap.size) (hg2 : g2 < w.heap.size) (hr : Rows2 w gc oc c) (hc1 : Cells w g1 o1 l) (hc2 : Cells w g2 o2 v) :
    Calls Tryz.prog 65 #[(Value.slice (some ⟨gc, oc, none⟩) n cc), (Value.slice (some ⟨g1, o1, none⟩) n1 c1), (Value.slice (some ⟨g2, o2, none⟩) n2 c2)] w (GotInts w (actW c l v)) := by
  subst hn; subst hn1; subst hn2
  have hn4 := hC.2.1
  have ew : IntKind.i64.wrap ((l.length : Int) - 1) = (l.length : Int) - 1 := IntWalk.i64_in _ (by omega)
  have hword : Hid (∀ W, Below w.heap.size w W → Calls Tryz.prog 92 #[(Value.slice (some ⟨gc, oc, none⟩) c.length cc), (Value.slice (some ⟨g1, o1, none⟩) l.length c1)] W (Reads W (.bool true))) := fun W hW => by
    have := spec_IsWord_any gc oc _ cc g1 o1 _ c1 c l W rfl rfl (by omega) (fun j hj => by have := hC.2.2.1 j hj; omega) hl (hr.below hW hgc) (hc1.below hW hg1)
    rwa [hwd] at this
  have Hv := Lib.hid hv
  have hv4 : v.length ≤ 1048576 := by omega
  have hvv : ((v.length : Int) == (c.length : Int)) = true := by rw [hv]; simp
  clear hwd hv
  go_enter Tryz.func65, Tryz.ntmps65
  go_wp2_with (at_builtin; refine wpList_clone rfl _ _ rfl g2 o2 _ c2 v rfl hg2 hc2 rfl rfl (by omega) ?_)
  intro gv cv w1 ho1 hb1
  go_wp2_with fail
  clear ew

  go_loopw [7, 8] (fun s i wr => ∃ (k : Nat) (j : Int) (gv cv : Nat), k ≤ l.length ∧ i = .int .i64 j ∧ j = (k : Int) - 1 ∧ s = (Value.slice (some ⟨gv, 0, none⟩) v.length cv) ∧ Own wr w.heap.size gv cv (actW c (l.drop k) v) ∧ Below w.heap.size w wr) (fun _ i _ => (intOf i + 1).toNat)
  case atStart => exact ⟨l.length, _, gv, cv, Nat.le_refl _, rfl, rfl, rfl, by rw [List.drop_length]; exact ho1, hb1⟩
  case round =>
    obtain ⟨k, j, gv, cv, hk, rfl, hj, rfl, ho, hb⟩ := hrel
    by_cases hlt : 0 < k
    · obtain ⟨t, rfl⟩ : ∃ t, k = t + 1 := ⟨k - 1, by omega⟩
      obtain rfl : j = (t : Int) := by omega
      have htl : t < l.length := by omega
      have q1 := fun m => (hc1.below (below_drewN hb m) hg1) t htl
      have hit := hin t htl
      have hd := actW_drop c l v t htl
      obtain ⟨iN, hiN⟩ : ∃ iN : Nat, l.getD t 0 = iN := ⟨(l.getD t 0).toNat, by omega⟩
      rw [hiN] at q1 hit hd
      rw [Int.toNat_natCast] at hd
      have hic : iN < c.length := by omega
      have hal : (actW c (l.drop (t + 1)) v).length = v.length := actW_length _ _ _
      have hcall := fun m => spec_l6Reflect_any gc oc _ cc gv 0 v.length cv iN c (actW c (l.drop (t + 1)) v) (wr.drewN m) rfl hal (by rw [hal, Hv.out]; exact Nat.le_refl _) hn4 hC.2.2.1 (by rw [hal, Hv.out]; exact hic) (Nat.lt_of_lt_of_le hgc (below_drewN hb m).size) ho.lt (hr.below (below_drewN hb m) hgc) (ho.drewN m).cells
      have Hcall := Lib.hid hcall; have Hd := Lib.hid hd; have Q1 := Lib.hid q1
      clear hcall hd hiN hal hit q1
      clear hj
      go_wp2_with fail
      refine (hword.out _ hb).mono ?_
      rintro e w2 ⟨rfl, m2, rfl⟩
      have q1 := Q1.out m2
      have hb2 := below_drewN hb m2
      go_wp2_with fail
      refine (Hcall.out m2).mono ?_
      rintro e w3 ⟨g2, c2, rfl, ho2, hb3⟩
      rw [← Hd.out] at ho2
      have e2 : (refl c iN (actW c (List.drop (t + 1) l) v)).length = v.length := by rw [refl_length, actW_length]
      rw [e2]
      clear e2
      go_wp2_with fail
      go_roundw
      case rel =>
        exact ⟨t, (t : Int) - 1, g2, c2, by omega, by go_num, rfl, rfl, ho2.mono hb2.size, hb2.trans (hb3.mono hb2.size)⟩
      case measure => simp [intOf]
    · obtain rfl : k = 0 := by omega
      obtain rfl : j = -1 := by omega
      clear hj
      go_wp2_with fail
      go_ret
      exact GotInts.mk' gv cv (actW_length _ _ _) ho hb

theorem wAll_word {c : List (List Int)} (hC : IsC c) : isWordB c (wAll c.length) = true := (((wAll_lets hC).mono (m' := 15) (by have := hC.2.1; omega)).word).isWord
set_option maxHeartbeats 2000000 in
theorem spec_CoxeterNumber_ok (gc oc n cc : Nat) (c : List (List Int)) (w : World) (hn : c.length = n) (hf : finB c = true) (hgc : gc < w.heap.size) (hr : Rows2 w gc oc c) :
    Calls Tryz.prog 22 #[(Value.slice (some ⟨gc, oc, none⟩) n cc)] w (Gives w (.int .i64 (coxN c))) := by
  subst hn
  have hC : IsC c := by unfold finB at hf; exact of_decide_eq_true (Bool.and_eq_true_iff.1 hf).1
  have hn4 := hC.2.1
  obtain ⟨h1, h12, hE, hN⟩ := cox_ok hC hf
  have HF := Lib.hid (fun W (hW : Below w.heap.size w W) => by
    have := spec_IsFinite_any gc oc _ cc c W rfl (by omega) (fun j hj => by have := hC.2.2.1 j hj; omega) (Nat.lt_of_lt_of_le hgc hW.size) (hr.below hW hgc)
    rwa [hf] at this)
  have HR := Lib.hid (fun W (hW : Below w.heap.size w W) => spec_RhoOf_ok gc oc _ cc c W rfl hC (Nat.lt_of_lt_of_le hgc hW.size) (hr.below hW hgc))
  have HA := Lib.hid (fun W (hW : Below w.heap.size w W) g1 c1 g2 c2 k (hg1 : g1 < W.heap.size) (hg2 : g2 < W.heap.size) (hc1 : Cells W g1 0 (wAll c.length)) (hc2 : Cells W g2 0 (vK c k)) =>
    spec_ActOnWeight_ok gc oc c.length cc g1 0 c.length c1 g2 0 c.length c2 c (wAll c.length) (vK c k) W rfl (wAll_length _) (vK_length c k) hC (vK_length c k) (wAll_word hC) (by rw [wAll_length]; omega) (wAll_lets hC).inr (Nat.lt_of_lt_of_le hgc hW.size) hg1 hg2 (hr.below hW hgc) hc1 hc2)
  have HQ := Lib.hid (fun W g1 c1 g2 c2 k (hc1 : Cells W g1 0 (vK c k)) (hc2 : Cells W g2 0 (onesL c.length)) =>
    spec_EqualWords_any g1 0 c.length c1 g2 0 c.length c2 (vK c k) (onesL c.length) W (vK_length c k) (onesL_len _) (by rw [vK_length]; omega) hc1 hc2)
  have HE := Lib.hid hE
  have HN := Lib.hid hN
  have HV := Lib.hid (vK_length c)
  clear hE hN
  go_enter Tryz.func22, Tryz.ntmps22
  go_wp2_with fail
  refine (spec_CoxeterElement_ok gc oc _ cc c w rfl hC hgc hr).mono ?_
  rintro e w1 ⟨g1, c1, rfl, ho1, hb1⟩
  rw [wAll_length]
  go_wp2_with fail
  refine (HF.out w1 hb1).mono ?_
  rintro e w2 ⟨rfl, hb2⟩
  have hb12 := hb1.trans (hb2.mono hb1.size)
  have ho2 := ho1.below hb2 ho1.lt
  go_wp2_with fail
  refine (HR.out w2 hb12).mono ?_
  rintro e w3 ⟨g3, c3, rfl, ho3, hb3⟩
  rw [show (onesL c.length).length = c.length from onesL_len _]
  have hb13 := hb12.trans (hb3.mono hb12.size)
  have hoW := ho2.below hb3 ho2.lt
  have hs12 := hb12.size
  clear hb1 hb2 hb12 ho1 ho2 hb3
  go_wp2_with fail
  go_loopw [5, 6] (fun v i wr => ∃ (k gv cv : Nat), k + 1 ≤ coxN c ∧ i = .int .i64 ((k : Int) + 1) ∧ v = (Value.slice (some ⟨gv, 0, none⟩) c.length cv) ∧ Own wr w.heap.size gv cv (vK c k) ∧ Own wr w.heap.size g1 c1 (wAll c.length) ∧ Below w.heap.size w wr) (fun _ i _ => 61 - (intOf i).toNat)
  case atStart => exact ⟨0, g3, c3, h1, rfl, rfl, ho3.mono hs12, hoW, hb13⟩
  case round =>
    obtain ⟨k, gv, cv, hk, rfl, rfl, ho, hoW, hb⟩ := hrel
    go_wp2_with fail
    refine (HA.out wr hb g1 c1 gv cv k hoW.lt ho.lt hoW.cells ho.cells).mono ?_
    rintro e w4 ⟨g4, c4, rfl, ho4, hb4⟩
    rw [show (actW c (wAll c.length) (vK c k)).length = c.length from HV.out (k + 1)]
    have hb5 := hb.trans (hb4.mono hb.size)
    have hoW4 := hoW.below hb4 hoW.lt
    have ho4' : Own w4 w.heap.size g4 c4 (vK c (k + 1)) := ho4.mono hb.size
    clear ho4 ho hoW hb4
    go_wp2_with fail
    refine (HR.out w4 hb5).mono ?_
    rintro e w6 ⟨g6, c6, rfl, ho6, hb6⟩
    rw [show (onesL c.length).length = c.length from onesL_len _]
    have hb7 := hb5.trans (hb6.mono hb5.size)
    have hoW6 := hoW4.below hb6 hoW4.lt
    have ho7 := ho4'.below hb6 ho4'.lt
    clear ho4' hoW4 hb6 hb5 hb
    go_wp2_with fail
    refine (HQ.out w6 g4 c4 g6 c6 (k + 1) ho7.cells ho6.cells).mono ?_
    rintro e w8 ⟨rfl, m8, rfl⟩
    by_cases hq : vK c (k + 1) = onesL c.length
    · have hk1 : coxN c = k + 1 := by
        have := HN.out (k + 1) (by omega)
        by_cases h : k + 1 < coxN c
        · exact absurd hq (this h)
        · omega
      have Hk1 := Lib.hid hk1
      rw [decide_eq_true hq]
      clear hq hk1 hk h1 h12
      go_wp2_with fail
      go_ret
      exact ⟨by rw [Hk1.out]; rfl, below_drewN hb7 m8⟩
    · have hk1 : k + 1 ≠ coxN c := fun h => hq (by rw [h]; exact HE.out)
      have hk2 : k + 1 + 1 ≤ coxN c := by omega
      rw [decide_eq_false hq]
      clear hq hk1
      go_wp2_with fail
      go_roundw
      case rel => exact ⟨k + 1, g4, c4, hk2, by go_num, rfl, ho7.drewN m8, hoW6.drewN m8, below_drewN hb7 m8⟩
      case measure => simp [intOf]; omega
end Go.Proofs.YtnpechcnmchneaaGreatDoor
namespace Go.Proofs.YtnpechcnmchneaaGreatDoor
set_option maxRecDepth 100000
open Go.RowKit Game

set_option maxHeartbeats 1000000 in
theorem impl_ConcatWords_any (g1 o1 n1 c1 g2 o2 n2 c2 : Nat) (xs ys : List Int) (w : World) (hn1 : xs.length = n1) (hn2 : ys.length = n2) (hl1 : 1 ≤ xs.length + ys.length) (hx : xs.length ≤ 10000) (hy : ys.length ≤ 10000)
    (hk1 : n1 ≤ c1) (hk2 : n2 ≤ c2) (hg1 : g1 < w.heap.size) (hg2 : g2 < w.heap.size) (hc1 : Cells w g1 o1 xs) (hc2 : Cells w g2 o2 ys) :
    Calls Tryz.prog 83 #[(Value.slice (some ⟨g1, o1, none⟩) n1 c1), (Value.slice (some ⟨g2, o2, none⟩) n2 c2)] w (GotInts w (xs ++ ys)) := by
  let W := w.alloc (.cells #[] 3)
  have hbW : Below w.heap.size w W := (Below.refl _ _).alloc (Nat.le_refl _) _
  have hC := Lib.hid (show Calls Tryz.prog 132 #[(Value.slice (some ⟨W.heap.size, 0, none⟩) 3 3)] (W.alloc (.cells #[(Value.slice (some ⟨w.heap.size, 0, none⟩) 0 0), (Value.slice (some ⟨g1, o1, none⟩) n1 c1), (Value.slice (some ⟨g2, o2, none⟩) n2 c2)] 28)) (GotInts (W.alloc (.cells #[(Value.slice (some ⟨w.heap.size, 0, none⟩) 0 0), (Value.slice (some ⟨g1, o1, none⟩) n1 c1), (Value.slice (some ⟨g2, o2, none⟩) n2 c2)] 28)) (xs ++ ys)) by
      have hal := (Below.refl W.heap.size W).alloc (Nat.le_refl _) (.cells #[(Value.slice (some ⟨w.heap.size, 0, none⟩) 0 0), (Value.slice (some ⟨g1, o1, none⟩) n1 c1), (Value.slice (some ⟨g2, o2, none⟩) n2 c2)] 28)
      have hnew := heap_alloc_new W (.cells #[(Value.slice (some ⟨w.heap.size, 0, none⟩) 0 0), (Value.slice (some ⟨g1, o1, none⟩) n1 c1), (Value.slice (some ⟨g2, o2, none⟩) n2 c2)] 28)
      have hlen : lensTo [[], xs, ys] [[], xs, ys].length = xs.length + ys.length := by
        simp only [List.length_cons, List.length_nil, lensTo, List.getD_cons_zero, List.getD_cons_succ]; omega
      have hcat : catTo [[], xs, ys] [[], xs, ys].length = xs ++ ys := by simp [catTo]
      have hW2 := hbW.trans (hal.mono hbW.size)
      have hszW : W.heap.size = w.heap.size + 1 := by simp [W]
      have hsz : (W.alloc (.cells #[(Value.slice (some ⟨w.heap.size, 0, none⟩) 0 0), (Value.slice (some ⟨g1, o1, none⟩) n1 c1), (Value.slice (some ⟨g2, o2, none⟩) n2 c2)] 28)).heap.size = W.heap.size + 1 := by simp
      have hres := slices_Concat_any W.heap.size 0 3 3 [[], xs, ys] (W.alloc (.cells #[(Value.slice (some ⟨w.heap.size, 0, none⟩) 0 0), (Value.slice (some ⟨g1, o1, none⟩) n1 c1), (Value.slice (some ⟨g2, o2, none⟩) n2 c2)] 28)) rfl (by simp) (by rw [hlen]; omega) (by rw [hlen]; omega) (by rw [hsz]; omega) (by
        intro j hj
        have hj' : j = 0 ∨ j = 1 ∨ j = 2 := by simp at hj; omega
        rcases hj' with rfl | rfl | rfl
        · exact ⟨w.heap.size, 0, 0, (threeCells hnew).1, Nat.le_refl _, by rw [hsz, hszW]; omega, fun k hk => absurd hk (by simp)⟩
        · refine ⟨g1, o1, c1, ?_, ?_, Nat.lt_of_lt_of_le hg1 hW2.size, hc1.below hW2 hg1⟩
          · show World.cell? _ _ = some (Value.slice (some ⟨g1, o1, none⟩) xs.length c1)
            rw [hn1]; exact (threeCells hnew).2.1
          · show xs.length ≤ c1
            omega
        · refine ⟨g2, o2, c2, ?_, ?_, Nat.lt_of_lt_of_le hg2 hW2.size, hc2.below hW2 hg2⟩
          · show World.cell? _ _ = some (Value.slice (some ⟨g2, o2, none⟩) ys.length c2)
            rw [hn2]; exact (threeCells hnew).2.2
          · show ys.length ≤ c2
            omega)
      rw [hcat] at hres
      exact hres)
  have hb2 : Below w.heap.size w (W.alloc (.cells #[(Value.slice (some ⟨w.heap.size, 0, none⟩) 0 0), (Value.slice (some ⟨g1, o1, none⟩) n1 c1), (Value.slice (some ⟨g2, o2, none⟩) n2 c2)] 28)) := hbW.alloc hbW.size _
  have Hb2 := Lib.hid hb2
  have hszW : W.heap.size = w.heap.size + 1 := by simp [W]
  rw [hszW] at hC
  clear hb2 hbW hc1 hc2 hszW
  go_enter Tryz.func83, Tryz.ntmps83
  go_wp2_with fail
  refine hC.out.mono ?_
  rintro e w4 ⟨g4, c4, rfl, ho4, hb4⟩
  go_wp2_with fail
  go_ret
  exact GotInts.mk' g4 c4 (by rw [List.length_append, hn1, hn2]) (ho4.mono Hb2.out.size) (Hb2.out.trans (hb4.mono Hb2.out.size))

set_option maxHeartbeats 2000000 in
theorem impl_CoxeterElement_ok (gc oc n cc : Nat) (c : List (List Int)) (w : World) (hn : c.length = n) (hC : IsC c) (hr : Rows2 w gc oc c) :
    Calls Tryz.prog 81 #[(Value.slice (some ⟨gc, oc, none⟩) n cc)] w (GotIntsB w (wAll c.length) true) := by
  subst hn
  have hn4 := hC.2.1
  have hcart := impl_IsCartan gc oc _ cc c w rfl (by omega) (fun j hj => by have := hC.2.2.1 j hj; omega) hr
  rw [decide_eq_true hC] at hcart
  go_enter Tryz.func81, Tryz.ntmps81
  go_wp2_with fail
  refine hcart.mono ?_
  rintro e w1 ⟨rfl, m1, rfl⟩
  have hb0 : Below w.heap.size w (w.drewN m1) := below_drewN' w m1
  go_wp2_with fail
  go_loopw [4, 5, 13] (fun s _ i wr => ∃ t g' c' : Nat, t ≤ c.length ∧ i = .int .i64 t ∧ s = (Value.slice (some ⟨g', 0, none⟩) t c') ∧ Own wr w.heap.size g' c' (wAll t) ∧ Below w.heap.size w wr) (fun _ _ i _ => c.length - (intOf i).toNat)
  case atStart => exact ⟨0, w.heap.size, 0, Nat.zero_le _, rfl, rfl, Own.empty (w := w.drewN m1) (Nat.le_refl _), hb0.alloc (Nat.le_refl _) _⟩
  case round =>
    obtain ⟨t, g', c', ht, rfl, rfl, ho, hb⟩ := hrel
    by_cases hlt : t < c.length
    · go_wp2_with (at_builtin; refine wpList_append_int_n rfl _ _ rfl w.heap.size g' c' t (wAll t) t (wAll_length _) ho rfl rfl (by omega) ?_)
      intro g3 c3 w3 ho3 hg3 _
      go_wp2_with fail
      go_roundw
      case rel =>
        rw [← wAll_succ] at ho3
        exact ⟨t + 1, g3, c3, by omega, by go_num, rfl, ho3, hb.grown hg3 hb.size (by intro j hj; cases hj; exact ho.base)⟩
      case measure => simp [intOf]; omega
    · obtain rfl : t = c.length := by omega
      go_wp2_with fail
      go_ret2
      exact GotIntsB.mk' g' c' (wAll_length _) ho hb

set_option maxHeartbeats 2000000 in
theorem impl_CoxeterNumber_ok (gc oc n cc : Nat) (c : List (List Int)) (w : World) (hn : c.length = n) (hf : finB c = true) (hgc : gc < w.heap.size) (hr : Rows2 w gc oc c) :
    Calls Tryz.prog 33 #[(Value.slice (some ⟨gc, oc, none⟩) n cc)] w (Gives w (.int .i64 (coxN c))) := by
  subst hn
  have hC : IsC c := by unfold finB at hf; exact of_decide_eq_true (Bool.and_eq_true_iff.1 hf).1
  have hn4 := hC.2.1
  obtain ⟨h1, h12, hE, hN⟩ := cox_ok hC hf
  have HF := impl_IsFinite_any gc oc _ cc c w rfl (by omega) (fun j hj => by have := hC.2.2.1 j hj; omega) hgc hr
  rw [hf] at HF
  have HX := Lib.hid (fun W (hW : Below w.heap.size w W) => impl_CoxeterElement_ok gc oc _ cc c W rfl hC (hr.below hW hgc))
  have HP24 := Lib.hid (fun k => (cox_st hC hf k).lets.few)
  have HL30 := Lib.hid (fun k => cox_len hC (cox_st hC hf k))
  have h1c := hC.1
  have HA := Lib.hid (fun W g1 m1 c1 g2 c2 k (hm : (pK c k).length = m1) (hk1 : m1 ≤ c1) (hk2 : c.length ≤ c2) (hg1 : g1 < W.heap.size) (hg2 : g2 < W.heap.size) (hc1 : Cells W g1 0 (pK c k)) (hc2 : Cells W g2 0 (wAll c.length)) =>
    impl_ConcatWords_any g1 0 m1 c1 g2 0 c.length c2 (pK c k) (wAll c.length) W hm (wAll_length _) (by rw [wAll_length]; omega) (by have := HP24.out k; omega) (by rw [wAll_length]; omega) hk1 hk2 hg1 hg2 hc1 hc2)
  have HQ := Lib.hid (fun W (hW : Below w.heap.size w W) g1 m1 c1 k (hm : (pK c k ++ wAll c.length).length = m1) (hg1 : g1 < W.heap.size) (hc1 : Cells W g1 0 (pK c k ++ wAll c.length)) =>
    impl_reduced_any gc oc c.length cc g1 0 m1 c1 c (pK c k ++ wAll c.length) W rfl hm (HL30.out k) (Nat.lt_of_lt_of_le hgc hW.size) hg1 (hr.below hW hgc) hc1)
  have HZ := Lib.hid (fun k => cox_nil hC hf k)
  have HE := Lib.hid hE
  have HN := Lib.hid hN
  clear hE hN
  go_enter Tryz.func33, Tryz.ntmps33
  go_wp2_with fail
  refine HF.mono ?_
  rintro e w1 ⟨rfl, hb1⟩
  go_wp2_with fail
  refine (HX.out w1 hb1).mono ?_
  rintro e w2 ⟨g1, c1, rfl, ho1, hb2⟩
  rw [wAll_length]
  have hb12 := hb1.trans (hb2.mono hb1.size)
  have hb1s := hb1.size
  have hcap1 : c.length ≤ c1 := by have := ho1.capLe; rwa [wAll_length] at this
  clear hb1 hb2
  go_wp2_with fail
  go_loopw [5, 6] (fun v i wr => ∃ (k m gv cv : Nat), k + 1 ≤ coxN c ∧ i = .int .i64 ((k : Int) + 1) ∧ v = (Value.slice (some ⟨gv, 0, none⟩) m cv) ∧ Hid ((pK c k).length = m) ∧ Own wr w.heap.size gv cv (pK c k) ∧ Own wr w.heap.size g1 c1 (wAll c.length) ∧ Below w.heap.size w wr) (fun _ i _ => 61 - (intOf i).toNat)
  case atStart =>
    have hb0 : Below w.heap.size w (w2.alloc (.cells #[] 3)) := hb12.alloc hb12.size _
    exact ⟨0, 0, w2.heap.size, 0, h1, rfl, rfl, rfl, Own.empty (w := w2) hb12.size, (ho1.mono hb1s).below ((Below.refl _ _).alloc (Nat.le_refl _) _) ho1.lt, hb0⟩
  case round =>
    obtain ⟨k, m, gv, cv, hk, rfl, rfl, hm, ho, hoW, hb⟩ := hrel
    have hmc : m ≤ cv := by have := ho.capLe; have := hm.out; omega
    go_wp2_with fail
    refine (HA.out wr gv m cv g1 c1 k hm.out hmc hcap1 ho.lt hoW.lt ho.cells hoW.cells).mono ?_
    rintro e w4 ⟨g4, c4, rfl, ho4, hb4⟩
    obtain ⟨m4, hm4⟩ : ∃ m4, (pK c k ++ wAll c.length).length = m4 := ⟨_, rfl⟩
    rw [hm4]
    have hb5 := hb.trans (hb4.mono hb.size)
    have hoW4 := hoW.below hb4 hoW.lt
    have Hm4 := Lib.hid hm4
    clear ho hoW hb4 hm4 hm
    go_wp2_with fail
    refine (HQ.out w4 hb5 g4 m4 c4 k Hm4.out ho4.lt ho4.cells).mono ?_
    rintro e w6 ⟨g6, c6, rfl, ho6, hb6⟩
    have hb7 := hb5.trans (hb6.mono hb5.size)
    have hoW6 := hoW4.below hb6 hoW4.lt
    have ho7 : Own w6 w.heap.size g6 c6 (pK c (k + 1)) := ho6.mono hb5.size
    have hz := HZ.out (k + 1)
    obtain ⟨m6, hm6⟩ : ∃ m6, (pK c (k + 1)).length = m6 := ⟨_, rfl⟩
    rw [show (nfI c (pK c k ++ wAll c.length)).length = m6 from hm6]
    have hm60 : m6 ≤ 24 := by have := HP24.out (k + 1); omega
    rw [hm6] at hz
    have Hm6 := Lib.hid hm6
    clear ho4 hoW4 hb6 hb5 hb ho6 hm6 Hm4
    by_cases hq : vK c (k + 1) = onesL c.length
    · have hk1 : coxN c = k + 1 := by
        have := HN.out (k + 1) (by omega)
        by_cases h : k + 1 < coxN c
        · exact absurd hq (this h)
        · omega
      have Hk1 := Lib.hid hk1
      obtain rfl : m6 = 0 := hz.2 hq
      clear hq hk1 hk h1 h12 hz
      go_wp2_with fail
      go_ret
      exact ⟨by rw [Hk1.out]; rfl, hb7⟩
    · have hk1 : k + 1 ≠ coxN c := fun h => hq (by rw [h]; exact HE.out)
      have hk2 : k + 1 + 1 ≤ coxN c := by omega
      have hm0 : m6 ≠ 0 := fun h => hq (hz.1 h)
      clear hq hk1 hz
      go_wp2_with fail
      go_roundw
      case rel => exact ⟨k + 1, m6, g6, c6, hk2, by go_num, rfl, Hm6, ho7, hoW6, hb7⟩
      case measure => simp [intOf]; omega
end Go.Proofs.YtnpechcnmchneaaGreatDoor
