/- Braid -/
import Derived.Test.YtkjglfafphffiaaGreatDoorC17
import Derived.Test.YtkjglfafphffiaaGreatDoorC02
import Derived.Test.YtkjglfafphffiaaGreatDoorC16
import Derived.Test.YtkjglfafphffiaaGreatDoorC00
import Derived.Deep.RegionHeld3
namespace Go.Proofs.YtkjglfafphffiaaGreatDoor
set_option maxRecDepth 100000
open Go.RowKit
def braidK (c : List (List Int)) (v : List Int) (k : Nat) : Option (List Int) :=
  let x := v.getD k 0
  let y := v.getD (k + 1) 0
  let m := (bondL c x.toNat y.toNat).toNat
  if k + 1 < v.length ∧ x ≠ y ∧ 2 ≤ m ∧ k + m ≤ v.length ∧ (v.drop k).take m = altL x y m then some (v.take k ++ altL y x m ++ v.drop (k + m)) else none
def braidM (c : List (List Int)) (v : List Int) (a : Int) : Option (List Int) := if 0 ≤ a then braidK c v a.toNat else none
theorem impl_EqualWords_any (g1 o1 n1 c1 g2 o2 n2 c2 : Nat) (xs ys : List Int) (w : World) (hn1 : xs.length = n1) (hn2 : ys.length = n2) (hx : xs.length ≤ 1048576) (hy : ys.length ≤ 1048576)
    (hcx : Cells w g1 o1 xs) (hcy : Cells w g2 o2 ys) : Calls Tryz.prog 41 #[(Value.slice (some ⟨g1, o1, none⟩) n1 c1), (Value.slice (some ⟨g2, o2, none⟩) n2 c2)] w (Reads w (.bool (decide (xs = ys)))) := by
  have hcall := slices_Equal_any g1 o1 n1 c1 g2 o2 n2 c2 xs ys w hn1 hn2 (by omega) (by omega) hcx hcy
  have Hcall := Lib.hid hcall
  generalize decide (xs = ys) = r at *
  clear hcall
  go_enter Tryz.func41, Tryz.ntmps41
  go_wp2_with fail
  refine Hcall.out.mono ?_
  rintro e w1 ⟨rfl, hs1⟩
  go_wp2_with fail
  go_ret
  exact ⟨rfl, hs1⟩
theorem threeCells {w : World} {B : Nat} {a b d : Value} {t : TypeId} (h : w.heap[B]? = some (.cells #[a, b, d] t (0, 0))) : w.cell? ⟨B, 0, none⟩ = some a ∧ w.cell? ⟨B, 1, none⟩ = some b ∧ w.cell? ⟨B, 2, none⟩ = some d := by
  refine ⟨?_, ?_, ?_⟩ <;> simp [World.cell?, h]
def MayInts (w : World) (r : Option (List Int)) (e : Ending) (w' : World) : Prop :=
  (r = none ∧ e = .returned (.tuple #[.slice none 0 0, .bool false]) ∧ Below w.heap.size w w') ∨ (∃ y, r = some y ∧ GotIntsB w y true e w')
set_option linter.unusedVariables false in
set_option maxHeartbeats 1000000 in
theorem impl_braided_any (gc oc n cc g o m cp : Nat) (a : Int) (c : List (List Int)) (v : List Int) (w : World) (hn : c.length = n) (hm : v.length = m) (hcap : v.length ≤ cp) (hW : WordOk c v) (ha : -9223372036854775808 ≤ a ∧ a ≤ 9223372036854775807)
    (hgc : gc < w.heap.size) (hg : g < w.heap.size) (hr : Rows2 w gc oc c) (hv : Cells w g o v) :
    Calls Tryz.prog 139 #[(Value.slice (some ⟨gc, oc, none⟩) n cc), (Value.slice (some ⟨g, o, none⟩) m cp), .int .i64 a] w (MayInts w (braidM c v a)) := by
  subst hn; subst hm
  have hl15 := hW.few
  have e1 := IntWalk.i64_in ((v.length : Int) - 1) (by omega)
  by_cases ha0 : a < 0
  · have hb : braidM c v a = none := if_neg (by omega)
    rw [hb]
    have d1 : decide (a < 0) = true := decide_eq_true ha0
    clear hb hr hv ha0
    go_enter Tryz.func139, Tryz.ntmps139
    go_wp2_with fail
    go_quiet (fail)
    go_wp2_with fail
    go_ret2
    exact .inl ⟨rfl, rfl, blwx⟩
  obtain ⟨k, rfl⟩ : ∃ k : Nat, a = k := ⟨a.toNat, by omega⟩
  have hbk : braidM c v (k : Int) = braidK c v k := by unfold braidM; rw [if_pos (by omega), Int.toNat_natCast]
  rw [hbk]
  clear hbk
  have d1 : decide ((k : Int) < 0) = false := decide_eq_false (by omega)
  by_cases hk : k + 1 < v.length
  case neg =>
    have hb : braidK c v k = none := if_neg (fun h => hk h.1)
    rw [hb]
    have d2 : decide ((v.length : Int) - 1 ≤ (k : Int)) = true := decide_eq_true (by omega)
    clear hb hr hv ha0 hk
    go_enter Tryz.func139, Tryz.ntmps139
    go_wp2_with fail
    go_quiet (fail)
    go_wp2_with fail
    go_ret2
    exact .inl ⟨rfl, rfl, blwx⟩
  have d2 : decide ((v.length : Int) - 1 ≤ (k : Int)) = false := decide_eq_false (by omega)
  clear ha0
  have v1 := hv k (by omega)
  have v2 := hv (k + 1) hk
  have i1 := hW.inr k (by omega)
  have i2 := hW.inr (k + 1) hk
  have e2 := IntWalk.i64_in ((k : Int) + 1) (by omega)
  have hbr : braidK c v k = if k + 1 < v.length ∧ v.getD k 0 ≠ v.getD (k + 1) 0 ∧ 2 ≤ (bondL c (v.getD k 0).toNat (v.getD (k + 1) 0).toNat).toNat ∧ k + (bondL c (v.getD k 0).toNat (v.getD (k + 1) 0).toNat).toNat ≤ v.length ∧ (v.drop k).take (bondL c (v.getD k 0).toNat (v.getD (k + 1) 0).toNat).toNat = altL (v.getD k 0) (v.getD (k + 1) 0) (bondL c (v.getD k 0).toNat (v.getD (k + 1) 0).toNat).toNat then some (v.take k ++ altL (v.getD (k + 1) 0) (v.getD k 0) (bondL c (v.getD k 0).toNat (v.getD (k + 1) 0).toNat).toNat ++ v.drop (k + (bondL c (v.getD k 0).toNat (v.getD (k + 1) 0).toNat).toNat)) else none := rfl
  generalize v.getD k 0 = x at *
  generalize v.getD (k + 1) 0 = y at *
  obtain ⟨xn, rfl⟩ : ∃ t : Nat, x = t := ⟨x.toNat, by omega⟩
  obtain ⟨yn, rfl⟩ : ∃ t : Nat, y = t := ⟨y.toNat, by omega⟩
  rw [Int.toNat_natCast, Int.toNat_natCast] at hbr
  by_cases hxy : xn = yn
  · have hb : braidK c v k = none := by rw [hbr]; exact if_neg (fun h => h.2.1 (by rw [hxy]))
    rw [hb]
    subst hxy
    have d3 : ((xn : Int) == (xn : Int)) = true := by simp
    clear hb hbr hr hv
    go_enter Tryz.func139, Tryz.ntmps139
    go_wp2_with fail
    go_quiet (fail)
    go_wp2_with fail
    go_ret2
    exact .inl ⟨rfl, rfl, blwx⟩
  have hxyI : ((xn : Int) == (yn : Int)) = false := by rw [beq_eq_false_iff_ne]; omega
  have hb1 := bondL_le c xn yn
  obtain ⟨m, hm⟩ : ∃ m : Nat, bondL c xn yn = m := ⟨(bondL c xn yn).toNat, by omega⟩
  have hB := Lib.hid (fun W (hs : ∃ q, W = w.drewN q) => impl_BondOf_any gc oc _ cc xn yn c W rfl hW.isC (by omega) (by omega) (hr.still hs))
  rw [hm] at hbr hb1 hB
  rw [Int.toNat_natCast] at hbr
  clear hm
  by_cases h2 : 2 ≤ m
  case neg =>
    have hb : braidK c v k = none := by rw [hbr]; exact if_neg (fun h => h2 h.2.2.1)
    rw [hb]
    have d3 : decide ((m : Int) < 2) = true := decide_eq_true (by omega)
    clear hb hbr hr hv h2
    go_enter Tryz.func139, Tryz.ntmps139
    go_wp2_with fail
    go_quiet (fail)
    go_wp2_with fail
    go_quiet ((go_at_call 156; first | with_reducible exact Calls.quiet_of (hB.out _ ⟨_, rfl⟩) | with_reducible exact Reads.quiet4 (hB.out _ ⟨_, rfl⟩)))
    go_wp2_with fail
    go_quiet (fail)
    go_wp2_with fail
    go_ret2
    exact .inl ⟨rfl, rfl, blwx⟩
  have d3 : decide ((m : Int) < 2) = false := decide_eq_false (by omega)
  have e3 := IntWalk.i64_in ((k : Int) + (m : Int)) (by omega)
  by_cases h3 : k + m ≤ v.length
  case neg =>
    have hb : braidK c v k = none := by rw [hbr]; exact if_neg (fun h => h3 h.2.2.2.1)
    rw [hb]
    have d4 : decide ((v.length : Int) < (k : Int) + (m : Int)) = true := decide_eq_true (by omega)
    clear hb hbr hr hv h2 h3
    go_enter Tryz.func139, Tryz.ntmps139
    go_wp2_with fail
    go_quiet (fail)
    go_wp2_with fail
    go_quiet ((go_at_call 156; first | with_reducible exact Calls.quiet_of (hB.out _ ⟨_, rfl⟩) | with_reducible exact Reads.quiet4 (hB.out _ ⟨_, rfl⟩)))
    go_wp2_with fail
    go_quiet (fail)
    go_wp2_with fail
    go_ret2
    exact .inl ⟨rfl, rfl, blwx⟩
  have d4 : decide ((v.length : Int) < (k : Int) + (m : Int)) = false := decide_eq_false (by omega)
  have hcut : Cells w g (o + k) ((v.drop k).take m) := (hv.drop k).take m
  have hcl : ((v.drop k).take m).length = m := by rw [List.length_take, List.length_drop]; omega
  have hal := altL_length (xn : Int) (yn : Int) m
  have hal2 := altL_length (yn : Int) (xn : Int) m
  have kA := Lib.hid (fun W => impl_AlternatingWord_any (xn : Int) (yn : Int) m W (by omega))
  have kA2 := Lib.hid (fun W => impl_AlternatingWord_any (yn : Int) (xn : Int) m W (by omega))
  generalize (v.drop k).take m = u at *
  have kE := Lib.hid (fun (W : World) (B gA cA : Nat) (hW : Below w.heap.size w W) (hA : Own W B gA cA (altL xn yn m)) => impl_EqualWords_any g (o + k) m (cp - k) gA 0 m cA u (altL xn yn m) W hcl hal (by omega) (by omega) (hcut.below hW hg) hA.cells)
  have Hal := Lib.hid hal; have Hal2 := Lib.hid hal2
  have hX := Lib.hid (fun (q : Nat) (W : World) (h : Below (w.drewN q).heap.size (w.drewN q) W) => (below_drewN' (B := w.heap.size) w q).trans h)
  by_cases h4 : u = altL xn yn m
  case neg =>
    have hb : braidK c v k = none := by rw [hbr]; exact if_neg (fun h => h4 h.2.2.2.2)
    rw [hb]
    have hE2 := fun (W : World) (B gA cA : Nat) (hW : Below w.heap.size w W) (hA : Own W B gA cA (altL xn yn m)) => kE.out W B gA cA hW hA
    rw [decide_eq_false h4] at hE2
    have HE2 := Lib.hid hE2
    clear hb hbr hr hv h2 kE hE2 kA2 hcut hcl hal hal2 h4
    have b1 : (0 : Int) ≤ (k : Int) := by omega
    have b2 : (k : Int) < (v.length : Int) := by omega
    have b3 : (k : Int) + 1 < (v.length : Int) := by omega
    have b3' : (0 : Int) ≤ (k : Int) + 1 := by omega
    have b4 : (k : Int) + (m : Int) ≤ (cp : Int) := by omega
    have b5 : (k : Int) ≤ (k : Int) + (m : Int) := by omega
    have c3 : ¬ cp = k := by omega
    have hkm : Hid (((k : Int) + (m : Int)).toNat - k = m) := Lib.hid (by omega)
    generalize altL (xn : Int) (yn : Int) m = al at *
    go_enter Tryz.func139, Tryz.ntmps139
    go_wp2_with fail
    go_quiet (fail)
    go_wp2_with fail
    go_quiet ((go_at_call 156; first | with_reducible exact Calls.quiet_of (hB.out _ ⟨_, rfl⟩) | with_reducible exact Reads.quiet4 (hB.out _ ⟨_, rfl⟩)))
    go_wp2_with fail
    go_region_held3 (fun W => W.cell? ⟨g, o + k, none⟩ = some (.int .i64 xn) ∧ W.cell? ⟨g, o + (k + 1), none⟩ = some (.int .i64 yn))
      (first | exact ⟨v1, v2⟩ | exact ⟨keepCell hbA v1, keepCell hbA v2⟩ | exact ⟨(cell_still hsE _).trans (keepCell hbA v1), (cell_still hsE _).trans (keepCell hbA v2)⟩)
      (first
        | (go_at_call 157; refine (kA.out _).mono ?_; rintro e wA ⟨gA, cA, rfl, hoA, hbA⟩; rw [Hal.out])
        | (go_at_call 41; rw [hkm.out]; refine (HE2.out _ _ gA cA (hX.out _ _ hbA) hoA).mono ?_; rintro e wE ⟨rfl, hsE⟩))
    have hbE := below_still (hX.out _ _ hbA) hsE
    clear hbA hsE hoA
    go_wp2_with fail
    go_ret2
    exact .inl ⟨rfl, rfl, hbE⟩
  have hb : braidK c v k = some (v.take k ++ altL yn xn m ++ v.drop (k + m)) := by rw [hbr]; exact if_pos ⟨hk, by omega, h2, h3, h4⟩
  rw [hb]
  have hE2 := fun (W : World) (B gA cA : Nat) (hW : Below w.heap.size w W) (hA : Own W B gA cA (altL xn yn m)) => kE.out W B gA cA hW hA
  rw [decide_eq_true h4] at hE2
  have HE2 := Lib.hid hE2
  obtain ⟨o2, ho2, hcd⟩ : ∃ o2, (o2 = if cp = k + m then o else o + (k + m)) ∧ Cells w g o2 (v.drop (k + m)) := by
    refine ⟨_, rfl, ?_⟩
    split
    · intro j hj
      rw [List.length_drop] at hj
      omega
    · exact hv.drop (k + m)
  have hct := hv.take k
  have hlt : (v.take k).length = k := by rw [List.length_take]; omega
  have hld : (v.drop (k + m)).length = v.length - (k + m) := List.length_drop
  have hC := Lib.hid (fun (W : World) (gA cA : Nat) (hW : Below w.heap.size w W) (hA : Own W w.heap.size gA cA (altL yn xn m)) =>
    show Calls Tryz.prog 158 #[(Value.slice (some ⟨W.heap.size, 0, none⟩) 3 3)] (W.alloc (.cells #[(Value.slice (some ⟨g, o, none⟩) k cp), (Value.slice (some ⟨gA, 0, none⟩) m cA), (Value.slice (some ⟨g, o2, none⟩) (v.length - (k + m)) (cp - (k + m)))] 25)) (GotInts (W.alloc (.cells #[(Value.slice (some ⟨g, o, none⟩) k cp), (Value.slice (some ⟨gA, 0, none⟩) m cA), (Value.slice (some ⟨g, o2, none⟩) (v.length - (k + m)) (cp - (k + m)))] 25)) (v.take k ++ altL yn xn m ++ v.drop (k + m))) by
      have hal := (Below.refl W.heap.size W).alloc (Nat.le_refl _) (.cells #[(Value.slice (some ⟨g, o, none⟩) k cp), (Value.slice (some ⟨gA, 0, none⟩) m cA), (Value.slice (some ⟨g, o2, none⟩) (v.length - (k + m)) (cp - (k + m)))] 25)
      have hnew := heap_alloc_new W (.cells #[(Value.slice (some ⟨g, o, none⟩) k cp), (Value.slice (some ⟨gA, 0, none⟩) m cA), (Value.slice (some ⟨g, o2, none⟩) (v.length - (k + m)) (cp - (k + m)))] 25)
      have hlen : lensTo [v.take k, altL yn xn m, v.drop (k + m)] [v.take k, altL yn xn m, v.drop (k + m)].length = k + m + (v.length - (k + m)) := by
        simp only [List.length_cons, List.length_nil, lensTo, List.getD_cons_zero, List.getD_cons_succ, hlt, hld, altL_length]; omega
      have hcat : catTo [v.take k, altL yn xn m, v.drop (k + m)] [v.take k, altL yn xn m, v.drop (k + m)].length = v.take k ++ altL yn xn m ++ v.drop (k + m) := by
        simp [catTo]
      have hsz : (W.alloc (.cells #[(Value.slice (some ⟨g, o, none⟩) k cp), (Value.slice (some ⟨gA, 0, none⟩) m cA), (Value.slice (some ⟨g, o2, none⟩) (v.length - (k + m)) (cp - (k + m)))] 25)).heap.size = W.heap.size + 1 := by simp
      have hW2 := hW.trans (hal.mono hW.size)
      have hres := slices_Concat_any W.heap.size 0 3 3 [v.take k, altL yn xn m, v.drop (k + m)] (W.alloc (.cells #[(Value.slice (some ⟨g, o, none⟩) k cp), (Value.slice (some ⟨gA, 0, none⟩) m cA), (Value.slice (some ⟨g, o2, none⟩) (v.length - (k + m)) (cp - (k + m)))] 25)) rfl (by simp) (by rw [hlen]; omega) (by rw [hlen]; omega) (by rw [hsz]; omega) (by
        intro j hj
        have hj' : j = 0 ∨ j = 1 ∨ j = 2 := by simp at hj; omega
        rcases hj' with rfl | rfl | rfl
        · refine ⟨g, o, cp, ?_, ?_, Nat.lt_of_lt_of_le hg hW2.size, hct.below hW2 hg⟩
          · show World.cell? _ _ = some (Value.slice (some ⟨g, o, none⟩) ((v.take k).length) cp)
            rw [hlt]; exact (threeCells hnew).1
          · show (v.take k).length ≤ cp
            omega
        · refine ⟨gA, 0, cA, ?_, ?_, Nat.lt_of_lt_of_le hA.lt hal.size, (hA.below hal hA.lt).cells⟩
          · show World.cell? _ _ = some (Value.slice (some ⟨gA, 0, none⟩) ((altL (yn : Int) xn m).length) cA)
            rw [altL_length]; exact (threeCells hnew).2.1
          · exact hA.capLe
        · refine ⟨g, o2, cp - (k + m), ?_, ?_, Nat.lt_of_lt_of_le hg hW2.size, hcd.below hW2 hg⟩
          · show World.cell? _ _ = some (Value.slice (some ⟨g, o2, none⟩) ((v.drop (k + m)).length) (cp - (k + m)))
            rw [hld]; exact (threeCells hnew).2.2
          · show (v.drop (k + m)).length ≤ cp - (k + m)
            omega)
      rw [hcat] at hres
      exact hres)
  have hyl : (v.take k ++ altL yn xn m ++ v.drop (k + m)).length = (v.take k ++ altL (yn : Int) xn m ++ v.drop (k + m)).length := rfl
  clear hb hbr hr hv h2 kE hE2 hcut hcl hal hal2 hct hlt hld hcd hyl h4
  generalize v.take k ++ altL (yn : Int) xn m ++ v.drop (k + m) = y at *
  generalize altL (xn : Int) (yn : Int) m = al at *
  generalize altL (yn : Int) (xn : Int) m = al2 at *
  have b1 : (0 : Int) ≤ (k : Int) := by omega
  have b2 : (k : Int) < (v.length : Int) := by omega
  have b3 : (k : Int) + 1 < (v.length : Int) := by omega
  have b3' : (0 : Int) ≤ (k : Int) + 1 := by omega
  have b4 : (k : Int) + (m : Int) ≤ (cp : Int) := by omega
  have b4' : (k : Int) + (m : Int) ≤ (v.length : Int) := by omega
  have b5 : (k : Int) ≤ (k : Int) + (m : Int) := by omega
  have b6 : (0 : Int) ≤ (k : Int) + (m : Int) := by omega
  have b7 : (k : Int) ≤ (cp : Int) := by omega
  have c3 : ¬ cp = k := by omega
  have hkm : Hid (((k : Int) + (m : Int)).toNat - k = m) := Lib.hid (by omega)
  have hkm2 : Hid (((k : Int) + (m : Int)).toNat = k + m) := Lib.hid (by omega)
  by_cases hcc : cp = k + m
  · have ho2' : o2 = o := by rw [ho2, if_pos hcc]
    rw [ho2'] at hC
    clear ho2 ho2'
    have Hcc := Lib.hid hcc
    rw [hcc, Nat.sub_self] at hC
    clear hcc
    go_enter Tryz.func139, Tryz.ntmps139
    go_wp2_with fail
    go_quiet (fail)
    go_wp2_with fail
    go_quiet ((go_at_call 156; first | with_reducible exact Calls.quiet_of (hB.out _ ⟨_, rfl⟩) | with_reducible exact Reads.quiet4 (hB.out _ ⟨_, rfl⟩)))
    go_wp2_with fail
    go_region_held3 (fun W => W.cell? ⟨g, o + k, none⟩ = some (.int .i64 xn) ∧ W.cell? ⟨g, o + (k + 1), none⟩ = some (.int .i64 yn))
      (first | exact ⟨v1, v2⟩ | exact ⟨keepCell hbA v1, keepCell hbA v2⟩ | exact ⟨(cell_still hsE _).trans (keepCell hbA v1), (cell_still hsE _).trans (keepCell hbA v2)⟩)
      (first
        | (go_at_call 157; refine (kA.out _).mono ?_; rintro e wA ⟨gA, cA, rfl, hoA, hbA⟩; rw [Hal.out])
        | (go_at_call 41; rw [hkm.out]; refine (HE2.out _ _ gA cA (hX.out _ _ hbA) hoA).mono ?_; rintro e wE ⟨rfl, hsE⟩))
    have hbE := below_still (hX.out _ _ hbA) hsE
    have x1 := (cell_still hsE ⟨g, o + k, none⟩).trans (keepCell hbA (show World.cell? (w.drewN _) _ = _ from v1))
    have x2 := (cell_still hsE ⟨g, o + (k + 1), none⟩).trans (keepCell hbA (show World.cell? (w.drewN _) _ = _ from v2))
    have hY := Lib.hid (fun (W : World) (h : Below (wE.drew).heap.size wE.drew W) => (Below.drew hbE).trans (h.mono (show w.heap.size ≤ (wE.drew).heap.size from hbE.size)))
    have hYs := Lib.hid (show w.heap.size ≤ (wE.drew).heap.size from hbE.size)
    clear hbA hsE hoA v1 v2 HE2 kA
    have hcc := Hcc.out
    go_wp2_with fail
    go_region_held3 (fun W => W.cell? ⟨g, o + k, none⟩ = some (.int .i64 xn) ∧ W.cell? ⟨g, o + (k + 1), none⟩ = some (.int .i64 yn))
      (first | exact ⟨x1, x2⟩ | exact ⟨keepCell hbB x1, keepCell hbB x2⟩ | exact ⟨keepCell ((Below.refl _ wB).alloc (Nat.le_refl _) _) (keepCell hbB x1), keepCell ((Below.refl _ wB).alloc (Nat.le_refl _) _) (keepCell hbB x2)⟩ | exact ⟨keepCell hbC (keepCell ((Below.refl _ wB).alloc (Nat.le_refl _) _) (keepCell hbB x1)), keepCell hbC (keepCell ((Below.refl _ wB).alloc (Nat.le_refl _) _) (keepCell hbB x2))⟩)
      (first
        | (go_at_call 157; refine (kA2.out _).mono ?_; rintro e wB ⟨gB, cB, rfl, hoB, hbB⟩; rw [Hal2.out])
        | (go_at_call 158; rw [hkm2.out]; refine (hC.out wB gB cB (hY.out _ hbB) (hoB.mono hYs.out)).mono ?_; rintro e wC ⟨gC, cC, rfl, hoC, hbC⟩))
    have hbF := hY.out _ hbB
    have hbG := hbF.alloc hbF.size (.cells #[(Value.slice (some ⟨g, o, none⟩) k (k + m)), (Value.slice (some ⟨gB, 0, none⟩) m cB), (Value.slice (some ⟨g, o, none⟩) (v.length - (k + m)) 0)] 25)
    have hbH := hbG.trans (hbC.mono hbG.size)
    have hoH := hoC.mono hbG.size
    clear hbF hbG hbC hoC hbB hoB hbE
    go_wp2_with fail
    go_ret2
    exact .inr ⟨y, rfl, gC, cC, rfl, hoH, hbH⟩
  have ho2' : o2 = o + (k + m) := by rw [ho2, if_neg hcc]
  subst ho2'
  have c4 : ¬ (cp : Int) = (k : Int) + (m : Int) := by omega
  clear ho2
  go_enter Tryz.func139, Tryz.ntmps139
  go_wp2_with fail
  go_quiet (fail)
  go_wp2_with fail
  go_quiet ((go_at_call 156; first | with_reducible exact Calls.quiet_of (hB.out _ ⟨_, rfl⟩) | with_reducible exact Reads.quiet4 (hB.out _ ⟨_, rfl⟩)))
  go_wp2_with fail
  go_region_held3 (fun W => W.cell? ⟨g, o + k, none⟩ = some (.int .i64 xn) ∧ W.cell? ⟨g, o + (k + 1), none⟩ = some (.int .i64 yn))
    (first | exact ⟨v1, v2⟩ | exact ⟨keepCell hbA v1, keepCell hbA v2⟩ | exact ⟨(cell_still hsE _).trans (keepCell hbA v1), (cell_still hsE _).trans (keepCell hbA v2)⟩)
    (first
      | (go_at_call 157; refine (kA.out _).mono ?_; rintro e wA ⟨gA, cA, rfl, hoA, hbA⟩; rw [Hal.out])
      | (go_at_call 41; rw [hkm.out]; refine (HE2.out _ _ gA cA (hX.out _ _ hbA) hoA).mono ?_; rintro e wE ⟨rfl, hsE⟩))
  have hbE := below_still (hX.out _ _ hbA) hsE
  have x1 := (cell_still hsE ⟨g, o + k, none⟩).trans (keepCell hbA (show World.cell? (w.drewN _) _ = _ from v1))
  have x2 := (cell_still hsE ⟨g, o + (k + 1), none⟩).trans (keepCell hbA (show World.cell? (w.drewN _) _ = _ from v2))
  have hY := Lib.hid (fun (W : World) (h : Below (wE.drew).heap.size wE.drew W) => (Below.drew hbE).trans (h.mono (show w.heap.size ≤ (wE.drew).heap.size from hbE.size)))
  have hYs := Lib.hid (show w.heap.size ≤ (wE.drew).heap.size from hbE.size)
  clear hbA hsE hoA v1 v2 HE2 kA
  go_wp2_with fail
  go_region_held3 (fun W => W.cell? ⟨g, o + k, none⟩ = some (.int .i64 xn) ∧ W.cell? ⟨g, o + (k + 1), none⟩ = some (.int .i64 yn))
    (first | exact ⟨x1, x2⟩ | exact ⟨keepCell hbB x1, keepCell hbB x2⟩ | exact ⟨keepCell ((Below.refl _ wB).alloc (Nat.le_refl _) _) (keepCell hbB x1), keepCell ((Below.refl _ wB).alloc (Nat.le_refl _) _) (keepCell hbB x2)⟩ | exact ⟨keepCell hbC (keepCell ((Below.refl _ wB).alloc (Nat.le_refl _) _) (keepCell hbB x1)), keepCell hbC (keepCell ((Below.refl _ wB).alloc (Nat.le_refl _) _) (keepCell hbB x2))⟩)
    (first
      | (go_at_call 157; refine (kA2.out _).mono ?_; rintro e wB ⟨gB, cB, rfl, hoB, hbB⟩; rw [Hal2.out])
      | (go_at_call 158; rw [hkm2.out]; refine (hC.out wB gB cB (hY.out _ hbB) (hoB.mono hYs.out)).mono ?_; rintro e wC ⟨gC, cC, rfl, hoC, hbC⟩))
  have hbF := hY.out _ hbB
  have hbG := hbF.alloc hbF.size (.cells #[(Value.slice (some ⟨g, o, none⟩) k cp), (Value.slice (some ⟨gB, 0, none⟩) m cB), (Value.slice (some ⟨g, (o + (k + m)), none⟩) (v.length - (k + m)) (cp - (k + m)))] 25)
  have hbH := hbG.trans (hbC.mono hbG.size)
  have hoH := hoC.mono hbG.size
  clear hbF hbG hbC hoC hbB hoB hbE
  go_wp2_with fail
  go_ret2
  exact .inr ⟨y, rfl, gC, cC, rfl, hoH, hbH⟩
end Go.Proofs.YtkjglfafphffiaaGreatDoor
