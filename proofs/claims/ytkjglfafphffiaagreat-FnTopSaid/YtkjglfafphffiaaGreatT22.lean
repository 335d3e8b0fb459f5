/- Braid moves by the reference: contract. -/
import Derived.Test.YtkjglfafphffiaaGreatT14
import Derived.Test.YtkjglfafphffiaaGreatT15
namespace Go.Proofs.YtkjglfafphffiaaGreat
set_option maxRecDepth 100000
open Go.RowKit
def braidA (c : List (List Int)) (v : List Int) (a : Int) : Option (List Int) := if isWordB c v = true then braidM c v a else none
theorem braidA_word {c : List (List Int)} {v : List Int} {a : Int} (h : isWordB c v = true) : braidA c v a = braidM c v a := if_pos h
theorem braidA_not {c : List (List Int)} {v : List Int} {a : Int} (h : isWordB c v = false) : braidA c v a = none := if_neg (by rw [h]; decide)
theorem braidK_length {c : List (List Int)} {v y : List Int} {k : Nat} (h : braidK c v k = some y) : y.length = v.length := by
  unfold braidK at h
  dsimp only at h
  split at h
  · rename_i hc
    have e := Option.some.inj h
    rw [← e]
    simp only [List.length_append, List.length_take, List.length_drop, altL_length]
    omega
  · cases h
theorem braidA_length {c : List (List Int)} {v y : List Int} {a : Int} (h : braidA c v a = some y) : y.length = v.length := by
  unfold braidA at h
  split at h
  · unfold braidM at h
    split at h
    · exact braidK_length h
    · cases h
  · cases h
set_option linter.unusedVariables false in
set_option maxRecDepth 100000 in
set_option maxHeartbeats 1000000 in
theorem spec_BraidAt_any (gc oc n cc g o m cp : Nat) (a : Int) (c : List (List Int)) (v : List Int) (w : World) (hn : c.length = n) (hm : v.length = m) (hx : c.length ≤ 1048576) (hrl : ∀ j, j < c.length → (c.getD j []).length ≤ 1048576) (hl : v.length ≤ 1048576) (hcap : v.length ≤ cp) (ha : -9223372036854775808 ≤ a ∧ a ≤ 9223372036854775807)
    (hgc : gc < w.heap.size) (hg : g < w.heap.size) (hr : Rows2 w gc oc c) (hv : Cells w g o v) :
    Calls Tryz.prog 41 #[(Value.slice (some ⟨gc, oc, none⟩) n cc), (Value.slice (some ⟨g, o, none⟩) m cp), .int .i64 a] w (GotIntsB w ((braidA c v a).getD v) (braidA c v a).isSome) := by
  subst hn; subst hm
  have hIW := Lib.hid (fun W (hs : ∃ q, W = w.drewN q) => spec_IsWord_any gc oc _ cc g o _ cp c v W rfl rfl hx hrl hl (hr.still hs) (hv.still hs))
  have e1 := IntWalk.i64_in ((v.length : Int) - 2) (by omega)
  have hL0 := fun W => spec_l1In a 0 ((v.length : Int) - 2) W
  cases hw : isWordB c v with
  | false =>
    rw [hw] at hIW
    rw [braidA_not hw]
    clear hr hL0
    go_enter Tryz.func41, Tryz.ntmps41
    go_wp2_with fail
    go_quiet ((first | (go_at_call 8; first | with_reducible exact Calls.quiet_of (hIW.out _ ⟨_, rfl⟩) | with_reducible exact Reads.quiet4 (hIW.out _ ⟨_, rfl⟩))))
    go_wp2_with (at_builtin; refine wpList_clone rfl _ _ rfl g o _ cp v rfl hg hv rfl rfl (by omega) ?_)
    intro g3 c3 w3 ho3 hb3
    go_wp2_with fail
    go_ret2
    exact ⟨g3, c3, rfl, ho3, (below_drewN' (B := w.heap.size) w _).trans hb3⟩
  | true =>
  rw [hw] at hIW
  have hW := wordOk_of hw
  rw [braidA_word hw]
  have hl15 := hW.few
  have hC := hW.isC
  by_cases hk : 0 ≤ a ∧ a ≤ (v.length : Int) - 2
  case neg =>
    have hb : braidM c v a = none := by
      unfold braidM
      split
      · exact if_neg (fun h => hk ⟨by omega, by have := h.1; omega⟩)
      · rfl
    rw [show (decide ((0 : Int) ≤ a) && decide (a ≤ (v.length : Int) - 2)) = false by rw [← Bool.not_eq_true, Bool.and_eq_true, decide_eq_true_eq, decide_eq_true_eq]; exact hk] at hL0
    rw [hb]
    have hL := Lib.hid hL0
    clear hb hr hL0 hk
    go_enter Tryz.func41, Tryz.ntmps41
    go_wp2_with fail
    go_quiet ((first | (go_at_call 8; first | with_reducible exact Calls.quiet_of (hIW.out _ ⟨_, rfl⟩) | with_reducible exact Reads.quiet4 (hIW.out _ ⟨_, rfl⟩)) | (go_at_call 29; first | with_reducible exact Calls.quiet_of (hL.out _) | with_reducible exact Reads.quiet4 (hL.out _))))
    go_wp2_with (at_builtin; refine wpList_clone rfl _ _ rfl g o _ cp v rfl hg hv rfl rfl (by omega) ?_)
    intro g3 c3 w3 ho3 hb3
    go_wp2_with fail
    go_ret2
    exact ⟨g3, c3, rfl, ho3, (below_drewN' (B := w.heap.size) w _).trans hb3⟩
  rw [show (decide ((0 : Int) ≤ a) && decide (a ≤ (v.length : Int) - 2)) = true by rw [Bool.and_eq_true, decide_eq_true_eq, decide_eq_true_eq]; exact hk] at hL0
  have hL := Lib.hid hL0
  clear hL0
  obtain ⟨k, rfl⟩ : ∃ k : Nat, a = k := ⟨a.toNat, by omega⟩
  have hbk : braidM c v (k : Int) = braidK c v k := by unfold braidM; rw [if_pos (by omega), Int.toNat_natCast]
  rw [hbk]
  have hk1 : k + 1 < v.length := by omega
  have v1 := hv k (by omega)
  have v2 := hv (k + 1) hk1
  have i1 := hW.inr k (by omega)
  have i2 := hW.inr (k + 1) hk1
  have e2 := IntWalk.i64_in ((k : Int) + 1) (by omega)
  have e4 := IntWalk.i64_in ((v.length : Int) - (k : Int)) (by omega)
  have hbr : braidK c v k = if k + 1 < v.length ∧ v.getD k 0 ≠ v.getD (k + 1) 0 ∧ 2 ≤ (bondL c (v.getD k 0).toNat (v.getD (k + 1) 0).toNat).toNat ∧ k + (bondL c (v.getD k 0).toNat (v.getD (k + 1) 0).toNat).toNat ≤ v.length ∧ (v.drop k).take (bondL c (v.getD k 0).toNat (v.getD (k + 1) 0).toNat).toNat = altL (v.getD k 0) (v.getD (k + 1) 0) (bondL c (v.getD k 0).toNat (v.getD (k + 1) 0).toNat).toNat then some (v.take k ++ altL (v.getD (k + 1) 0) (v.getD k 0) (bondL c (v.getD k 0).toNat (v.getD (k + 1) 0).toNat).toNat ++ v.drop (k + (bondL c (v.getD k 0).toNat (v.getD (k + 1) 0).toNat).toNat)) else none := rfl
  generalize v.getD k 0 = x at *
  generalize v.getD (k + 1) 0 = y at *
  obtain ⟨xn, rfl⟩ : ∃ t : Nat, x = t := ⟨x.toNat, by omega⟩
  obtain ⟨yn, rfl⟩ : ∃ t : Nat, y = t := ⟨y.toNat, by omega⟩
  rw [Int.toNat_natCast, Int.toNat_natCast] at hbr
  have b1 : (0 : Int) ≤ (k : Int) := by omega
  have b2 : (k : Int) < (v.length : Int) := by omega
  have b3 : (k : Int) + 1 < (v.length : Int) := by omega
  have b3' : (0 : Int) ≤ (k : Int) + 1 := by omega
  clear hbk hk
  by_cases hxy : xn = yn
  · have hb : braidK c v k = none := by rw [hbr]; exact if_neg (fun h => h.2.1 (by rw [hxy]))
    rw [hb]
    subst hxy
    have d3 : ((xn : Int) == (xn : Int)) = true := by simp
    clear hb hbr hr
    go_enter Tryz.func41, Tryz.ntmps41
    go_wp2_with fail
    go_quiet ((first | (go_at_call 8; first | with_reducible exact Calls.quiet_of (hIW.out _ ⟨_, rfl⟩) | with_reducible exact Reads.quiet4 (hIW.out _ ⟨_, rfl⟩)) | (go_at_call 29; first | with_reducible exact Calls.quiet_of (hL.out _) | with_reducible exact Reads.quiet4 (hL.out _))))
    go_wp2_with (at_builtin; refine wpList_clone rfl _ _ rfl g o _ cp v rfl hg hv rfl rfl (by omega) ?_)
    intro g3 c3 w3 ho3 hb3
    go_wp2_with fail
    go_ret2
    exact ⟨g3, c3, rfl, ho3, (below_drewN' (B := w.heap.size) w _).trans hb3⟩
  have hxyI : ((xn : Int) == (yn : Int)) = false := by rw [beq_eq_false_iff_ne]; omega
  have hb1 := bondL_le c xn yn
  obtain ⟨m, hm⟩ : ∃ m : Nat, bondL c xn yn = m := ⟨(bondL c xn yn).toNat, by omega⟩
  have hB := Lib.hid (fun W (hs : ∃ q, W = w.drewN q) => spec_BondOf_any gc oc _ cc xn yn c W rfl hC (by omega) (by omega) (hr.still hs))
  rw [hm] at hbr hb1 hB
  rw [Int.toNat_natCast] at hbr
  clear hm
  by_cases h2 : 2 ≤ m
  case neg =>
    have hb : braidK c v k = none := by rw [hbr]; exact if_neg (fun h => h2 h.2.2.1)
    rw [hb]
    have d3 : decide ((m : Int) < 2) = true := decide_eq_true (by omega)
    clear hb hbr hr h2
    go_enter Tryz.func41, Tryz.ntmps41
    go_wp2_with fail
    go_quiet ((first | (go_at_call 8; first | with_reducible exact Calls.quiet_of (hIW.out _ ⟨_, rfl⟩) | with_reducible exact Reads.quiet4 (hIW.out _ ⟨_, rfl⟩)) | (go_at_call 29; first | with_reducible exact Calls.quiet_of (hL.out _) | with_reducible exact Reads.quiet4 (hL.out _))))
    go_wp2_with fail
    go_quiet ((go_at_call 76; first | with_reducible exact Calls.quiet_of (hB.out _ ⟨_, rfl⟩) | with_reducible exact Reads.quiet4 (hB.out _ ⟨_, rfl⟩)))
    go_wp2_with fail
    go_quiet (fail)
    go_wp2_with (at_builtin; refine wpList_clone rfl _ _ rfl g o _ cp v rfl hg hv rfl rfl (by omega) ?_)
    intro g3 c3 w3 ho3 hb3
    go_wp2_with fail
    go_ret2
    exact ⟨g3, c3, rfl, ho3, (below_drewN' (B := w.heap.size) w _).trans hb3⟩
  have d3 : decide ((m : Int) < 2) = false := decide_eq_false (by omega)
  have e3 := IntWalk.i64_in ((k : Int) + (m : Int)) (by omega)
  by_cases h3 : k + m ≤ v.length
  case neg =>
    have hb : braidK c v k = none := by rw [hbr]; exact if_neg (fun h => h3 h.2.2.2.1)
    rw [hb]
    have d4 : decide ((v.length : Int) - (k : Int) < (m : Int)) = true := decide_eq_true (by omega)
    clear hb hbr hr h2 h3
    go_enter Tryz.func41, Tryz.ntmps41
    go_wp2_with fail
    go_quiet ((first | (go_at_call 8; first | with_reducible exact Calls.quiet_of (hIW.out _ ⟨_, rfl⟩) | with_reducible exact Reads.quiet4 (hIW.out _ ⟨_, rfl⟩)) | (go_at_call 29; first | with_reducible exact Calls.quiet_of (hL.out _) | with_reducible exact Reads.quiet4 (hL.out _))))
    go_wp2_with fail
    go_quiet ((go_at_call 76; first | with_reducible exact Calls.quiet_of (hB.out _ ⟨_, rfl⟩) | with_reducible exact Reads.quiet4 (hB.out _ ⟨_, rfl⟩)))
    go_wp2_with fail
    go_quiet (fail)
    go_wp2_with (at_builtin; refine wpList_clone rfl _ _ rfl g o _ cp v rfl hg hv rfl rfl (by omega) ?_)
    intro g3 c3 w3 ho3 hb3
    go_wp2_with fail
    go_ret2
    exact ⟨g3, c3, rfl, ho3, (below_drewN' (B := w.heap.size) w _).trans hb3⟩
  have d4 : decide ((v.length : Int) - (k : Int) < (m : Int)) = false := decide_eq_false (by omega)
  have hcut : Cells w g (o + k) ((v.drop k).take m) := (hv.drop k).take m
  have hcl : ((v.drop k).take m).length = m := by rw [List.length_take, List.length_drop]; omega
  have hal := altL_length (xn : Int) (yn : Int) m
  have hal2 := altL_length (yn : Int) (xn : Int) m
  have kA := Lib.hid (fun W => spec_AlternatingWord_any (xn : Int) (yn : Int) m W (by omega))
  have kA2 := Lib.hid (fun W => spec_AlternatingWord_any (yn : Int) (xn : Int) m W (by omega))
  have b4 : (k : Int) + (m : Int) ≤ (cp : Int) := by omega
  have b4' : (k : Int) + (m : Int) ≤ (v.length : Int) := by omega
  have b5 : (k : Int) ≤ (k : Int) + (m : Int) := by omega
  have b6 : (0 : Int) ≤ (k : Int) + (m : Int) := by omega
  have b7 : (k : Int) ≤ (cp : Int) := by omega
  have c3 : ¬ cp = k := by omega
  have hkm : Hid (((k : Int) + (m : Int)).toNat - k = m) := Lib.hid (by omega)
  have hkm2 : Hid (((k : Int) + (m : Int)).toNat = k + m) := Lib.hid (by omega)
  generalize (v.drop k).take m = u at *
  have kE := Lib.hid (fun (W : World) (B gA cA : Nat) (hW : Below w.heap.size w W) (hA : Own W B gA cA (altL xn yn m)) => spec_EqualWords_any g (o + k) m (cp - k) gA 0 m cA u (altL xn yn m) W hcl hal (by omega) (hcut.below hW hg) hA.cells)
  have Hal := Lib.hid hal; have Hal2 := Lib.hid hal2
  have hX := Lib.hid (fun (q : Nat) (W : World) (h : Below (w.drewN q).heap.size (w.drewN q) W) => (below_drewN' (B := w.heap.size) w q).trans h)
  by_cases h4 : u = altL xn yn m
  case neg =>
    have hb : braidK c v k = none := by rw [hbr]; exact if_neg (fun h => h4 h.2.2.2.2)
    rw [hb]
    rw [decide_eq_false h4] at kE
    clear hb hbr hr h2 kA2 hcut hcl hal hal2 h4
    generalize altL (xn : Int) (yn : Int) m = al at *
    go_enter Tryz.func41, Tryz.ntmps41
    go_wp2_with fail
    go_quiet ((first | (go_at_call 8; first | with_reducible exact Calls.quiet_of (hIW.out _ ⟨_, rfl⟩) | with_reducible exact Reads.quiet4 (hIW.out _ ⟨_, rfl⟩)) | (go_at_call 29; first | with_reducible exact Calls.quiet_of (hL.out _) | with_reducible exact Reads.quiet4 (hL.out _))))
    go_wp2_with fail
    go_quiet ((go_at_call 76; first | with_reducible exact Calls.quiet_of (hB.out _ ⟨_, rfl⟩) | with_reducible exact Reads.quiet4 (hB.out _ ⟨_, rfl⟩)))
    go_wp2_with fail
    go_region_held3 (fun W => W.cell? ⟨g, o + k, none⟩ = some (.int .i64 xn) ∧ W.cell? ⟨g, o + (k + 1), none⟩ = some (.int .i64 yn))
      (first | exact ⟨v1, v2⟩ | exact ⟨keepCell hbA v1, keepCell hbA v2⟩ | exact ⟨(cell_still hsE _).trans (keepCell hbA v1), (cell_still hsE _).trans (keepCell hbA v2)⟩)
      (first
        | (go_at_call 77; refine (kA.out _).mono ?_; rintro e wA ⟨gA, cA, rfl, hoA, hbA⟩; rw [Hal.out])
        | (go_at_call 27; rw [hkm.out]; refine (kE.out _ _ gA cA (hX.out _ _ hbA) hoA).mono ?_; rintro e wE ⟨rfl, hsE⟩))
    have hbE := below_still (hX.out _ _ hbA) hsE
    clear hbA hsE hoA
    go_wp2_with (at_builtin; refine wpList_clone rfl _ _ rfl g o _ cp v rfl (Nat.lt_of_lt_of_le hg hbE.size) (hv.below hbE hg) rfl rfl (by omega) ?_)
    intro g3 c3 w3 ho3 hb3
    go_wp2_with fail
    go_ret2
    exact ⟨g3, c3, rfl, ho3.mono hbE.size, hbE.trans (hb3.mono hbE.size)⟩
  have hb : braidK c v k = some (v.take k ++ altL yn xn m ++ v.drop (k + m)) := by rw [hbr]; exact if_pos ⟨hk1, by omega, h2, h3, h4⟩
  rw [hb]
  rw [decide_eq_true h4] at kE
  obtain ⟨o2, ho2, hcd⟩ : ∃ o2, (o2 = if cp = k + m then o else o + (k + m)) ∧ Cells w g o2 (v.drop (k + m)) := by
    refine ⟨_, rfl, ?_⟩
    split
    · intro j hj
      rw [List.length_drop] at hj
      omega
    · exact hv.drop (k + m)
  have hct := hv.take k
  have hlt : (v.take k).length = k := by rw [List.length_take]; omega
  have hld : (v.drop (k + m)).length = v.length - (k + m) := List.length_drop
  have kC1 := Lib.hid (fun (W : World) (B gA cA : Nat) (hW : Below w.heap.size w W) (hA : Own W B gA cA (altL yn xn m)) => spec_ConcatWords_any g o k cp gA 0 m cA (v.take k) (altL yn xn m) W hlt hal2 (by omega) (by omega) (Nat.lt_of_lt_of_le hg hW.size) hA.lt (hct.below hW hg) hA.cells)
  have hy1 : (v.take k ++ altL (yn : Int) xn m).length = k + m := by rw [List.length_append, hlt, hal2]
  have kC2 := Lib.hid (fun (W : World) (B gA cA : Nat) (hW : Below w.heap.size w W) (hA : Own W B gA cA (v.take k ++ altL yn xn m)) => spec_ConcatWords_any gA 0 (k + m) cA g o2 (v.length - (k + m)) (cp - (k + m)) (v.take k ++ altL yn xn m) (v.drop (k + m)) W hy1 hld (by omega) (by omega) hA.lt (Nat.lt_of_lt_of_le hg hW.size) hA.cells (hcd.below hW hg))
  have hy2 : (v.take k ++ altL (yn : Int) xn m ++ v.drop (k + m)).length = v.length := by rw [List.length_append, hy1, hld]; omega
  have Hy1 := Lib.hid hy1; have Hy2 := Lib.hid hy2
  clear hb hbr hr h2 hcut hcl hal hal2 hct hlt hld hcd hy1 hy2 h4
  generalize v.take k ++ altL (yn : Int) xn m ++ v.drop (k + m) = y2 at *
  generalize v.take k ++ altL (yn : Int) xn m = y1 at *
  generalize altL (xn : Int) (yn : Int) m = al at *
  generalize altL (yn : Int) (xn : Int) m = al2 at *
  generalize v.drop (k + m) = z2 at *
  generalize v.take k = z1 at *
  by_cases hcc : cp = k + m
  · have ho2' : o2 = o := by rw [ho2, if_pos hcc]
    rw [ho2'] at kC2
    clear ho2 ho2'
    have Hcc := Lib.hid hcc
    rw [hcc] at kC1
    rw [hcc, Nat.sub_self] at kC2
    clear hcc
    go_enter Tryz.func41, Tryz.ntmps41
    go_wp2_with fail
    go_quiet ((first | (go_at_call 8; first | with_reducible exact Calls.quiet_of (hIW.out _ ⟨_, rfl⟩) | with_reducible exact Reads.quiet4 (hIW.out _ ⟨_, rfl⟩)) | (go_at_call 29; first | with_reducible exact Calls.quiet_of (hL.out _) | with_reducible exact Reads.quiet4 (hL.out _))))
    go_wp2_with fail
    go_quiet ((go_at_call 76; first | with_reducible exact Calls.quiet_of (hB.out _ ⟨_, rfl⟩) | with_reducible exact Reads.quiet4 (hB.out _ ⟨_, rfl⟩)))
    go_wp2_with fail
    go_region_held3 (fun W => W.cell? ⟨g, o + k, none⟩ = some (.int .i64 xn) ∧ W.cell? ⟨g, o + (k + 1), none⟩ = some (.int .i64 yn))
      (first | exact ⟨v1, v2⟩ | exact ⟨keepCell hbA v1, keepCell hbA v2⟩ | exact ⟨(cell_still hsE _).trans (keepCell hbA v1), (cell_still hsE _).trans (keepCell hbA v2)⟩)
      (first
        | (go_at_call 77; refine (kA.out _).mono ?_; rintro e wA ⟨gA, cA, rfl, hoA, hbA⟩; rw [Hal.out])
        | (go_at_call 27; rw [hkm.out]; refine (kE.out _ _ gA cA (hX.out _ _ hbA) hoA).mono ?_; rintro e wE ⟨rfl, hsE⟩))
    have hbE := below_still (hX.out _ _ hbA) hsE
    have x1 := (cell_still hsE ⟨g, o + k, none⟩).trans (keepCell hbA (show World.cell? (w.drewN _) _ = _ from v1))
    have x2 := (cell_still hsE ⟨g, o + (k + 1), none⟩).trans (keepCell hbA (show World.cell? (w.drewN _) _ = _ from v2))
    have hY := Lib.hid (fun (W : World) (h : Below (wE.drew).heap.size wE.drew W) => (Below.drew hbE).trans (h.mono (show w.heap.size ≤ (wE.drew).heap.size from hbE.size)))
    have hYs := Lib.hid (show w.heap.size ≤ (wE.drew).heap.size from hbE.size)
    clear hbA hsE hoA v1 v2 kE kA
    have hcc := Hcc.out
    go_wp2_with fail
    go_region_held3 (fun W => W.cell? ⟨g, o + k, none⟩ = some (.int .i64 xn) ∧ W.cell? ⟨g, o + (k + 1), none⟩ = some (.int .i64 yn))
      (first | exact ⟨x1, x2⟩ | exact ⟨keepCell hbB x1, keepCell hbB x2⟩ | exact ⟨keepCell hbC (keepCell hbB x1), keepCell hbC (keepCell hbB x2)⟩ | exact ⟨keepCell hbD (keepCell hbC (keepCell hbB x1)), keepCell hbD (keepCell hbC (keepCell hbB x2))⟩)
      (first
        | (go_at_call 77; refine (kA2.out _).mono ?_; rintro e wB ⟨gB, cB, rfl, hoB, hbB⟩; rw [Hal2.out])
        | (go_at_call_of 78 (Value.slice (some ⟨g, o, none⟩) k (((k : Int) + (m : Int)).toNat)); rw [hkm2.out]; refine (kC1.out wB _ gB cB (hY.out _ hbB) hoB).mono ?_; rintro e wC ⟨gC, cC, rfl, hoC, hbC⟩; rw [Hy1.out])
        | (go_at_call 78; rw [hkm2.out]; refine (kC2.out wC _ gC cC ((hY.out _ hbB).trans (hbC.mono (hY.out _ hbB).size)) hoC).mono ?_; rintro e wD ⟨gD, cD, rfl, hoD, hbD⟩; rw [Hy2.out]))
    have hb1 := hY.out _ hbB
    have hb2 := hb1.trans (hbC.mono hb1.size)
    have hb3 := hb2.trans (hbD.mono hb2.size)
    have hoF := hoD.mono hb2.size
    have hyF : Hid (y2.length = v.length) := Hy2
    clear hbB hbC hbD hoB hoC hoD hb1 hb2 x1 x2
    go_wp2_with fail
    go_ret2
    exact GotIntsB.mk' gD cD hyF.out hoF hb3
  have ho2' : o2 = o + (k + m) := by rw [ho2, if_neg hcc]
  subst ho2'
  have c4 : ¬ (cp : Int) = (k : Int) + (m : Int) := by omega
  clear ho2
  go_enter Tryz.func41, Tryz.ntmps41
  go_wp2_with fail
  go_quiet ((first | (go_at_call 8; first | with_reducible exact Calls.quiet_of (hIW.out _ ⟨_, rfl⟩) | with_reducible exact Reads.quiet4 (hIW.out _ ⟨_, rfl⟩)) | (go_at_call 29; first | with_reducible exact Calls.quiet_of (hL.out _) | with_reducible exact Reads.quiet4 (hL.out _))))
  go_wp2_with fail
  go_quiet ((go_at_call 76; first | with_reducible exact Calls.quiet_of (hB.out _ ⟨_, rfl⟩) | with_reducible exact Reads.quiet4 (hB.out _ ⟨_, rfl⟩)))
  go_wp2_with fail
  go_region_held3 (fun W => W.cell? ⟨g, o + k, none⟩ = some (.int .i64 xn) ∧ W.cell? ⟨g, o + (k + 1), none⟩ = some (.int .i64 yn))
    (first | exact ⟨v1, v2⟩ | exact ⟨keepCell hbA v1, keepCell hbA v2⟩ | exact ⟨(cell_still hsE _).trans (keepCell hbA v1), (cell_still hsE _).trans (keepCell hbA v2)⟩)
    (first
      | (go_at_call 77; refine (kA.out _).mono ?_; rintro e wA ⟨gA, cA, rfl, hoA, hbA⟩; rw [Hal.out])
      | (go_at_call 27; rw [hkm.out]; refine (kE.out _ _ gA cA (hX.out _ _ hbA) hoA).mono ?_; rintro e wE ⟨rfl, hsE⟩))
  have hbE := below_still (hX.out _ _ hbA) hsE
  have x1 := (cell_still hsE ⟨g, o + k, none⟩).trans (keepCell hbA (show World.cell? (w.drewN _) _ = _ from v1))
  have x2 := (cell_still hsE ⟨g, o + (k + 1), none⟩).trans (keepCell hbA (show World.cell? (w.drewN _) _ = _ from v2))
  have hY := Lib.hid (fun (W : World) (h : Below (wE.drew).heap.size wE.drew W) => (Below.drew hbE).trans (h.mono (show w.heap.size ≤ (wE.drew).heap.size from hbE.size)))
  have hYs := Lib.hid (show w.heap.size ≤ (wE.drew).heap.size from hbE.size)
  clear hbA hsE hoA v1 v2 kE kA
  go_wp2_with fail
  go_region_held3 (fun W => W.cell? ⟨g, o + k, none⟩ = some (.int .i64 xn) ∧ W.cell? ⟨g, o + (k + 1), none⟩ = some (.int .i64 yn))
    (first | exact ⟨x1, x2⟩ | exact ⟨keepCell hbB x1, keepCell hbB x2⟩ | exact ⟨keepCell hbC (keepCell hbB x1), keepCell hbC (keepCell hbB x2)⟩ | exact ⟨keepCell hbD (keepCell hbC (keepCell hbB x1)), keepCell hbD (keepCell hbC (keepCell hbB x2))⟩)
    (first
      | (go_at_call 77; refine (kA2.out _).mono ?_; rintro e wB ⟨gB, cB, rfl, hoB, hbB⟩; rw [Hal2.out])
      | (go_at_call_of 78 (Value.slice (some ⟨g, o, none⟩) k cp); refine (kC1.out wB _ gB cB (hY.out _ hbB) hoB).mono ?_; rintro e wC ⟨gC, cC, rfl, hoC, hbC⟩; rw [Hy1.out])
      | (go_at_call 78; rw [hkm2.out]; refine (kC2.out wC _ gC cC ((hY.out _ hbB).trans (hbC.mono (hY.out _ hbB).size)) hoC).mono ?_; rintro e wD ⟨gD, cD, rfl, hoD, hbD⟩; rw [Hy2.out]))
  have hb1 := hY.out _ hbB
  have hb2 := hb1.trans (hbC.mono hb1.size)
  have hb3 := hb2.trans (hbD.mono hb2.size)
  have hoF := hoD.mono hb2.size
  have hyF : Hid (y2.length = v.length) := Hy2
  clear hbB hbC hbD hoB hoC hoD hb1 hb2 x1 x2
  go_wp2_with fail
  go_ret2
  exact GotIntsB.mk' gD cD hyF.out hoF hb3
end Go.Proofs.YtkjglfafphffiaaGreat
