/- DrT BraidS -/
import Derived.Test.YtkjglfafphffiaaGreatDoorC10
import Derived.Test.YtkjglfafphffiaaGreatDoorC22
import Derived.Test.YtkjglfafphffiaaGreatDoorC18
import Derived.Test.YtkjglfafphffiaaGreatDoorC19
namespace Go.Proofs.YtkjglfafphffiaaGreatDoor
set_option maxRecDepth 100000
open Go.RowKit Game
theorem MatR.still {w w' : World} {B g cap : Nat} {rows : List (List Int)} (h : MatR w B g cap rows) (hs : ∃ q, w' = w.drewN q) : MatR w' B g cap rows := by
  obtain ⟨q, rfl⟩ := hs
  exact h.of_same (Nat.le_refl _) (fun _ _ _ => rfl)
section
variable (a : Option Addr) (n c : Nat) (w : World) (hn : n ≤ 1048577) (hc : CodeV w w.heap.size a n)
include hn hc
set_option maxHeartbeats 2000000 in
theorem spec_l8Two_any : Calls Tryz.prog 81 #[.slice a n c] w (Drew2 w) := by
  have h1 := Lib.hid (spec_l1New_any a n c w hn hc)
  have Hc := Lib.hid hc
  clear hc
  go_enter Tryz.func81, Tryz.ntmps81
  go_wp2_with fail
  refine h1.out.mono ?_
  rintro e w1 ⟨p, hp, rfl, hcur, hb1⟩
  have hc1 := Hc.out.below hb1
  have hps := hcur.lt
  have k1 := Lib.hid (spec_l2Any_any w.heap.size p a n c w1 hn hc1 hp hcur)
  clear hcur hc1
  go_wp2_with fail
  refine k1.out.mono ?_
  rintro e w2 ⟨g, cap, rows, rfl, hM, hcur2, hc2, hO2⟩
  have hM5 := hM.few
  have HM := Lib.hid hM
  have hb2 := Below.only hb1 hO2 hp (Nat.le_refl _)
  have hps2 := hcur2.lt
  have k2 := Lib.hid (spec_l5Word_gen w.heap.size p a n c g 0 rows.length cap 7 w2 hM5 (by omega) hn hc2 hp hcur2)
  clear hM hcur2 hc2
  go_wp2_with fail
  refine k2.out.mono ?_
  rintro e w3 ⟨xs, g3, c3, ⟨hxl, -⟩, rfl, ho3, hcur3, hc3, hO3⟩
  have hb3 := Below.only hb2 hO3 hp (Nat.le_refl _)
  have hM3 := Lib.hid (HM.out.only hO3 hps)
  have hps3 := hcur3.lt
  have k3 := Lib.hid (spec_l5Word_gen w.heap.size p a n c g 0 rows.length cap 7 w3 hM5 (by omega) hn hc3 hp hcur3)
  have Ho3 := Lib.hid ho3
  clear HM hcur3 hc3 ho3 k2
  go_wp2_with fail
  refine k3.out.mono ?_
  rintro e w4 ⟨ys, g4, c4, ⟨hyl, -⟩, rfl, ho4, hcur4, hc4, hO4⟩
  have hb4 := Below.only hb3 hO4 hp (Nat.le_refl _)
  have hM4 := Lib.hid (hM3.out.only hO4 hps)
  have Ho34 := Lib.hid (Ho3.out.only hO4 (.inr (by have := Ho3.out.base; omega)))
  have hps4 := hcur4.lt
  have k4 := Lib.hid (spec_l1Once_any w.heap.size p a n c 3 w4 (by omega) hn hc4 hp hcur4)
  have Ho4 := Lib.hid ho4
  clear hM3 ho4 hcur4 hc4 Ho3 k3
  go_wp2_with fail
  refine k4.out.mono ?_
  rintro e w5 ⟨b, rfl, hcur5, hc5, hO5⟩
  have hb5 := Below.only hb4 hO5 hp (Nat.le_refl _)
  have hM5' := Lib.hid ((hM4.out.only hO5 hps).mono hb1.size)
  have Ho35 := Lib.hid ((Ho34.out.only hO5 (.inr (by have := Ho34.out.base; omega))).mono hb2.size)
  have Ho45 := Lib.hid ((Ho4.out.only hO5 (.inr (by have := Ho4.out.base; omega))).mono hb3.size)
  clear hM4 Ho34 Ho4 hcur5 hc5 hO5 k4 hb4
  cases b with
  | false =>
    go_wp2_with fail
    go_ret3
    exact ⟨g, cap, g3, c3, g4, c4, rows, xs, ys, rfl, hM5'.out, Ho35.out, Ho45.out, ⟨by omega, by omega⟩, hb5⟩
  | true =>
    have IW := spec_IsWord_any g 0 rows.length cap g3 0 xs.length c3 rows xs w5 rfl rfl (by omega) hM5'.out.rl (by omega) hM5'.out.rows2 Ho35.out.cells
    cases hw : isWordB rows xs with
    | false =>
      rw [hw] at IW
      have IW := Lib.hid IW
      clear hw
      go_wp2_with fail
      refine IW.out.mono ?_
      rintro e w6 ⟨rfl, hs6⟩
      have hb6 := below_still hb5 hs6
      have hM6 := Lib.hid (hM5'.out.still hs6)
      have Ho36 := Lib.hid (Ho35.out.still hs6)
      have Ho46 := Lib.hid (Ho45.out.still hs6)
      clear hs6 hM5' Ho35 Ho45 hb5
      go_wp2_with fail
      go_ret3
      exact ⟨g, cap, g3, c3, g4, c4, rows, xs, ys, rfl, hM6.out, Ho36.out, Ho46.out, ⟨by omega, by omega⟩, hb6⟩
    | true =>
      rw [hw] at IW
      have IW := Lib.hid IW
      have hW := wordOk_of hw
      have hN := nfI_ok (hW.lets.mono (show 15 ≤ 30 by omega))
      have KN := Lib.hid (fun (W : World) (h1 : MatR W w.heap.size g cap rows) (h2 : Own W w.heap.size g3 c3 xs) => spec_l8Normal_any g 0 rows.length cap g3 0 xs.length c3 rows xs (nfI rows xs) W rfl rfl hW.isC (by omega) hW.inr hN.norm h1.lt h2.lt h1.rows2 h2.cells)
      have hNl := hN.len
      clear hw hW hN
      generalize nfI rows xs = zs at *
      go_wp2_with fail
      refine IW.out.mono ?_
      rintro e w6 ⟨rfl, hs6⟩
      have hb6 := below_still hb5 hs6
      have hM6 := Lib.hid (hM5'.out.still hs6)
      have Ho36 := Lib.hid (Ho35.out.still hs6)
      have KN := Lib.hid (KN.out w6 hM6.out Ho36.out)
      clear hs6 hM5' Ho35 Ho45 hb5 IW
      go_wp2_with fail
      refine KN.out.mono ?_
      rintro e w7 ⟨g7, c7, rfl, ho7, hb7⟩
      have hb8 := hb6.trans (hb7.mono hb6.size)
      have hM7 := Lib.hid (hM6.out.below hb7)
      have Ho37 := Lib.hid (Ho36.out.below hb7 Ho36.out.lt)
      have Ho7 := Lib.hid (ho7.mono hb6.size)
      clear hM6 Ho36 ho7 hb7 KN
      go_wp2_with fail
      go_ret3
      exact ⟨g, cap, g3, c3, g7, c7, rows, xs, zs, rfl, hM7.out, Ho37.out, Ho7.out, ⟨by omega, by omega⟩, hb8⟩
end
end Go.Proofs.YtkjglfafphffiaaGreatDoor
namespace Go.Proofs.YtkjglfafphffiaaGreatDoor
set_option maxRecDepth 100000
open Go.RowKit
def braidA (c : List (List Int)) (v : List Int) (a : Int) : Option (List Int) := if isWordB c v = true then braidM c v a else none
theorem braidA_word {c : List (List Int)} {v : List Int} {a : Int} (h : isWordB c v = true) : braidA c v a = braidM c v a := if_pos h
theorem braidA_not {c : List (List Int)} {v : List Int} {a : Int} (h : isWordB c v = false) : braidA c v a = none := if_neg (by rw [h]; decide)
theorem braidK_length {c : List (List Int)} {v y : List Int} {k : Nat} (h : braidK c v k = some y) : y.length = v.length := by
  unfold braidK at h
  dsimp only at h
  split at h
  · rename_i hc
    have e := Option.some.inj h
    rw [← e]
    simp only [List.length_append, List.length_take, List.length_drop, altL_length]
    omega
  · cases h
theorem braidA_length {c : List (List Int)} {v y : List Int} {a : Int} (h : braidA c v a = some y) : y.length = v.length := by
  unfold braidA at h
  split at h
  · unfold braidM at h
    split at h
    · exact braidK_length h
    · cases h
  · cases h
set_option linter.unusedVariables false in
set_option maxRecDepth 100000 in
set_option maxHeartbeats 1000000 in
theorem spec_BraidAt_any (gc oc n cc g o m cp : Nat) (a : Int) (c : List (List Int)) (v : List Int) (w : World) (hn : c.length = n) (hm : v.length = m) (hx : c.length ≤ 1048576) (hrl : ∀ j, j < c.length → (c.getD j []).length ≤ 1048576) (hl : v.length ≤ 1048576) (hcap : v.length ≤ cp) (ha : -9223372036854775808 ≤ a ∧ a ≤ 9223372036854775807)
    (hgc : gc < w.heap.size) (hg : g < w.heap.size) (hr : Rows2 w gc oc c) (hv : Cells w g o v) :
    Calls Tryz.prog 114 #[(Value.slice (some ⟨gc, oc, none⟩) n cc), (Value.slice (some ⟨g, o, none⟩) m cp), .int .i64 a] w (GotIntsB w ((braidA c v a).getD v) (braidA c v a).isSome) := by
  subst hn; subst hm
  have hIW := Lib.hid (fun W (hs : ∃ q, W = w.drewN q) => spec_IsWord_any gc oc _ cc g o _ cp c v W rfl rfl hx hrl hl (hr.still hs) (hv.still hs))
  have e1 := IntWalk.i64_in ((v.length : Int) - 2) (by omega)
  have hL0 := fun W => spec_l1In a 0 ((v.length : Int) - 2) W
  cases hw : isWordB c v with
  | false =>
    rw [hw] at hIW
    rw [braidA_not hw]
    clear hr hL0
    go_enter Tryz.func114, Tryz.ntmps114
    go_wp2_with fail
    go_quiet ((first | (go_at_call 47; first | with_reducible exact Calls.quiet_of (hIW.out _ ⟨_, rfl⟩) | with_reducible exact Reads.quiet4 (hIW.out _ ⟨_, rfl⟩))))
    go_wp2_with (at_builtin; refine wpList_clone rfl _ _ rfl g o _ cp v rfl hg hv rfl rfl (by omega) ?_)
    intro g3 c3 w3 ho3 hb3
    go_wp2_with fail
    go_ret2
    exact ⟨g3, c3, rfl, ho3, (below_drewN' (B := w.heap.size) w _).trans hb3⟩
  | true =>
  rw [hw] at hIW
  have hW := wordOk_of hw
  rw [braidA_word hw]
  have hl15 := hW.few
  have hC := hW.isC
  by_cases hk : 0 ≤ a ∧ a ≤ (v.length : Int) - 2
  case neg =>
    have hb : braidM c v a = none := by
      unfold braidM
      split
      · exact if_neg (fun h => hk ⟨by omega, by have := h.1; omega⟩)
      · rfl
    rw [show (decide ((0 : Int) ≤ a) && decide (a ≤ (v.length : Int) - 2)) = false by rw [← Bool.not_eq_true, Bool.and_eq_true, decide_eq_true_eq, decide_eq_true_eq]; exact hk] at hL0
    rw [hb]
    have hL := Lib.hid hL0
    clear hb hr hL0 hk
    go_enter Tryz.func114, Tryz.ntmps114
    go_wp2_with fail
    go_quiet ((first | (go_at_call 47; first | with_reducible exact Calls.quiet_of (hIW.out _ ⟨_, rfl⟩) | with_reducible exact Reads.quiet4 (hIW.out _ ⟨_, rfl⟩)) | (go_at_call 78; first | with_reducible exact Calls.quiet_of (hL.out _) | with_reducible exact Reads.quiet4 (hL.out _))))
    go_wp2_with (at_builtin; refine wpList_clone rfl _ _ rfl g o _ cp v rfl hg hv rfl rfl (by omega) ?_)
    intro g3 c3 w3 ho3 hb3
    go_wp2_with fail
    go_ret2
    exact ⟨g3, c3, rfl, ho3, (below_drewN' (B := w.heap.size) w _).trans hb3⟩
  rw [show (decide ((0 : Int) ≤ a) && decide (a ≤ (v.length : Int) - 2)) = true by rw [Bool.and_eq_true, decide_eq_true_eq, decide_eq_true_eq]; exact hk] at hL0
  have hL := Lib.hid hL0
  clear hL0
  obtain ⟨k, rfl⟩ : ∃ k : Nat, a = k := ⟨a.toNat, by omega⟩
  have hbk : braidM c v (k : Int) = braidK c v k := by unfold braidM; rw [if_pos (by omega), Int.toNat_natCast]
  rw [hbk]
  have hk1 : k + 1 < v.length := by omega
  have v1 := hv k (by omega)
  have v2 := hv (k + 1) hk1
  have i1 := hW.inr k (by omega)
  have i2 := hW.inr (k + 1) hk1
  have e2 := IntWalk.i64_in ((k : Int) + 1) (by omega)
  have e4 := IntWalk.i64_in ((v.length : Int) - (k : Int)) (by omega)
  have hbr : braidK c v k = if k + 1 < v.length ∧ v.getD k 0 ≠ v.getD (k + 1) 0 ∧ 2 ≤ (bondL c (v.getD k 0).toNat (v.getD (k + 1) 0).toNat).toNat ∧ k + (bondL c (v.getD k 0).toNat (v.getD (k + 1) 0).toNat).toNat ≤ v.length ∧ (v.drop k).take (bondL c (v.getD k 0).toNat (v.getD (k + 1) 0).toNat).toNat = altL (v.getD k 0) (v.getD (k + 1) 0) (bondL c (v.getD k 0).toNat (v.getD (k + 1) 0).toNat).toNat then some (v.take k ++ altL (v.getD (k + 1) 0) (v.getD k 0) (bondL c (v.getD k 0).toNat (v.getD (k + 1) 0).toNat).toNat ++ v.drop (k + (bondL c (v.getD k 0).toNat (v.getD (k + 1) 0).toNat).toNat)) else none := rfl
  generalize v.getD k 0 = x at *
  generalize v.getD (k + 1) 0 = y at *
  obtain ⟨xn, rfl⟩ : ∃ t : Nat, x = t := ⟨x.toNat, by omega⟩
  obtain ⟨yn, rfl⟩ : ∃ t : Nat, y = t := ⟨y.toNat, by omega⟩
  rw [Int.toNat_natCast, Int.toNat_natCast] at hbr
  have b1 : (0 : Int) ≤ (k : Int) := by omega
  have b2 : (k : Int) < (v.length : Int) := by omega
  have b3 : (k : Int) + 1 < (v.length : Int) := by omega
  have b3' : (0 : Int) ≤ (k : Int) + 1 := by omega
  clear hbk hk
  by_cases hxy : xn = yn
  · have hb : braidK c v k = none := by rw [hbr]; exact if_neg (fun h => h.2.1 (by rw [hxy]))
    rw [hb]
    subst hxy
    have d3 : ((xn : Int) == (xn : Int)) = true := by simp
    clear hb hbr hr
    go_enter Tryz.func114, Tryz.ntmps114
    go_wp2_with fail
    go_quiet ((first | (go_at_call 47; first | with_reducible exact Calls.quiet_of (hIW.out _ ⟨_, rfl⟩) | with_reducible exact Reads.quiet4 (hIW.out _ ⟨_, rfl⟩)) | (go_at_call 78; first | with_reducible exact Calls.quiet_of (hL.out _) | with_reducible exact Reads.quiet4 (hL.out _))))
    go_wp2_with (at_builtin; refine wpList_clone rfl _ _ rfl g o _ cp v rfl hg hv rfl rfl (by omega) ?_)
    intro g3 c3 w3 ho3 hb3
    go_wp2_with fail
    go_ret2
    exact ⟨g3, c3, rfl, ho3, (below_drewN' (B := w.heap.size) w _).trans hb3⟩
  have hxyI : ((xn : Int) == (yn : Int)) = false := by rw [beq_eq_false_iff_ne]; omega
  have hb1 := bondL_le c xn yn
  obtain ⟨m, hm⟩ : ∃ m : Nat, bondL c xn yn = m := ⟨(bondL c xn yn).toNat, by omega⟩
  have hB := Lib.hid (fun W (hs : ∃ q, W = w.drewN q) => spec_BondOf_any gc oc _ cc xn yn c W rfl hC (by omega) (by omega) (hr.still hs))
  rw [hm] at hbr hb1 hB
  rw [Int.toNat_natCast] at hbr
  clear hm
  by_cases h2 : 2 ≤ m
  case neg =>
    have hb : braidK c v k = none := by rw [hbr]; exact if_neg (fun h => h2 h.2.2.1)
    rw [hb]
    have d3 : decide ((m : Int) < 2) = true := decide_eq_true (by omega)
    clear hb hbr hr h2
    go_enter Tryz.func114, Tryz.ntmps114
    go_wp2_with fail
    go_quiet ((first | (go_at_call 47; first | with_reducible exact Calls.quiet_of (hIW.out _ ⟨_, rfl⟩) | with_reducible exact Reads.quiet4 (hIW.out _ ⟨_, rfl⟩)) | (go_at_call 78; first | with_reducible exact Calls.quiet_of (hL.out _) | with_reducible exact Reads.quiet4 (hL.out _))))
    go_wp2_with fail
    go_quiet ((go_at_call 147; first | with_reducible exact Calls.quiet_of (hB.out _ ⟨_, rfl⟩) | with_reducible exact Reads.quiet4 (hB.out _ ⟨_, rfl⟩)))
    go_wp2_with fail
    go_quiet (fail)
    go_wp2_with (at_builtin; refine wpList_clone rfl _ _ rfl g o _ cp v rfl hg hv rfl rfl (by omega) ?_)
    intro g3 c3 w3 ho3 hb3
    go_wp2_with fail
    go_ret2
    exact ⟨g3, c3, rfl, ho3, (below_drewN' (B := w.heap.size) w _).trans hb3⟩
  have d3 : decide ((m : Int) < 2) = false := decide_eq_false (by omega)
  have e3 := IntWalk.i64_in ((k : Int) + (m : Int)) (by omega)
  by_cases h3 : k + m ≤ v.length
  case neg =>
    have hb : braidK c v k = none := by rw [hbr]; exact if_neg (fun h => h3 h.2.2.2.1)
    rw [hb]
    have d4 : decide ((v.length : Int) - (k : Int) < (m : Int)) = true := decide_eq_true (by omega)
    clear hb hbr hr h2 h3
    go_enter Tryz.func114, Tryz.ntmps114
    go_wp2_with fail
    go_quiet ((first | (go_at_call 47; first | with_reducible exact Calls.quiet_of (hIW.out _ ⟨_, rfl⟩) | with_reducible exact Reads.quiet4 (hIW.out _ ⟨_, rfl⟩)) | (go_at_call 78; first | with_reducible exact Calls.quiet_of (hL.out _) | with_reducible exact Reads.quiet4 (hL.out _))))
    go_wp2_with fail
    go_quiet ((go_at_call 147; first | with_reducible exact Calls.quiet_of (hB.out _ ⟨_, rfl⟩) | with_reducible exact Reads.quiet4 (hB.out _ ⟨_, rfl⟩)))
    go_wp2_with fail
    go_quiet (fail)
    go_wp2_with (at_builtin; refine wpList_clone rfl _ _ rfl g o _ cp v rfl hg hv rfl rfl (by omega) ?_)
    intro g3 c3 w3 ho3 hb3
    go_wp2_with fail
    go_ret2
    exact ⟨g3, c3, rfl, ho3, (below_drewN' (B := w.heap.size) w _).trans hb3⟩
  have d4 : decide ((v.length : Int) - (k : Int) < (m : Int)) = false := decide_eq_false (by omega)
  have hcut : Cells w g (o + k) ((v.drop k).take m) := (hv.drop k).take m
  have hcl : ((v.drop k).take m).length = m := by rw [List.length_take, List.length_drop]; omega
  have hal := altL_length (xn : Int) (yn : Int) m
  have hal2 := altL_length (yn : Int) (xn : Int) m
  have kA := Lib.hid (fun W => spec_AlternatingWord_any (xn : Int) (yn : Int) m W (by omega))
  have kA2 := Lib.hid (fun W => spec_AlternatingWord_any (yn : Int) (xn : Int) m W (by omega))
  have b4 : (k : Int) + (m : Int) ≤ (cp : Int) := by omega
  have b4' : (k : Int) + (m : Int) ≤ (v.length : Int) := by omega
  have b5 : (k : Int) ≤ (k : Int) + (m : Int) := by omega
  have b6 : (0 : Int) ≤ (k : Int) + (m : Int) := by omega
  have b7 : (k : Int) ≤ (cp : Int) := by omega
  have c3 : ¬ cp = k := by omega
  have hkm : Hid (((k : Int) + (m : Int)).toNat - k = m) := Lib.hid (by omega)
  have hkm2 : Hid (((k : Int) + (m : Int)).toNat = k + m) := Lib.hid (by omega)
  generalize (v.drop k).take m = u at *
  have kE := Lib.hid (fun (W : World) (B gA cA : Nat) (hW : Below w.heap.size w W) (hA : Own W B gA cA (altL xn yn m)) => spec_EqualWords_any g (o + k) m (cp - k) gA 0 m cA u (altL xn yn m) W hcl hal (by omega) (hcut.below hW hg) hA.cells)
  have Hal := Lib.hid hal; have Hal2 := Lib.hid hal2
  have hX := Lib.hid (fun (q : Nat) (W : World) (h : Below (w.drewN q).heap.size (w.drewN q) W) => (below_drewN' (B := w.heap.size) w q).trans h)
  by_cases h4 : u = altL xn yn m
  case neg =>
    have hb : braidK c v k = none := by rw [hbr]; exact if_neg (fun h => h4 h.2.2.2.2)
    rw [hb]
    rw [decide_eq_false h4] at kE
    clear hb hbr hr h2 kA2 hcut hcl hal hal2 h4
    generalize altL (xn : Int) (yn : Int) m = al at *
    go_enter Tryz.func114, Tryz.ntmps114
    go_wp2_with fail
    go_quiet ((first | (go_at_call 47; first | with_reducible exact Calls.quiet_of (hIW.out _ ⟨_, rfl⟩) | with_reducible exact Reads.quiet4 (hIW.out _ ⟨_, rfl⟩)) | (go_at_call 78; first | with_reducible exact Calls.quiet_of (hL.out _) | with_reducible exact Reads.quiet4 (hL.out _))))
    go_wp2_with fail
    go_quiet ((go_at_call 147; first | with_reducible exact Calls.quiet_of (hB.out _ ⟨_, rfl⟩) | with_reducible exact Reads.quiet4 (hB.out _ ⟨_, rfl⟩)))
    go_wp2_with fail
    go_region_held3 (fun W => W.cell? ⟨g, o + k, none⟩ = some (.int .i64 xn) ∧ W.cell? ⟨g, o + (k + 1), none⟩ = some (.int .i64 yn))
      (first | exact ⟨v1, v2⟩ | exact ⟨keepCell hbA v1, keepCell hbA v2⟩ | exact ⟨(cell_still hsE _).trans (keepCell hbA v1), (cell_still hsE _).trans (keepCell hbA v2)⟩)
      (first
        | (go_at_call 148; refine (kA.out _).mono ?_; rintro e wA ⟨gA, cA, rfl, hoA, hbA⟩; rw [Hal.out])
        | (go_at_call 38; rw [hkm.out]; refine (kE.out _ _ gA cA (hX.out _ _ hbA) hoA).mono ?_; rintro e wE ⟨rfl, hsE⟩))
    have hbE := below_still (hX.out _ _ hbA) hsE
    clear hbA hsE hoA
    go_wp2_with (at_builtin; refine wpList_clone rfl _ _ rfl g o _ cp v rfl (Nat.lt_of_lt_of_le hg hbE.size) (hv.below hbE hg) rfl rfl (by omega) ?_)
    intro g3 c3 w3 ho3 hb3
    go_wp2_with fail
    go_ret2
    exact ⟨g3, c3, rfl, ho3.mono hbE.size, hbE.trans (hb3.mono hbE.size)⟩
  have hb : braidK c v k = some (v.take k ++ altL yn xn m ++ v.drop (k + m)) := by rw [hbr]; exact if_pos ⟨hk1, by omega, h2, h3, h4⟩
  rw [hb]
  rw [decide_eq_true h4] at kE
  obtain ⟨o2, ho2, hcd⟩ : ∃ o2, (o2 = if cp = k + m then o else o + (k + m)) ∧ Cells w g o2 (v.drop (k + m)) := by
    refine ⟨_, rfl, ?_⟩
    split
    · intro j hj
      rw [List.length_drop] at hj
      omega
    · exact hv.drop (k + m)
  have hct := hv.take k
  have hlt : (v.take k).length = k := by rw [List.length_take]; omega
  have hld : (v.drop (k + m)).length = v.length - (k + m) := List.length_drop
  have kC1 := Lib.hid (fun (W : World) (B gA cA : Nat) (hW : Below w.heap.size w W) (hA : Own W B gA cA (altL yn xn m)) => spec_ConcatWords_any g o k cp gA 0 m cA (v.take k) (altL yn xn m) W hlt hal2 (by omega) (by omega) (Nat.lt_of_lt_of_le hg hW.size) hA.lt (hct.below hW hg) hA.cells)
  have hy1 : (v.take k ++ altL (yn : Int) xn m).length = k + m := by rw [List.length_append, hlt, hal2]
  have kC2 := Lib.hid (fun (W : World) (B gA cA : Nat) (hW : Below w.heap.size w W) (hA : Own W B gA cA (v.take k ++ altL yn xn m)) => spec_ConcatWords_any gA 0 (k + m) cA g o2 (v.length - (k + m)) (cp - (k + m)) (v.take k ++ altL yn xn m) (v.drop (k + m)) W hy1 hld (by omega) (by omega) hA.lt (Nat.lt_of_lt_of_le hg hW.size) hA.cells (hcd.below hW hg))
  have hy2 : (v.take k ++ altL (yn : Int) xn m ++ v.drop (k + m)).length = v.length := by rw [List.length_append, hy1, hld]; omega
  have Hy1 := Lib.hid hy1; have Hy2 := Lib.hid hy2
  clear hb hbr hr h2 hcut hcl hal hal2 hct hlt hld hcd hy1 hy2 h4
  generalize v.take k ++ altL (yn : Int) xn m ++ v.drop (k + m) = y2 at *
  generalize v.take k ++ altL (yn : Int) xn m = y1 at *
  generalize altL (xn : Int) (yn : Int) m = al at *
  generalize altL (yn : Int) (xn : Int) m = al2 at *
  generalize v.drop (k + m) = z2 at *
  generalize v.take k = z1 at *
  by_cases hcc : cp = k + m
  · have ho2' : o2 = o := by rw [ho2, if_pos hcc]
    rw [ho2'] at kC2
    clear ho2 ho2'
    have Hcc := Lib.hid hcc
    rw [hcc] at kC1
    rw [hcc, Nat.sub_self] at kC2
    clear hcc
    go_enter Tryz.func114, Tryz.ntmps114
    go_wp2_with fail
    go_quiet ((first | (go_at_call 47; first | with_reducible exact Calls.quiet_of (hIW.out _ ⟨_, rfl⟩) | with_reducible exact Reads.quiet4 (hIW.out _ ⟨_, rfl⟩)) | (go_at_call 78; first | with_reducible exact Calls.quiet_of (hL.out _) | with_reducible exact Reads.quiet4 (hL.out _))))
    go_wp2_with fail
    go_quiet ((go_at_call 147; first | with_reducible exact Calls.quiet_of (hB.out _ ⟨_, rfl⟩) | with_reducible exact Reads.quiet4 (hB.out _ ⟨_, rfl⟩)))
    go_wp2_with fail
    go_region_held3 (fun W => W.cell? ⟨g, o + k, none⟩ = some (.int .i64 xn) ∧ W.cell? ⟨g, o + (k + 1), none⟩ = some (.int .i64 yn))
      (first | exact ⟨v1, v2⟩ | exact ⟨keepCell hbA v1, keepCell hbA v2⟩ | exact ⟨(cell_still hsE _).trans (keepCell hbA v1), (cell_still hsE _).trans (keepCell hbA v2)⟩)
      (first
        | (go_at_call 148; refine (kA.out _).mono ?_; rintro e wA ⟨gA, cA, rfl, hoA, hbA⟩; rw [Hal.out])
        | (go_at_call 38; rw [hkm.out]; refine (kE.out _ _ gA cA (hX.out _ _ hbA) hoA).mono ?_; rintro e wE ⟨rfl, hsE⟩))
    have hbE := below_still (hX.out _ _ hbA) hsE
    have x1 := (cell_still hsE ⟨g, o + k, none⟩).trans (keepCell hbA (show World.cell? (w.drewN _) _ = _ from v1))
    have x2 := (cell_still hsE ⟨g, o + (k + 1), none⟩).trans (keepCell hbA (show World.cell? (w.drewN _) _ = _ from v2))
    have hY := Lib.hid (fun (W : World) (h : Below (wE.drew).heap.size wE.drew W) => (Below.drew hbE).trans (h.mono (show w.heap.size ≤ (wE.drew).heap.size from hbE.size)))
    have hYs := Lib.hid (show w.heap.size ≤ (wE.drew).heap.size from hbE.size)
    clear hbA hsE hoA v1 v2 kE kA
    have hcc := Hcc.out
    go_wp2_with fail
    go_region_held3 (fun W => W.cell? ⟨g, o + k, none⟩ = some (.int .i64 xn) ∧ W.cell? ⟨g, o + (k + 1), none⟩ = some (.int .i64 yn))
      (first | exact ⟨x1, x2⟩ | exact ⟨keepCell hbB x1, keepCell hbB x2⟩ | exact ⟨keepCell hbC (keepCell hbB x1), keepCell hbC (keepCell hbB x2)⟩ | exact ⟨keepCell hbD (keepCell hbC (keepCell hbB x1)), keepCell hbD (keepCell hbC (keepCell hbB x2))⟩)
      (first
        | (go_at_call 148; refine (kA2.out _).mono ?_; rintro e wB ⟨gB, cB, rfl, hoB, hbB⟩; rw [Hal2.out])
        | (go_at_call_of 115 (Value.slice (some ⟨g, o, none⟩) k (((k : Int) + (m : Int)).toNat)); rw [hkm2.out]; refine (kC1.out wB _ gB cB (hY.out _ hbB) hoB).mono ?_; rintro e wC ⟨gC, cC, rfl, hoC, hbC⟩; rw [Hy1.out])
        | (go_at_call 115; rw [hkm2.out]; refine (kC2.out wC _ gC cC ((hY.out _ hbB).trans (hbC.mono (hY.out _ hbB).size)) hoC).mono ?_; rintro e wD ⟨gD, cD, rfl, hoD, hbD⟩; rw [Hy2.out]))
    have hb1 := hY.out _ hbB
    have hb2 := hb1.trans (hbC.mono hb1.size)
    have hb3 := hb2.trans (hbD.mono hb2.size)
    have hoF := hoD.mono hb2.size
    have hyF : Hid (y2.length = v.length) := Hy2
    clear hbB hbC hbD hoB hoC hoD hb1 hb2 x1 x2
    go_wp2_with fail
    go_ret2
    exact GotIntsB.mk' gD cD hyF.out hoF hb3
  have ho2' : o2 = o + (k + m) := by rw [ho2, if_neg hcc]
  subst ho2'
  have c4 : ¬ (cp : Int) = (k : Int) + (m : Int) := by omega
  clear ho2
  go_enter Tryz.func114, Tryz.ntmps114
  go_wp2_with fail
  go_quiet ((first | (go_at_call 47; first | with_reducible exact Calls.quiet_of (hIW.out _ ⟨_, rfl⟩) | with_reducible exact Reads.quiet4 (hIW.out _ ⟨_, rfl⟩)) | (go_at_call 78; first | with_reducible exact Calls.quiet_of (hL.out _) | with_reducible exact Reads.quiet4 (hL.out _))))
  go_wp2_with fail
  go_quiet ((go_at_call 147; first | with_reducible exact Calls.quiet_of (hB.out _ ⟨_, rfl⟩) | with_reducible exact Reads.quiet4 (hB.out _ ⟨_, rfl⟩)))
  go_wp2_with fail
  go_region_held3 (fun W => W.cell? ⟨g, o + k, none⟩ = some (.int .i64 xn) ∧ W.cell? ⟨g, o + (k + 1), none⟩ = some (.int .i64 yn))
    (first | exact ⟨v1, v2⟩ | exact ⟨keepCell hbA v1, keepCell hbA v2⟩ | exact ⟨(cell_still hsE _).trans (keepCell hbA v1), (cell_still hsE _).trans (keepCell hbA v2)⟩)
    (first
      | (go_at_call 148; refine (kA.out _).mono ?_; rintro e wA ⟨gA, cA, rfl, hoA, hbA⟩; rw [Hal.out])
      | (go_at_call 38; rw [hkm.out]; refine (kE.out _ _ gA cA (hX.out _ _ hbA) hoA).mono ?_; rintro e wE ⟨rfl, hsE⟩))
  have hbE := below_still (hX.out _ _ hbA) hsE
  have x1 := (cell_still hsE ⟨g, o + k, none⟩).trans (keepCell hbA (show World.cell? (w.drewN _) _ = _ from v1))
  have x2 := (cell_still hsE ⟨g, o + (k + 1), none⟩).trans (keepCell hbA (show World.cell? (w.drewN _) _ = _ from v2))
  have hY := Lib.hid (fun (W : World) (h : Below (wE.drew).heap.size wE.drew W) => (Below.drew hbE).trans (h.mono (show w.heap.size ≤ (wE.drew).heap.size from hbE.size)))
  have hYs := Lib.hid (show w.heap.size ≤ (wE.drew).heap.size from hbE.size)
  clear hbA hsE hoA v1 v2 kE kA
  go_wp2_with fail
  go_region_held3 (fun W => W.cell? ⟨g, o + k, none⟩ = some (.int .i64 xn) ∧ W.cell? ⟨g, o + (k + 1), none⟩ = some (.int .i64 yn))
    (first | exact ⟨x1, x2⟩ | exact ⟨keepCell hbB x1, keepCell hbB x2⟩ | exact ⟨keepCell hbC (keepCell hbB x1), keepCell hbC (keepCell hbB x2)⟩ | exact ⟨keepCell hbD (keepCell hbC (keepCell hbB x1)), keepCell hbD (keepCell hbC (keepCell hbB x2))⟩)
    (first
      | (go_at_call 148; refine (kA2.out _).mono ?_; rintro e wB ⟨gB, cB, rfl, hoB, hbB⟩; rw [Hal2.out])
      | (go_at_call_of 115 (Value.slice (some ⟨g, o, none⟩) k cp); refine (kC1.out wB _ gB cB (hY.out _ hbB) hoB).mono ?_; rintro e wC ⟨gC, cC, rfl, hoC, hbC⟩; rw [Hy1.out])
      | (go_at_call 115; rw [hkm2.out]; refine (kC2.out wC _ gC cC ((hY.out _ hbB).trans (hbC.mono (hY.out _ hbB).size)) hoC).mono ?_; rintro e wD ⟨gD, cD, rfl, hoD, hbD⟩; rw [Hy2.out]))
  have hb1 := hY.out _ hbB
  have hb2 := hb1.trans (hbC.mono hb1.size)
  have hb3 := hb2.trans (hbD.mono hb2.size)
  have hoF := hoD.mono hb2.size
  have hyF : Hid (y2.length = v.length) := Hy2
  clear hbB hbC hbD hoB hoC hoD hb1 hb2 x1 x2
  go_wp2_with fail
  go_ret2
  exact GotIntsB.mk' gD cD hyF.out hoF hb3
end Go.Proofs.YtkjglfafphffiaaGreatDoor
