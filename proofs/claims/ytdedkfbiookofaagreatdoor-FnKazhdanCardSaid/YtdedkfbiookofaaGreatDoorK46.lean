/- The program's weakBelow at two words that hold no letter: slices.Concat gives no slice there. Contract. The program's KLPolynomial, MuOf, IsRationallySmooth at any words: contracts. BettiOf of both: contracts. The program's MuOf, KLRow, IsRationallySmooth: contracts. -/
import Derived.Test.YtdedkfbiookofaaGreatDoorK41
import Derived.Test.YtdedkfbiookofaaGreatDoorK45
import Derived.Deep.DrawnRows
import Derived.Test.YtdedkfbiookofaaGreatDoorK34
import Derived.Test.YtdedkfbiookofaaGreatDoorK35
import Derived.Deep.RegionHeld3
import Derived.Test.YtdedkfbiookofaaGreatDoorK14
import Derived.Test.YtdedkfbiookofaaGreatDoorK02
namespace Go.Proofs.YtdedkfbiookofaaGreatDoor
set_option maxRecDepth 100000
open Go.RowKit Game
set_option maxHeartbeats 1000000 in
theorem impl_acted_none (cv : Value) (g2 o2 n2 c2 : Nat) (v : List Int) (w : World) (hn2 : v.length = n2) (hv : v.length ≤ 4) (hg2 : g2 < w.heap.size) (hc2 : Cells w g2 o2 v) :
    Calls Tryz.prog 140 #[cv, .slice none 0 0, (Value.slice (some ⟨g2, o2, none⟩) n2 c2)] w (GotInts w v) := by
  subst hn2
  have Hv := Lib.hid hv; clear hv
  have hv4 := Hv.out
  go_enter Tryz.func140, Tryz.ntmps140
  go_wp2_with (at_builtin; refine wpList_clone rfl _ _ rfl g2 o2 _ c2 v rfl hg2 hc2 rfl rfl (by omega) ?_)
  intro gv cv1 w1 ho1 hb1
  go_wp2
  go_loopw [8] (fun i wr => i = .int .i64 (-1) ∧ wr = w1) (fun _ _ => 0)
  case atStart => exact ⟨rfl, rfl⟩
  case round =>
    obtain ⟨rfl, rfl⟩ := hrel
    go_wp2
    go_ret
    exact ⟨gv, cv1, rfl, ho1, hb1⟩
set_option maxHeartbeats 1000000 in
theorem impl_image_none (gc oc n cc : Nat) (c : List (List Int)) (w : World) (hn : c.length = n) (hn4 : n ≤ 4) :
    Calls Tryz.prog 112 #[(Value.slice (some ⟨gc, oc, none⟩) n cc), .slice none 0 0] w (GotInts w (onesL c.length)) := by
  subst hn
  go_enter Tryz.func112, Tryz.ntmps112
  go_wp2_with fail
  refine (impl_ones_any c.length w (by omega)).mono ?_
  rintro e w1 ⟨g2, c2, rfl, ho2, hb2⟩
  have hol : (onesL c.length).length = c.length := by simp [onesL]
  rw [hol]
  go_wp2_with fail
  refine (impl_acted_none _ g2 0 _ c2 (onesL c.length) w1 hol (by omega) ho2.lt ho2.cells).mono ?_
  rintro e w3 ⟨g3, c3, rfl, ho3, hb3⟩
  go_wp2_with fail
  go_ret
  exact GotInts.mk' g3 c3 hol (ho3.mono hb2.size) (hb2.trans (hb3.mono hb2.size))
theorem lets_none {c : List (List Int)} (hC : IsC c) : Lets c 30 [] := ⟨hC, by simp, by simp⟩
end Go.Proofs.YtdedkfbiookofaaGreatDoor
namespace Go.Proofs.YtdedkfbiookofaaGreatDoor
set_option maxRecDepth 100000
open Go.RowKit Game
attribute [local go_sem ↓] Go.wp_at_zero Go.wp_at_succ
set_option maxHeartbeats 1000000 in
theorem impl_reduced_none (gc oc n cc : Nat) (c : List (List Int)) (w : World) (hn : c.length = n) (hC : IsC c) (hgc : gc < w.heap.size) (hr : Rows2 w gc oc c) :
    Calls Tryz.prog 91 #[(Value.slice (some ⟨gc, oc, none⟩) n cc), .slice none 0 0] w (GotInts w (nfI c [])) := by
  have hn4 := hC.2.1
  have k1 := Lib.hid (impl_image_none gc oc n cc c w hn (by omega))
  have k2 := Lib.hid (fun (W : World) (B g2 c2 : Nat) (hb : Below w.heap.size w W) (ho : Own W B g2 c2 (onesL c.length)) => impl_normal_any gc oc n cc g2 0 c.length c2 30 c (onesL c.length) (nfI c []) W hn (by simp [onesL]) hC (by simp [onesL]) (by omega) (nfI_ok (lets_none hC)).norm (Nat.lt_of_lt_of_le hgc hb.size) ho.lt (hr.below hb hgc) ho.cells)
  have Hl := Lib.hid (show (onesL c.length).length = c.length by simp [onesL])
  clear hr hn
  generalize nfI c [] = y at *
  go_enter Tryz.func91, Tryz.ntmps91
  go_wp2_with fail
  refine k1.out.mono ?_
  rintro e w1 ⟨g1, c1, rfl, ho1, hb1⟩
  rw [Hl.out]
  go_wp2_with fail
  refine (k2.out w1 _ g1 c1 hb1 ho1).mono ?_
  rintro e w2 ⟨g2, c2, rfl, ho2, hb2⟩
  go_wp2_with fail
  go_ret
  exact ⟨g2, c2, rfl, ho2.mono hb1.size, hb1.trans (hb2.mono hb1.size)⟩
set_option maxHeartbeats 1000000 in
theorem impl_isWordOf_none (cv : Value) (w : World) : Calls Tryz.prog 90 #[cv, .slice none 0 0] w (Reads w (.bool true)) := by
  go_enter Tryz.func90, Tryz.ntmps90
  go_wp2_with fail
  go_loopw [9] (fun i wr => i = .int .i64 0 ∧ wr = w) (fun _ _ => 0)
  case atStart => exact ⟨rfl, rfl⟩
  case round =>
    obtain ⟨rfl, rfl⟩ := hrel
    go_wp2
    go_ret
    exact ⟨rfl, 0, rfl⟩
set_option maxHeartbeats 1000000 in
theorem impl_IsWord_none (gc oc n cc : Nat) (c : List (List Int)) (w : World) (hn : c.length = n) (hx : c.length ≤ 1048576) (hrl : ∀ j, j < c.length → (c.getD j []).length ≤ 1048576) (hr : Rows2 w gc oc c) :
    Calls Tryz.prog 44 #[(Value.slice (some ⟨gc, oc, none⟩) n cc), .slice none 0 0] w (Reads w (.bool (isWordB c []))) := by
  have hcall := impl_IsCartan gc oc n cc c w hn (by omega) (fun j hj => by have := hrl j hj; omega) hr
  have hv : isWordB c [] = decide (IsC c) := by unfold isWordB; simp [lettersB]
  rw [hv]
  have Hcall := Lib.hid hcall
  clear hcall hr hrl hv
  generalize decide (IsC c) = b at *
  cases b
  · go_enter Tryz.func44, Tryz.ntmps44
    go_wp2_with fail
    refine Hcall.out.mono ?_
    rintro e w2 ⟨rfl, hs2⟩
    go_wp2_with fail
    go_ret
    exact ⟨rfl, hs2⟩
  · go_enter Tryz.func44, Tryz.ntmps44
    go_wp2_with fail
    refine Hcall.out.mono ?_
    rintro e w2 ⟨rfl, hs2⟩
    go_wp2_with fail
    refine (impl_isWordOf_none _ w2).mono ?_
    rintro e w3 ⟨rfl, hs3⟩
    have hs := still_trans hs2 hs3
    go_wp2_with fail
    go_ret
    exact ⟨rfl, hs⟩
set_option maxRecDepth 100000 in
set_option maxHeartbeats 4000000 in
theorem impl_pair_gen (k N gl cl gt ct gp cp b : Nat) (L T : List (List Int)) (P : List (List (List Int))) (vc vu vv : Value) (U V : List Int) (w : World)
    (hU : ∀ W, Below w.heap.size w W → Calls Tryz.prog 91 #[vc, vu] W (GotInts W U)) (hV : ∀ W, Below w.heap.size w W → Calls Tryz.prog 91 #[vc, vv] W (GotInts W V))
    (hLU : LetW U) (hLV : LetW V) (hmU : U ∈ L) (hmV : V ∈ L) (hK : KzR w k N gl cl gt ct gp cp b L T P) :
    Calls Tryz.prog 45 #[.pointer (some ⟨k, 0, none⟩), vc, vu, vv] w (Gives w (.tuple #[.int .i64 (idxL L U), .int .i64 (idxL L V)])) := by
  have kU := Lib.hid hU
  have kV := Lib.hid hV
  have hfU := hLU.few; have hfV := hLV.few
  obtain ⟨mU, hmlU⟩ : ∃ m, U.length = m := ⟨_, rfl⟩
  obtain ⟨mV, hmlV⟩ : ∃ m, V.length = m := ⟨_, rfl⟩
  have FU := Lib.hid (fun (W : World) (B g cp : Nat) (ho : Own W B g cp U) => impl_FormatWord_any g 0 mU cp U W hmlU (by omega) ho.lt ho.cells)
  have FV := Lib.hid (fun (W : World) (B g cp : Nat) (ho : Own W B g cp V) => impl_FormatWord_any g 0 mV cp V W hmlV (by omega) ho.lt ho.cells)
  have HmU := Lib.hid hmlU; have HmV := Lib.hid hmlV
  have hM := hK.hA
  have hb : Below w.heap.size w w.drew := Below.drew (Below.refl _ _)
  have p2 := hK.places
  have hkl := hK.F.lt
  have HK := Lib.hid (fun (W : World) (hb : Below w.heap.size w W) => (⟨(hb.cell (p := ⟨k, 2, none⟩) hkl).trans p2, (hM.below hb hM.lt).run hLU hmU, (hM.below hb hM.lt).run hLV hmV⟩ : W.cell? ⟨k, 2, none⟩ = some (.map (some b)) ∧ (Instr.lookup 59 (.map (some b)) (.string ⟨(wordL U).toArray⟩) false).run Tryz.prog W = .ok (.int .i64 (idxL L U)) W ∧ (Instr.lookup 59 (.map (some b)) (.string ⟨(wordL V).toArray⟩) false).run Tryz.prog W = .ok (.int .i64 (idxL L V)) W))
  clear hK hU hV hmlU hmlV hfU hfV p2 hM hkl hmU hmV hLU hLV
  generalize (⟨(wordL U).toArray⟩ : ByteArray) = sU at *
  generalize (⟨(wordL V).toArray⟩ : ByteArray) = sV at *
  generalize idxL L U = iU at *
  generalize idxL L V = iV at *
  go_enter Tryz.func45, Tryz.ntmps45
  go_wp2_with fail
  go_region_held3 (fun W => W.cell? ⟨k, 2, none⟩ = some (.map (some b)) ∧ (Instr.lookup 59 (.map (some b)) (.string sU) false).run Tryz.prog W = .ok (.int .i64 iU) W ∧ (Instr.lookup 59 (.map (some b)) (.string sV) false).run Tryz.prog W = .ok (.int .i64 iV) W)
    (with_reducible exact HK.out _ hb)
    (first
      | (go_at_call 91; first
          | ((with_reducible refine (kU.out _ hb).mono ?_); rintro e wX ⟨gU, cU, rfl, hoU, hbX⟩; rw [HmU.out]; (try have hoV := hoV.below hbX hoV.lt); have hb := hb.trans (hbX.mono hb.size))
          | ((with_reducible refine (kV.out _ hb).mono ?_); rintro e wX ⟨gV, cV, rfl, hoV, hbX⟩; rw [HmV.out]; (try have hoU := hoU.below hbX hoU.lt); have hb := hb.trans (hbX.mono hb.size)))
      | (go_at_call 75; first
          | ((with_reducible refine (FU.out _ _ _ _ hoU).mono ?_); rintro e wX ⟨rfl, hbX⟩; (try have hoV := hoV.below hbX hoV.lt); have hb := hb.trans (hbX.mono hb.size))
          | ((with_reducible refine (FV.out _ _ _ _ hoV).mono ?_); rintro e wX ⟨rfl, hbX⟩; (try have hoU := hoU.below hbX hoU.lt); have hb := hb.trans (hbX.mono hb.size))))
  all_goals (go_wp2_with fail)
  all_goals go_ret2
  all_goals exact ⟨rfl, hb⟩
/-- a word that comes in, told by what IsWord and reduced say of it -/
structure WordV (w : World) (c : List (List Int)) (vc vu : Value) (a : List Int) : Prop where
  is : ∀ W, Below w.heap.size w W → Calls Tryz.prog 44 #[vc, vu] W (Reads W (.bool (isWordB c a)))
  red : WordOk c a → ∀ W, Below w.heap.size w W → Calls Tryz.prog 91 #[vc, vu] W (GotInts W (nfI c a))
theorem WordV.of {w : World} {gc oc n cc g o m cp : Nat} {c : List (List Int)} {a : List Int} (hn : c.length = n) (hm : a.length = m) (hx : c.length ≤ 1048576) (hrl : ∀ j, j < c.length → (c.getD j []).length ≤ 1048576) (hl : a.length ≤ 1048576) (hgc : gc < w.heap.size) (hg : g < w.heap.size) (hr : Rows2 w gc oc c) (hc : Cells w g o a) :
    WordV w c (Value.slice (some ⟨gc, oc, none⟩) n cc) (Value.slice (some ⟨g, o, none⟩) m cp) a where
  is := fun W hb => impl_IsWord_any gc oc n cc g o m cp c a W hn hm hx hrl hl (hr.below hb hgc) (hc.below hb hg)
  red := fun hA W hb => impl_reduced_any gc oc n cc g o m cp c a W hn hm (hA.lets.mono (show 15 ≤ 30 by omega)) (Nat.lt_of_lt_of_le hgc hb.size) (Nat.lt_of_lt_of_le hg hb.size) (hr.below hb hgc) (hc.below hb hg)
theorem WordV.none {w : World} {gc oc n cc : Nat} {c : List (List Int)} (hn : c.length = n) (hx : c.length ≤ 1048576) (hrl : ∀ j, j < c.length → (c.getD j []).length ≤ 1048576) (hgc : gc < w.heap.size) (hr : Rows2 w gc oc c) :
    WordV w c (Value.slice (some ⟨gc, oc, none⟩) n cc) (.slice none 0 0) [] where
  is := fun W hb => impl_IsWord_none gc oc n cc c W hn hx hrl (hr.below hb hgc)
  red := fun hA W hb => impl_reduced_none gc oc n cc c W hn hA.isC (Nat.lt_of_lt_of_le hgc hb.size) (hr.below hb hgc)
set_option maxRecDepth 100000 in
set_option maxHeartbeats 2000000 in
theorem impl_KLPolynomial_gen (gc oc n cc : Nat) (vu vv : Value) (c : List (List Int)) (a b : List Int) (w : World) (hn : c.length = n) (hx : c.length ≤ 1048576) (hrl : ∀ j, j < c.length → (c.getD j []).length ≤ 1048576) (hgc : gc < w.heap.size) (hr : Rows2 w gc oc c) (hu : WordV w c (Value.slice (some ⟨gc, oc, none⟩) n cc) vu a) (hv : WordV w c (Value.slice (some ⟨gc, oc, none⟩) n cc) vv b) (hm : MaxL w) :
    Calls Tryz.prog 7 #[(Value.slice (some ⟨gc, oc, none⟩) n cc), vu, vv] w (GotIntsB w (kpL c a b) (kpB c a b)) := by
  cases hk : klB c with
  | false =>
    have hkp : kpB c a b = false := by unfold kpB krB; rw [hk]; rfl
    rw [hkp, show kpL c a b = [] from if_neg (by rw [hkp]; decide)]
    have Hc := Lib.hid (impl_newKazhdan_no gc oc n cc c w hn hx hrl hk hgc hr hm)
    clear hr hu hv hk hrl hkp
    go_enter Tryz.func7, Tryz.ntmps7
    go_wp2_with fail
    refine Hc.out.mono ?_
    rintro e w1 ⟨rfl, hb1⟩
    go_wp2_with fail
    go_ret2
    exact ⟨_, 0, rfl, Own.empty hb1.size, hb1.alloc hb1.size _⟩
  | true =>
    have hG := klB_grp hk
    have Hc := Lib.hid (impl_newKazhdan_yes gc oc n cc c w hn hk hgc hr hm)
    have I1 := Lib.hid hu.is
    have I2 := Lib.hid hv.is
    cases hwa : isWordB c a with
    | false =>
      have hkp : kpB c a b = false := by unfold kpB; rw [hwa, Bool.and_false]
      rw [hkp, show kpL c a b = [] from if_neg (by rw [hkp]; decide)]
      rw [hwa] at I1
      unfold GotKz at Hc
      clear hr hu hv hk hrl hkp hG hm I2
      generalize leftT c = T at *
      generalize elemL c = L at *
      generalize tabI L T = P at *
      go_enter Tryz.func7, Tryz.ntmps7
      go_wp2_with fail
      refine Hc.out.mono ?_
      rintro e w1 ⟨k, gl, cl, gt, ct, gp, cp, bm, rfl, -, -, hb1⟩
      go_wp2_with fail
      refine (I1.out w1 hb1).mono ?_
      rintro e w2 ⟨rfl, hs2⟩
      have hB2 := below_still hb1 hs2
      go_wp2_with fail
      go_ret2
      exact ⟨_, 0, rfl, Own.empty hB2.size, hB2.alloc hB2.size _⟩
    | true =>
    cases hwb : isWordB c b with
    | false =>
      have hkp : kpB c a b = false := by unfold kpB krB; rw [hwb, Bool.and_false]; rfl
      rw [hkp, show kpL c a b = [] from if_neg (by rw [hkp]; decide)]
      rw [hwa] at I1
      rw [hwb] at I2
      unfold GotKz at Hc
      clear hr hu hv hk hrl hkp hG hm
      generalize leftT c = T at *
      generalize elemL c = L at *
      generalize tabI L T = P at *
      go_enter Tryz.func7, Tryz.ntmps7
      go_wp2_with fail
      refine Hc.out.mono ?_
      rintro e w1 ⟨k, gl, cl, gt, ct, gp, cp, bm, rfl, -, -, hb1⟩
      go_wp2_with fail
      refine (I1.out w1 hb1).mono ?_
      rintro e w2 ⟨rfl, hs2⟩
      have hB2 := below_still hb1 hs2
      go_wp2_with fail
      refine (I2.out w2 hB2).mono ?_
      rintro e w3 ⟨rfl, hs3⟩
      have hB3 := below_still hB2 hs3
      go_wp2_with fail
      go_ret2
      exact ⟨_, 0, rfl, Own.empty hB3.size, hB3.alloc hB3.size _⟩
    | true =>
    have hkp : kpB c a b = true := by unfold kpB krB; rw [hk, hwa, hwb]; rfl
    have hA := wordOk_of hwa
    have hB := wordOk_of hwb
    rw [hwa] at I1
    rw [hwb] at I2
    rw [hkp, show kpL c a b = klP c a b from if_pos hkp]
    obtain ⟨hiA, hltA⟩ := ixK_at hG hA
    obtain ⟨hiB, hltB⟩ := ixK_at hG hB
    have KP := Lib.hid (fun (W : World) (hb : Below w.heap.size w W) (k gl cl gt ct gp cp bm : Nat) (hK : KzR W k (elemL c).length gl cl gt ct gp cp bm (elemL c) (leftT c) (tabI (elemL c) (leftT c))) => by
      have := impl_pair_gen k (elemL c).length gl cl gt ct gp cp bm (elemL c) (leftT c) (tabI (elemL c) (leftT c)) (Value.slice (some ⟨gc, oc, none⟩) n cc) vu vv (nfI c a) (nfI c b) W (fun W2 h2 => hu.red hA W2 (hb.trans (h2.mono hb.size))) (fun W2 h2 => hv.red hB W2 (hb.trans (h2.mono hb.size))) (let_nf hG hA) (let_nf hG hB) (nf_mem hG (hA.lets.mono (show 15 ≤ 30 by omega))) (nf_mem hG (hB.lets.mono (show 15 ≤ 30 by omega))) hK
      rw [hiA, hiB] at this
      exact this)
    have htab := klP_tab hk hA hB
    have hlen := by
      have H := klOk_of hk
      have h1 := klRows_len H (ixK c b) hltB (ixK c b) (ixK c a)
      have h2 := H.few
      have h3 : (klP c a b).length ≤ 1000 := by
        rw [show klP c a b = (klRow c b).getD (ixK c a) [] from if_pos hk]
        unfold pol at h1
        unfold klRow
        omega
      exact h3
    rw [htab] at hlen ⊢
    clear htab hr hu hv hA hB hrl hk hiA hiB hG hm hwa hwb hkp
    generalize ixK c a = iA at *
    generalize ixK c b = iB at *
    unfold GotKz at Hc
    generalize leftT c = T at *
    generalize elemL c = L at *
    generalize tabI L T = P at *
    generalize L.length = N at *
    obtain ⟨m, hm⟩ : ∃ m, (pol P iA iB).length = m := ⟨_, rfl⟩
    rw [hm] at hlen
    have HL := Lib.hid hm
    have KC := Lib.hid (fun (W : World) (g cp : Nat) (hg : g < W.heap.size) (hc : Cells W g 0 (pol P iA iB)) => clone_intsK g 0 m cp (pol P iA iB) W HL.out (by omega) hg hc)
    clear hm
    go_enter Tryz.func7, Tryz.ntmps7
    go_wp2_with fail
    refine Hc.out.mono ?_
    rintro e w1 ⟨k, gl, cl, gt, ct, gp, cp, bm, rfl, hk, hK, hb1⟩
    go_wp2_with fail
    refine (I1.out w1 hb1).mono ?_
    rintro e w2 ⟨rfl, hs2⟩
    have hb2 := below_still (Below.refl w1.heap.size w1) hs2
    have hB2 := hb1.trans (hb2.mono hb1.size)
    have hK2 := hK.below hb2
    go_wp2_with fail
    refine (I2.out w2 hB2).mono ?_
    rintro e w3 ⟨rfl, hs3⟩
    have hb3 := below_still (Below.refl w2.heap.size w2) hs3
    have hB3 := hB2.trans (hb3.mono hB2.size)
    have hK3 := hK2.below hb3
    clear hK hK2 hb1 hB2 hs2 hs3 hb2 hb3
    go_wp2_with fail
    refine (KP.out w3 hB3 k gl cl gt ct gp cp bm hK3).mono ?_
    rintro e w4 ⟨rfl, hb4⟩
    have hB4 := hB3.trans (hb4.mono hB3.size)
    have hK4 := hK3.below hb4
    have f3 := hK4.F.f3
    obtain ⟨gi, ci, g5, c5, p1, p2, p3, p4, p5, p6⟩ := hK4.hP iA iB hltA hltB
    rw [HL.out] at p2
    have hI1 : (iA : Int) < (N : Int) := by omega
    have hI2 : (iB : Int) < (N : Int) := by omega
    clear hK3 hK4 hb4 hB3
    go_wp2_with fail
    refine (KC.out w4 g5 c5 p5 p6).mono ?_
    rintro e w5 ⟨gZ, cZ, rfl, hoZ, hb5⟩
    go_wp2_with fail
    go_ret2
    exact GotIntsB.mk' gZ cZ rfl (hoZ.mono hB4.size) (hB4.trans (hb5.mono hB4.size))
end Go.Proofs.YtdedkfbiookofaaGreatDoor
namespace Go.Proofs.YtdedkfbiookofaaGreatDoor
set_option maxRecDepth 100000
open Go.RowKit Game
attribute [local go_sem ↓] Go.wp_at_zero Go.wp_at_succ
theorem klRow_rows {c : List (List Int)} {b : List Int} (hk : klB c = true) (hB : WordOk c b) : klRow c b = (rowsS (elemL c) (leftT c)).getD (ixK c b) [] := by
  have hG := klB_grp hk
  have hb := (ixK_at hG hB).2
  unfold rowsS klRow
  obtain ⟨d, hd⟩ : ∃ d, (elemL c).length - 1 = ixK c b + d := ⟨(elemL c).length - 1 - ixK c b, by omega⟩
  rw [hd, rowsTo_pre (Nat.le_refl _)]
/-- the sum of the first polynomials of a row, shifted -/
def btTo (L row : List (List Int)) (t : Nat) : List Int := (List.range t).foldl (fun s u => addP s (shS (row.getD u []) (lenA L u))) []
theorem btTo_succ (L row : List (List Int)) (t : Nat) : btTo L row (t + 1) = addP (btTo L row t) (shS (row.getD t []) (lenA L t)) := by
  unfold btTo; rw [List.range_succ, List.foldl_append]; rfl
theorem btTo_len {L row : List (List Int)} (h1 : ∀ u, lenA L u ≤ 24) (h2 : ∀ u, (row.getD u []).length ≤ 1000) : ∀ t, (btTo L row t).length ≤ 1100
  | 0 => by simp [btTo]
  | t + 1 => by
    rw [btTo_succ]
    have ih := btTo_len h1 h2 t
    have q1 := addP_le (btTo L row t) (shS (row.getD t []) (lenA L t))
    have q2 := shS_le (row.getD t []) (lenA L t)
    have q3 := h1 t
    have q4 := h2 t
    omega
def btL (c : List (List Int)) (v : List Int) : List Int := if krB c v = true then btTo (elemL c) (klRow c v) (elemL c).length else []
theorem row_few {c : List (List Int)} {b : List Int} (hk : klB c = true) (hB : WordOk c b) (u : Nat) : ((klRow c b).getD u []).length ≤ 1000 := by
  have H := klOk_of hk
  have hG := klB_grp hk
  have q1 := (ixK_at hG hB).2
  have q2 := klRows_len H (ixK c b) q1 (ixK c b) u
  have q3 := H.few
  unfold pol at q2
  unfold klRow
  omega
theorem klRow_length {c : List (List Int)} {b : List Int} : (klRow c b).length = (elemL c).length := rowsTo_row _ _ (Nat.le_refl _)
set_option maxHeartbeats 1000000 in
theorem spec_BettiOf_any (gc oc n cc g2 o2 n2 c2 : Nat) (c : List (List Int)) (v : List Int) (w : World) (hn : c.length = n) (hn2 : v.length = n2) (hx : c.length ≤ 1048576) (hrl : ∀ j, j < c.length → (c.getD j []).length ≤ 1048576) (hl : v.length ≤ 1048576) (hgc : gc < w.heap.size) (hg2 : g2 < w.heap.size) (hr : Rows2 w gc oc c) (hv : Cells w g2 o2 v) :
    Calls Tryz.prog 31 #[(Value.slice (some ⟨gc, oc, none⟩) n cc), (Value.slice (some ⟨g2, o2, none⟩) n2 c2)] w (GotInts w (btL c v)) := by
  have HR := Lib.hid (spec_KLRow_any gc oc n cc g2 o2 n2 c2 c v w hn hn2 hx hrl hl hgc hg2 hr hv)
  cases hk : krB c v with
  | false =>
    rw [show btL c v = [] from if_neg (by rw [hk]; decide)]
    rw [hk] at HR
    clear hr hv hrl hk
    generalize krL c v = row at *
    go_enter Tryz.func31, Tryz.ntmps31
    go_wp2_with fail
    refine HR.out.mono ?_
    rintro e w1 ⟨g3, c3, rfl, -, -, hb1⟩
    go_wp2_with fail
    go_ret
    exact ⟨_, 0, rfl, Own.empty hb1.size, hb1.alloc hb1.size _⟩
  | true =>
    obtain ⟨h1, h2⟩ := krB_yes hk
    rw [show btL c v = btTo (elemL c) (klRow c v) (elemL c).length from if_pos hk]
    rw [hk, show krL c v = klRow c v from if_pos hk] at HR
    have hc := fun (W : World) (hb : Below w.heap.size w W) => spec_l23Ready_any gc oc n cc c W hn hx hrl (Nat.lt_of_lt_of_le hgc hb.size) (hr.below hb hgc)
    rw [h1, show klL c = elemL c from if_pos h1] at hc
    have Hc := Lib.hid hc
    have H := klOk_of h1
    have hrow := row_few h1 h2
    have hsh := H.short
    have hN24 := H.few
    have hrl2 := klRow_length (c := c) (b := v)
    have hbt := btTo_len hsh hrow
    clear hr hv hc hrl hk h1 h2 H
    generalize klRow c v = row at *
    generalize elemL c = L at *
    obtain ⟨N, hN⟩ : ∃ N, L.length = N := ⟨_, rfl⟩
    rw [hN] at hrl2 hN24 ⊢
    have HN := Lib.hid hN; have Hrl := Lib.hid hrl2; have Hrow := Lib.hid hrow; have Hsh := Lib.hid hsh; have Hbt := Lib.hid hbt
    have Hsu := Lib.hid (btTo_succ L row)
    have Hz : Hid (btTo L row 0 = []) := Lib.hid rfl
    clear hN hrl2 hrow hsh hbt
    go_enter Tryz.func31, Tryz.ntmps31
    go_wp2_with fail
    refine HR.out.mono ?_
    rintro e w1 ⟨g3, c3, rfl, hg3, hR1, hb1⟩
    rw [Hrl.out]
    go_wp2_with fail
    refine (Hc.out w1 hb1).mono ?_
    rintro e w2 ⟨g4, c4, rs4, rfl, hcr, hO4, hb2⟩
    rw [HN.out]
    have hB2 := hb1.trans (hb2.mono hb1.size)
    have hL2 : Rows2 w2 g4 0 L := by rw [← hcr]; exact hO4.rows2
    have hg4 := hO4.1.lt
    have hR2 := hR1.below hb2 hg3
    have hg3' := Nat.lt_of_lt_of_le hg3 hb2.size
    clear hcr hO4 hR1 hg3 hb2 hb1 HR Hc
    obtain ⟨w3, hw3⟩ : ∃ w3, w3 = w2.alloc (.cells #[] 3) := ⟨_, rfl⟩
    have ho3 : Own w3 w2.heap.size w2.heap.size 0 (btTo L row 0) := by rw [hw3, Hz.out]; exact Own.empty (Nat.le_refl _)
    have hb3 : Below w2.heap.size w2 w3 := by rw [hw3]; exact (Below.refl _ _).alloc (Nat.le_refl _) _
    go_wp2_with fail
    rw [← hw3]
    clear hw3
    generalize hE : w2.heap.size = E at *
    go_loopw [9, 10] (fun pv uv wr => ∃ (u g c : Nat), u ≤ N ∧ uv = .int .i64 (u : Nat) ∧ pv = (Value.slice (some ⟨g, 0, none⟩) ((btTo L row u).length) c) ∧ Own wr E g c (btTo L row u) ∧ Below E w2 wr) (fun _ uv _ => N - (intOf uv).toNat)
    case atStart => exact ⟨0, E, 0, Nat.zero_le _, rfl, rfl, ho3, hb3⟩
    case round =>
      clear ho3 hb3
      obtain ⟨u, g, cp, hu, rfl, rfl, ho, hb⟩ := hrel
      by_cases hlt : u < N
      · have hb' : Below w2.heap.size w2 wr := by rw [hE]; exact hb
        obtain ⟨ga, oa, ca, a1, a2, a3, a4⟩ := (hR2.below hb' (by omega)) u (by rw [Hrl.out]; exact hlt)
        obtain ⟨gb, ob, cb, b1, -, -, -⟩ := (hL2.below hb' (by omega)) u (by rw [HN.out]; exact hlt)
        rw [Nat.zero_add] at a1 b1
        have q1 := Hrow.out u
        have q2 := Hsh.out u
        have q3 := Hbt.out u
        have hsu := Hsu.out u
        have hEs := hb.size
        have hge := ho.base; have hgl := ho.lt; have hgc' := ho.capLe
        change wr.cell? _ = some (Value.slice (some ⟨_, _, none⟩) (lenA L u) _) at b1
        have hCl : ∀ W, Below wr.heap.size wr W → W.cell? ⟨g3, u, none⟩ = some (Value.slice (some ⟨ga, oa, none⟩) ((row.getD u []).length) ca) ∧ W.cell? ⟨g4, u, none⟩ = some (Value.slice (some ⟨gb, ob, none⟩) (lenA L u) cb) := fun W h => ⟨(h.cell (p := ⟨g3, u, none⟩) (by show g3 < wr.heap.size; omega)).trans a1, (h.cell (p := ⟨g4, u, none⟩) (by show g4 < wr.heap.size; omega)).trans b1⟩
        have HCl := Lib.hid hCl
        generalize lenA L u = lu at *
        generalize row.getD u [] = p1 at *
        generalize hnx : btTo L row (u + 1) = nx at *
        have Hnx := Lib.hid hnx
        clear hnx
        generalize btTo L row u = s0 at *
        have K1 := Lib.hid (fun (W : World) (h : Below wr.heap.size wr W) => show Calls Tryz.prog 66 #[(Value.slice (some ⟨ga, oa, none⟩) p1.length ca), .int .i64 (lu : Int)] W (GotInts W (shS p1 lu)) from spec_ShiftPoly_any ga oa p1.length ca lu p1 W rfl (by omega) a2 (by omega) (Nat.lt_of_lt_of_le a3 h.size) (a4.below h a3))
        have K2 := Lib.hid (fun (W : World) (gA cA B : Nat) (h : Below wr.heap.size wr W) (hA : Own W B gA cA (shS p1 lu)) => show Calls Tryz.prog 16 #[(Value.slice (some ⟨g, 0, none⟩) s0.length cp), (Value.slice (some ⟨gA, 0, none⟩) ((shS p1 lu).length) cA)] W (GotInts W (addP s0 (shS p1 lu))) from spec_AddPoly_any g 0 s0.length cp gA 0 (shS p1 lu).length cA s0 (shS p1 lu) W rfl rfl (by omega) (by have := shS_le p1 lu; omega) (Nat.lt_of_lt_of_le hgl h.size) hA.lt (ho.below h hgl).cells hA.cells)
        rw [← hsu] at K2
        generalize shS p1 lu = A at *
        have hd1 : Below wr.heap.size wr wr.drew := Below.drew (Below.refl _ _)
        clear hCl a1 a2 a3 a4 b1 hsu hb' ho
        go_wp2_with fail
        go_region_held3 (fun W => W.cell? ⟨g3, u, none⟩ = some (Value.slice (some ⟨ga, oa, none⟩) p1.length ca) ∧ W.cell? ⟨g4, u, none⟩ = some (Value.slice (some ⟨gb, ob, none⟩) lu cb))
          (first | with_reducible exact HCl.out _ hd1 | with_reducible exact HCl.out _ hXA | with_reducible exact HCl.out _ hXB)
          (first
            | (go_at_call 66; (with_reducible refine (K1.out _ hd1).mono ?_); rintro e wB ⟨gA, cA, rfl, hoA, hbA⟩; have hXA := hd1.trans (hbA.mono hd1.size))
            | (go_at_call 16; (with_reducible refine (K2.out _ gA cA _ hXA hoA).mono ?_); rintro e wC ⟨gB, cB, rfl, hoB, hbB⟩; have hXB := hXA.trans (hbB.mono hXA.size)))
        have hoB' : Own wC E gB cB nx := hoB.mono (by have := hXA.size; omega)
        have hbB' : Below E w2 wC := hb.trans (hXB.mono (by omega))
        clear hoB hbB hXB hXA hoA hbA hb HCl K1 K2
        go_wp2_with fail
        go_roundw
        case rel => exact ⟨u + 1, gB, cB, by omega, by go_num, by rw [Hnx.out], by rw [Hnx.out]; exact hoB', hbB'⟩
        case measure => simp [intOf]; omega
      · obtain rfl : u = N := by omega
        go_wp2_with fail
        go_ret
        exact ⟨g, cp, rfl, ho.mono (by rw [← hE]; exact hB2.size), hB2.trans ((show Below w2.heap.size w2 wr by rw [hE]; exact hb).mono hB2.size)⟩
end Go.Proofs.YtdedkfbiookofaaGreatDoor
namespace Go.Proofs.YtdedkfbiookofaaGreatDoor
set_option maxRecDepth 100000
open Go.RowKit Game
attribute [local go_sem ↓] Go.wp_at_zero Go.wp_at_succ
set_option maxRecDepth 100000 in
set_option maxHeartbeats 2000000 in
theorem impl_MuOf_gen (gc oc n cc : Nat) (vu vv : Value) (c : List (List Int)) (a b : List Int) (w : World) (hn : c.length = n) (hx : c.length ≤ 1048576) (hrl : ∀ j, j < c.length → (c.getD j []).length ≤ 1048576) (hgc : gc < w.heap.size) (hr : Rows2 w gc oc c) (hu : WordV w c (Value.slice (some ⟨gc, oc, none⟩) n cc) vu a) (hv : WordV w c (Value.slice (some ⟨gc, oc, none⟩) n cc) vv b) (hm : MaxL w) :
    Calls Tryz.prog 20 #[(Value.slice (some ⟨gc, oc, none⟩) n cc), vu, vv] w (Gives w (.tuple #[.int .i64 (muL c a b), .bool (kpB c a b)])) := by
  cases hk : klB c with
  | false =>
    have hkp : kpB c a b = false := by unfold kpB krB; rw [hk]; rfl
    rw [hkp, show muL c a b = 0 from if_neg (by rw [hkp]; decide)]
    have Hc := Lib.hid (impl_newKazhdan_no gc oc n cc c w hn hx hrl hk hgc hr hm)
    clear hr hu hv hk hrl hkp
    go_enter Tryz.func20, Tryz.ntmps20
    go_wp2_with fail
    refine Hc.out.mono ?_
    rintro e w1 ⟨rfl, hb1⟩
    go_wp2_with fail
    go_ret2
    exact ⟨rfl, hb1⟩
  | true =>
    have hG := klB_grp hk
    have Hc := Lib.hid (impl_newKazhdan_yes gc oc n cc c w hn hk hgc hr hm)
    have I1 := Lib.hid hu.is
    have I2 := Lib.hid hv.is
    cases hwa : isWordB c a with
    | false =>
      have hkp : kpB c a b = false := by unfold kpB; rw [hwa, Bool.and_false]
      rw [hkp, show muL c a b = 0 from if_neg (by rw [hkp]; decide)]
      rw [hwa] at I1
      unfold GotKz at Hc
      clear hr hu hv hk hrl hkp hG hm I2
      generalize leftT c = T at *
      generalize elemL c = L at *
      generalize tabI L T = P at *
      go_enter Tryz.func20, Tryz.ntmps20
      go_wp2_with fail
      refine Hc.out.mono ?_
      rintro e w1 ⟨k, gl, cl, gt, ct, gp, cp, bm, rfl, -, -, hb1⟩
      go_wp2_with fail
      refine (I1.out w1 hb1).mono ?_
      rintro e w2 ⟨rfl, hs2⟩
      have hB2 := below_still hb1 hs2
      go_wp2_with fail
      go_ret2
      exact ⟨rfl, hB2⟩
    | true =>
    cases hwb : isWordB c b with
    | false =>
      have hkp : kpB c a b = false := by unfold kpB krB; rw [hwb, Bool.and_false]; rfl
      rw [hkp, show muL c a b = 0 from if_neg (by rw [hkp]; decide)]
      rw [hwa] at I1
      rw [hwb] at I2
      unfold GotKz at Hc
      clear hr hu hv hk hrl hkp hG hm
      generalize leftT c = T at *
      generalize elemL c = L at *
      generalize tabI L T = P at *
      go_enter Tryz.func20, Tryz.ntmps20
      go_wp2_with fail
      refine Hc.out.mono ?_
      rintro e w1 ⟨k, gl, cl, gt, ct, gp, cp, bm, rfl, -, -, hb1⟩
      go_wp2_with fail
      refine (I1.out w1 hb1).mono ?_
      rintro e w2 ⟨rfl, hs2⟩
      have hB2 := below_still hb1 hs2
      go_wp2_with fail
      refine (I2.out w2 hB2).mono ?_
      rintro e w3 ⟨rfl, hs3⟩
      have hB3 := below_still hB2 hs3
      go_wp2_with fail
      go_ret2
      exact ⟨rfl, hB3⟩
    | true =>
    have hkp : kpB c a b = true := by unfold kpB krB; rw [hk, hwa, hwb]; rfl
    have hA := wordOk_of hwa
    have hB := wordOk_of hwb
    rw [hwa] at I1
    rw [hwb] at I2
    have hmu : muL c a b = muI (elemL c) (pol (tabI (elemL c) (leftT c)) (ixK c a) (ixK c b)) (ixK c a) (ixK c b) := by
      rw [show muL c a b = muS (klP c a b) (((nfI c b).length : Int) - ((nfI c a).length : Int)) from if_pos hkp, muI_S, klP_tab hk hA hB]
      unfold lenA
      rw [ixK_elem hG hA, ixK_elem hG hB]
    rw [hkp, hmu]
    have H := klOk_of hk
    obtain ⟨hiA, hltA⟩ := ixK_at hG hA
    obtain ⟨hiB, hltB⟩ := ixK_at hG hB
    have KP := Lib.hid (fun (W : World) (hb : Below w.heap.size w W) (k gl cl gt ct gp cp bm : Nat) (hK : KzR W k (elemL c).length gl cl gt ct gp cp bm (elemL c) (leftT c) (tabI (elemL c) (leftT c))) => by
      have := impl_pair_gen k (elemL c).length gl cl gt ct gp cp bm (elemL c) (leftT c) (tabI (elemL c) (leftT c)) (Value.slice (some ⟨gc, oc, none⟩) n cc) vu vv (nfI c a) (nfI c b) W (fun W2 h2 => hu.red hA W2 (hb.trans (h2.mono hb.size))) (fun W2 h2 => hv.red hB W2 (hb.trans (h2.mono hb.size))) (let_nf hG hA) (let_nf hG hB) (nf_mem hG (hA.lets.mono (show 15 ≤ 30 by omega))) (nf_mem hG (hB.lets.mono (show 15 ≤ 30 by omega))) hK
      rw [hiA, hiB] at this
      exact this)
    have KM := Lib.hid (fun (W : World) (k gl cl gt ct gp cp bm : Nat) (hK : KzR W k (elemL c).length gl cl gt ct gp cp bm (elemL c) (leftT c) (tabI (elemL c) (leftT c))) => impl_mu_ok k gl cl gt ct gp cp (elemL c).length c.length (ixK c a) (ixK c b) (elemL c) (leftT c) (pol (tabI (elemL c) (leftT c)) (ixK c a) (ixK c b)) W H hK.F hK.hL hltA hltB (fun _ => hK.hP _ _ hltA hltB))
    clear hr hu hv hA hB hrl hk hiA hiB hG hm hwa hwb hkp hmu H
    generalize ixK c a = iA at *
    generalize ixK c b = iB at *
    unfold GotKz at Hc
    generalize leftT c = T at *
    generalize elemL c = L at *
    generalize tabI L T = P at *
    generalize muI L (pol P iA iB) iA iB = z at *
    generalize L.length = N at *
    go_enter Tryz.func20, Tryz.ntmps20
    go_wp2_with fail
    refine Hc.out.mono ?_
    rintro e w1 ⟨k, gl, cl, gt, ct, gp, cp, bm, rfl, hk, hK, hb1⟩
    go_wp2_with fail
    refine (I1.out w1 hb1).mono ?_
    rintro e w2 ⟨rfl, hs2⟩
    have hb2 := below_still (Below.refl w1.heap.size w1) hs2
    have hB2 := hb1.trans (hb2.mono hb1.size)
    have hK2 := hK.below hb2
    go_wp2_with fail
    refine (I2.out w2 hB2).mono ?_
    rintro e w3 ⟨rfl, hs3⟩
    have hb3 := below_still (Below.refl w2.heap.size w2) hs3
    have hB3 := hB2.trans (hb3.mono hB2.size)
    have hK3 := hK2.below hb3
    clear hK hK2 hb1 hB2 hs2 hs3 hb2 hb3
    go_wp2_with fail
    refine (KP.out w3 hB3 k gl cl gt ct gp cp bm hK3).mono ?_
    rintro e w4 ⟨rfl, hb4⟩
    have hB4 := hB3.trans (hb4.mono hB3.size)
    have hK4 := hK3.below hb4
    have KM' := Lib.hid (KM.out w4 k gl cl gt ct gp cp bm hK4)
    clear hK3 hK4 hb4 hB3 KM KP
    go_wp2_with fail
    refine KM'.out.mono ?_
    rintro e w5 ⟨rfl, hs5⟩
    go_wp2_with fail
    go_ret2
    exact ⟨rfl, below_still hB4 hs5⟩
set_option maxHeartbeats 1000000 in
theorem impl_IsRationallySmooth_any (gc oc n cc : Nat) (vv : Value) (c : List (List Int)) (b : List Int) (w : World) (hn : c.length = n) (hx : c.length ≤ 1048576) (hrl : ∀ j, j < c.length → (c.getD j []).length ≤ 1048576) (hgc : gc < w.heap.size) (hr : Rows2 w gc oc c) (hv : WordV w c (Value.slice (some ⟨gc, oc, none⟩) n cc) vv b) (hm : MaxL w) :
    Calls Tryz.prog 33 #[(Value.slice (some ⟨gc, oc, none⟩) n cc), vv] w (Gives w (.bool (smB c b))) := by
  have HP := Lib.hid (impl_KLPolynomial_gen gc oc n cc (.slice none 0 0) vv c [] b w hn hx hrl hgc hr (WordV.none hn hx hrl hgc hr) hv hm)
  unfold smB
  have hpl : (kpL c [] b).length ≤ 1000 := by
    by_cases hk : kpB c [] b = true
    · obtain ⟨h1, h2, h3⟩ := kpB_yes hk
      rw [show kpL c [] b = klP c [] b from if_pos hk, show klP c [] b = (klRow c b).getD (ixK c []) [] from if_pos h1]
      exact row_few h1 h3 _
    · rw [show kpL c [] b = [] from if_neg hk]; simp
  generalize kpL c [] b = p at *
  obtain ⟨m, hm'⟩ : ∃ m, p.length = m := ⟨_, rfl⟩
  have KE := Lib.hid (fun (W : World) (g1 c1 g2 : Nat) (h1 : Cells W g1 0 p) (h2 : Cells W g2 0 [1]) => slices_Equal_any g1 0 m c1 g2 0 1 1 p [1] W hm' rfl (by omega) (by simp) h1 h2)
  have Hm := Lib.hid hm'
  clear hr hv hrl hm' hm
  cases hk : kpB c [] b with
  | false =>
    rw [hk] at HP
    clear hk
    go_enter Tryz.func33, Tryz.ntmps33
    go_wp2_with fail
    refine HP.out.mono ?_
    rintro e w1 ⟨g3, c3, rfl, ho1, hb1⟩
    rw [Hm.out]
    go_wp2_with fail
    go_ret
    exact ⟨rfl, hb1⟩
  | true =>
    rw [hk] at HP
    clear hk
    go_enter Tryz.func33, Tryz.ntmps33
    go_wp2_with fail
    refine HP.out.mono ?_
    rintro e w1 ⟨g3, c3, rfl, ho1, hb1⟩
    rw [Hm.out]
    have ho2 : Own (w1.alloc (.cells #[.int .i64 1] 3)) w1.heap.size w1.heap.size 1 [1] := Own.new 1 (Nat.le_refl _)
    have ho3 := ho1.alloc (.cells #[.int .i64 1] 3)
    have KE' := Lib.hid (KE.out _ g3 c3 w1.heap.size ho3.cells ho2.cells)
    have hB2 : Below w.heap.size w (w1.alloc (.cells #[.int .i64 1] 3)) := hb1.alloc hb1.size _
    clear ho1 ho2 ho3 KE hb1
    go_wp2_with fail
    refine KE'.out.mono ?_
    rintro e w2 ⟨rfl, hs2⟩
    go_wp2_with fail
    go_ret
    exact ⟨by simp, below_still hB2 hs2⟩
end Go.Proofs.YtdedkfbiookofaaGreatDoor
