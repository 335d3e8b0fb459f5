/- The program's KLPolynomial: contract. The program's KLPolynomial: contract. The program's PairLine: contract. The table of the longest slice, from the world's shape. -/
import Derived.Test.YtdedkfbiookofaaGreatDoorM49
import Derived.Test.YtdedkfbiookofaaGreatDoorM40
import Derived.Deep.DrawnRows
import Derived.Test.YtdedkfbiookofaaGreatDoorM47
import Derived.Test.YtdedkfbiookofaaGreatDoorM43
import Derived.Test.YtdedkfbiookofaaGreatDoorM44
import Derived.Deep.CutRange
import Derived.Deep.CutBlock
import Derived.Test.YtdedkfbiookofaaGreatDoorM24
import Derived.Shelf.Vars
namespace Go.Proofs.YtdedkfbiookofaaGreatDoor
set_option maxRecDepth 100000
open Go.RowKit Game
attribute [local go_sem ↓] Go.wp_at_zero Go.wp_at_succ
theorem AtW.run {w : World} {b n : Nat} {L : List (List Int)} (h : AtW w b n L) {v : List Int} (hv : LetW v) (hL : v ∈ L) : (Instr.lookup 59 (.map (some b)) (.string ⟨(wordL v).toArray⟩) false).run Tryz.prog w = .ok (.int .i64 (idxL L v)) w := by
  obtain ⟨D, hD, -, hat⟩ := h
  obtain ⟨z, hrun, hz, -⟩ := hD.lookup_int strKeyedW Tryz.underlying59 Tryz.underlying3 (intZeroW w) (keyOf_let hv)
  have h3 := hat v hv hL
  rw [hz] at h3
  have e : z = idxL L v := by simpa using h3
  rw [hrun, e]
set_option maxRecDepth 100000 in
set_option maxHeartbeats 4000000 in
theorem impl_pair_ok (k N gl cl gt ct gp cp b : Nat) (L T : List (List Int)) (P : List (List (List Int))) (gc oc n cc g1 o1 n1 c1 g2 o2 n2 c2 : Nat) (c : List (List Int)) (u v U V : List Int) (w : World) (hn : c.length = n) (hn1 : u.length = n1) (hn2 : v.length = n2) (hA : WordOk c u) (hB : WordOk c v) (hU : nfI c u = U) (hV : nfI c v = V)
    (hLU : LetW U) (hLV : LetW V) (hmU : U ∈ L) (hmV : V ∈ L) (hgc : gc < w.heap.size) (hg1 : g1 < w.heap.size) (hg2 : g2 < w.heap.size)
    (hr : Rows2 w gc oc c) (hc1 : Cells w g1 o1 u) (hc2 : Cells w g2 o2 v) (hK : KzR w k N gl cl gt ct gp cp b L T P) :
    Calls Tryz.prog 45 #[.pointer (some ⟨k, 0, none⟩), (Value.slice (some ⟨gc, oc, none⟩) n cc), (Value.slice (some ⟨g1, o1, none⟩) n1 c1), (Value.slice (some ⟨g2, o2, none⟩) n2 c2)] w (Gives w (.tuple #[.int .i64 (idxL L U), .int .i64 (idxL L V)])) := by
  have kU := Lib.hid (fun (W : World) (hb : Below w.heap.size w W) => impl_reduced_any gc oc n cc g1 o1 n1 c1 c u W hn hn1 (hA.lets.mono (show 15 ≤ 30 by omega)) (Nat.lt_of_lt_of_le hgc hb.size) (Nat.lt_of_lt_of_le hg1 hb.size) (hr.below hb hgc) (hc1.below hb hg1))
  have kV := Lib.hid (fun (W : World) (hb : Below w.heap.size w W) => impl_reduced_any gc oc n cc g2 o2 n2 c2 c v W hn hn2 (hB.lets.mono (show 15 ≤ 30 by omega)) (Nat.lt_of_lt_of_le hgc hb.size) (Nat.lt_of_lt_of_le hg2 hb.size) (hr.below hb hgc) (hc2.below hb hg2))
  rw [hU] at kU
  rw [hV] at kV
  have hfU := hLU.few; have hfV := hLV.few
  obtain ⟨mU, hmlU⟩ : ∃ m, U.length = m := ⟨_, rfl⟩
  obtain ⟨mV, hmlV⟩ : ∃ m, V.length = m := ⟨_, rfl⟩
  have FU := Lib.hid (fun (W : World) (B g cp : Nat) (ho : Own W B g cp U) => impl_FormatWord_any g 0 mU cp U W hmlU (by omega) ho.lt ho.cells)
  have FV := Lib.hid (fun (W : World) (B g cp : Nat) (ho : Own W B g cp V) => impl_FormatWord_any g 0 mV cp V W hmlV (by omega) ho.lt ho.cells)
  have HmU := Lib.hid hmlU; have HmV := Lib.hid hmlV
  have hM := hK.hA
  have hb : Below w.heap.size w w.drew := Below.drew (Below.refl _ _)
  have p2 := hK.places
  have hkl := hK.F.lt
  have HK := Lib.hid (fun (W : World) (hb : Below w.heap.size w W) => (⟨(hb.cell (p := ⟨k, 2, none⟩) hkl).trans p2, (hM.below hb hM.lt).run hLU hmU, (hM.below hb hM.lt).run hLV hmV⟩ : W.cell? ⟨k, 2, none⟩ = some (.map (some b)) ∧ (Instr.lookup 59 (.map (some b)) (.string ⟨(wordL U).toArray⟩) false).run Tryz.prog W = .ok (.int .i64 (idxL L U)) W ∧ (Instr.lookup 59 (.map (some b)) (.string ⟨(wordL V).toArray⟩) false).run Tryz.prog W = .ok (.int .i64 (idxL L V)) W))
  clear hr hc1 hc2 hK hA hB hU hV hmlU hmlV hfU hfV p2 hM hkl hmU hmV hLU hLV
  generalize (⟨(wordL U).toArray⟩ : ByteArray) = sU at *
  generalize (⟨(wordL V).toArray⟩ : ByteArray) = sV at *
  generalize idxL L U = iU at *
  generalize idxL L V = iV at *
  go_enter Tryz.func45, Tryz.ntmps45
  go_wp2_with fail
  go_region_held3 (fun W => W.cell? ⟨k, 2, none⟩ = some (.map (some b)) ∧ (Instr.lookup 59 (.map (some b)) (.string sU) false).run Tryz.prog W = .ok (.int .i64 iU) W ∧ (Instr.lookup 59 (.map (some b)) (.string sV) false).run Tryz.prog W = .ok (.int .i64 iV) W)
    (with_reducible exact HK.out _ hb)
    (first
      | (go_at_call 91; first
          | ((with_reducible refine (kU.out _ hb).mono ?_); rintro e wX ⟨gU, cU, rfl, hoU, hbX⟩; rw [HmU.out]; (try have hoV := hoV.below hbX hoV.lt); have hb := hb.trans (hbX.mono hb.size))
          | ((with_reducible refine (kV.out _ hb).mono ?_); rintro e wX ⟨gV, cV, rfl, hoV, hbX⟩; rw [HmV.out]; (try have hoU := hoU.below hbX hoU.lt); have hb := hb.trans (hbX.mono hb.size)))
      | (go_at_call 75; first
          | ((with_reducible refine (FU.out _ _ _ _ hoU).mono ?_); rintro e wX ⟨rfl, hbX⟩; (try have hoV := hoV.below hbX hoV.lt); have hb := hb.trans (hbX.mono hb.size))
          | ((with_reducible refine (FV.out _ _ _ _ hoV).mono ?_); rintro e wX ⟨rfl, hbX⟩; (try have hoU := hoU.below hbX hoU.lt); have hb := hb.trans (hbX.mono hb.size))))
  all_goals (go_wp2_with fail)
  all_goals go_ret2
  all_goals exact ⟨rfl, hb⟩
end Go.Proofs.YtdedkfbiookofaaGreatDoor
namespace Go.Proofs.YtdedkfbiookofaaGreatDoor
set_option maxRecDepth 100000
open Go.RowKit Game
theorem clone_intsK (g o n cp : Nat) (v : List Int) (w : World) (hn : v.length = n) (hx : v.length ≤ 1048576) (hg : g < w.heap.size) (hc : Cells w g o v) :
    Calls Tryz.prog 46 #[(Value.slice (some ⟨g, o, none⟩) n cp)] w (GotInts w v) := by
  subst hn
  have hnil : ∀ W, (binOp .eql 25 (Value.slice (some ⟨g, o, none⟩) v.length cp) (.slice none 0 0)).run Tryz.prog W = .ok (.bool false) W := fun W => Lib.run_eql_slice_nil W 25 3 _ _ _ _ _ Tryz.underlying25
  go_enter Tryz.func46, Tryz.ntmps46
  go_wp2_with (at_builtin; refine wpList_clone rfl _ _ rfl g o _ cp v rfl hg hc rfl rfl (by omega) ?_)
  intro g1 c1 w1 ho hb
  go_wp2_with fail
  go_ret
  exact GotInts.mk' g1 c1 rfl ho hb
theorem let_nf {c : List (List Int)} (hG : Grp c) {v : List Int} (h : WordOk c v) : LetW (nfI c v) := by
  have := nf_mem hG (h.lets.mono (show 15 ≤ 30 by omega))
  exact elem_let hG this
set_option maxRecDepth 100000 in
set_option maxHeartbeats 2000000 in
theorem impl_KLPolynomial_ok (gc oc n cc g1 o1 n1 c1 g2 o2 n2 c2 : Nat) (c : List (List Int)) (a b : List Int) (w : World) (hn : c.length = n) (hn1 : a.length = n1) (hn2 : b.length = n2) (hA : WordOk c a) (hB : WordOk c b) (hgc : gc < w.heap.size) (hg1 : g1 < w.heap.size) (hg2 : g2 < w.heap.size)
    (hr : Rows2 w gc oc c) (hc1 : Cells w g1 o1 a) (hc2 : Cells w g2 o2 b) (hm : MaxL w) :
    Calls Tryz.prog 7 #[(Value.slice (some ⟨gc, oc, none⟩) n cc), (Value.slice (some ⟨g1, o1, none⟩) n1 c1), (Value.slice (some ⟨g2, o2, none⟩) n2 c2)] w (GotIntsB w (klP c a b) (klB c)) := by
  have hla := hA.few
  have hlb := hB.few
  have hC := hA.isC
  have hn4 := hC.2.1
  have hrl : ∀ j, j < c.length → (c.getD j []).length ≤ 1048576 := fun j hj => by rw [hC.2.2.1 j hj]; omega
  cases hk : klB c with
  | false =>
    rw [show klP c a b = [] from if_neg (by rw [hk]; decide)]
    have Hc := Lib.hid (impl_newKazhdan_no gc oc n cc c w hn (by omega) hrl hk hgc hr hm)
    clear hr hc1 hc2 hA hB hk hrl
    go_enter Tryz.func7, Tryz.ntmps7
    go_wp2_with fail
    refine Hc.out.mono ?_
    rintro e w1 ⟨rfl, hb1⟩
    go_wp2_with fail
    go_ret2
    exact ⟨_, 0, rfl, Own.empty hb1.size, hb1.alloc hb1.size _⟩
  | true =>
    have hG := klB_grp hk
    have Hc := Lib.hid (impl_newKazhdan_yes gc oc n cc c w hn hk hgc hr hm)
    have I1 := Lib.hid (fun (W : World) (hb : Below w.heap.size w W) => by
      have := impl_IsWord_any gc oc n cc g1 o1 n1 c1 c a W hn hn1 (by omega) hrl (by omega) (hr.below hb hgc) (hc1.below hb hg1)
      rw [hA.isWord] at this
      exact this)
    have I2 := Lib.hid (fun (W : World) (hb : Below w.heap.size w W) => by
      have := impl_IsWord_any gc oc n cc g2 o2 n2 c2 c b W hn hn2 (by omega) hrl (by omega) (hr.below hb hgc) (hc2.below hb hg2)
      rw [hB.isWord] at this
      exact this)
    obtain ⟨hiA, hltA⟩ := ixK_at hG hA
    obtain ⟨hiB, hltB⟩ := ixK_at hG hB
    have KP := Lib.hid (fun (W : World) (hb : Below w.heap.size w W) (k gl cl gt ct gp cp bm : Nat) (hK : KzR W k (elemL c).length gl cl gt ct gp cp bm (elemL c) (leftT c) (tabI (elemL c) (leftT c))) => by
      have := impl_pair_ok k (elemL c).length gl cl gt ct gp cp bm (elemL c) (leftT c) (tabI (elemL c) (leftT c)) gc oc n cc g1 o1 n1 c1 g2 o2 n2 c2 c a b (nfI c a) (nfI c b) W hn hn1 hn2 hA hB rfl rfl (let_nf hG hA) (let_nf hG hB) (nf_mem hG (hA.lets.mono (show 15 ≤ 30 by omega))) (nf_mem hG (hB.lets.mono (show 15 ≤ 30 by omega))) (Nat.lt_of_lt_of_le hgc hb.size) (Nat.lt_of_lt_of_le hg1 hb.size) (Nat.lt_of_lt_of_le hg2 hb.size) (hr.below hb hgc) (hc1.below hb hg1) (hc2.below hb hg2) hK
      rw [hiA, hiB] at this
      exact this)
    have htab := klP_tab hk hA hB
    have hlen := by
      have H := klOk_of hk
      have h1 := klRows_len H (ixK c b) hltB (ixK c b) (ixK c a)
      have h2 := H.few
      have h3 : (klP c a b).length ≤ 1000 := by
        rw [show klP c a b = (klRow c b).getD (ixK c a) [] from if_pos hk]
        unfold pol at h1
        unfold klRow
        omega
      exact h3
    rw [htab] at hlen ⊢
    clear htab hr hc1 hc2 hA hB hC hrl hk hn4 hla hlb hiA hiB hG hm
    generalize ixK c a = iA at *
    generalize ixK c b = iB at *
    unfold GotKz at Hc
    generalize leftT c = T at *
    generalize elemL c = L at *
    generalize tabI L T = P at *
    generalize L.length = N at *
    obtain ⟨m, hm⟩ : ∃ m, (pol P iA iB).length = m := ⟨_, rfl⟩
    rw [hm] at hlen
    have HL := Lib.hid hm
    have KC := Lib.hid (fun (W : World) (g cp : Nat) (hg : g < W.heap.size) (hc : Cells W g 0 (pol P iA iB)) => clone_intsK g 0 m cp (pol P iA iB) W HL.out (by omega) hg hc)
    clear hm
    go_enter Tryz.func7, Tryz.ntmps7
    go_wp2_with fail
    refine Hc.out.mono ?_
    rintro e w1 ⟨k, gl, cl, gt, ct, gp, cp, bm, rfl, hk, hK, hb1⟩
    go_wp2_with fail
    refine (I1.out w1 hb1).mono ?_
    rintro e w2 ⟨rfl, hs2⟩
    have hb2 := below_still (Below.refl w1.heap.size w1) hs2
    have hB2 := hb1.trans (hb2.mono hb1.size)
    have hK2 := hK.below hb2
    go_wp2_with fail
    refine (I2.out w2 hB2).mono ?_
    rintro e w3 ⟨rfl, hs3⟩
    have hb3 := below_still (Below.refl w2.heap.size w2) hs3
    have hB3 := hB2.trans (hb3.mono hB2.size)
    have hK3 := hK2.below hb3
    clear hK hK2 hb1 hB2 hs2 hs3 hb2 hb3
    go_wp2_with fail
    refine (KP.out w3 hB3 k gl cl gt ct gp cp bm hK3).mono ?_
    rintro e w4 ⟨rfl, hb4⟩
    have hB4 := hB3.trans (hb4.mono hB3.size)
    have hK4 := hK3.below hb4
    have f3 := hK4.F.f3
    obtain ⟨gi, ci, g5, c5, p1, p2, p3, p4, p5, p6⟩ := hK4.hP iA iB hltA hltB
    rw [HL.out] at p2
    have hI1 : (iA : Int) < (N : Int) := by omega
    have hI2 : (iB : Int) < (N : Int) := by omega
    clear hK3 hK4 hb4 hB3
    go_wp2_with fail
    refine (KC.out w4 g5 c5 p5 p6).mono ?_
    rintro e w5 ⟨gZ, cZ, rfl, hoZ, hb5⟩
    go_wp2_with fail
    go_ret2
    exact GotIntsB.mk' gZ cZ rfl (hoZ.mono hB4.size) (hB4.trans (hb5.mono hB4.size))
end Go.Proofs.YtdedkfbiookofaaGreatDoor
namespace Go.Proofs.YtdedkfbiookofaaGreatDoor
set_option maxRecDepth 100000
open Go.RowKit Game
open Go.Lib (join decDigits itoa)
structure PlAt (w wx : World) (wv : Value) (L : List (List UInt8)) (N : Nat) : Prop where
  out : ∃ g ca n, wv = (Value.slice (some ⟨g, 0, none⟩) n ca) ∧ L.length = n ∧ n ≤ N ∧ OwnStrs wx w.heap.size g ca (strs L) ∧ Below w.heap.size w wx
set_option maxRecDepth 100000 in
set_option maxHeartbeats 4000000 in
theorem impl_PairLine_any (gc oc n cc g1 o1 n1 c1 g2 o2 n2 c2 : Nat) (c : List (List Int)) (a b : List Int) (w : World) (hn : c.length = n) (hn1 : a.length = n1) (hn2 : b.length = n2) (hx : c.length ≤ 1048576) (hrl : ∀ j, j < c.length → (c.getD j []).length ≤ 1048576) (hl1 : a.length ≤ 1048576) (hl2 : b.length ≤ 1048576)
    (hcap : n2 ≤ c2) (hgc : gc < w.heap.size) (hg1 : g1 < w.heap.size) (hg2 : g2 < w.heap.size) (hr : Rows2 w gc oc c) (hc1 : Cells w g1 o1 a) (hc2 : Cells w g2 o2 b) (hm : MaxL w) (hT : Tab w) :
    Calls Tryz.prog 39 #[(Value.slice (some ⟨gc, oc, none⟩) n cc), (Value.slice (some ⟨g1, o1, none⟩) n1 c1), (Value.slice (some ⟨g2, o2, none⟩) n2 c2)] w (Gives w (.string ⟨(pairLineL c a b).toArray⟩)) := by
  have i1 := impl_IsWord_any gc oc n cc g1 o1 n1 c1 c a w hn hn1 hx hrl hl1 hr hc1
  have i2 := fun W (hs : ∃ q, W = w.drewN q) => impl_IsWord_any gc oc n cc g2 o2 n2 c2 c b W hn hn2 hx hrl hl2 (hr.still hs) (hc2.still hs)
  unfold pairLineL
  cases hwa : isWordB c a with
  | false =>
    rw [if_neg (by simp)]
    rw [hwa] at i1
    have I1 := Lib.hid i1
    clear i1 i2 hr hc1 hc2 hwa
    go_enter Tryz.func39, Tryz.ntmps39
    go_wp2_with fail
    refine I1.out.mono ?_
    rintro e v1 ⟨rfl, m1, rfl⟩
    go_wp2_with fail
    go_ret
    exact ⟨rfl, below_drewN' w m1⟩
  | true =>
  cases hwb : isWordB c b with
  | false =>
    rw [if_neg (by simp)]
    rw [hwa] at i1
    rw [hwb] at i2
    have I1 := Lib.hid i1
    have I2 := Lib.hid i2
    clear i1 i2 hr hc1 hc2 hwa hwb
    go_enter Tryz.func39, Tryz.ntmps39
    go_wp2_with fail
    refine I1.out.mono ?_
    rintro e v1 ⟨rfl, hs1⟩
    go_wp2_with fail
    refine (I2.out v1 hs1).mono ?_
    rintro e v2 ⟨rfl, hs2⟩
    go_wp2_with fail
    go_ret
    exact ⟨rfl, below_still (below_still (Below.refl _ _) hs1) hs2⟩
  | true =>
    rw [if_pos (show (true && true) = true from rfl)]
    rw [hwa] at i1
    rw [hwb] at i2
    have I1 := Lib.hid i1
    have I2 := Lib.hid i2
    have hA := wordOk_of hwa
    have hB := wordOk_of hwb
    have hfa := hA.few; have hfb := hB.few
    have hRw := i64s_rP hA hB
    have hRl := rP_len (a := a) hB
    have hPw := i64s_klP c a b
    have hPl := klP_len (a := a) hB
    have hlen := fun sm wk bl rk pk => plS_len (wordL_shortP (l := a) (by omega)) (wordL_shortP (l := b) (by omega)) (poly_short hRw hRl) (poly_short hPw hPl) sm wk bl rk pk
    have HFa := Lib.hid (fun W (h : Below w.heap.size w W) => impl_FormatWord_any g1 o1 n1 c1 a W hn1 (by omega) (Nat.lt_of_lt_of_le hg1 h.size) (hc1.below h hg1))
    have HFb := Lib.hid (fun W (h : Below w.heap.size w W) => impl_FormatWord_any g2 o2 n2 c2 b W hn2 (by omega) (Nat.lt_of_lt_of_le hg2 h.size) (hc2.below h hg2))
    have HS := Lib.hid (fun W (h : Below w.heap.size w W) => impl_same_any gc oc n cc g1 o1 n1 c1 g2 o2 n2 c2 c a b W hn hn1 hn2 (hA.lets.mono (show 15 ≤ 30 by omega)) (hB.lets.mono (show 15 ≤ 30 by omega)) (Nat.lt_of_lt_of_le hgc h.size) (Nat.lt_of_lt_of_le hg1 h.size) (Nat.lt_of_lt_of_le hg2 h.size) (hr.below h hgc) (hc1.below h hg1) (hc2.below h hg2))
    have HW := Lib.hid (fun W (h : Below w.heap.size w W) => impl_weakBelow_ok gc oc n cc g1 o1 n1 c1 g2 o2 n2 c2 c a b W hn hn1 hn2 hA hB hcap (Nat.lt_of_lt_of_le hgc h.size) (Nat.lt_of_lt_of_le hg1 h.size) (Nat.lt_of_lt_of_le hg2 h.size) (hr.below h hgc) (hc1.below h hg1) (hc2.below h hg2))
    have HB := Lib.hid (fun W (h : Below w.heap.size w W) => impl_below_ok gc oc n cc g1 o1 n1 c1 g2 o2 n2 c2 c a b W hn hn1 hn2 hA hB (Nat.lt_of_lt_of_le hgc h.size) (Nat.lt_of_lt_of_le hg1 h.size) (Nat.lt_of_lt_of_le hg2 h.size) (hr.below h hgc) (hc1.below h hg1) (hc2.below h hg2))
    have HR := Lib.hid (fun W (h : Below w.heap.size w W) => impl_RPolynomial_ok gc oc n cc g1 o1 n1 c1 g2 o2 n2 c2 c a b W hn hn1 hn2 hA hB (Nat.lt_of_lt_of_le hgc h.size) (Nat.lt_of_lt_of_le hg1 h.size) (Nat.lt_of_lt_of_le hg2 h.size) (hr.below h hgc) (hc1.below h hg1) (hc2.below h hg2))
    rw [(rP_img hA hB).1, (rP_img hA hB).2] at HR
    have HP := Lib.hid (fun W (h : Below w.heap.size w W) => impl_KLPolynomial_ok gc oc n cc g1 o1 n1 c1 g2 o2 n2 c2 c a b W hn hn1 hn2 hA hB (Nat.lt_of_lt_of_le hgc h.size) (Nat.lt_of_lt_of_le hg1 h.size) (Nat.lt_of_lt_of_le hg2 h.size) (hr.below h hgc) (hc1.below h hg1) (hc2.below h hg2) (hm.below h))
    obtain ⟨nR, hnR⟩ : ∃ m, (rP c a b).length = m := ⟨_, rfl⟩
    obtain ⟨nP, hnP⟩ : ∃ m, (klP c a b).length = m := ⟨_, rfl⟩
    have HFR := Lib.hid (fun W B g cp (hT : Tab W) (h : Own W B g cp (rP c a b)) => impl_FormatPoly_any g 0 nR cp (rP c a b) W hnR hRw hRl h.lt h.cells hT)
    have HFP := Lib.hid (fun W B g cp (hT : Tab W) (h : Own W B g cp (klP c a b)) => impl_FormatPoly_any g 0 nP cp (klP c a b) W hnP hPw hPl h.lt h.cells hT)
    have HnR := Lib.hid hnR; have HnP := Lib.hid hnP
    have HT := Lib.hid (fun W (h : Below w.heap.size w W) => hT.below h)
    clear i1 i2 hr hc1 hc2 hA hB hfa hfb hRw hRl hPw hPl hnR hnP hrl hx hl1 hl2 hwa hwb hm hT
    generalize wordL a = A at *
    generalize wordL b = B at *
    generalize polyS (rP c a b) = R at *
    generalize polyS (klP c a b) = P at *
    generalize rP c a b = pR at *
    generalize klP c a b = pP at *
    generalize decide (imI c a = imI c b) = sm at *
    generalize wkB c a b = wk at *
    generalize bruB c a b = bl at *
    generalize rOk c a b = rk at *
    generalize klB c = pk at *
    have HJ : Hid (∀ L, L = plL A B sm wk bl rk pk R P → (join L [32]).length ≤ 140737488355328) := Lib.hid fun L hL => by rw [hL, ← plS_eq]; exact Nat.le_trans (hlen _ _ _ _ _) (by decide)
    have HLn : Hid (∀ W g ca n L, L = plL A B sm wk bl rk pk R P → L.length = n → n ≤ 20 → OwnStrs W w.heap.size g ca (strs L) → Calls Tryz.prog 81 #[(Value.slice (some ⟨g, 0, none⟩) n ca)] W (Gives W (.string ⟨(join (plL A B sm wk bl rk pk R P) [32]).toArray⟩))) := Lib.hid fun W g ca n L hL hn hn2 ho => by
      have := impl_line_any ho hn (by omega) (HJ.out L hL)
      rw [hL] at this
      exact this
    have L0 : Hid (plL A B false false false false false R P = [A, [97, 110, 100], B]) := Lib.hid rfl
    have L1 : Hid (∀ x, x = sm → plL A B x false false false false R P = plL A B false false false false false R P ++ cond x [[115, 97, 109, 101]] []) := Lib.hid fun x _ => by cases x <;> simp [plL]
    have L2 : Hid (∀ x, x = wk → plL A B sm x false false false R P = plL A B sm false false false false R P ++ cond x [[112, 114, 101, 102, 105, 120]] []) := Lib.hid fun x _ => by cases x <;> simp [plL]
    have L3 : Hid (∀ x, x = bl → plL A B sm wk x false false R P = plL A B sm wk false false false R P ++ cond x [[98, 101, 108, 111, 119]] []) := Lib.hid fun x _ => by cases x <;> simp [plL]
    have L4 : Hid (∀ x y, plL A B sm wk bl x y R P = plL A B sm wk bl false false R P ++ cond x [[82], R] [] ++ cond y [[80], P] []) := Lib.hid fun x y => by cases x <;> cases y <;> simp [plL]
    clear hlen HJ
    go_enter Tryz.func39, Tryz.ntmps39
    go_wp2_with fail
    refine I1.out.mono ?_
    rintro e v1 ⟨rfl, hs1⟩
    go_wp2_with fail
    refine (I2.out v1 hs1).mono ?_
    rintro e v2 ⟨rfl, hs2⟩
    have hB0 := below_still (below_still (Below.refl w.heap.size w) hs1) hs2
    go_wp2_with fail
    refine (HFa.out v2 hB0).mono ?_
    rintro e w1 ⟨rfl, hb1⟩
    have hB1 := hB0.trans (hb1.mono hB0.size)
    go_wp2_with fail
    refine (HFb.out w1 hB1).mono ?_
    rintro e w2 ⟨rfl, hb2⟩
    have hB2 := hB1.trans (hb2.mono hB1.size)
    obtain ⟨w3, hw3⟩ : ∃ w3, w3 = w2.alloc (.cells #[.string ⟨A.toArray⟩, .string ⟨#[97, 110, 100]⟩, .string ⟨B.toArray⟩] 9) := ⟨_, rfl⟩
    have ho3 : OwnStrs w3 w.heap.size w2.heap.size 3 (strs (plL A B false false false false false R P)) := by rw [hw3, L0.out]; exact own_three w2 _ A [97, 110, 100] B hB2.size
    have hB3 : Below w.heap.size w w3 := by rw [hw3]; exact hB2.alloc hB2.size _
    have hl3 : (plL A B false false false false false R P).length = 3 := rfl
    clear hs1 hs2 hb1 hb2 hB0 hB1 hB2
    go_wp2_with fail
    rw [← hw3]
    clear hw3
    generalize w2.heap.size = g3 at *
    go_wp2_with fail
    refine (HS.out _ hB3).mono ?_
    rintro e w4 ⟨rfl, hb4⟩
    have hB4 := hB3.trans (hb4.mono hB3.size)
    have ho4 := OwnK.below ho3 hb4 (OwnK.lt ho3)
    clear hB3 ho3 hb4
    go_upto_if 30 with fail
    go_cut [7] from 31 to 33 (fun wv wx => PlAt w wx wv (plL A B sm false false false false R P) 4)
    case first =>
      have hL := L1.out sm rfl
      cases sm with
      | true =>
        simp only [cond_true] at hL
        have HL := Lib.hid hL
        clear hL
        go_wp2_with (at_builtin; refine wpList_append_K1 rfl _ _ rfl w.heap.size g3 3 3 w4.heap.size (plL A B false false false false false R P) [115, 97, 109, 101] w4 _ hl3 rfl rfl ho4 rfl rfl (by omega) ?_)
        intro g5 c5 w5 ho5 hg5
        have hB5 := hB4.grown hg5 hB4.size (by intro t ht; cases ht; exact OwnK.base ho4)
        go_wp2_with fail
        go_meet
        exact ⟨g5, c5, 3 + 1, rfl, by rw [HL.out, List.length_append, hl3]; rfl, by omega, by rw [HL.out]; exact ho5, hB5⟩
      | false =>
        clear hL
        go_wp2_with fail
        go_meet
        exact ⟨g3, 3, 3, rfl, hl3, by omega, ho4, hB4⟩
    case rest =>
    obtain ⟨g3, ca3, n3, rfl, hl3, hn3, ho3, hB3⟩ := hcut.out
    clear hcut ho4 hB4
    go_wp2_with fail
    refine (HW.out _ hB3).mono ?_
    rintro e w4 ⟨rfl, hb4⟩
    have hB4 := hB3.trans (hb4.mono hB3.size)
    have ho4 := OwnK.below ho3 hb4 (OwnK.lt ho3)
    clear hB3 ho3 hb4
    go_upto_if 37 with fail
    go_cut [7] from 38 to 40 (fun wv wx => PlAt w wx wv (plL A B sm wk false false false R P) 5)
    case first =>
      have hL := L2.out wk rfl
      cases wk with
      | true =>
        simp only [cond_true] at hL
        have HL := Lib.hid hL
        clear hL
        go_wp2_with (at_builtin; refine wpList_append_K1 rfl _ _ rfl w.heap.size g3 ca3 n3 w4.heap.size (plL A B sm false false false false R P) [112, 114, 101, 102, 105, 120] w4 _ hl3 rfl rfl ho4 rfl rfl (by omega) ?_)
        intro g5 c5 w5 ho5 hg5
        have hB5 := hB4.grown hg5 hB4.size (by intro t ht; cases ht; exact OwnK.base ho4)
        go_wp2_with fail
        go_meet
        exact ⟨g5, c5, n3 + 1, rfl, by rw [HL.out, List.length_append, hl3]; rfl, by omega, by rw [HL.out]; exact ho5, hB5⟩
      | false =>
        clear hL
        go_wp2_with fail
        go_meet
        exact ⟨g3, ca3, n3, rfl, hl3, by omega, ho4, hB4⟩
    case rest =>
    obtain ⟨g3, ca3, n3, rfl, hl3, hn3, ho3, hB3⟩ := hcut.out
    clear hcut ho4 hB4
    go_wp2_with fail
    refine (HB.out _ hB3).mono ?_
    rintro e w4 ⟨rfl, hb4⟩
    have hB4 := hB3.trans (hb4.mono hB3.size)
    have ho4 := OwnK.below ho3 hb4 (OwnK.lt ho3)
    clear hB3 ho3 hb4
    go_upto_if 44 with fail
    go_cut [7] from 45 to 47 (fun wv wx => PlAt w wx wv (plL A B sm wk bl false false R P) 6)
    case first =>
      have hL := L3.out bl rfl
      cases bl with
      | true =>
        simp only [cond_true] at hL
        have HL := Lib.hid hL
        clear hL
        go_wp2_with (at_builtin; refine wpList_append_K1 rfl _ _ rfl w.heap.size g3 ca3 n3 w4.heap.size (plL A B sm wk false false false R P) [98, 101, 108, 111, 119] w4 _ hl3 rfl rfl ho4 rfl rfl (by omega) ?_)
        intro g5 c5 w5 ho5 hg5
        have hB5 := hB4.grown hg5 hB4.size (by intro t ht; cases ht; exact OwnK.base ho4)
        go_wp2_with fail
        go_meet
        exact ⟨g5, c5, n3 + 1, rfl, by rw [HL.out, List.length_append, hl3]; rfl, by omega, by rw [HL.out]; exact ho5, hB5⟩
      | false =>
        clear hL
        go_wp2_with fail
        go_meet
        exact ⟨g3, ca3, n3, rfl, hl3, by omega, ho4, hB4⟩
    case rest =>
    obtain ⟨g3, ca3, n3, rfl, hl3, hn3, ho3, hB3⟩ := hcut.out
    clear hcut ho4 hB4
    go_wp2_with fail
    refine (HR.out _ hB3).mono ?_
    rintro e w4 ⟨g9, c9, rfl, ho9, hb4⟩
    have hB4 := hB3.trans (hb4.mono hB3.size)
    have ho4 := OwnK.below ho3 hb4 (OwnK.lt ho3)
    rw [HnR.out]
    clear hB3 ho3 hb4
    cases rk with
    | false =>
      have hB5 := hB4
      have ho5 := ho4
      obtain ⟨g5, hg5⟩ : ∃ g, g = g3 := ⟨_, rfl⟩
      obtain ⟨c5, hc5⟩ : ∃ g, g = ca3 := ⟨_, rfl⟩
      subst hg5; subst hc5
      clear hB4 ho4 ho9
      go_wp2_with fail
      refine (HP.out _ hB5).mono ?_
      rintro e w6 ⟨g10, c10, rfl, ho10, hb6⟩
      have hB6 := hB5.trans (hb6.mono hB5.size)
      have ho6 := OwnK.below ho5 hb6 (OwnK.lt ho5)
      rw [HnP.out]
      have hl6 : (plL A B sm wk bl false false R P).length = n3 := by first | exact hl3 | (rw [List.length_append, hl3]; rfl)
      clear hB5 ho5 hb6
      cases pk with
      | false =>
        have HLi := Lib.hid (HLn.out w6 g5 c5 (n3) (plL A B sm wk bl false false R P) rfl hl6 (by omega) ho6)
        clear hl6
        go_wp2_with fail
        refine HLi.out.mono ?_
        rintro e w7 ⟨rfl, hb7⟩
        go_wp2_with fail
        go_ret
        exact ⟨rfl, hB6.trans (hb7.mono hB6.size)⟩
      | true =>
        have hL4 : plL A B sm wk bl false true R P = plL A B sm wk bl false false R P ++ [[80], P] := by have := L4.out false true; simpa using this
        go_wp2_with fail
        refine (HFP.out w6 _ g10 c10 (HT.out w6 hB6) ho10).mono ?_
        rintro e w7 ⟨rfl, hb7⟩
        have hB7 := hB6.trans (hb7.mono hB6.size)
        have ho7 := OwnK.below ho6 hb7 (OwnK.lt ho6)
        have HL4 := Lib.hid hL4
        clear hL4 ho10 hb7 ho6 hB6
        go_wp2_with (at_builtin; refine wpList_append_K2 rfl _ _ rfl w.heap.size g5 c5 (n3) w7.heap.size (plL A B sm wk bl false false R P) [80] P w7 _ hl6 rfl rfl ho7 rfl rfl (by omega) ?_)
        intro g8 c8 w8 ho8 hg8
        have hB8 := hB7.grown hg8 hB7.size (by intro t ht; cases ht; exact OwnK.base ho7)
        have ho8' : OwnStrs w8 w.heap.size g8 c8 (strs (plL A B sm wk bl false false R P ++ [[80], P])) := by simpa using ho8
        have HLi := Lib.hid (HLn.out w8 g8 c8 (n3 + 2) (plL A B sm wk bl false false R P ++ [[80], P]) HL4.out.symm (by rw [List.length_append, hl3]; rfl) (by omega) ho8')
        clear hl6 ho7 hB7 hg8
        go_wp2_with fail
        refine HLi.out.mono ?_
        rintro e w9 ⟨rfl, hb9⟩
        go_wp2_with fail
        go_ret
        exact ⟨rfl, hB8.trans (hb9.mono hB8.size)⟩
    | true =>
      go_wp2_with fail
      refine (HFR.out w4 _ g9 c9 (HT.out w4 hB4) ho9).mono ?_
      rintro e w5 ⟨rfl, hb5⟩
      have hB5 := hB4.trans (hb5.mono hB4.size)
      have ho5 := OwnK.below ho4 hb5 (OwnK.lt ho4)
      clear ho9 hb5 ho4 hB4
      go_wp2_with (at_builtin; refine wpList_append_K2 rfl _ _ rfl w.heap.size g3 ca3 n3 w5.heap.size (plL A B sm wk bl false false R P) [82] R w5 _ hl3 rfl rfl ho5 rfl rfl (by omega) ?_)
      intro g5 c5 w5b ho5b hg5
      have hB5b := hB5.grown hg5 hB5.size (by intro t ht; cases ht; exact OwnK.base ho5)
      clear ho5 hB5 hg5
      have ho5 := ho5b
      have hB5 := hB5b
      clear ho5b hB5b
      go_wp2_with fail
      refine (HP.out _ hB5).mono ?_
      rintro e w6 ⟨g10, c10, rfl, ho10, hb6⟩
      have hB6 := hB5.trans (hb6.mono hB5.size)
      have ho6 := OwnK.below ho5 hb6 (OwnK.lt ho5)
      rw [HnP.out]
      have hl6 : (plL A B sm wk bl false false R P ++ [[82], R]).length = n3 + 2 := by first | exact hl3 | (rw [List.length_append, hl3]; rfl)
      clear hB5 ho5 hb6
      cases pk with
      | false =>
        have hL4 : plL A B sm wk bl true false R P = plL A B sm wk bl false false R P ++ [[82], R] := by have := L4.out true false; simpa using this
        have HLi := Lib.hid (HLn.out w6 g5 c5 (n3 + 2) (plL A B sm wk bl false false R P ++ [[82], R]) hL4.symm hl6 (by omega) ho6)
        clear hL4 hl6
        go_wp2_with fail
        refine HLi.out.mono ?_
        rintro e w7 ⟨rfl, hb7⟩
        go_wp2_with fail
        go_ret
        exact ⟨rfl, hB6.trans (hb7.mono hB6.size)⟩
      | true =>
        have hL4 : plL A B sm wk bl true true R P = plL A B sm wk bl false false R P ++ [[82], R, [80], P] := by have := L4.out true true; simpa using this
        go_wp2_with fail
        refine (HFP.out w6 _ g10 c10 (HT.out w6 hB6) ho10).mono ?_
        rintro e w7 ⟨rfl, hb7⟩
        have hB7 := hB6.trans (hb7.mono hB6.size)
        have ho7 := OwnK.below ho6 hb7 (OwnK.lt ho6)
        have HL4 := Lib.hid hL4
        clear hL4 ho10 hb7 ho6 hB6
        go_wp2_with (at_builtin; refine wpList_append_K2 rfl _ _ rfl w.heap.size g5 c5 (n3 + 2) w7.heap.size (plL A B sm wk bl false false R P ++ [[82], R]) [80] P w7 _ hl6 rfl rfl ho7 rfl rfl (by omega) ?_)
        intro g8 c8 w8 ho8 hg8
        have hB8 := hB7.grown hg8 hB7.size (by intro t ht; cases ht; exact OwnK.base ho7)
        have ho8' : OwnStrs w8 w.heap.size g8 c8 (strs (plL A B sm wk bl false false R P ++ [[82], R, [80], P])) := by simpa using ho8
        have HLi := Lib.hid (HLn.out w8 g8 c8 (n3 + 2 + 2) (plL A B sm wk bl false false R P ++ [[82], R, [80], P]) HL4.out.symm (by rw [List.length_append, hl3]; rfl) (by omega) ho8')
        clear hl6 ho7 hB7 hg8
        go_wp2_with fail
        refine HLi.out.mono ?_
        rintro e w9 ⟨rfl, hb9⟩
        go_wp2_with fail
        go_ret
        exact ⟨rfl, hB8.trans (hb9.mono hB8.size)⟩
end Go.Proofs.YtdedkfbiookofaaGreatDoor
namespace Go.Proofs.YtdedkfbiookofaaGreatDoor
set_option maxRecDepth 100000
open Go.RowKit
theorem maxL_shape {w : World} (h : w.ShapedOpen Tryz.prog) : MaxL w :=
  cell_of_shapedOpen_int (zero := #[.int .i64 0]) (t := 3) (k := .i64) (g := 1) h (of_decide_eq_true (by kernel_rfl)) (by kernel_rfl) (by kernel_rfl) (by kernel_rfl) (by kernel_rfl) Tryz.underlying3
end Go.Proofs.YtdedkfbiookofaaGreatDoor
