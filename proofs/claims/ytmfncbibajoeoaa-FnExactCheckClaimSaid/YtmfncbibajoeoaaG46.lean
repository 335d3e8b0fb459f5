/- CoversAll of both, at words: contracts. The program's checks of a claim: contracts. -/
import Derived.Test.YtmfncbibajoeoaaG34
import Derived.Test.YtmfncbibajoeoaaG39
import Derived.Test.YtmfncbibajoeoaaG40
import Derived.Test.YtmfncbibajoeoaaG42
import Derived.Test.YtmfncbibajoeoaaG43
import Derived.Test.YtmfncbibajoeoaaG45
import Derived.Test.YtmfncbibajoeoaaG03
import Derived.OneCell
namespace Go.Proofs.Ytmfncbibajoeoaa
set_option maxRecDepth 100000
open Go.RowKit Game

def longN (c : List (List Int)) : List Int := (normG c 30 (negL c.length)).getD []
def coversB (c : List (List Int)) (v : List Int) : Bool := finB c && decide (starL c v = longN c)
theorem longN_ok {c : List (List Int)} (hC : IsC c) (hf : finB c = true) : normG c 30 (negL c.length) = some (longN c) ∧ (longN c).length ≤ 24 := by
  obtain ⟨long, opp, hL, h24⟩ := longOf_fin24 hC hf
  have e : longN c = long := by unfold longN; rw [hL.norm]; rfl
  rw [e]
  exact ⟨hL.norm, h24⟩

set_option maxHeartbeats 1000000 in
theorem impl_CoversAll_ok (gc oc n cc g o m cp : Nat) (c : List (List Int)) (v : List Int) (w : World) (hn : c.length = n) (hm : v.length = m) (hW : WordOk c v) (hgc : gc < w.heap.size) (hg : g < w.heap.size) (hr : Rows2 w gc oc c) (hv : Cells w g o v) :
    Calls Try.prog 13 #[(Value.slice (some ⟨gc, oc, none⟩) n cc), (Value.slice (some ⟨g, o, none⟩) m cp)] w (Gives w (.bool (coversB c v))) := by
  have hn4 := hW.isC.2.1
  have hcl := hW.isC.2.2.1
  have hl := hW.few
  have hC := hW.isC
  have hsl := (starTo_lets hW v.length (Nat.le_refl _)).few
  have k1 := Lib.hid (impl_StarWord_ok gc oc n cc g o m cp c v w hn hm hW hgc hg hr hv)
  have k2 := fun (W : World) (hb : Below w.heap.size w W) => impl_IsFinite_any gc oc n cc c W hn (by omega) (fun j hj => by have := hcl j hj; omega) (Nat.lt_of_lt_of_le hgc hb.size) (hr.below hb hgc)
  unfold coversB
  cases hf : finB c with
  | false =>
    rw [hf] at k2
    have K2 := Lib.hid k2
    rw [Bool.false_and]
    clear k2 hr hv hW hcl hf hsl
    go_enter Try.func13, Try.ntmps13
    go_wp2_with fail
    refine k1.out.mono ?_
    rintro e w1 ⟨g1, c1, rfl, ho1, hb1⟩
    go_wp2_with fail
    refine (K2.out w1 hb1).mono ?_
    rintro e w2 ⟨rfl, hb2⟩
    go_wp2_with fail
    go_ret
    exact ⟨rfl, hb1.trans (hb2.mono hb1.size)⟩
  | true =>
    rw [hf] at k2
    have K2 := Lib.hid k2
    rw [Bool.true_and]
    obtain ⟨hlong, h24⟩ := longN_ok hC hf
    have K3 := Lib.hid (fun (W : World) (hb : Below w.heap.size w W) => impl_longestElement_any gc oc n cc c (longN c) W hn hC hlong (Nat.lt_of_lt_of_le hgc hb.size) (hr.below hb hgc))
    have K4 := Lib.hid (fun (W : World) (g1 c1 g2 c2 : Nat) (x1 : Cells W g1 0 (starL c v)) (x2 : Cells W g2 0 (longN c)) => impl_EqualWords_any g1 0 (starL c v).length c1 g2 0 (longN c).length c2 (starL c v) (longN c) W rfl rfl (by have : (starL c v).length ≤ v.length := hsl; omega) (by omega) x1 x2)
    clear k2 hr hv hW hcl hf hsl hlong h24
    generalize longN c = y at *
    generalize starL c v = x at *
    generalize decide (x = y) = r at *
    go_enter Try.func13, Try.ntmps13
    go_wp2_with fail
    refine k1.out.mono ?_
    rintro e w1 ⟨g1, c1, rfl, ho1, hb1⟩
    go_wp2_with fail
    refine (K2.out w1 hb1).mono ?_
    rintro e w2 ⟨rfl, hb2⟩
    have hB := hb1.trans (hb2.mono hb1.size)
    have ho2 := ho1.below hb2 ho1.lt
    clear hb1 hb2 ho1
    go_wp2_with fail
    refine (K3.out w2 hB).mono ?_
    rintro e w3 ⟨g3, c3, rfl, ho3, hb3⟩
    have hB3 := hB.trans (hb3.mono hB.size)
    have ho4 := ho2.below hb3 ho2.lt
    clear hB hb3 ho2
    go_wp2_with fail
    refine (K4.out w3 g1 c1 g3 c3 ho4.cells ho3.cells).mono ?_
    rintro e w4 ⟨rfl, hs4⟩
    go_wp2_with fail
    go_ret
    exact ⟨rfl, below_still hB3 hs4⟩

theorem spec_LongestElement_inf (gc oc n cc : Nat) (w : World) (hf : Calls Try.prog 132 #[(Value.slice (some ⟨gc, oc, none⟩) n cc)] w (Gives w (.bool false))) :
    Calls Try.prog 109 #[(Value.slice (some ⟨gc, oc, none⟩) n cc)] w (GotIntsB w [] false) := by
  have Hf := Lib.hid hf
  clear hf
  go_enter Try.func109, Try.ntmps109
  go_wp2_with fail
  refine Hf.out.mono ?_
  rintro e w1 ⟨rfl, hb1⟩
  go_wp2_with fail
  go_ret2
  exact ⟨_, 0, rfl, Own.empty hb1.size, hb1.alloc hb1.size _⟩

set_option maxHeartbeats 1000000 in
theorem spec_CoversAll_ok (gc oc n cc g o m cp : Nat) (c : List (List Int)) (v : List Int) (w : World) (hn : c.length = n) (hm : v.length = m) (hW : WordOk c v) (hgc : gc < w.heap.size) (hg : g < w.heap.size) (hr : Rows2 w gc oc c) (hv : Cells w g o v) :
    Calls Try.prog 72 #[(Value.slice (some ⟨gc, oc, none⟩) n cc), (Value.slice (some ⟨g, o, none⟩) m cp)] w (Gives w (.bool (coversB c v))) := by
  have hn4 := hW.isC.2.1
  have hcl := hW.isC.2.2.1
  have hl := hW.few
  have hC := hW.isC
  have hsl := (starTo_lets hW v.length (Nat.le_refl _)).few
  have k1 := Lib.hid (spec_StarWord_ok gc oc n cc g o m cp c v w hn hm hW hgc hg hr hv)
  unfold coversB
  cases hf : finB c with
  | false =>
    have K2 := Lib.hid (fun (W : World) (hb : Below w.heap.size w W) => spec_LongestElement_inf gc oc n cc W (by have := spec_IsFinite_any gc oc n cc c W hn (by omega) (fun j hj => by have := hcl j hj; omega) (Nat.lt_of_lt_of_le hgc hb.size) (hr.below hb hgc); rwa [hf] at this))
    rw [Bool.false_and]
    clear hr hv hW hcl hf hsl
    go_enter Try.func72, Try.ntmps72
    go_wp2_with fail
    refine k1.out.mono ?_
    rintro e w1 ⟨g1, c1, rfl, ho1, hb1⟩
    go_wp2_with fail
    refine (K2.out w1 hb1).mono ?_
    rintro e w2 ⟨g2, c2, rfl, ho2, hb2⟩
    go_wp2_with fail
    go_ret
    exact ⟨rfl, hb1.trans (hb2.mono hb1.size)⟩
  | true =>
    rw [Bool.true_and]
    obtain ⟨hlong, h24⟩ := longN_ok hC hf
    have K3 := Lib.hid (fun (W : World) (hb : Below w.heap.size w W) => spec_LongestElement_ok gc oc n cc c (longN c) W hn hC hf hlong (Nat.lt_of_lt_of_le hgc hb.size) (hr.below hb hgc))
    have K4 := Lib.hid (fun (W : World) (g1 c1 g2 c2 : Nat) (x1 : Cells W g1 0 (starL c v)) (x2 : Cells W g2 0 (longN c)) => spec_EqualWords_any g1 0 (starL c v).length c1 g2 0 (longN c).length c2 (starL c v) (longN c) W rfl rfl (by have : (starL c v).length ≤ v.length := hsl; omega) x1 x2)
    clear hr hv hW hcl hf hsl hlong h24
    generalize longN c = y at *
    generalize starL c v = x at *
    generalize decide (x = y) = r at *
    go_enter Try.func72, Try.ntmps72
    go_wp2_with fail
    refine k1.out.mono ?_
    rintro e w1 ⟨g1, c1, rfl, ho1, hb1⟩
    go_wp2_with fail
    refine (K3.out w1 hb1).mono ?_
    rintro e w3 ⟨g3, c3, rfl, ho3, hb3⟩
    have hB3 := hb1.trans (hb3.mono hb1.size)
    have ho4 := ho1.below hb3 ho1.lt
    clear hb3 ho1
    go_wp2_with fail
    refine (K4.out w3 g1 c1 g3 c3 ho4.cells ho3.cells).mono ?_
    rintro e w4 ⟨rfl, hs4⟩
    go_wp2_with fail
    go_ret
    exact ⟨rfl, below_still hB3 hs4⟩
end Go.Proofs.Ytmfncbibajoeoaa
namespace Go.Proofs.Ytmfncbibajoeoaa
set_option maxRecDepth 100000
open Go.RowKit Game

theorem sixA {W : World} {b : Nat} {v0 v1 v2 v3 v4 v5 : Value} {t : TypeId} (h : W.heap[b]? = some (.cells #[v0, v1, v2, v3, v4, v5] t (0, 0))) :
    W.cell? ⟨b, 0, none⟩ = some v0 ∧ W.cell? ⟨b, 1, none⟩ = some v1 ∧ W.cell? ⟨b, 2, none⟩ = some v2 ∧ W.cell? ⟨b, 3, none⟩ = some v3 ∧ W.cell? ⟨b, 4, none⟩ = some v4 ∧ W.cell? ⟨b, 5, none⟩ = some v5 := by
  refine ⟨?_, ?_, ?_, ?_, ?_, ?_⟩ <;> (rw [cell_of_cells h]; rfl)

/-! ### below: letters of the normal form -/
def belowB (c : List (List Int)) (a b ps : List Int) : Bool := takeB (nfI c b).length ps && decide (imI c (takeL (nfI c b) ps) = imI c a)

set_option maxRecDepth 100000 in
set_option maxHeartbeats 2000000 in
theorem impl_checkBelow_ok (v : Value) (x : ClaimD) (w : World) (h : ClaimV w v x) (hA : WordOk x.cartan x.a) (hB : WordOk x.cartan x.b) (hl : x.proof.length ≤ 1048576) :
    Calls Try.prog 77 #[v] w (Gives w (.bool (belowB x.cartan x.a x.b x.proof))) := by
  obtain ⟨p1, p2, p3, p4, p5, rfl, a1, a2, a3, a4, a5⟩ := h
  obtain ⟨g1, o1, n1, c1, rfl, l1, m1, t1, r1⟩ := a1
  obtain ⟨g2, o2, n2, c2, rfl, l2, m2, t2, r2⟩ := a2
  obtain ⟨g3, o3, n3, c3, rfl, l3, m3, t3, r3⟩ := a3
  obtain ⟨g4, o4, n4, c4, rfl, l4, m4, t4, r4⟩ := a4
  obtain ⟨g5, o5, n5, c5, rfl, -⟩ := a5
  generalize x.cartan = c at *
  generalize x.a = a at *
  generalize x.b = b at *
  generalize x.proof = ps at *
  generalize x.kind = kd at *
  subst l1 l2 l3 l4
  have hLB := hB.lets.mono (show 15 ≤ 30 by omega)
  have hnf := nfI_ok hLB
  have hnl := hnf.len
  have hb15 := hB.few
  have kR := Lib.hid (fun (W : World) (hb : Below w.heap.size w W) => impl_reduced_any g1 o1 _ c1 g3 o3 _ c3 c b W rfl rfl hLB (Nat.lt_of_lt_of_le t1 hb.size) (Nat.lt_of_lt_of_le t3 hb.size) (r1.below hb t1) (r3.below hb t3))
  have hlets := Lib.hid (fun (hok : takeB (nfI c b).length ps = true) => (takeL_lets (hnf.lets.mono (show b.length ≤ 15 by omega)) hok).mono (show 15 ≤ 30 by omega))
  have kS := Lib.hid (fun (hok : takeB (nfI c b).length ps = true) (W : World) (B g6 c6 : Nat) (hb : Below w.heap.size w W) (ho : Own W B g6 c6 (takeL (nfI c b) ps)) => impl_same_any g1 o1 _ c1 g6 0 ps.length c6 g2 o2 _ c2 c (takeL (nfI c b) ps) a W rfl (by simp [takeL]) rfl (hlets.out hok) (hA.lets.mono (by omega)) (Nat.lt_of_lt_of_le t1 hb.size) ho.lt (Nat.lt_of_lt_of_le t2 hb.size) (r1.below hb t1) ho.cells (r2.below hb t2))
  have hres : belowB c a b ps = (takeB (nfI c b).length ps && decide (imI c (takeL (nfI c b) ps) = imI c a)) := rfl
  have Hres := Lib.hid hres
  have C0 := Lib.hid (heap_alloc_new w (.cells #[.int .i64 kd, (Value.slice (some ⟨g1, o1, none⟩) c.length c1), (Value.slice (some ⟨g2, o2, none⟩) a.length c2), (Value.slice (some ⟨g3, o3, none⟩) b.length c3), (Value.slice (some ⟨g4, o4, none⟩) ps.length c4), (Value.slice (some ⟨g5, o5, none⟩) n5 c5)] 50 (0, 0)))
  have hB0 : Below w.heap.size w (w.alloc (.cells #[.int .i64 kd, (Value.slice (some ⟨g1, o1, none⟩) c.length c1), (Value.slice (some ⟨g2, o2, none⟩) a.length c2), (Value.slice (some ⟨g3, o3, none⟩) b.length c3), (Value.slice (some ⟨g4, o4, none⟩) ps.length c4), (Value.slice (some ⟨g5, o5, none⟩) n5 c5)] 50)) := (Below.refl _ _).alloc (Nat.le_refl _) _
  clear hLB hnf hA hB r1 r2 r3 hres hlets
  generalize nfI c b = y at *
  have hy15 : y.length ≤ 15 := by omega
  clear hnl hb15
  obtain ⟨c00, c01, c02, c03, c04, c05⟩ := sixA C0.out
  go_enter Try.func77, Try.ntmps77
  go_wp2_with fail
  refine (kR.out _ hB0).mono ?_
  rintro e w1 ⟨gy, cy, rfl, hoy, hb1⟩
  have hB1 := hB0.trans (hb1.mono hB0.size)
  have C1 := Lib.hid ((hb1.block _ (lt_of_block C0.out)).trans C0.out)
  have hoy1 := hoy.mono hB0.size
  clear hB0 hb1 C0 hoy c00 c01 c02 c03 c04 c05
  obtain ⟨c00, c01, c02, c03, c04, c05⟩ := sixA C1.out
  have hAl := (Below.refl w1.heap.size w1).alloc (Nat.le_refl _) (.cells #[] 3)
  have hB2 := hB1.trans (hAl.mono hB1.size)
  have C2 := Lib.hid ((hAl.block _ (lt_of_block C1.out)).trans C1.out)
  have hoy2 := hoy1.below hAl hoy1.lt
  have d4 := keepCell hAl c04
  have hE : Own (w1.alloc (.cells #[] 3)) w.heap.size w1.heap.size 0 [] := Own.empty hB1.size
  have hney : gy ≠ w1.heap.size := by have := hoy1.lt; omega
  have hbx : w.heap.size < w1.heap.size := lt_of_block C1.out
  go_wp2
  clear c00 c01 c02 c03 c04 c05 hoy1 hB1 hAl C1
  obtain ⟨bX, hbX⟩ : ∃ bX, bX = w.heap.size := ⟨_, rfl⟩
  go_loopw [4, 5, 17] (fun xv lv kv wr => ∃ (k g6 c6 : Nat), k ≤ ps.length ∧ kv = .int .i64 k ∧ xv = (Value.slice (some ⟨g6, 0, none⟩) k c6) ∧ lv = .int .i64 (prevAt ps k) ∧ Hid (∀ j, j < k → takeAt y.length ps j) ∧ Hid (wr.heap[w.heap.size]? = some (.cells #[.int .i64 kd, (Value.slice (some ⟨g1, o1, none⟩) c.length c1), (Value.slice (some ⟨g2, o2, none⟩) a.length c2), (Value.slice (some ⟨g3, o3, none⟩) b.length c3), (Value.slice (some ⟨g4, o4, none⟩) ps.length c4), (Value.slice (some ⟨g5, o5, none⟩) n5 c5)] 50 (0, 0))) ∧ Own wr w.heap.size gy cy y ∧ Own wr w.heap.size g6 c6 (takeTo y ps k) ∧ gy ≠ g6 ∧ w.heap.size < g6 ∧ Below w.heap.size w wr) (fun _ _ kv _ => ps.length - (intOf kv).toNat)
  case atStart => exact ⟨0, _, 0, Nat.zero_le _, rfl, rfl, rfl, fun j h => absurd h (by omega), C2.out, hoy2, hE, hney, hbx, hB2⟩
  case round =>
    clear C2 hoy2 hE hney hbx hB2 d4
    obtain ⟨k, g6, c6, hk, rfl, rfl, rfl, hp, hC, hoy, ho, hne, hlt6, hb⟩ := hrel
    by_cases hlt : k < ps.length
    · have q1 := (r4.below hb t4) k hlt
      have hiff := takeAt_iff hp.out
      have hno : ¬ takeAt y.length ps k → belowB c a b ps = false := fun h => by rw [Hres.out, takeB_no hlt h]; rfl
      have hyes : takeAt y.length ps k → ∀ j, j < k + 1 → takeAt y.length ps j := fun h j hj => by
        by_cases e : j = k
        · subst e; exact h
        · exact hp.out j (by omega)
      have hps := Lib.hid (prevAt_succ ps k)
      have hp0 := fun h : takeAt y.length ps k => h.1
      have hsucc := takeTo_succ (v := y) hlt
      have hlen := Lib.hid (takeTo_length (v := y) (Nat.le_of_lt hlt))
      generalize prevAt ps k = z at *
      generalize ps.getD k 0 = p at *
      by_cases h1 : p ≤ z
      · have Hno := Lib.hid (hno (fun h => by have := (hiff.1 h).1; omega))
        clear hno hyes hiff hp hp0 hsucc
        go_wp2_with fail
        go_ret
        exact ⟨ret_bool Hno.out.symm, hb⟩
      · by_cases h2 : (y.length : Int) ≤ p
        · have Hno := Lib.hid (hno (fun h => by have := (hiff.1 h).2; omega))
          clear hno hyes hiff hp hp0 hsucc
          go_wp2_with fail
          go_ret
          exact ⟨ret_bool Hno.out.symm, hb⟩
        · have htk := hiff.2 ⟨by omega, by omega⟩
          have hpn := hp0 htk
          have Hyes := Lib.hid (hyes htk)
          obtain ⟨pn, rfl⟩ : ∃ t : Nat, p = t := ⟨p.toNat, by omega⟩
          rw [Int.toNat_natCast] at hsucc
          have hpy : pn < y.length := by omega
          have v1 := hoy.cell pn hpy
          have Hsucc := Lib.hid hsucc
          generalize y.getD pn 0 = q at *
          clear hno hyes hiff hp hp0 htk hpn hsucc
          go_wp2_with (at_builtin; refine wpList_append_int_n rfl _ _ rfl w.heap.size g6 c6 k (takeTo y ps k) q hlen.out ho rfl rfl (by omega) ?_)
          intro g7 c7 w7 ho7 hg7 hor7
          rw [← Hsucc.out] at ho7
          have hb7 := hb.grown hg7 hb.size (by intro j hj; cases hj; exact ho.base)
          have hoy7 := hoy.grown hg7 (by intro e; cases e; exact hne rfl)
          have hC7 := Lib.hid ((hg7.block _ (lt_of_block hC.out) (by intro e; cases e; omega)).trans hC.out)
          have hne7 : gy ≠ g7 := by
            rcases hor7 with h | h
            · rw [h]; exact hne
            · have := hoy.lt; omega
          have hlt7 : w.heap.size < g7 := by
            rcases hor7 with h | h
            · rw [h]; exact hlt6
            · have := hb.size; omega
          clear hg7 hor7 ho hoy hb hC hne hlt6
          go_wp2_with fail
          go_roundw
          case rel => exact ⟨k + 1, g7, c7, by omega, by go_num, rfl, by rw [hps.out], Hyes.out, hC7.out, hoy7, ho7, hne7, hlt7, hb7⟩
          case measure => simp [intOf]; omega
    · obtain rfl : k = ps.length := by omega
      have hT := takeB_yes hp.out
      rw [takeTo_all] at ho
      have hS := Lib.hid (kS.out hT wr _ g6 c6 hb ho)
      have Hr := Lib.hid (show belowB c a b ps = decide (imI c (takeL y ps) = imI c a) by rw [Hres.out, hT, Bool.true_and])
      obtain ⟨c00, c01, c02, c03, c04, c05⟩ := sixA hC.out
      clear hT hp
      generalize decide (imI c (takeL y ps) = imI c a) = rr at *
      go_wp2_with fail
      refine hS.out.mono ?_
      rintro e w8 ⟨rfl, hb8⟩
      go_wp2_with fail
      go_ret
      exact ⟨ret_bool Hr.out.symm, hb.trans (hb8.mono hb.size)⟩
end Go.Proofs.Ytmfncbibajoeoaa
