/- BraidAt by the program, ApplyBraids of both: contracts. CoversAll of both, at words: contracts. Claims: what a claim's value reads as. The program's checks of a claim: contracts. -/
import Derived.Test.YtkjglfafphffiaaGreatT22
import Derived.Test.YtkjglfafphffiaaGreatT19
import Derived.Test.YtkjglfafphffiaaGreatT00
import Derived.Test.YtkjglfafphffiaaGreatT20
import Derived.Test.YtkjglfafphffiaaGreatT21
import Derived.OneCell
namespace Go.Proofs.YtkjglfafphffiaaGreat
set_option maxRecDepth 100000
open Go.RowKit
set_option maxHeartbeats 1000000 in
theorem impl_BraidAt_any (gc oc n cc g o m cp : Nat) (a : Int) (c : List (List Int)) (v : List Int) (w : World) (hn : c.length = n) (hm : v.length = m) (hx : c.length ≤ 1048576) (hrl : ∀ j, j < c.length → (c.getD j []).length ≤ 1048576) (hl : v.length ≤ 1048576) (hcap : v.length ≤ cp) (ha : -9223372036854775808 ≤ a ∧ a ≤ 9223372036854775807)
    (hgc : gc < w.heap.size) (hg : g < w.heap.size) (hr : Rows2 w gc oc c) (hv : Cells w g o v) :
    Calls Tryz.prog 37 #[(Value.slice (some ⟨gc, oc, none⟩) n cc), (Value.slice (some ⟨g, o, none⟩) m cp), .int .i64 a] w (GotIntsB w ((braidA c v a).getD v) (braidA c v a).isSome) := by
  have hIW := impl_IsWord_any gc oc n cc g o m cp c v w hn hm hx hrl hl hr hv
  cases hw : isWordB c v with
  | false =>
    rw [hw] at hIW
    rw [braidA_not hw]
    have Hi := Lib.hid hIW
    subst hm
    clear hIW hw hr hrl
    go_enter Tryz.func37, Tryz.ntmps37
    go_wp2_with fail
    refine Hi.out.mono ?_
    rintro e w1 ⟨rfl, hs1⟩
    have hb1 := below_still (Below.refl w.heap.size w) hs1
    have hv1 := hv.still hs1
    have hg1 := Nat.lt_of_lt_of_le hg hb1.size
    go_wp2_with (at_builtin; refine wpList_clone rfl _ _ rfl g o _ cp v rfl hg1 hv1 rfl rfl (by omega) ?_)
    intro g3 c3 w3 ho3 hb3
    go_wp2_with fail
    go_ret2
    exact ⟨g3, c3, rfl, ho3.mono hb1.size, hb1.trans (hb3.mono hb1.size)⟩
  | true =>
    rw [hw] at hIW
    have hW := wordOk_of hw
    rw [braidA_word hw]
    have Hi := Lib.hid hIW
    have Hb := Lib.hid (fun W (hs : ∃ q, W = w.drewN q) => impl_braided_any gc oc n cc g o m cp a c v W hn hm hcap hW ha (Nat.lt_of_lt_of_le hgc (below_still (Below.refl w.heap.size w) hs).size) (Nat.lt_of_lt_of_le hg (below_still (Below.refl w.heap.size w) hs).size) (hr.still hs) (hv.still hs))
    have hlen : ∀ y, braidM c v a = some y → y.length = m := fun y h => by rw [← hm]; exact braidA_length (a := a) (by rw [braidA_word hw]; exact h)
    have Hlen := Lib.hid hlen
    subst hm
    clear hIW hw hr hrl hW hlen
    generalize braidM c v a = r at *
    go_enter Tryz.func37, Tryz.ntmps37
    go_wp2_with fail
    refine Hi.out.mono ?_
    rintro e w1 ⟨rfl, hs1⟩
    have hb1 := below_still (Below.refl w.heap.size w) hs1
    go_wp2_with fail
    refine (Hb.out w1 hs1).mono ?_
    intro e w2 hp
    rcases hp with ⟨rfl, rfl, hb2⟩ | ⟨y, rfl, g2, c2, rfl, ho2, hb2⟩
    · have hb := hb1.trans (hb2.mono hb1.size)
      have hv2 := hv.below hb hg
      have hg2 := Nat.lt_of_lt_of_le hg hb.size
      go_wp2_with (at_builtin; refine wpList_clone rfl _ _ rfl g o _ cp v rfl hg2 hv2 rfl rfl (by omega) ?_)
      intro g3 c3 w3 ho3 hb3
      go_wp2_with fail
      go_ret2
      exact ⟨g3, c3, rfl, ho3.mono hb.size, hb.trans (hb3.mono hb.size)⟩
    · have hyl := Hlen.out y rfl
      have hb := hb1.trans (hb2.mono hb1.size)
      have ho := ho2.mono hb1.size
      have Hyl := Lib.hid hyl
      rw [hyl]
      clear hyl ho2 hb2
      go_wp2_with fail
      go_ret2
      exact GotIntsB.mk' g2 c2 Hyl.out ho hb
/-- braid moves, one after the other -/
def applyA (c : List (List Int)) : List Int → List Int → Option (List Int)
  | v, [] => some v
  | v, a :: ps => match braidA c v a with
    | none => none
    | some y => applyA c y ps
def applyB (c : List (List Int)) (v ps : List Int) : Option (List Int) := if isWordB c v = true then applyA c v ps else none
theorem applyA_none {c : List (List Int)} {y ps : List Int} {k : Nat} (hk : k < ps.length) (h : braidA c y (ps.getD k 0) = none) : applyA c y (ps.drop k) = none := by
  rw [List.drop_eq_getElem_cons hk]
  have e : ps.getD k 0 = ps[k] := by simp [List.getD, hk]
  rw [e] at h
  simp only [applyA, h]
theorem applyA_some {c : List (List Int)} {y z ps : List Int} {k : Nat} (hk : k < ps.length) (h : braidA c y (ps.getD k 0) = some z) : applyA c y (ps.drop k) = applyA c z (ps.drop (k + 1)) := by
  rw [List.drop_eq_getElem_cons hk]
  have e : ps.getD k 0 = ps[k] := by simp [List.getD, hk]
  rw [e] at h
  simp only [applyA, h]
theorem applyA_end (c : List (List Int)) (y ps : List Int) : applyA c y (ps.drop ps.length) = some y := by rw [List.drop_length]; rfl
theorem applyB_true {c : List (List Int)} {v ps : List Int} (h : isWordB c v = true) : applyB c v ps = applyA c v ps := if_pos h
theorem applyB_false {c : List (List Int)} {v ps : List Int} (h : isWordB c v = false) : applyB c v ps = none := if_neg (by rw [h]; decide)
set_option maxHeartbeats 2000000 in
theorem impl_ApplyBraids_any (gc oc n cc g o m cp g2 o2 n2 c2 : Nat) (c : List (List Int)) (v ps : List Int) (w : World) (hn : c.length = n) (hm : v.length = m) (hn2 : ps.length = n2) (hx : c.length ≤ 1048576) (hrl : ∀ j, j < c.length → (c.getD j []).length ≤ 1048576) (hl : v.length ≤ 1048576) (hl2 : ps.length ≤ 1048576)
    (hps : ∀ k, k < ps.length → -9223372036854775808 ≤ ps.getD k 0 ∧ ps.getD k 0 ≤ 9223372036854775807)
    (hgc : gc < w.heap.size) (hg : g < w.heap.size) (hg2 : g2 < w.heap.size) (hr : Rows2 w gc oc c) (hv : Cells w g o v) (hp : Cells w g2 o2 ps) :
    Calls Tryz.prog 11 #[(Value.slice (some ⟨gc, oc, none⟩) n cc), (Value.slice (some ⟨g, o, none⟩) m cp), (Value.slice (some ⟨g2, o2, none⟩) n2 c2)] w (GotIntsB w ((applyB c v ps).getD v) (applyB c v ps).isSome) := by
  subst hn2; subst hm
  have HIW := Lib.hid (fun W (hb : Below w.heap.size w W) => impl_IsWord_any gc oc n cc g o _ cp c v W hn rfl hx hrl hl (hr.below hb hgc) (hv.below hb hg))
  have Hr := Lib.hid hr; have Hrl := Lib.hid hrl; have Hps := Lib.hid hps; have Hp := Lib.hid hp
  have HB := Lib.hid (fun (y : List Int) (a : Int) (W : World) (g3 c3 : Nat) (hyl : y.length = v.length) (ha : -9223372036854775808 ≤ a ∧ a ≤ 9223372036854775807) (hb : Below w.heap.size w W) (ho : Own W w.heap.size g3 c3 y) => impl_BraidAt_any gc oc n cc g3 0 v.length c3 a c y W hn hyl hx hrl (by omega) ho.capLe ha (Nat.lt_of_lt_of_le hgc hb.size) ho.lt (hr.below hb hgc) ho.cells)
  clear hr hrl hps hp
  go_enter Tryz.func11, Tryz.ntmps11
  go_wp2_with (at_builtin; refine wpList_clone rfl _ _ rfl g o _ cp v rfl hg hv rfl rfl (by omega) ?_)
  intro g3 c3 w3 ho3 hb3
  have hI := Lib.hid (HIW.out w3 hb3)
  go_wp2_with fail
  refine hI.out.mono ?_
  rintro e w4 ⟨rfl, hs4⟩
  have hb4 := below_still hb3 hs4
  have ho4 := ho3.still hs4
  go_wp2_with fail
  clear hI HIW ho3 hb3 hs4
  go_loopw [8, 9, 20] (fun xv bv kv wr => ∃ (k g3 c3 : Nat) (y : List Int) (b : Bool), k ≤ ps.length ∧ kv = .int .i64 k ∧ xv = (Value.slice (some ⟨g3, 0, none⟩) v.length c3) ∧ bv = .bool b ∧ Hid (y.length = v.length) ∧ Hid (b = true → isWordB c v = true ∧ applyA c y (ps.drop k) = applyA c v ps) ∧ Hid (b = false → applyB c v ps = none) ∧ Own wr w.heap.size g3 c3 y ∧ Below w.heap.size w wr) (fun _ _ kv _ => ps.length - (intOf kv).toNat)
  case atStart => exact ⟨0, g3, c3, v, isWordB c v, Nat.zero_le _, rfl, rfl, rfl, rfl, fun h => ⟨h, rfl⟩, fun h => applyB_false h, ho4, hb4⟩
  case round =>
    clear ho4 hb4
    obtain ⟨k, g3, c3, y, b, hk, rfl, rfl, rfl, hyl, hyes, hno, ho, hb⟩ := hrel
    by_cases hlt : k < ps.length
    · have p1 := (Hp.out.below hb hg2) k hlt
      have hpk := Hps.out k hlt
      cases b with
      | false =>
        have hN := hno.out rfl
        have HN := Lib.hid hN
        clear hyes hno hN
        have hvb := hv.below hb hg
        have hgb := Nat.lt_of_lt_of_le hg hb.size
        go_wp2_with (at_builtin; refine wpList_clone rfl _ _ rfl g o _ cp v rfl hgb hvb rfl rfl (by omega) ?_)
        intro g5 c5 w5 ho5 hb5
        go_wp2_with fail
        go_ret2
        rw [HN.out]
        exact ⟨g5, c5, rfl, ho5.mono hb.size, hb.trans (hb5.mono hb.size)⟩
      | true =>
        have hY := hyes.out rfl
        have hcall := HB.out y (ps.getD k 0) wr g3 c3 hyl.out hpk hb ho
        have hnone : braidA c y (ps.getD k 0) = none → applyB c v ps = none := fun h => by rw [applyB_true hY.1, ← hY.2]; exact applyA_none hlt h
        have hsome : ∀ z, braidA c y (ps.getD k 0) = some z → applyA c z (ps.drop (k + 1)) = applyA c v ps := fun z h => by rw [← hY.2]; exact (applyA_some hlt h).symm
        have hlen : ∀ z, braidA c y (ps.getD k 0) = some z → z.length = v.length := fun z h => by rw [braidA_length h]; exact hyl.out
        generalize braidA c y (ps.getD k 0) = r at *
        generalize ps.getD k 0 = a at *
        have Hw := Lib.hid hY.1
        have Hnone := Lib.hid hnone; have Hsome := Lib.hid hsome; have Hlen := Lib.hid hlen; have Hcall := Lib.hid hcall
        clear hY hnone hsome hlen hcall hyes hno hpk
        have hrl : (r.getD y).length = v.length := by
          cases r with
          | none => exact hyl.out
          | some z => exact Hlen.out z rfl
        have Hrl := Lib.hid hrl
        clear hrl
        go_wp2_with fail
        refine Hcall.out.mono ?_
        rintro e w5 ⟨g5, c5, rfl, ho5, hb5⟩
        rw [Hrl.out]
        have hB5 := hb.trans (hb5.mono hb.size)
        have hO5 := ho5.mono hb.size
        clear ho5 hb5 Hcall
        go_wp2_with fail
        go_roundw
        case rel =>
          refine ⟨k + 1, g5, c5, r.getD y, r.isSome, by omega, by go_num, rfl, rfl, Hrl.out, ?_, ?_, hO5, hB5⟩
          · intro h
            cases r with
            | none => cases h
            | some z => exact ⟨Hw.out, Hsome.out z rfl⟩
          · intro h
            cases r with
            | none => exact Hnone.out rfl
            | some z => cases h
        case measure => simp [intOf]; omega
    · obtain rfl : k = ps.length := by omega
      cases b with
      | false =>
        have hN := hno.out rfl
        have HN := Lib.hid hN
        clear hyes hno hN
        have hvb := hv.below hb hg
        have hgb := Nat.lt_of_lt_of_le hg hb.size
        go_wp2_with (at_builtin; refine wpList_clone rfl _ _ rfl g o _ cp v rfl hgb hvb rfl rfl (by omega) ?_)
        intro g5 c5 w5 ho5 hb5
        go_wp2_with fail
        go_ret2
        rw [HN.out]
        exact ⟨g5, c5, rfl, ho5.mono hb.size, hb.trans (hb5.mono hb.size)⟩
      | true =>
        have hY := hyes.out rfl
        have hN : applyB c v ps = some y := by rw [applyB_true hY.1, ← hY.2]; exact applyA_end _ _ _
        have HN := Lib.hid hN
        clear hyes hno hN hY
        go_wp2_with fail
        go_ret2
        rw [HN.out]
        exact GotIntsB.mk' g3 c3 hyl.out ho hb
end Go.Proofs.YtkjglfafphffiaaGreat
namespace Go.Proofs.YtkjglfafphffiaaGreat
set_option maxRecDepth 100000
open Go.RowKit Game
def longN (c : List (List Int)) : List Int := (normG c 30 (negL c.length)).getD []
def coversB (c : List (List Int)) (v : List Int) : Bool := finB c && decide (starL c v = longN c)
theorem longN_ok {c : List (List Int)} (hC : IsC c) (hf : finB c = true) : normG c 30 (negL c.length) = some (longN c) ∧ (longN c).length ≤ 24 := by
  obtain ⟨long, opp, hL, h24⟩ := longOf_fin24 hC hf
  have e : longN c = long := by unfold longN; rw [hL.norm]; rfl
  rw [e]
  exact ⟨hL.norm, h24⟩
set_option maxHeartbeats 1000000 in
theorem impl_CoversAll_ok (gc oc n cc g o m cp : Nat) (c : List (List Int)) (v : List Int) (w : World) (hn : c.length = n) (hm : v.length = m) (hW : WordOk c v) (hgc : gc < w.heap.size) (hg : g < w.heap.size) (hr : Rows2 w gc oc c) (hv : Cells w g o v) :
    Calls Tryz.prog 55 #[(Value.slice (some ⟨gc, oc, none⟩) n cc), (Value.slice (some ⟨g, o, none⟩) m cp)] w (Gives w (.bool (coversB c v))) := by
  have hn4 := hW.isC.2.1
  have hcl := hW.isC.2.2.1
  have hl := hW.few
  have hC := hW.isC
  have hsl := (starTo_lets hW v.length (Nat.le_refl _)).few
  have k1 := Lib.hid (impl_StarWord_ok gc oc n cc g o m cp c v w hn hm hW hgc hg hr hv)
  have k2 := fun (W : World) (hb : Below w.heap.size w W) => impl_IsFinite_any gc oc n cc c W hn (by omega) (fun j hj => by have := hcl j hj; omega) (Nat.lt_of_lt_of_le hgc hb.size) (hr.below hb hgc)
  unfold coversB
  cases hf : finB c with
  | false =>
    rw [hf] at k2
    have K2 := Lib.hid k2
    rw [Bool.false_and]
    clear k2 hr hv hW hcl hf hsl
    go_enter Tryz.func55, Tryz.ntmps55
    go_wp2_with fail
    refine k1.out.mono ?_
    rintro e w1 ⟨g1, c1, rfl, ho1, hb1⟩
    go_wp2_with fail
    refine (K2.out w1 hb1).mono ?_
    rintro e w2 ⟨rfl, hb2⟩
    go_wp2_with fail
    go_ret
    exact ⟨rfl, hb1.trans (hb2.mono hb1.size)⟩
  | true =>
    rw [hf] at k2
    have K2 := Lib.hid k2
    rw [Bool.true_and]
    obtain ⟨hlong, h24⟩ := longN_ok hC hf
    have K3 := Lib.hid (fun (W : World) (hb : Below w.heap.size w W) => impl_longestElement_any gc oc n cc c (longN c) W hn hC hlong (Nat.lt_of_lt_of_le hgc hb.size) (hr.below hb hgc))
    have K4 := Lib.hid (fun (W : World) (g1 c1 g2 c2 : Nat) (x1 : Cells W g1 0 (starL c v)) (x2 : Cells W g2 0 (longN c)) => impl_EqualWords_any g1 0 (starL c v).length c1 g2 0 (longN c).length c2 (starL c v) (longN c) W rfl rfl (by have : (starL c v).length ≤ v.length := hsl; omega) (by omega) x1 x2)
    clear k2 hr hv hW hcl hf hsl hlong h24
    generalize longN c = y at *
    generalize starL c v = x at *
    generalize decide (x = y) = r at *
    go_enter Tryz.func55, Tryz.ntmps55
    go_wp2_with fail
    refine k1.out.mono ?_
    rintro e w1 ⟨g1, c1, rfl, ho1, hb1⟩
    go_wp2_with fail
    refine (K2.out w1 hb1).mono ?_
    rintro e w2 ⟨rfl, hb2⟩
    have hB := hb1.trans (hb2.mono hb1.size)
    have ho2 := ho1.below hb2 ho1.lt
    clear hb1 hb2 ho1
    go_wp2_with fail
    refine (K3.out w2 hB).mono ?_
    rintro e w3 ⟨g3, c3, rfl, ho3, hb3⟩
    have hB3 := hB.trans (hb3.mono hB.size)
    have ho4 := ho2.below hb3 ho2.lt
    clear hB hb3 ho2
    go_wp2_with fail
    refine (K4.out w3 g1 c1 g3 c3 ho4.cells ho3.cells).mono ?_
    rintro e w4 ⟨rfl, hs4⟩
    go_wp2_with fail
    go_ret
    exact ⟨rfl, below_still hB3 hs4⟩
end Go.Proofs.YtkjglfafphffiaaGreat
namespace Go.Proofs.YtkjglfafphffiaaGreat
set_option maxRecDepth 100000
open Go.RowKit
/-- a value that reads as a list of integers -/
def IntsV (w : World) (v : Value) (xs : List Int) : Prop := ∃ g o n c, v = (Value.slice (some ⟨g, o, none⟩) n c) ∧ xs.length = n ∧ n ≤ c ∧ g < w.heap.size ∧ Cells w g o xs
/-- a value that reads as a list of lists of integers -/
def RowsV (w : World) (v : Value) (rows : List (List Int)) : Prop := ∃ g o n c, v = (Value.slice (some ⟨g, o, none⟩) n c) ∧ rows.length = n ∧ n ≤ c ∧ g < w.heap.size ∧ Rows2 w g o rows
theorem IntsV.below {w w' : World} {v : Value} {xs : List Int} (h : IntsV w v xs) (hb : Below w.heap.size w w') : IntsV w' v xs := by
  obtain ⟨g, o, n, c, h1, h2, h3, h4, h5⟩ := h
  exact ⟨g, o, n, c, h1, h2, h3, Nat.lt_of_lt_of_le h4 hb.size, h5.below hb h4⟩
theorem RowsV.below {w w' : World} {v : Value} {rows : List (List Int)} (h : RowsV w v rows) (hb : Below w.heap.size w w') : RowsV w' v rows := by
  obtain ⟨g, o, n, c, h1, h2, h3, h4, h5⟩ := h
  exact ⟨g, o, n, c, h1, h2, h3, Nat.lt_of_lt_of_le h4 hb.size, h5.below hb h4⟩
structure ClaimD where
  kind : Int
  cartan : List (List Int)
  a : List Int
  b : List Int
  proof : List Int
  roots : List (List Int)
/-- a claim whose roots may be none -/
def ClaimP (w : World) (v : Value) (x : ClaimD) : Prop := ∃ v1 v2 v3 v4 q5 n5 c5, v = .agg #[.int .i64 x.kind, v1, v2, v3, v4, .slice q5 n5 c5] ∧ RowsV w v1 x.cartan ∧ IntsV w v2 x.a ∧ IntsV w v3 x.b ∧ IntsV w v4 x.proof
/-- a claim whose proof may be none -/
def ClaimR (w : World) (v : Value) (x : ClaimD) : Prop := ∃ v1 v2 v3 q4 n4 c4 v5, v = .agg #[.int .i64 x.kind, v1, v2, v3, .slice q4 n4 c4, v5] ∧ RowsV w v1 x.cartan ∧ IntsV w v2 x.a ∧ IntsV w v3 x.b ∧ RowsV w v5 x.roots
/-- a claim whose proof and roots may be none where its kind does not read them -/
def ClaimN (w : World) (v : Value) (x : ClaimD) : Prop := ∃ v1 v2 v3 q4 m4 c4 q5 m5 c5, v = .agg #[.int .i64 x.kind, v1, v2, v3, .slice q4 m4 c4, .slice q5 m5 c5] ∧ RowsV w v1 x.cartan ∧ IntsV w v2 x.a ∧ IntsV w v3 x.b ∧ (2 ≤ x.kind → x.kind ≤ 5 → IntsV w (.slice q4 m4 c4) x.proof) ∧ (x.kind = 1 → RowsV w (.slice q5 m5 c5) x.roots)
theorem ClaimN.below {w w' : World} {v : Value} {x : ClaimD} (h : ClaimN w v x) (hb : Below w.heap.size w w') : ClaimN w' v x := by
  obtain ⟨v1, v2, v3, q4, m4, c4, q5, m5, c5, e, h1, h2, h3, h4, h5⟩ := h
  exact ⟨v1, v2, v3, q4, m4, c4, q5, m5, c5, e, h1.below hb, h2.below hb, h3.below hb, fun a b => (h4 a b).below hb, fun a => (h5 a).below hb⟩
theorem ClaimN.toP {w : World} {v : Value} {x : ClaimD} (h : ClaimN w v x) (h1 : 2 ≤ x.kind) (h2 : x.kind ≤ 5) : ClaimP w v x := by
  obtain ⟨v1, v2, v3, q4, m4, c4, q5, m5, c5, e, a1, a2, a3, a4, -⟩ := h
  exact ⟨v1, v2, v3, _, q5, m5, c5, e, a1, a2, a3, a4 h1 h2⟩
theorem ClaimN.toR {w : World} {v : Value} {x : ClaimD} (h : ClaimN w v x) (h1 : x.kind = 1) : ClaimR w v x := by
  obtain ⟨v1, v2, v3, q4, m4, c4, q5, m5, c5, e, a1, a2, a3, -, a5⟩ := h
  exact ⟨v1, v2, v3, q4, m4, c4, _, e, a1, a2, a3, a5 h1⟩
def rowsFewC (rows : List (List Int)) : Prop := rows.length ≤ 1048576 ∧ ∀ j, j < rows.length → (rows.getD j []).length ≤ 1048576
/-- few enough -/
def claimFew (x : ClaimD) : Prop := rowsFewC x.cartan ∧ x.a.length ≤ 1048576 ∧ x.b.length ≤ 1048576 ∧ x.proof.length ≤ 1048576 ∧ rowsFewC x.roots
end Go.Proofs.YtkjglfafphffiaaGreat
namespace Go.Proofs.YtkjglfafphffiaaGreat
set_option maxRecDepth 100000
open Go.RowKit Game
theorem sixA {W : World} {b : Nat} {v0 v1 v2 v3 v4 v5 : Value} {t : TypeId} (h : W.heap[b]? = some (.cells #[v0, v1, v2, v3, v4, v5] t (0, 0))) :
    W.cell? ⟨b, 0, none⟩ = some v0 ∧ W.cell? ⟨b, 1, none⟩ = some v1 ∧ W.cell? ⟨b, 2, none⟩ = some v2 ∧ W.cell? ⟨b, 3, none⟩ = some v3 ∧ W.cell? ⟨b, 4, none⟩ = some v4 ∧ W.cell? ⟨b, 5, none⟩ = some v5 := by
  refine ⟨?_, ?_, ?_, ?_, ?_, ?_⟩ <;> (rw [cell_of_cells h]; rfl)
def belowB (c : List (List Int)) (a b ps : List Int) : Bool := takeB (nfI c b).length ps && decide (imI c (takeL (nfI c b) ps) = imI c a)
set_option maxRecDepth 100000 in
set_option maxHeartbeats 2000000 in
theorem impl_checkBelow_ok (v : Value) (x : ClaimD) (w : World) (h : ClaimP w v x) (hA : WordOk x.cartan x.a) (hB : WordOk x.cartan x.b) (hl : x.proof.length ≤ 1048576) :
    Calls Tryz.prog 57 #[v] w (Gives w (.bool (belowB x.cartan x.a x.b x.proof))) := by
  obtain ⟨p1, p2, p3, p4, q5, n5, c5, rfl, a1, a2, a3, a4⟩ := h
  obtain ⟨g1, o1, n1, c1, rfl, l1, m1, t1, r1⟩ := a1
  obtain ⟨g2, o2, n2, c2, rfl, l2, m2, t2, r2⟩ := a2
  obtain ⟨g3, o3, n3, c3, rfl, l3, m3, t3, r3⟩ := a3
  obtain ⟨g4, o4, n4, c4, rfl, l4, m4, t4, r4⟩ := a4
  generalize x.cartan = c at *
  generalize x.a = a at *
  generalize x.b = b at *
  generalize x.proof = ps at *
  generalize x.kind = kd at *
  subst l1 l2 l3 l4
  have hLB := hB.lets.mono (show 15 ≤ 30 by omega)
  have hnf := nfI_ok hLB
  have hnl := hnf.len
  have hb15 := hB.few
  have kR := Lib.hid (fun (W : World) (hb : Below w.heap.size w W) => impl_reduced_any g1 o1 _ c1 g3 o3 _ c3 c b W rfl rfl hLB (Nat.lt_of_lt_of_le t1 hb.size) (Nat.lt_of_lt_of_le t3 hb.size) (r1.below hb t1) (r3.below hb t3))
  have hlets := Lib.hid (fun (hok : takeB (nfI c b).length ps = true) => (takeL_lets (hnf.lets.mono (show b.length ≤ 15 by omega)) hok).mono (show 15 ≤ 30 by omega))
  have kS := Lib.hid (fun (hok : takeB (nfI c b).length ps = true) (W : World) (B g6 c6 : Nat) (hb : Below w.heap.size w W) (ho : Own W B g6 c6 (takeL (nfI c b) ps)) => impl_same_any g1 o1 _ c1 g6 0 ps.length c6 g2 o2 _ c2 c (takeL (nfI c b) ps) a W rfl (by simp [takeL]) rfl (hlets.out hok) (hA.lets.mono (by omega)) (Nat.lt_of_lt_of_le t1 hb.size) ho.lt (Nat.lt_of_lt_of_le t2 hb.size) (r1.below hb t1) ho.cells (r2.below hb t2))
  have hres : belowB c a b ps = (takeB (nfI c b).length ps && decide (imI c (takeL (nfI c b) ps) = imI c a)) := rfl
  have Hres := Lib.hid hres
  have C0 := Lib.hid (heap_alloc_new w (.cells #[.int .i64 kd, (Value.slice (some ⟨g1, o1, none⟩) c.length c1), (Value.slice (some ⟨g2, o2, none⟩) a.length c2), (Value.slice (some ⟨g3, o3, none⟩) b.length c3), (Value.slice (some ⟨g4, o4, none⟩) ps.length c4), .slice q5 n5 c5] 42 (0, 0)))
  have hB0 : Below w.heap.size w (w.alloc (.cells #[.int .i64 kd, (Value.slice (some ⟨g1, o1, none⟩) c.length c1), (Value.slice (some ⟨g2, o2, none⟩) a.length c2), (Value.slice (some ⟨g3, o3, none⟩) b.length c3), (Value.slice (some ⟨g4, o4, none⟩) ps.length c4), .slice q5 n5 c5] 42)) := (Below.refl _ _).alloc (Nat.le_refl _) _
  clear hLB hnf hA hB r1 r2 r3 hres hlets
  generalize nfI c b = y at *
  have hy15 : y.length ≤ 15 := by omega
  clear hnl hb15
  obtain ⟨c00, c01, c02, c03, c04, c05⟩ := sixA C0.out
  go_enter Tryz.func57, Tryz.ntmps57
  go_wp2_with fail
  refine (kR.out _ hB0).mono ?_
  rintro e w1 ⟨gy, cy, rfl, hoy, hb1⟩
  have hB1 := hB0.trans (hb1.mono hB0.size)
  have C1 := Lib.hid ((hb1.block _ (lt_of_block C0.out)).trans C0.out)
  have hoy1 := hoy.mono hB0.size
  clear hB0 hb1 C0 hoy c00 c01 c02 c03 c04 c05
  obtain ⟨c00, c01, c02, c03, c04, c05⟩ := sixA C1.out
  have hAl := (Below.refl w1.heap.size w1).alloc (Nat.le_refl _) (.cells #[] 3)
  have hB2 := hB1.trans (hAl.mono hB1.size)
  have C2 := Lib.hid ((hAl.block _ (lt_of_block C1.out)).trans C1.out)
  have hoy2 := hoy1.below hAl hoy1.lt
  have d4 := keepCell hAl c04
  have hE : Own (w1.alloc (.cells #[] 3)) w.heap.size w1.heap.size 0 [] := Own.empty hB1.size
  have hney : gy ≠ w1.heap.size := by have := hoy1.lt; omega
  have hbx : w.heap.size < w1.heap.size := lt_of_block C1.out
  go_wp2
  clear c00 c01 c02 c03 c04 c05 hoy1 hB1 hAl C1
  obtain ⟨bX, hbX⟩ : ∃ bX, bX = w.heap.size := ⟨_, rfl⟩
  go_loopw [4, 5, 17] (fun xv lv kv wr => ∃ (k g6 c6 : Nat), k ≤ ps.length ∧ kv = .int .i64 k ∧ xv = (Value.slice (some ⟨g6, 0, none⟩) k c6) ∧ lv = .int .i64 (prevAt ps k) ∧ Hid (∀ j, j < k → takeAt y.length ps j) ∧ Hid (wr.heap[w.heap.size]? = some (.cells #[.int .i64 kd, (Value.slice (some ⟨g1, o1, none⟩) c.length c1), (Value.slice (some ⟨g2, o2, none⟩) a.length c2), (Value.slice (some ⟨g3, o3, none⟩) b.length c3), (Value.slice (some ⟨g4, o4, none⟩) ps.length c4), .slice q5 n5 c5] 42 (0, 0))) ∧ Own wr w.heap.size gy cy y ∧ Own wr w.heap.size g6 c6 (takeTo y ps k) ∧ gy ≠ g6 ∧ w.heap.size < g6 ∧ Below w.heap.size w wr) (fun _ _ kv _ => ps.length - (intOf kv).toNat)
  case atStart => exact ⟨0, _, 0, Nat.zero_le _, rfl, rfl, rfl, fun j h => absurd h (by omega), C2.out, hoy2, hE, hney, hbx, hB2⟩
  case round =>
    clear C2 hoy2 hE hney hbx hB2 d4
    obtain ⟨k, g6, c6, hk, rfl, rfl, rfl, hp, hC, hoy, ho, hne, hlt6, hb⟩ := hrel
    by_cases hlt : k < ps.length
    · have q1 := (r4.below hb t4) k hlt
      have hiff := takeAt_iff hp.out
      have hno : ¬ takeAt y.length ps k → belowB c a b ps = false := fun h => by rw [Hres.out, takeB_no hlt h]; rfl
      have hyes : takeAt y.length ps k → ∀ j, j < k + 1 → takeAt y.length ps j := fun h j hj => by
        by_cases e : j = k
        · subst e; exact h
        · exact hp.out j (by omega)
      have hps := Lib.hid (prevAt_succ ps k)
      have hp0 := fun h : takeAt y.length ps k => h.1
      have hsucc := takeTo_succ (v := y) hlt
      have hlen := Lib.hid (takeTo_length (v := y) (Nat.le_of_lt hlt))
      generalize prevAt ps k = z at *
      generalize ps.getD k 0 = p at *
      by_cases h1 : p ≤ z
      · have Hno := Lib.hid (hno (fun h => by have := (hiff.1 h).1; omega))
        clear hno hyes hiff hp hp0 hsucc
        go_wp2_with fail
        go_ret
        exact ⟨ret_bool Hno.out.symm, hb⟩
      · by_cases h2 : (y.length : Int) ≤ p
        · have Hno := Lib.hid (hno (fun h => by have := (hiff.1 h).2; omega))
          clear hno hyes hiff hp hp0 hsucc
          go_wp2_with fail
          go_ret
          exact ⟨ret_bool Hno.out.symm, hb⟩
        · have htk := hiff.2 ⟨by omega, by omega⟩
          have hpn := hp0 htk
          have Hyes := Lib.hid (hyes htk)
          obtain ⟨pn, rfl⟩ : ∃ t : Nat, p = t := ⟨p.toNat, by omega⟩
          rw [Int.toNat_natCast] at hsucc
          have hpy : pn < y.length := by omega
          have v1 := hoy.cell pn hpy
          have Hsucc := Lib.hid hsucc
          generalize y.getD pn 0 = q at *
          clear hno hyes hiff hp hp0 htk hpn hsucc
          go_wp2_with (at_builtin; refine wpList_append_int_n rfl _ _ rfl w.heap.size g6 c6 k (takeTo y ps k) q hlen.out ho rfl rfl (by omega) ?_)
          intro g7 c7 w7 ho7 hg7 hor7
          rw [← Hsucc.out] at ho7
          have hb7 := hb.grown hg7 hb.size (by intro j hj; cases hj; exact ho.base)
          have hoy7 := hoy.grown hg7 (by intro e; cases e; exact hne rfl)
          have hC7 := Lib.hid ((hg7.block _ (lt_of_block hC.out) (by intro e; cases e; omega)).trans hC.out)
          have hne7 : gy ≠ g7 := by
            rcases hor7 with h | h
            · rw [h]; exact hne
            · have := hoy.lt; omega
          have hlt7 : w.heap.size < g7 := by
            rcases hor7 with h | h
            · rw [h]; exact hlt6
            · have := hb.size; omega
          clear hg7 hor7 ho hoy hb hC hne hlt6
          go_wp2_with fail
          go_roundw
          case rel => exact ⟨k + 1, g7, c7, by omega, by go_num, rfl, by rw [hps.out], Hyes.out, hC7.out, hoy7, ho7, hne7, hlt7, hb7⟩
          case measure => simp [intOf]; omega
    · obtain rfl : k = ps.length := by omega
      have hT := takeB_yes hp.out
      rw [takeTo_all] at ho
      have hS := Lib.hid (kS.out hT wr _ g6 c6 hb ho)
      have Hr := Lib.hid (show belowB c a b ps = decide (imI c (takeL y ps) = imI c a) by rw [Hres.out, hT, Bool.true_and])
      obtain ⟨c00, c01, c02, c03, c04, c05⟩ := sixA hC.out
      clear hT hp
      generalize decide (imI c (takeL y ps) = imI c a) = rr at *
      go_wp2_with fail
      refine hS.out.mono ?_
      rintro e w8 ⟨rfl, hb8⟩
      go_wp2_with fail
      go_ret
      exact ⟨ret_bool Hr.out.symm, hb.trans (hb8.mono hb.size)⟩
end Go.Proofs.YtkjglfafphffiaaGreat
