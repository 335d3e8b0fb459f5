/- The program's polynomials of pairs, with a map of known ones: contracts. -/
import Derived.Test.YtdedkfbiookofaaGreatDoorM45
namespace Go.Proofs.YtdedkfbiookofaaGreatDoor
set_option maxRecDepth 100000
open Go.RowKit Game
private theorem gr_below {w w' : World} {b : Nat} (h : Below w.heap.size w w') : w.grownBy w' (some b) := ⟨h.os, h.tape, h.output, h.size, fun k hk _ => h.block k hk⟩
private theorem gr_trans {w w1 w2 : World} {b : Nat} (h : w.grownBy w1 (some b)) (h' : w1.grownBy w2 (some b)) : w.grownBy w2 (some b) :=
  ⟨h'.os.trans h.os, h'.tape.trans h.tape, h'.output.trans h.output, Nat.le_trans h.size h'.size, fun k hk hne => (h'.block k (Nat.lt_of_lt_of_le hk h.size) hne).trans (h.block k hk hne)⟩
def cnt2 : Nat → Nat
  | 0 => 1
  | k + 1 => 2 * cnt2 k + 1
def RpPost (w : World) (B b N k : Nat) (c : List (List Int)) (R : List Int) (e : Ending) (w' : World) : Prop :=
  ∃ g n cap N', e = .returned (Value.slice (some ⟨g, 0, none⟩) n cap) ∧ R.length = n ∧ Own w' B g cap R ∧ N' ≤ N + cnt2 k ∧ RpM w' b N' B c ∧ w.grownBy w' (some b)
/-- where the call stands: its two boxes, the map -/
structure PSt (w0 w : World) (gc oc n cc b hk : Nat) (c : List (List Int)) (kv : Array Value) (N : Nat) (W : World) : Prop where
  gr : w.grownBy W (some b)
  box : W.heap[w.heap.size]? = some (.cells #[(Value.slice (some ⟨gc, oc, none⟩) n cc), .map (some b)] 97 (0, 0))
  key : W.heap[hk]? = some (.cells kv 119 (0, 0))
  K : RpM W b N w0.heap.size c
  h0 : w.heap.size < hk
  hb : b < w.heap.size
section
variable {w0 w W W' : World} {gc oc n cc b hk N : Nat} {c : List (List Int)} {kv : Array Value}
theorem PSt.below (h : PSt w0 w gc oc n cc b hk c kv N W) (hb : Below W.heap.size W W') : PSt w0 w gc oc n cc b hk c kv N W' :=
  ⟨gr_trans h.gr (gr_below hb), (hb.block _ (Array.getElem?_eq_some_iff.1 h.box).1).trans h.box, (hb.block _ (Array.getElem?_eq_some_iff.1 h.key).1).trans h.key, h.K.below hb, h.h0, h.hb⟩
theorem PSt.still (h : PSt w0 w gc oc n cc b hk c kv N W) (hs : ∃ k, W' = W.drewN k) : PSt w0 w gc oc n cc b hk c kv N W' := by obtain ⟨k, rfl⟩ := hs; exact h.below (below_drewN (Below.refl _ _) k)
theorem PSt.turn {N' : Nat} (h : PSt w0 w gc oc n cc b hk c kv N W) (hg : W.grownBy W' (some b)) (hK : RpM W' b N' w0.heap.size c) : PSt w0 w gc oc n cc b hk c kv N' W' :=
  ⟨gr_trans h.gr hg, (hg.block _ (Array.getElem?_eq_some_iff.1 h.box).1 (by have := h.hb; intro e; have := Option.some.inj e; omega)).trans h.box, (hg.block _ (Array.getElem?_eq_some_iff.1 h.key).1 (by have := h.hb; have := h.h0; intro e; have := Option.some.inj e; omega)).trans h.key, hK, h.h0, h.hb⟩
theorem PSt.base (h : PSt w0 w gc oc n cc b hk c kv N W) (hB : Below w0.heap.size w0 w) (hb : w0.heap.size ≤ b) : Below w0.heap.size w0 W :=
  hB.grown h.gr hB.size (by intro t ht; cases ht; exact hb)
theorem PSt.c0 (h : PSt w0 w gc oc n cc b hk c kv N W) : W.cell? ⟨w.heap.size, 0, none⟩ = some (Value.slice (some ⟨gc, oc, none⟩) n cc) := by simp [World.cell?, h.box]
theorem PSt.c1 (h : PSt w0 w gc oc n cc b hk c kv N W) : W.cell? ⟨w.heap.size, 1, none⟩ = some (.map (some b)) := by simp [World.cell?, h.box]
theorem PSt.k (h : PSt w0 w gc oc n cc b hk c kv N W) (j : Nat) (hj : j < kv.size) : W.cell? ⟨hk, j, none⟩ = some kv[j] := by simp [World.cell?, h.key, hj]
end
set_option maxRecDepth 100000 in
set_option maxHeartbeats 1000000 in
theorem impl_polynomial_any (w0 : World) (gc oc n cc b : Nat) (c : List (List Int)) (hC : IsC c) (hn : c.length = n) (hgc : gc < w0.heap.size) (hr : Rows2 w0 gc oc c) (hbw : w0.heap.size ≤ b) : ∀ (k : Nat) (V x : List Int) (gx ox cx gy oy cy N : Nat) (w : World), V.length = k → Nw c V → x.length = n → WfV x → Below w0.heap.size w0 w → gx < w.heap.size → gy < w.heap.size → gx ≠ b → gy ≠ b → Cells w gx ox x → Cells w gy oy (imI c V) → RpM w b N w0.heap.size c → N + cnt2 k < 900000 →
    Calls Tryz.prog 117 #[.agg #[(Value.slice (some ⟨gc, oc, none⟩) n cc), .map (some b)], (Value.slice (some ⟨gx, ox, none⟩) n cx), (Value.slice (some ⟨gy, oy, none⟩) n cy)] w (RpPost w w0.heap.size b N k c (rI c V x)) := by
  intro k
  induction k with
  | zero =>
    intro V x gx ox cx gy oy cy N w hk hV hx hxw hB hgx hgy hxb hyb hcx hcy hK hN
    have hn4 := hC.2.1
    have hyl := imI_length c V
    rw [hn] at hyl hn4
    have hxl : x.length = c.length := by omega
    have hc4 : c.length ≤ 4 := by omega
    have kX := Lib.hid (fun (W : World) (hb : Below w.heap.size w W) => show Calls Tryz.prog 145 #[(Value.slice (some ⟨gx, ox, none⟩) n cx)] W (Gives W (.agg #[.int .i64 (x.getD 0 0), .int .i64 (x.getD 1 0), .int .i64 (x.getD 2 0), .int .i64 (x.getD 3 0)])) from impl_vectorOf_any gx ox n cx x W hx (by omega) (Nat.lt_of_lt_of_le hgx hb.size) (hcx.below hb hgx))
    have kY := Lib.hid (fun (W : World) (hb : Below w.heap.size w W) => show Calls Tryz.prog 145 #[(Value.slice (some ⟨gy, oy, none⟩) n cy)] W (Gives W (.agg #[.int .i64 ((imI c V).getD 0 0), .int .i64 ((imI c V).getD 1 0), .int .i64 ((imI c V).getD 2 0), .int .i64 ((imI c V).getD 3 0)])) from impl_vectorOf_any gy oy n cy (imI c V) W hyl (by omega) (Nat.lt_of_lt_of_le hgy hb.size) (hcy.below hb hgy))
    have kFy := Lib.hid (fun (W : World) (hg : w.grownBy W (some b)) => impl_firstDescent_any gy oy n cy (imI c V) W hyl (by omega) (hcy.grown hg (fun e => hyb (Option.some.inj e))))
    have kFx := Lib.hid (fun (W : World) (hg : w.grownBy W (some b)) => impl_firstDescent_any gx ox n cx x W hx (by omega) (hcx.grown hg (fun e => hxb (Option.some.inj e))))
    have hb1 : Below w.heap.size w (w.alloc (.cells #[(Value.slice (some ⟨gc, oc, none⟩) n cc), .map (some b)] 97)) := (Below.refl _ _).alloc (Nat.le_refl _) _
    have hbox : (w.alloc (.cells #[(Value.slice (some ⟨gc, oc, none⟩) n cc), .map (some b)] 97)).heap[w.heap.size]? = some (.cells #[(Value.slice (some ⟨gc, oc, none⟩) n cc), .map (some b)] 97 (0, 0)) := heap_alloc_new _ _
    have Hb1 := Lib.hid hb1
    have Hvv : Hid (vvVal x (imI c V) = .agg #[.int .i64 (x.getD 0 0), .int .i64 (x.getD 1 0), .int .i64 (x.getD 2 0), .int .i64 (x.getD 3 0), .int .i64 ((imI c V).getD 0 0), .int .i64 ((imI c V).getD 1 0), .int .i64 ((imI c V).getD 2 0), .int .i64 ((imI c V).getD 3 0)]) := Lib.hid rfl
    generalize hx0 : x.getD 0 0 = x0 at kX Hvv
    generalize hx1 : x.getD 1 0 = x1 at kX Hvv
    generalize hx2 : x.getD 2 0 = x2 at kX Hvv
    generalize hx3 : x.getD 3 0 = x3 at kX Hvv
    generalize hy0 : (imI c V).getD 0 0 = y0 at kY Hvv
    generalize hy1 : (imI c V).getD 1 0 = y1 at kY Hvv
    generalize hy2 : (imI c V).getD 2 0 = y2 at kY Hvv
    generalize hy3 : (imI c V).getD 3 0 = y3 at kY Hvv
    clear hx0 hx1 hx2 hx3 hy0 hy1 hy2 hy3
    have hbw2 := hK.lt
    go_enter Tryz.func117, Tryz.ntmps117
    go_wp2_with fail
    refine (kX.out _ Hb1.out).mono ?_
    rintro e w2 ⟨rfl, hb2⟩
    have hB2 := Hb1.out.trans (hb2.mono Hb1.out.size)
    have hbox2 := (hb2.block _ (by simp)).trans hbox
    go_wp2_with fail
    refine (kY.out _ hB2).mono ?_
    rintro e w3 ⟨rfl, hb3⟩
    have hB3 := hB2.trans (hb3.mono hB2.size)
    have hlt2 : w.heap.size < w2.heap.size := (Array.getElem?_eq_some_iff.1 hbox2).1
    have hbox3 := (hb3.block _ hlt2).trans hbox2
    have hP2 : PSt w0 w gc oc n cc b w3.heap.size c #[.int .i64 x0, .int .i64 x1, .int .i64 x2, .int .i64 x3, .int .i64 y0, .int .i64 y1, .int .i64 y2, .int .i64 y3] N (w3.alloc (.cells #[.int .i64 x0, .int .i64 x1, .int .i64 x2, .int .i64 x3, .int .i64 y0, .int .i64 y1, .int .i64 y2, .int .i64 y3] 119)) :=
      ⟨gr_below (hB3.alloc hB3.size _), by rw [← hbox3]; exact ((Below.refl w3.heap.size w3).alloc (Nat.le_refl _) _).block _ (Nat.lt_of_lt_of_le hlt2 hb3.size), heap_alloc_new _ _, hK.below (hB3.alloc hB3.size _), Nat.lt_of_lt_of_le hlt2 hb3.size, hbw2⟩
    have d1 := hP2.c1
    have e0 : (w3.alloc (.cells #[.int .i64 x0, .int .i64 x1, .int .i64 x2, .int .i64 x3, .int .i64 y0, .int .i64 y1, .int .i64 y2, .int .i64 y3] 119)).cell? ⟨w3.heap.size, 0, none⟩ = some (.int .i64 x0) := hP2.k 0 (show 0 < 8 by decide)
    have e1 : (w3.alloc (.cells #[.int .i64 x0, .int .i64 x1, .int .i64 x2, .int .i64 x3, .int .i64 y0, .int .i64 y1, .int .i64 y2, .int .i64 y3] 119)).cell? ⟨w3.heap.size, 1, none⟩ = some (.int .i64 x1) := hP2.k 1 (show 1 < 8 by decide)
    have e2 : (w3.alloc (.cells #[.int .i64 x0, .int .i64 x1, .int .i64 x2, .int .i64 x3, .int .i64 y0, .int .i64 y1, .int .i64 y2, .int .i64 y3] 119)).cell? ⟨w3.heap.size, 2, none⟩ = some (.int .i64 x2) := hP2.k 2 (show 2 < 8 by decide)
    have e3 : (w3.alloc (.cells #[.int .i64 x0, .int .i64 x1, .int .i64 x2, .int .i64 x3, .int .i64 y0, .int .i64 y1, .int .i64 y2, .int .i64 y3] 119)).cell? ⟨w3.heap.size, 3, none⟩ = some (.int .i64 x3) := hP2.k 3 (show 3 < 8 by decide)
    have e4 : (w3.alloc (.cells #[.int .i64 x0, .int .i64 x1, .int .i64 x2, .int .i64 x3, .int .i64 y0, .int .i64 y1, .int .i64 y2, .int .i64 y3] 119)).cell? ⟨w3.heap.size, 4, none⟩ = some (.int .i64 y0) := hP2.k 4 (show 4 < 8 by decide)
    have e5 : (w3.alloc (.cells #[.int .i64 x0, .int .i64 x1, .int .i64 x2, .int .i64 x3, .int .i64 y0, .int .i64 y1, .int .i64 y2, .int .i64 y3] 119)).cell? ⟨w3.heap.size, 5, none⟩ = some (.int .i64 y1) := hP2.k 5 (show 5 < 8 by decide)
    have e6 : (w3.alloc (.cells #[.int .i64 x0, .int .i64 x1, .int .i64 x2, .int .i64 x3, .int .i64 y0, .int .i64 y1, .int .i64 y2, .int .i64 y3] 119)).cell? ⟨w3.heap.size, 6, none⟩ = some (.int .i64 y2) := hP2.k 6 (show 6 < 8 by decide)
    have e7 : (w3.alloc (.cells #[.int .i64 x0, .int .i64 x1, .int .i64 x2, .int .i64 x3, .int .i64 y0, .int .i64 y1, .int .i64 y2, .int .i64 y3] 119)).cell? ⟨w3.heap.size, 7, none⟩ = some (.int .i64 y3) := hP2.k 7 (show 7 < 8 by decide)
    have HP2 := Lib.hid hP2
    clear hb2 hb3 hB2 hB3 hbox2 hbox3 hlt2 hP2 hbox hb1 Hb1 kX kY hK
    generalize hw4 : w3.alloc (.cells #[.int .i64 x0, .int .i64 x1, .int .i64 x2, .int .i64 x3, .int .i64 y0, .int .i64 y1, .int .i64 y2, .int .i64 y3] 119) = w4 at *
    go_wp2_with (at_lookup; refine wpList_rp_look rfl _ _ rfl b N w0.heap.size c x V hxl hxw hV HP2.out.K rfl (by rw [Hvv.out]; rfl) ?_)
    intro q
    have hz := q.h
    generalize q.v = qv at *
    generalize q.r = rb at *
    clear q d1 e0 e1 e2 e3 e4 e5 e6 e7
    have hP2 := HP2.out
    clear HP2
    generalize w3.heap.size = hk3 at *
    clear hw4
    cases rb with
    | true =>
      obtain ⟨gq, nq, cq, rfl, hnq, hoq⟩ := hz rfl
      clear hz
      go_wp2_with fail
      go_ret
      exact ⟨gq, nq, cq, N, rfl, hnq, hoq, Nat.le_add_right _ _, hP2.K, hP2.gr⟩
    | false =>
    clear hz
    have hN1 : N < 900000 := by omega
    · -- the empty word
      obtain rfl : V = [] := List.length_eq_zero_iff.1 hk
      have hcnt : cnt2 0 = 1 := rfl
      have hyN : firstNegI (imI c []) = -1 := by unfold firstNegI; rw [show firstNeg (imI c []) = none from ones_none _]
      rw [hyN] at kFy
      by_cases h0 : firstNeg x = none
      · have hxN : firstNegI x = -1 := by unfold firstNegI; rw [h0]
        rw [hxN] at kFx
        have HR : Hid (rI c [] x = [1]) := Lib.hid (if_pos h0)
        clear h0 hxN hyN
        go_wp2_with fail
        refine (kFy.out _ (hP2.below ((Below.refl _ _).alloc (Nat.le_refl _) _)).gr).mono ?_
        rintro e w5 ⟨rfl, hs5⟩
        have hP5 := (hP2.below ((Below.refl _ _).alloc (Nat.le_refl _) (.cells #[] 3))).still hs5
        clear hs5
        go_wp2_with fail
        refine (kFx.out _ hP5.gr).mono ?_
        rintro e w6 ⟨rfl, hs6⟩
        have hP6 := hP5.still hs6
        have hP7 := hP6.below ((Below.refl _ _).alloc (Nat.le_refl _) (.cells #[.int .i64 1] 3))
        have ho7 : Own (w6.alloc (.cells #[.int .i64 1] 3)) w0.heap.size w6.heap.size 1 [1] := Own.new 1 (hP6.base hB hbw).size
        clear hs6 hP5 hP6
        have d1 := hP7.c1
        have e0 : (w6.alloc (.cells #[.int .i64 1] 3)).cell? ⟨hk3, 0, none⟩ = some (.int .i64 x0) := hP7.k 0 (show 0 < 8 by decide)
        have e1 : (w6.alloc (.cells #[.int .i64 1] 3)).cell? ⟨hk3, 1, none⟩ = some (.int .i64 x1) := hP7.k 1 (show 1 < 8 by decide)
        have e2 : (w6.alloc (.cells #[.int .i64 1] 3)).cell? ⟨hk3, 2, none⟩ = some (.int .i64 x2) := hP7.k 2 (show 2 < 8 by decide)
        have e3 : (w6.alloc (.cells #[.int .i64 1] 3)).cell? ⟨hk3, 3, none⟩ = some (.int .i64 x3) := hP7.k 3 (show 3 < 8 by decide)
        have e4 : (w6.alloc (.cells #[.int .i64 1] 3)).cell? ⟨hk3, 4, none⟩ = some (.int .i64 y0) := hP7.k 4 (show 4 < 8 by decide)
        have e5 : (w6.alloc (.cells #[.int .i64 1] 3)).cell? ⟨hk3, 5, none⟩ = some (.int .i64 y1) := hP7.k 5 (show 5 < 8 by decide)
        have e6 : (w6.alloc (.cells #[.int .i64 1] 3)).cell? ⟨hk3, 6, none⟩ = some (.int .i64 y2) := hP7.k 6 (show 6 < 8 by decide)
        have e7 : (w6.alloc (.cells #[.int .i64 1] 3)).cell? ⟨hk3, 7, none⟩ = some (.int .i64 y3) := hP7.k 7 (show 7 < 8 by decide)
        have HP := Lib.hid hP7
        have HO := Lib.hid ho7
        clear hP7 ho7
        go_wp2_with (at_mapUpdate; refine wpList_rp_put rfl _ _ _ rfl b N w0.heap.size c hc4 x _ hxl hxw hV HP.out.K (by omega) w6.heap.size 1 1 (by rw [HR.out]; exact rfl) (by rw [HR.out]; exact HO.out) rfl (by rw [Hvv.out]; rfl) rfl ?_)
        intro wZ hKZ hgZ
        clear d1 e0 e1 e2 e3 e4 e5 e6 e7
        go_wp2_with fail
        go_ret
        exact ⟨w6.heap.size, 1, 1, N + 1, rfl, by rw [HR.out]; exact rfl, by rw [HR.out]; exact HP.out.K.own HO.out hgZ, by omega, hKZ, gr_trans HP.out.gr hgZ⟩
      · have hxN : ¬ firstNegI x < 0 := by
          unfold firstNegI
          cases hh : firstNeg x with
          | none => exact absurd hh h0
          | some i => simp <;> omega
        have HR : Hid (rI c [] x = []) := Lib.hid (if_neg h0)
        generalize firstNegI x = z at *
        clear h0 hyN
        go_wp2_with fail
        refine (kFy.out _ (hP2.below ((Below.refl _ _).alloc (Nat.le_refl _) _)).gr).mono ?_
        rintro e w5 ⟨rfl, hs5⟩
        have hP5 := (hP2.below ((Below.refl _ _).alloc (Nat.le_refl _) (.cells #[] 3))).still hs5
        have ho5 : Own w5 w0.heap.size w4.heap.size 0 [] := (Own.empty (w := w4) (hP2.base hB hbw).size).still hs5
        clear hs5
        go_wp2_with fail
        refine (kFx.out _ hP5.gr).mono ?_
        rintro e w6 ⟨rfl, hs6⟩
        have hP7 := hP5.still hs6
        have ho7 := ho5.still hs6
        generalize w4.heap.size = g7 at *
        obtain ⟨w7, rfl⟩ : ∃ w7, w7 = w6 := ⟨_, rfl⟩
        clear hs6 hP5 ho5
        have d1 := hP7.c1
        have e0 : w7.cell? ⟨hk3, 0, none⟩ = some (.int .i64 x0) := hP7.k 0 (show 0 < 8 by decide)
        have e1 : w7.cell? ⟨hk3, 1, none⟩ = some (.int .i64 x1) := hP7.k 1 (show 1 < 8 by decide)
        have e2 : w7.cell? ⟨hk3, 2, none⟩ = some (.int .i64 x2) := hP7.k 2 (show 2 < 8 by decide)
        have e3 : w7.cell? ⟨hk3, 3, none⟩ = some (.int .i64 x3) := hP7.k 3 (show 3 < 8 by decide)
        have e4 : w7.cell? ⟨hk3, 4, none⟩ = some (.int .i64 y0) := hP7.k 4 (show 4 < 8 by decide)
        have e5 : w7.cell? ⟨hk3, 5, none⟩ = some (.int .i64 y1) := hP7.k 5 (show 5 < 8 by decide)
        have e6 : w7.cell? ⟨hk3, 6, none⟩ = some (.int .i64 y2) := hP7.k 6 (show 6 < 8 by decide)
        have e7 : w7.cell? ⟨hk3, 7, none⟩ = some (.int .i64 y3) := hP7.k 7 (show 7 < 8 by decide)
        have HP := Lib.hid hP7
        have HO := Lib.hid ho7
        clear hP7 ho7
        go_wp2_with (at_mapUpdate; refine wpList_rp_put rfl _ _ _ rfl b N w0.heap.size c hc4 x _ hxl hxw hV HP.out.K (by omega) g7 0 0 (by rw [HR.out]; exact rfl) (by rw [HR.out]; exact HO.out) rfl (by rw [Hvv.out]; rfl) rfl ?_)
        intro wZ hKZ hgZ
        clear d1 e0 e1 e2 e3 e4 e5 e6 e7
        go_wp2_with fail
        go_ret
        exact ⟨g7, 0, 0, N + 1, rfl, by rw [HR.out]; exact rfl, by rw [HR.out]; exact HP.out.K.own HO.out hgZ, by omega, hKZ, gr_trans HP.out.gr hgZ⟩
  | succ k ih =>
    intro V x gx ox cx gy oy cy N w hk hV hx hxw hB hgx hgy hxb hyb hcx hcy hK hN
    have hn4 := hC.2.1
    have hyl := imI_length c V
    rw [hn] at hyl hn4
    have hxl : x.length = c.length := by omega
    have hc4 : c.length ≤ 4 := by omega
    have kX := Lib.hid (fun (W : World) (hb : Below w.heap.size w W) => show Calls Tryz.prog 145 #[(Value.slice (some ⟨gx, ox, none⟩) n cx)] W (Gives W (.agg #[.int .i64 (x.getD 0 0), .int .i64 (x.getD 1 0), .int .i64 (x.getD 2 0), .int .i64 (x.getD 3 0)])) from impl_vectorOf_any gx ox n cx x W hx (by omega) (Nat.lt_of_lt_of_le hgx hb.size) (hcx.below hb hgx))
    have kY := Lib.hid (fun (W : World) (hb : Below w.heap.size w W) => show Calls Tryz.prog 145 #[(Value.slice (some ⟨gy, oy, none⟩) n cy)] W (Gives W (.agg #[.int .i64 ((imI c V).getD 0 0), .int .i64 ((imI c V).getD 1 0), .int .i64 ((imI c V).getD 2 0), .int .i64 ((imI c V).getD 3 0)])) from impl_vectorOf_any gy oy n cy (imI c V) W hyl (by omega) (Nat.lt_of_lt_of_le hgy hb.size) (hcy.below hb hgy))
    have kFy := Lib.hid (fun (W : World) (hg : w.grownBy W (some b)) => impl_firstDescent_any gy oy n cy (imI c V) W hyl (by omega) (hcy.grown hg (fun e => hyb (Option.some.inj e))))
    have kFx := Lib.hid (fun (W : World) (hg : w.grownBy W (some b)) => impl_firstDescent_any gx ox n cx x W hx (by omega) (hcx.grown hg (fun e => hxb (Option.some.inj e))))
    have hb1 : Below w.heap.size w (w.alloc (.cells #[(Value.slice (some ⟨gc, oc, none⟩) n cc), .map (some b)] 97)) := (Below.refl _ _).alloc (Nat.le_refl _) _
    have hbox : (w.alloc (.cells #[(Value.slice (some ⟨gc, oc, none⟩) n cc), .map (some b)] 97)).heap[w.heap.size]? = some (.cells #[(Value.slice (some ⟨gc, oc, none⟩) n cc), .map (some b)] 97 (0, 0)) := heap_alloc_new _ _
    have Hb1 := Lib.hid hb1
    have Hvv : Hid (vvVal x (imI c V) = .agg #[.int .i64 (x.getD 0 0), .int .i64 (x.getD 1 0), .int .i64 (x.getD 2 0), .int .i64 (x.getD 3 0), .int .i64 ((imI c V).getD 0 0), .int .i64 ((imI c V).getD 1 0), .int .i64 ((imI c V).getD 2 0), .int .i64 ((imI c V).getD 3 0)]) := Lib.hid rfl
    generalize hx0 : x.getD 0 0 = x0 at kX Hvv
    generalize hx1 : x.getD 1 0 = x1 at kX Hvv
    generalize hx2 : x.getD 2 0 = x2 at kX Hvv
    generalize hx3 : x.getD 3 0 = x3 at kX Hvv
    generalize hy0 : (imI c V).getD 0 0 = y0 at kY Hvv
    generalize hy1 : (imI c V).getD 1 0 = y1 at kY Hvv
    generalize hy2 : (imI c V).getD 2 0 = y2 at kY Hvv
    generalize hy3 : (imI c V).getD 3 0 = y3 at kY Hvv
    clear hx0 hx1 hx2 hx3 hy0 hy1 hy2 hy3
    have hbw2 := hK.lt
    go_enter Tryz.func117, Tryz.ntmps117
    go_wp2_with fail
    refine (kX.out _ Hb1.out).mono ?_
    rintro e w2 ⟨rfl, hb2⟩
    have hB2 := Hb1.out.trans (hb2.mono Hb1.out.size)
    have hbox2 := (hb2.block _ (by simp)).trans hbox
    go_wp2_with fail
    refine (kY.out _ hB2).mono ?_
    rintro e w3 ⟨rfl, hb3⟩
    have hB3 := hB2.trans (hb3.mono hB2.size)
    have hlt2 : w.heap.size < w2.heap.size := (Array.getElem?_eq_some_iff.1 hbox2).1
    have hbox3 := (hb3.block _ hlt2).trans hbox2
    have hP2 : PSt w0 w gc oc n cc b w3.heap.size c #[.int .i64 x0, .int .i64 x1, .int .i64 x2, .int .i64 x3, .int .i64 y0, .int .i64 y1, .int .i64 y2, .int .i64 y3] N (w3.alloc (.cells #[.int .i64 x0, .int .i64 x1, .int .i64 x2, .int .i64 x3, .int .i64 y0, .int .i64 y1, .int .i64 y2, .int .i64 y3] 119)) :=
      ⟨gr_below (hB3.alloc hB3.size _), by rw [← hbox3]; exact ((Below.refl w3.heap.size w3).alloc (Nat.le_refl _) _).block _ (Nat.lt_of_lt_of_le hlt2 hb3.size), heap_alloc_new _ _, hK.below (hB3.alloc hB3.size _), Nat.lt_of_lt_of_le hlt2 hb3.size, hbw2⟩
    have d1 := hP2.c1
    have e0 : (w3.alloc (.cells #[.int .i64 x0, .int .i64 x1, .int .i64 x2, .int .i64 x3, .int .i64 y0, .int .i64 y1, .int .i64 y2, .int .i64 y3] 119)).cell? ⟨w3.heap.size, 0, none⟩ = some (.int .i64 x0) := hP2.k 0 (show 0 < 8 by decide)
    have e1 : (w3.alloc (.cells #[.int .i64 x0, .int .i64 x1, .int .i64 x2, .int .i64 x3, .int .i64 y0, .int .i64 y1, .int .i64 y2, .int .i64 y3] 119)).cell? ⟨w3.heap.size, 1, none⟩ = some (.int .i64 x1) := hP2.k 1 (show 1 < 8 by decide)
    have e2 : (w3.alloc (.cells #[.int .i64 x0, .int .i64 x1, .int .i64 x2, .int .i64 x3, .int .i64 y0, .int .i64 y1, .int .i64 y2, .int .i64 y3] 119)).cell? ⟨w3.heap.size, 2, none⟩ = some (.int .i64 x2) := hP2.k 2 (show 2 < 8 by decide)
    have e3 : (w3.alloc (.cells #[.int .i64 x0, .int .i64 x1, .int .i64 x2, .int .i64 x3, .int .i64 y0, .int .i64 y1, .int .i64 y2, .int .i64 y3] 119)).cell? ⟨w3.heap.size, 3, none⟩ = some (.int .i64 x3) := hP2.k 3 (show 3 < 8 by decide)
    have e4 : (w3.alloc (.cells #[.int .i64 x0, .int .i64 x1, .int .i64 x2, .int .i64 x3, .int .i64 y0, .int .i64 y1, .int .i64 y2, .int .i64 y3] 119)).cell? ⟨w3.heap.size, 4, none⟩ = some (.int .i64 y0) := hP2.k 4 (show 4 < 8 by decide)
    have e5 : (w3.alloc (.cells #[.int .i64 x0, .int .i64 x1, .int .i64 x2, .int .i64 x3, .int .i64 y0, .int .i64 y1, .int .i64 y2, .int .i64 y3] 119)).cell? ⟨w3.heap.size, 5, none⟩ = some (.int .i64 y1) := hP2.k 5 (show 5 < 8 by decide)
    have e6 : (w3.alloc (.cells #[.int .i64 x0, .int .i64 x1, .int .i64 x2, .int .i64 x3, .int .i64 y0, .int .i64 y1, .int .i64 y2, .int .i64 y3] 119)).cell? ⟨w3.heap.size, 6, none⟩ = some (.int .i64 y2) := hP2.k 6 (show 6 < 8 by decide)
    have e7 : (w3.alloc (.cells #[.int .i64 x0, .int .i64 x1, .int .i64 x2, .int .i64 x3, .int .i64 y0, .int .i64 y1, .int .i64 y2, .int .i64 y3] 119)).cell? ⟨w3.heap.size, 7, none⟩ = some (.int .i64 y3) := hP2.k 7 (show 7 < 8 by decide)
    have HP2 := Lib.hid hP2
    clear hb2 hb3 hB2 hB3 hbox2 hbox3 hlt2 hP2 hbox hb1 Hb1 kX kY hK
    generalize hw4 : w3.alloc (.cells #[.int .i64 x0, .int .i64 x1, .int .i64 x2, .int .i64 x3, .int .i64 y0, .int .i64 y1, .int .i64 y2, .int .i64 y3] 119) = w4 at *
    go_wp2_with (at_lookup; refine wpList_rp_look rfl _ _ rfl b N w0.heap.size c x V hxl hxw hV HP2.out.K rfl (by rw [Hvv.out]; rfl) ?_)
    intro q
    have hz := q.h
    generalize q.v = qv at *
    generalize q.r = rb at *
    clear q d1 e0 e1 e2 e3 e4 e5 e6 e7
    have hP2 := HP2.out
    clear HP2
    generalize w3.heap.size = hk3 at *
    clear hw4
    cases rb with
    | true =>
      obtain ⟨gq, nq, cq, rfl, hnq, hoq⟩ := hz rfl
      clear hz
      go_wp2_with fail
      go_ret
      exact ⟨gq, nq, cq, N, rfl, hnq, hoq, Nat.le_add_right _ _, hP2.K, hP2.gr⟩
    | false =>
    clear hz
    have hN1 : N < 900000 := by omega
    · cases V with
      | nil => simp at hk
      | cons t V =>
      obtain ⟨s, rfl, hs, hV1L⟩ := head_tail hV.lets
      obtain ⟨hfn, him, hV1⟩ := hV.tail
      rw [Int.toNat_natCast] at hfn him
      have hyN : firstNegI (imI c ((s : Int) :: V)) = (s : Int) := by unfold firstNegI; rw [hfn]
      rw [hyN] at kFy
      have hk1 : V.length = k := by simpa using hk
      have hsn : s < n := by omega
      have hxs : ∀ W, w.grownBy W (some b) → W.cell? ⟨gx, ox + s, none⟩ = some (.int .i64 (x.getD s 0)) := fun W hg => (hcx.grown hg (fun e => hxb (Option.some.inj e))) s (by omega)
      have hrx : (refl c s x).length = n := by rw [refl_length]; exact hx
      have hxs' := Lib.hid hxs
      have hcx' := Lib.hid (fun (W : World) (hg : w.grownBy W (some b)) => hcx.grown hg (fun e => hxb (Option.some.inj e)))
      have hcy' := Lib.hid (fun (W : World) (hg : w.grownBy W (some b)) => hcy.grown hg (fun e => hyb (Option.some.inj e)))
      have IH := Lib.hid (fun (x' : List Int) (hx' : x'.length = n) (hw' : WfV x') (g1 o1 c1 g2 o2 c2 N' : Nat) (W : World) (hB' : Below w0.heap.size w0 W) (h1 : g1 < W.heap.size) (h2 : g2 < W.heap.size) (n1 : g1 ≠ b) (n2 : g2 ≠ b) (q1 : Cells W g1 o1 x') (q2 : Cells W g2 o2 (imI c V)) (hK' : RpM W b N' w0.heap.size c) (hN' : N' + cnt2 k < 900000) => ih V x' g1 o1 c1 g2 o2 c2 N' W hk1 hV1 hx' hw' hB' h1 h2 n1 n2 q1 q2 hK' hN')
      have hcnt : cnt2 (k + 1) = 2 * cnt2 k + 1 := rfl
      have HRR : Hid (rI c ((s : Int) :: V) x = if x.getD s 0 < 0 then rI c V (refl c s x) else addP (shI (rI c V (refl c s x)) 1) (subP' (shI (rI c V x) 1) (rI c V x))) := Lib.hid rfl
      have kR := Lib.hid (fun (W : World) (g' c' : Nat) (hW : Below w0.heap.size w0 W) (ho : Own W w0.heap.size g' c' x) => impl_reflected_any w0 gc oc n cc g' c' s n c x W hn hx hxl hc4 hC.2.2.1 hs hgc hr hW ho)
      have kS := Lib.hid (fun (W : World) (g' c' : Nat) (hW : Below w0.heap.size w0 W) (ho : Own W w0.heap.size g' c' (imI c ((s : Int) :: V))) => impl_reflected_any w0 gc oc n cc g' c' s n c (imI c ((s : Int) :: V)) W hn hyl (imI_length _ _) hc4 hC.2.2.1 hs hgc hr hW ho)
      rw [← him] at kS
      have hwx := wfV_refl c s x
      clear hcx hcy hxs hfn him ih kFx
      go_wp2_with fail
      refine (kFy.out _ (hP2.below ((Below.refl _ _).alloc (Nat.le_refl _) _)).gr).mono ?_
      rintro e w5 ⟨rfl, hs5⟩
      have hb5 : Below w4.heap.size w4 w5 := below_still ((Below.refl w4.heap.size w4).alloc (Nat.le_refl _) (.cells #[] 3)) hs5
      clear hs5 kFy
      have t1 : ¬ (s : Int) < 0 := by omega
      have t2 : (s : Int) < (n : Int) := by omega
      have hP5 := hP2.below hb5
      have hgx5 := Nat.lt_of_lt_of_le hgx hP5.gr.size
      have hgy5 := Nat.lt_of_lt_of_le hgy hP5.gr.size
      have hqx := hcx'.out w5 hP5.gr
      go_wp2_with (at_builtin; refine wpList_clone (w := w5) rfl _ _ rfl gx ox n cx x hx hgx5 hqx rfl rfl (by omega) ?_)
      intro gS cS w6 hoS hb6
      have hB6 := hb5.trans (hb6.mono hb5.size)
      have hP6 := hP2.below hB6
      have hqy := hcy'.out w6 hP6.gr
      have hgy6 := Nat.lt_of_lt_of_le hgy hP6.gr.size
      clear hqx hgx5 hgy5 hP5
      go_wp2_with (at_builtin; refine wpList_clone (w := w6) rfl _ _ rfl gy oy n cy _ hyl hgy6 hqy rfl rfl (by omega) ?_)
      intro gT cT w7 hoT hb7
      have hB7 := hB6.trans (hb7.mono hB6.size)
      have hP7 := hP2.below hB7
      have hoS7 := hoS.below hb7 hoS.lt
      have hSbase := hoS.base
      have hTbase := hoT.base
      have hS6 := hoS.lt
      have hST : gS ≠ gT := by have := hoS.lt; omega
      have c07 := hP7.c0
      have hbase7 := hP7.base hB hbw
      have k7 := Lib.hid (kR.out w7 gS cS hbase7 (hoS7.mono (Nat.le_trans (hP2.base hB hbw).size hb5.size)))
      clear hb6 hb7 hB6 hP6 hqy hgy6 kR
      go_wp2_with fail
      refine k7.out.mono ?_
      rintro e w8 ⟨rfl, hoS8, hg8⟩
      have hB8 : Below w4.heap.size w4 w8 := hB7.grown hg8 hB7.size (by intro t ht; cases ht; exact Nat.le_trans hb5.size hSbase)
      have hP8 := hP2.below hB8
      have hoT8 := hoT.grown hg8 (fun e => hST (Option.some.inj e).symm)
      have c08 := hP8.c0
      have k8 := Lib.hid (kS.out w8 gT cT (hP8.base hB hbw) (hoT8.mono (hP2.base hB hbw |>.size |> fun q => Nat.le_trans q (Nat.le_trans hb5.size (by have := hoS.lt; omega)))))
      clear k7 hB7 hP7 hoS7 c07 hbase7 hoT hoS
      go_wp2_with fail
      refine k8.out.mono ?_
      rintro e w9 ⟨rfl, hoT9, hg9⟩
      have hB9 : Below w4.heap.size w4 w9 := hB8.grown hg9 hB8.size (by intro t ht; cases ht; have := hb5.size; omega)
      have hP9 := hP2.below hB9
      have hoS9 := hoS8.grown hg9 (fun e => hST (Option.some.inj e))
      have hbS : b ≠ gS := hP9.K.neOwn hoS9
      have hbT : b ≠ gT := hP9.K.neOwn hoT9
      have hbase9 := hP9.base hB hbw
      have c09 := hP9.c0
      have c19 := hP9.c1
      have cx9 := hxs'.out w9 hP9.gr
      clear k8 hB8 hP8 hoS8 hoT8 c08 hg8 hg9 hB9 hP2 hb5 kS 
      by_cases hneg : x.getD s 0 < 0
      · have HR : Hid (rI c ((s : Int) :: V) x = rI c V (refl c s x)) := Lib.hid (HRR.out.trans (if_pos hneg))
        generalize x.getD s 0 = z at *
        have kk := Lib.hid (IH.out (refl c s x) hrx hwx gS 0 cS gT 0 cT N w9 hbase9 hoS9.lt hoT9.lt (Ne.symm hbS) (Ne.symm hbT) hoS9.cells hoT9.cells hP9.K (by omega))
        clear hoS9 hoT9 IH hbase9 hcx' hcy' hxs' HRR
        go_wp2_with fail
        refine kk.out.mono ?_
        rintro e wA ⟨gR, nR, cR, N2, rfl, hnR, hoR, hN2, hKA, hgA⟩
        have hPA := hP9.turn hgA hKA
        clear kk hP9 hKA hgA c09 c19 cx9
        have d1 := hPA.c1
        have e0 : wA.cell? ⟨hk3, 0, none⟩ = some (.int .i64 x0) := hPA.k 0 (show 0 < 8 by decide)
        have e1 : wA.cell? ⟨hk3, 1, none⟩ = some (.int .i64 x1) := hPA.k 1 (show 1 < 8 by decide)
        have e2 : wA.cell? ⟨hk3, 2, none⟩ = some (.int .i64 x2) := hPA.k 2 (show 2 < 8 by decide)
        have e3 : wA.cell? ⟨hk3, 3, none⟩ = some (.int .i64 x3) := hPA.k 3 (show 3 < 8 by decide)
        have e4 : wA.cell? ⟨hk3, 4, none⟩ = some (.int .i64 y0) := hPA.k 4 (show 4 < 8 by decide)
        have e5 : wA.cell? ⟨hk3, 5, none⟩ = some (.int .i64 y1) := hPA.k 5 (show 5 < 8 by decide)
        have e6 : wA.cell? ⟨hk3, 6, none⟩ = some (.int .i64 y2) := hPA.k 6 (show 6 < 8 by decide)
        have e7 : wA.cell? ⟨hk3, 7, none⟩ = some (.int .i64 y3) := hPA.k 7 (show 7 < 8 by decide)
        have HP := Lib.hid hPA
        have HO := Lib.hid hoR
        clear hPA hoR
        go_wp2_with (at_mapUpdate; refine wpList_rp_put rfl _ _ _ rfl b N2 w0.heap.size c hc4 x _ hxl hxw hV HP.out.K (by omega) gR nR cR (by rw [HR.out]; exact hnR) (by rw [HR.out]; exact HO.out) rfl (by rw [Hvv.out]; rfl) rfl ?_)
        intro wZ hKZ hgZ
        clear d1 e0 e1 e2 e3 e4 e5 e6 e7
        go_wp2_with fail
        go_ret
        exact ⟨gR, nR, cR, N2 + 1, rfl, by rw [HR.out]; exact hnR, by rw [HR.out]; exact HP.out.K.own HO.out hgZ, by omega, hKZ, gr_trans HP.out.gr hgZ⟩
      · have HR : Hid (rI c ((s : Int) :: V) x = addP (shI (rI c V (refl c s x)) 1) (subP' (shI (rI c V x) 1) (rI c V x))) := Lib.hid (HRR.out.trans (if_neg hneg))
        generalize x.getD s 0 = z at *
        have hl1 := rI_le c V x
        have hl2 := rI_le c V (refl c s x)
        have hgx9 := Nat.lt_of_lt_of_le hgx hP9.gr.size
        have k1 := Lib.hid (IH.out x hx hxw gx ox cx gT 0 cT N w9 hbase9 hgx9 hoT9.lt hxb (Ne.symm hbT) (hcx'.out w9 hP9.gr) hoT9.cells hP9.K (by omega))
        have k2 := Lib.hid (fun (N' : Nat) (W : World) (hP : PSt w0 w gc oc n cc b hk3 c #[.int .i64 x0, .int .i64 x1, .int .i64 x2, .int .i64 x3, .int .i64 y0, .int .i64 y1, .int .i64 y2, .int .i64 y3] N' W) (ho1 : Own W w0.heap.size gS cS (refl c s x)) (ho2 : Own W w0.heap.size gT cT (imI c V)) (hN' : N' + cnt2 k < 900000) => IH.out (refl c s x) hrx hwx gS 0 cS gT 0 cT N' W (hP.base hB hbw) ho1.lt ho2.lt (Ne.symm hbS) (Ne.symm hbT) ho1.cells ho2.cells hP.K hN')
        obtain ⟨S1, hS1⟩ : ∃ S, rI c V x = S := ⟨_, rfl⟩
        obtain ⟨S2, hS2⟩ : ∃ S, rI c V (refl c s x) = S := ⟨_, rfl⟩
        rw [hS1] at k1 HR hl1
        rw [hS2] at k2 HR hl2
        have h1 := shI_le S2 1
        have h2 := shI_le S1 1
        have h3 := subP_le (shI S1 1) S1
        have hVk : V.length ≤ 15 := hV1L.few
        have K1 := Lib.hid (fun (W : World) (B g' n' c' : Nat) (hn' : S2.length = n') (ho : Own W B g' c' S2) => show Calls Tryz.prog 64 #[(Value.slice (some ⟨g', 0, none⟩) n' c'), .int .i64 1] W (GotInts W (shI S2 1)) from impl_shifted_any g' 0 n' c' 1 S2 W hn' (by omega) (by have := ho.capLe; omega) (by omega) ho.lt ho.cells)
        have K2 := Lib.hid (fun (W : World) (B g' n' c' : Nat) (hn' : S1.length = n') (ho : Own W B g' c' S1) => show Calls Tryz.prog 64 #[(Value.slice (some ⟨g', 0, none⟩) n' c'), .int .i64 1] W (GotInts W (shI S1 1)) from impl_shifted_any g' 0 n' c' 1 S1 W hn' (by omega) (by have := ho.capLe; omega) (by omega) ho.lt ho.cells)
        obtain ⟨A, hA⟩ : ∃ A, shI S2 1 = A := ⟨_, rfl⟩
        obtain ⟨D, hD⟩ : ∃ D, shI S1 1 = D := ⟨_, rfl⟩
        rw [hA] at h1 K1 HR; rw [hD] at h2 h3 K2 HR
        obtain ⟨mA, hmA⟩ : ∃ m, A.length = m := ⟨_, rfl⟩
        obtain ⟨mD, hmD⟩ : ∃ m, D.length = m := ⟨_, rfl⟩
        have K3 := Lib.hid (fun (W : World) (B B2 g1 c1 g2 n2 c2 : Nat) (hn' : S1.length = n2) (q1 : Own W B g1 c1 D) (q2 : Own W B2 g2 c2 S1) => impl_SubPoly_any g1 0 mD c1 g2 0 n2 c2 D S1 W hmD hn' (by omega) (by omega) q1.lt q2.lt q1.cells q2.cells)
        obtain ⟨E, hE⟩ : ∃ E, subP' D S1 = E := ⟨_, rfl⟩
        rw [hE] at h3 K3 HR
        obtain ⟨mE, hmE⟩ : ∃ m, E.length = m := ⟨_, rfl⟩
        have K4 := Lib.hid (fun (W : World) (B B2 g1 c1 g2 c2 : Nat) (q1 : Own W B g1 c1 A) (q2 : Own W B2 g2 c2 E) => impl_AddPoly_any g1 0 mA c1 g2 0 mE c2 A E W hmA hmE (by omega) (by omega) q1.lt q2.lt q1.cells q2.cells)
        obtain ⟨R, hR⟩ : ∃ R, addP A E = R := ⟨_, rfl⟩
        rw [hR] at K4 HR
        have HmA := Lib.hid hmA; have HmD := Lib.hid hmD; have HmE := Lib.hid hmE
        clear hA hD hE hR hmA hmD hmE h1 h2 h3 hl1 hl2 hS1 hS2 IH hcx' hcy' hxs' HRR hbase9
        go_wp2_with fail
        refine k1.out.mono ?_
        rintro e wA ⟨g1, n1, c1, N2, rfl, hn1, ho1, hN2, hKA, hgA⟩
        have hPA := hP9.turn hgA hKA
        have hoSA := hP9.K.own hoS9 hgA
        have hoTA := hP9.K.own hoT9 hgA
        have c0A := hPA.c0
        have c1A := hPA.c1
        have kk := Lib.hid (k2.out N2 wA hPA hoSA hoTA (by omega))
        clear k1 k2 hP9 hoS9 hoT9 hoSA hoTA c09 c19 cx9 hKA hgA
        go_wp2_with fail
        refine kk.out.mono ?_
        rintro e wB ⟨g2, n2, c2, N3, rfl, hn2, ho2, hN3, hKB, hgB⟩
        have hPB := hPA.turn hgB hKB
        have ho1B := hPA.K.own ho1 hgB
        have q1 := Lib.hid (K1.out wB _ g2 n2 c2 hn2 ho2)
        clear kk hPA ho1 c0A c1A hKB hgB
        go_wp2_with fail
        refine q1.out.mono ?_
        rintro e wC ⟨gA, cA, rfl, hoA, hbA⟩
        rw [HmA.out]
        have hPC := hPB.below hbA
        have ho1C := ho1B.below hbA ho1B.lt
        have q2 := Lib.hid (K2.out wC _ g1 n1 c1 hn1 ho1C)
        clear q1 hPB ho1B hbA
        go_wp2_with fail
        refine q2.out.mono ?_
        rintro e wD ⟨gD, cD, rfl, hoD, hbD⟩
        rw [HmD.out]
        have hPD := hPC.below hbD
        have ho1D := ho1C.below hbD ho1C.lt
        have hoAD := hoA.below hbD hoA.lt
        have q3 := Lib.hid (K3.out wD _ _ gD cD g1 n1 c1 hn1 hoD ho1D)
        clear q2 hPC ho1C hbD hoA
        go_wp2_with fail
        refine q3.out.mono ?_
        rintro e wE ⟨gE, cE, rfl, hoE, hbE⟩
        rw [HmE.out]
        have hPE := hPD.below hbE
        have hoAE := hoAD.below hbE hoAD.lt
        have q4 := Lib.hid (K4.out wE _ _ gA cA gE cE hoAE hoE)
        clear q3 hPD ho1D hbE hoAD hoD
        go_wp2_with fail
        refine q4.out.mono ?_
        rintro e wF ⟨gF, cF, rfl, hoF, hbF⟩
        have hPF := hPE.below hbF
        have hoF := hoF.mono (hPE.base hB hbw).size
        obtain ⟨nF, hnF⟩ : ∃ m, R.length = m := ⟨_, rfl⟩
        rw [hnF]
        clear q4 hPE hbF hoAE hoE
        have d1 := hPF.c1
        have e0 : wF.cell? ⟨hk3, 0, none⟩ = some (.int .i64 x0) := hPF.k 0 (show 0 < 8 by decide)
        have e1 : wF.cell? ⟨hk3, 1, none⟩ = some (.int .i64 x1) := hPF.k 1 (show 1 < 8 by decide)
        have e2 : wF.cell? ⟨hk3, 2, none⟩ = some (.int .i64 x2) := hPF.k 2 (show 2 < 8 by decide)
        have e3 : wF.cell? ⟨hk3, 3, none⟩ = some (.int .i64 x3) := hPF.k 3 (show 3 < 8 by decide)
        have e4 : wF.cell? ⟨hk3, 4, none⟩ = some (.int .i64 y0) := hPF.k 4 (show 4 < 8 by decide)
        have e5 : wF.cell? ⟨hk3, 5, none⟩ = some (.int .i64 y1) := hPF.k 5 (show 5 < 8 by decide)
        have e6 : wF.cell? ⟨hk3, 6, none⟩ = some (.int .i64 y2) := hPF.k 6 (show 6 < 8 by decide)
        have e7 : wF.cell? ⟨hk3, 7, none⟩ = some (.int .i64 y3) := hPF.k 7 (show 7 < 8 by decide)
        have HP := Lib.hid hPF
        have HO := Lib.hid hoF
        clear hPF hoF
        go_wp2_with (at_mapUpdate; refine wpList_rp_put rfl _ _ _ rfl b N3 w0.heap.size c hc4 x _ hxl hxw hV HP.out.K (by omega) gF nF cF (by rw [HR.out]; exact hnF) (by rw [HR.out]; exact HO.out) rfl (by rw [Hvv.out]; rfl) rfl ?_)
        intro wZ hKZ hgZ
        clear d1 e0 e1 e2 e3 e4 e5 e6 e7
        go_wp2_with fail
        go_ret
        exact ⟨gF, nF, cF, N3 + 1, rfl, by rw [HR.out]; exact hnF, by rw [HR.out]; exact HP.out.K.own HO.out hgZ, by omega, hKZ, gr_trans HP.out.gr hgZ⟩
end Go.Proofs.YtdedkfbiookofaaGreatDoor
