/- The laws' draws: permutations, networks, lists; bytes of a code; equal lists. -/
import Derived.Test.YtjhoimdfmcjkbaaG09
import Derived.Test.YtjhoimdfmcjkbaaG10
namespace Go.Proofs.Ytjhoimdfmcjkbaa
set_option maxRecDepth 100000
open Go.RowKit

set_option maxHeartbeats 1000000 in
theorem spec_l1Once_any (B p : Nat) (a : Option Addr) (n c : Nat) (m : Int) (w : World) (hm : 1 ≤ m ∧ m ≤ 256) (hn : n ≤ 1048576) (hc : CodeV w B a n) (hp : B ≤ p) (hcur : Cur w p a n c) :
    Calls Try.prog 42 #[.pointer (some ⟨p, 0, none⟩), .int .i64 m] w fun e w' => ∃ b : Bool, e = .returned (.bool b) ∧ Cur w' p a n c ∧ CodeV w' B a n ∧ Only p (p + 1) w w' := by
  have h1 := Lib.hid (spec_l1Below_any B p a n c m w hm hn hc hp hcur)
  clear hc hcur
  go_enter Try.func42, Try.ntmps42
  go_wp2_with fail
  refine h1.out.mono ?_
  rintro e w1 ⟨x, hx, rfl, hcur, hc, hO⟩
  go_wp2_with fail
  go_ret
  exact ⟨_, rfl, hcur, hc, hO⟩

theorem Only.grown {w w1 w2 : World} {p E g : Nat} (h : Only p E w w1) (k : w1.grownBy w2 (some g)) (hg : w.heap.size ≤ g) : Only p E w w2 :=
  ⟨k.os.trans h.os, k.tape.trans h.tape, k.output.trans h.output, Nat.le_trans h.size k.size, fun j hj hd => (k.block j (Nat.lt_of_lt_of_le hj h.size) (by intro e; cases e; omega)).trans (h.block j hj hd)⟩
theorem Cur.grown {w w' : World} {p g : Nat} {a : Option Addr} {n c : Nat} (h : Cur w p a n c) (k : w.grownBy w' (some g)) (hg : p < g) : Cur w' p a n c := by
  obtain ⟨i, x, hi, hb⟩ := h
  exact ⟨i, x, hi, (k.block p (lt_of_block hb) (by intro e; cases e; omega)).trans hb⟩
theorem CodeV.grown {w w' : World} {B g : Nat} {a : Option Addr} {n : Nat} (h : CodeV w B a n) (k : w.grownBy w' (some g)) (hg : B ≤ g) : CodeV w' B a n :=
  h.only (p := g) (E := g + 1) ⟨k.os, k.tape, k.output, k.size, fun j hj hd => k.block j hj (by intro e; cases e; omega)⟩ hg
theorem Only.below' {w w1 w2 : World} {p E b : Nat} (h : Only p E w w1) (k : Below b w1 w2) (hb : w.heap.size ≤ b) : Only p E w w2 :=
  ⟨k.os.trans h.os, k.tape.trans h.tape, k.output.trans h.output, Nat.le_trans h.size k.size, fun j hj hd => (k.block j (Nat.lt_of_lt_of_le hj hb)).trans (h.block j hj hd)⟩
theorem Cur.below' {w w' : World} {p b : Nat} {a : Option Addr} {n c : Nat} (h : Cur w p a n c) (k : Below b w w') (hb : p < b) : Cur w' p a n c := by
  obtain ⟨i, x, hi, hl⟩ := h
  exact ⟨i, x, hi, (k.block p hb).trans hl⟩
theorem CodeV.below' {w w' : World} {B b : Nat} {a : Option Addr} {n : Nat} (h : CodeV w B a n) (k : Below b w w') (hb : B ≤ b) : CodeV w' B a n := h.below (k.mono hb)
theorem mem_take_drop {P : Int → Prop} {R : List Int} {t : Nat} (h : ∀ z ∈ R, P z) : ∀ z ∈ ([] ++ R.take t) ++ R.drop (t + 1), P z := fun z hz => by
  rw [List.nil_append] at hz
  rcases List.mem_append.1 hz with q | q
  · exact h z (List.mem_of_mem_take q)
  · exact h z (List.mem_of_mem_drop q)

def lenOfD : Value → Nat | .slice _ n _ => n | _ => 0
set_option maxHeartbeats 2000000 in
theorem spec_l33Perm_any (B p : Nat) (a : Option Addr) (n c : Nat) (w : World) (hn : n ≤ 1048576) (hc : CodeV w B a n) (hp : B ≤ p) (hcur : Cur w p a n c) :
    Calls Try.prog 44 #[.pointer (some ⟨p, 0, none⟩)] w (DrewL w B p a n c 5 6) := by
  have hps := hcur.lt
  have K := Lib.hid (fun (m : Int) (hm : 1 ≤ m ∧ m ≤ 256) (W : World) (hc : CodeV W B a n) (hcur : Cur W p a n c) => spec_l1Below_any B p a n c m W hm hn hc hp hcur)
  have bA := (Below.refl w.heap.size w).alloc (Nat.le_refl _) (.cells #[] 3)
  have O0 : Only p (p + 1) w (w.alloc (.cells #[] 3)) := Only.of_below _ _ bA
  have C0 := hc.only O0 hp
  have U0 := hcur.below' bA hps
  have hE : Own (w.alloc (.cells #[] 3)) w.heap.size w.heap.size 0 [] := Own.empty (Nat.le_refl _)
  clear hc hcur bA
  go_enter Try.func44, Try.ntmps44
  go_wp2
  go_loopw [3, 4] (fun lv kv wr => ∃ (m g2 c2 : Nat) (xs : List Int), m ≤ 5 ∧ kv = .int .i64 m ∧ lv = (Value.slice (some ⟨g2, 0, none⟩) m c2) ∧ Hid (xs.length = m) ∧ Hid (∀ y ∈ xs, 0 ≤ y ∧ y < 6) ∧ p < g2 ∧ Own wr w.heap.size g2 c2 xs ∧ Cur wr p a n c ∧ CodeV wr B a n ∧ Only p (p + 1) w wr) (fun _ kv _ => 5 - (intOf kv).toNat)
  case atStart => exact ⟨0, w.heap.size, 0, [], by omega, rfl, rfl, rfl, by simp [Hid], hps, hE, U0, C0, O0⟩
  case round =>
    clear hE U0 C0 O0
    obtain ⟨m, g2, c2, xs, hm5, rfl, rfl, hml, hall, hpg, hown, hcur, hc, hO⟩ := hrel
    have hcall := Lib.hid (K.out 5 (by omega) wr hc hcur)
    clear hc hcur
    go_wp2_with fail
    refine hcall.out.mono ?_
    rintro e w2 ⟨y, hy, rfl, hcur2, hc2, hO2⟩
    have hown2 := hown.only hO2 (.inr (by omega))
    have hO' := hO.trans hO2
    have eW : IntKind.i64.wrap (1 + y) = 1 + y := IntWalk.i64_in _ (by omega)
    clear hown hO hO2 hcall
    by_cases hlt : (m : Int) < 1 + y
    · have d1 : decide ((m : Int) < 1 + y) = true := by simpa using hlt
      have d2 : m < 5 := by omega
      go_wp2_with (at_builtin; refine wpList_append_int_n (w := w2) rfl _ _ rfl w.heap.size g2 c2 m xs (m : Int) hml.out hown2 rfl rfl (by omega) ?_)
      intro g3 c3 w3 ho3 hg3 hor3
      have hgs := hown2.base
      have hO3 := hO'.grown hg3 hgs
      have hcur3 := hcur2.grown hg3 hpg
      have hc3 := hc2.grown hg3 (by omega)
      have hps2 := hcur2.lt
      have hl3 : Hid ((xs ++ [(m : Int)]).length = m + 1) := Lib.hid (by rw [List.length_append, hml.out]; rfl)
      have ha3 := Lib.hid (all_snoc hall.out (show (0 : Int) ≤ (m : Int) ∧ (m : Int) < 6 by omega))
      have hpg3 : p < g3 := by rcases hor3 with rfl | q <;> omega
      clear hown2 hO' hcur2 hc2 hg3 hor3
      go_wp2_with fail
      go_roundw
      case rel => exact ⟨m + 1, g3, c3, _, by omega, by go_num, rfl, hl3.out, ha3.out, hpg3, ho3, hcur3, hc3, hO3⟩
      case measure => simp [intOf]; omega
    · have d1 : decide ((m : Int) < 1 + y) = false := by simpa using hlt
      have bA := (Below.refl w2.heap.size w2).alloc (Nat.le_refl _) (.cells #[] 3)
      have hbs := hown2.base
      have hss := hown2.lt
      have U3 := hcur2.below' bA hcur2.lt
      have C3 := hc2.below' bA (by omega)
      have O3 := hO'.below' bA (by have := hO'.size; omega)
      have L3 := hown2.below bA hown2.lt
      have E3 : Own (w2.alloc (.cells #[] 3)) w.heap.size w2.heap.size 0 [] := Own.empty (by omega)
      have hne3 : g2 ≠ w2.heap.size := by omega
      clear hown2 hO' hcur2 hc2 bA
      go_wp2_with fail
      go_loopw [3, 5] (fun lv ov wx => ∃ (m mx gl cl gx cx : Nat) (l xs : List Int), m + mx ≤ 5 ∧ lv = (Value.slice (some ⟨gl, 0, none⟩) m cl) ∧ ov = (Value.slice (some ⟨gx, 0, none⟩) mx cx) ∧ gl ≠ gx ∧ p < gl ∧ p < gx ∧ Hid (l.length = m) ∧ Hid (xs.length = mx) ∧ Hid (∀ y ∈ l, 0 ≤ y ∧ y < 6) ∧ Hid (∀ y ∈ xs, 0 ≤ y ∧ y < 6) ∧ Own wx w.heap.size gl cl l ∧ Own wx w.heap.size gx cx xs ∧ Cur wx p a n c ∧ CodeV wx B a n ∧ Only p (p + 1) w wx) (fun lv _ _ => lenOfD lv)
      case atStart => exact ⟨m, 0, g2, c2, w2.heap.size, 0, xs, [], by omega, rfl, rfl, hne3, hpg, by omega, hml.out, rfl, hall.out, by simp [Hid], L3, E3, U3, C3, O3⟩
      case round =>
        clear hne3 hml hall L3 E3 U3 C3 O3 hbs hss hpg
        obtain ⟨m, mx, gl, cl, gx, cx, l, xs, hmm, rfl, rfl, hne, hpl, hpx, hll, hxl, hal, hax, hL, hX, hcur, hc, hO⟩ := hrel
        by_cases hlt : 0 < m
        · have hltI : (0 : Int) < (m : Int) := by omega
          have hcall := Lib.hid (K.out (m : Int) (by omega) wr hc hcur)
          clear hc hcur
          go_wp2_with fail
          refine hcall.out.mono ?_
          rintro e w3 ⟨t, ht, rfl, hcur3, hc3, hO3⟩
          obtain ⟨t, rfl⟩ : ∃ q : Nat, t = q := ⟨t.toNat, by omega⟩
          have htm : t < m := by omega
          have hL3 := hL.only hO3 (.inr (by omega))
          have hX3 := hX.only hO3 (.inr (by omega))
          have hO' := hO.trans hO3
          have q1 : w3.cell? ⟨gl, t, none⟩ = some (.int .i64 (l.getD t 0)) := by
            have := hL3.cell t (by rw [hll.out]; exact htm)
            simpa [List.getD, show t < l.length by rw [hll.out]; exact htm] using this
          have hz := hal.out (l.getD t 0) (by simp [List.getD, show t < l.length by rw [hll.out]; exact htm])
          generalize l.getD t 0 = z at *
          have b0 : (0 : Int) ≤ (t : Int) := by omega
          have b1' : (t : Int) < (m : Int) := by omega
          clear hL hX hO hO3 hcall
          go_wp2_with (at_builtin; refine wpList_append_int_n (w := w3) rfl _ _ rfl w.heap.size gx cx mx xs z hxl.out hX3 rfl rfl (by omega) ?_)
          intro gy cy w4 hY4 hgy hory
          have hxs := hX3.base
          have hsz3 : w.heap.size ≤ w3.heap.size := hO'.size
          have hO4 := hO'.grown hgy hxs
          have hcur4 := hcur3.grown hgy hpx
          have hc4 := hc3.grown hgy (by omega)
          have hL4 := hL3.grown hgy (by intro e; cases e; exact hne rfl)
          have hly : gl ≠ gy := by
            have := hL3.lt
            rcases hory with rfl | q
            · exact hne
            · omega
          have hpy : p < gy := by have := hcur3.lt; rcases hory with rfl | q <;> omega
          have hyl : Hid ((xs ++ [z]).length = mx + 1) := Lib.hid (by rw [List.length_append, hxl.out]; rfl)
          have hay := Lib.hid (all_snoc hax.out hz)
          clear hX3 hL3 hO' hcur3 hc3 hgy hory q1
          go_wp2_with fail
          have hrow := hL4.cells
          have q3 := hL4.lt
          have hcl := hL4.capLe
          rw [hll.out] at hcl
          have b2 : (t : Int) ≤ (cl : Int) := by omega
          have b3 : (0 : Int) ≤ (t : Int) + 1 := by omega
          have b4 : (t : Int) + 1 ≤ (m : Int) := by omega
          have b6 : (m : Int) ≤ (cl : Int) := by omega
          have b7 : IntKind.i64.wrap ((t : Int) + 1) = (t : Int) + 1 := IntWalk.i64_in _ (by omega)
          have l1 : (l.take t).length = t := by rw [List.length_take, hll.out]; omega
          have l2 : (l.drop (t + 1)).length = m - (t + 1) := by rw [List.length_drop, hll.out]
          have l3 : (([] ++ l.take t) ++ l.drop (t + 1)).length = t + (m - (t + 1)) := by rw [List.nil_append, List.length_append, l1, l2]
          have L1 := Lib.hid l1; have L2 := Lib.hid l2; have L3 := Lib.hid l3
          have B0 : Below w4.heap.size w4 ((w4.alloc (.cells #[] 3)).drew) := Below.drew ((Below.refl _ _).alloc (Nat.le_refl _) _)
          have F1 : ∀ w5, ((w4.alloc (.cells #[] 3)).drew).grownBy w5 (some w4.heap.size) → Below w4.heap.size w4 w5 := fun w5 h => B0.grown h B0.size (by intro j hj; cases hj; exact Nat.le_refl _)
          have F2 : ∀ (w5 w6 : World) (g1 : Nat), Below w4.heap.size w4 w5 → w4.heap.size ≤ g1 → w5.grownBy w6 (some g1) → Below w4.heap.size w4 w6 := fun w5 w6 g1 h hg h2 => h.grown h2 h.size (by intro j hj; cases hj; exact hg)
          have FA : Hid (∀ W, Cells W gl 0 l → ∃ g2 o2, (if cl = t + 1 then some (⟨gl, 0, none⟩ : Addr) else some ⟨gl, t + 1, none⟩) = some ⟨g2, o2, none⟩ ∧ Cells W g2 o2 (l.drop (t + 1))) := fun W hW => by
            by_cases hca : cl = t + 1
            · rw [if_pos hca]
              refine ⟨_, _, rfl, ?_⟩
              have : l.drop (t + 1) = [] := List.drop_eq_nil_of_le (by rw [hll.out]; omega)
              rw [this]; intro j hj; simp at hj
            · rw [if_neg hca]
              have := hW.drop (t + 1)
              rw [Nat.zero_add] at this
              exact ⟨_, _, rfl, this⟩
          clear l1 l2 l3
          go_region_held3 (fun W => Below w4.heap.size w4 W)
            (first | exact Below.drew (Below.refl _ _) | exact B0 | exact (Below.drew (Below.refl _ _)).alloc (Nat.le_refl _) _ | exact F1 _ hg1 | exact F2 _ _ _ (F1 _ hg1) ho1.base hg2)
            (first
              | (refine step_append_ints (by rfl) _ _ (by rfl) w4.heap.size w4.heap.size 0 0 gl 0 t cl [] (l.take t) rfl L1.out (by exact (Own.empty (w := w4.drew) (Nat.le_refl _))) (by exact (hrow.below B0 q3).take t) (by rfl) (by rfl) (by omega) ?_; intro g1 c1 w5 ho1 hg1 hor1)
              | (refine step_append_intsA (by rfl) _ _ (by rfl) w4.heap.size g1 c1 (0 + t) (m - (t + 1)) _ _ ([] ++ l.take t) (l.drop (t + 1)) (by rw [List.nil_append, Nat.zero_add]; exact L1.out) L2.out (by exact ho1) (by rfl) (by rfl) (by exact FA.out _ (hrow.below (F1 _ hg1) q3)) (by omega) ?_; intro g2 c2 w6 ho2 hg2 hor2))
          have hb6 := F2 _ _ _ (F1 _ hg1) ho1.base hg2
          have O6 := hO4.below' hb6 (by have := hO4.size; omega)
          have U6 := hcur4.below' hb6 hcur4.lt
          have C6 := hc4.below' hb6 (by omega)
          have Y6 := hY4.below hb6 hY4.lt
          have hne6 : g2 ≠ gy := by have h1 := ho2.base; have h2 := hY4.lt; omega
          have hp6 : p < g2 := by have h1 := ho2.base; have h2 := hcur4.lt; omega
          have L6 := ho2.mono (show w.heap.size ≤ w4.heap.size from hO4.size)
          have hal6 := Lib.hid (mem_take_drop (t := t) hal.out)
          clear F1 F2 FA ho1 hg1 hor1 ho2 hg2 hor2 hb6 hrow q3 hY4 hL4 hcur4 hc4 hO4 B0
          generalize (if cl = t + 1 then some (⟨gl, 0, none⟩ : Addr) else some ⟨gl, t + 1, none⟩) = AA
          go_wp2_with fail
          go_roundw
          case rel => exact ⟨t + (m - (t + 1)), mx + 1, g2, c2, gy, cy, _, _, by omega, rfl, rfl, hne6, hp6, hpy, L3.out, hyl.out, hal6.out, hay.out, L6, Y6, U6, C6, O6⟩
          case measure => simp [lenOfD]; omega
        · obtain rfl : m = 0 := by omega
          have Hxl := Lib.hid hxl.out
          go_wp2_with fail
          go_ret
          exact ⟨xs, gx, cx, ⟨by have := hxl.out; omega, hax.out⟩, congrArg (fun z => Ending.returned (Value.slice (some ⟨gx, 0, none⟩) z cx)) Hxl.out.symm, hX, hcur, hc, hO⟩
end Go.Proofs.Ytjhoimdfmcjkbaa
