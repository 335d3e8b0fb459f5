/- The automaton by the program: places, own roots, is a list a state? contracts. -/
import Derived.Test.YtmplcohpinghbaaGreatDoorSmL
import Derived.Test.YtmplcohpinghbaaGreatDoorSrt2
import Derived.Test.YtmplcohpinghbaaGreatDoorRefl
import Derived.BigQuiet
import Derived.Deep.RegionHeld3
namespace Go.Proofs.YtmplcohpinghbaaGreatDoor
open Go.RowKit Game

theorem cell3 {w : World} {B : Nat} {a b d : Value} {t : TypeId} (h : w.heap[B]? = some (.cells #[a, b, d] t (0, 0))) : w.cell? ⟨B, 0, none⟩ = some a ∧ w.cell? ⟨B, 1, none⟩ = some b ∧ w.cell? ⟨B, 2, none⟩ = some d := by
  refine ⟨?_, ?_, ?_⟩ <;> simp [World.cell?, h]
set_option maxHeartbeats 1000000 in
theorem impl_IdxClosure_any (g1 o1 n1 c1 g2 o2 n2 c2 b : Nat) (xs ys : List Int) (w : World) (hn1 : xs.length = n1) (hn2 : ys.length = n2) (hx : xs.length ≤ 1048576) (hy : ys.length ≤ 1048576)
    (hcx : Cells w g1 o1 xs) (hcy : Cells w g2 o2 ys) (hb : w.cell? ⟨b, 0, none⟩ = some (Value.slice (some ⟨g2, o2, none⟩) n2 c2)) :
    Calls Tryz.prog 67 #[(Value.slice (some ⟨g1, o1, none⟩) n1 c1), .pointer (some ⟨b, 0, none⟩)] w (Reads w (.bool (decide (xs = ys)))) := by
  have hcall := slices_Equal_any g1 o1 n1 c1 g2 o2 n2 c2 xs ys w hn1 hn2 (by omega) (by omega) hcx hcy
  have Hcall := Lib.hid hcall
  generalize decide (xs = ys) = r at *
  clear hcall
  go_enter Tryz.func67, Tryz.ntmps67
  go_wp2_with fail
  refine Hcall.out.mono ?_
  rintro e w1 ⟨rfl, hs1⟩
  go_wp2_with fail
  go_ret
  exact ⟨rfl, hs1⟩
set_option maxHeartbeats 2000000 in
theorem slices_IndexFunc_any (g o n cp g1 o1 n1 c1 b : Nat) (l : List (List Int)) (r : List Int) (w : World) (hn : l.length = n) (hn1 : r.length = n1) (hr1 : r.length ≤ 1048576) (hl : l.length ≤ 1048576) (hrl : ∀ j, j < l.length → (l.getD j []).length ≤ 1048576)
    (hr : Rows2 w g o l) (hc1 : Cells w g1 o1 r) (hb : w.cell? ⟨b, 0, none⟩ = some (Value.slice (some ⟨g1, o1, none⟩) n1 c1)) :
    Calls Tryz.prog 66 #[(Value.slice (some ⟨g, o, none⟩) n cp), .func (.func 67) #[] #[.pointer (some ⟨b, 0, none⟩)]] w (Reads w (.int .i64 (idxL l r))) := by
  subst hn; subst hn1
  go_enter Tryz.func66, Tryz.ntmps66
  go_wp2
  go_loopw [8] (fun i wr => ∃ k : Nat, k ≤ l.length ∧ i = .int .i64 k ∧ Hid (inTo l r k) ∧ ∃ m, wr = w.drewN m) (fun i _ => l.length - (intOf i).toNat)
  case atStart => exact ⟨0, Nat.zero_le _, rfl, fun j hj => absurd hj (by omega), (by first | exact ⟨_, rfl⟩ | exact ⟨0, rfl⟩ | exact still2 _ _ _ | exact still3 _ _ _ _)⟩
  case round =>
    obtain ⟨k, hk, rfl, hin, m, rfl⟩ := hrel
    by_cases hlt : k < l.length
    · obtain ⟨gj, oj, cj, q1, q2, q3, q4⟩ := hr k hlt
      have hlk := hrl k hlt
      have HY : Hid (l.getD k [] ≠ r → inTo l r (k + 1)) := fun h j hj => by
        by_cases e : j = k
        · subst e; exact h
        · exact hin.out j (by omega)
      have HX : Hid (l.getD k [] = r → (k : Int) = idxL l r) := fun h => (idx_found hlt hin.out h).symm
      generalize l.getD k [] = x at *
      have hcall := impl_IdxClosure_any gj oj x.length cj g1 o1 r.length c1 b x r (w.drewN m) rfl rfl (by omega) hr1 q4 hc1 hb
      by_cases e : x = r
      · have hd := HX.out e
        rw [decide_eq_true e] at hcall
        have Hd := Lib.hid hd; have He := Lib.hid e; have Hcall := Lib.hid hcall
        clear hd hcall e
        go_wp2_with fail
        refine Hcall.out.mono ?_
        rintro e w2 ⟨rfl, m2, rfl⟩
        go_wp2_with fail
        go_ret
        exact ⟨ret_int Hd.out, (by first | exact ⟨_, rfl⟩ | exact ⟨0, rfl⟩ | exact still2 _ _ _ | exact still3 _ _ _ _)⟩
      · have hd := HY.out e
        rw [decide_eq_false e] at hcall
        have Hd := Lib.hid hd; have He := Lib.hid e; have Hcall := Lib.hid hcall
        clear hd hcall e
        go_wp2_with fail
        refine Hcall.out.mono ?_
        rintro e w2 ⟨rfl, m2, rfl⟩
        go_wp2_with fail
        go_roundw
        case rel => exact ⟨k + 1, by omega, by go_num, Hd.out, (by first | exact ⟨_, rfl⟩ | exact ⟨0, rfl⟩ | exact still2 _ _ _ | exact still3 _ _ _ _)⟩
        case measure => simp [intOf]; omega
    · obtain rfl : k = l.length := by omega
      have hf := idx_none hin.out
      have Hf := Lib.hid hf; clear hf
      go_wp2
      go_ret
      exact ⟨ret_int Hf.out.symm, (by first | exact ⟨_, rfl⟩ | exact ⟨0, rfl⟩ | exact still2 _ _ _ | exact still3 _ _ _ _)⟩
set_option maxHeartbeats 1000000 in
theorem impl_IndexOf_any (g o n cp g1 o1 n1 c1 : Nat) (l : List (List Int)) (r : List Int) (w : World) (hn : l.length = n) (hn1 : r.length = n1) (hr1 : r.length ≤ 1048576) (hl : l.length ≤ 1048576) (hrl : ∀ j, j < l.length → (l.getD j []).length ≤ 1048576)
    (hg : g < w.heap.size) (hg1 : g1 < w.heap.size) (hr : Rows2 w g o l) (hc1 : Cells w g1 o1 r) :
    Calls Tryz.prog 55 #[(Value.slice (some ⟨g, o, none⟩) n cp), (Value.slice (some ⟨g1, o1, none⟩) n1 c1)] w (Gives w (.int .i64 (idxL l r))) := by
  obtain ⟨w1, hw1⟩ : ∃ w1, w1 = w.alloc (.cells #[(Value.slice (some ⟨g1, o1, none⟩) n1 c1)] 31) := ⟨_, rfl⟩
  have hb1 : Below w.heap.size w w1 := by rw [hw1]; exact (Below.refl _ _).alloc (Nat.le_refl _) _
  have hcl : w1.cell? ⟨w.heap.size, 0, none⟩ = some (Value.slice (some ⟨g1, o1, none⟩) n1 c1) := by rw [hw1]; exact (box_cell (heap_alloc_new _ _)).1
  have hcall := slices_IndexFunc_any g o n cp g1 o1 n1 c1 w.heap.size l r w1 hn hn1 hr1 hl hrl (hr.below hb1 hg) (hc1.below hb1 hg1) hcl
  rw [hw1] at hcall
  have Hcall := Lib.hid hcall
  have hb2 : Below w.heap.size w (w.alloc (.cells #[(Value.slice (some ⟨g1, o1, none⟩) n1 c1)] 31)) := (Below.refl _ _).alloc (Nat.le_refl _) _
  have Hb2 := Lib.hid hb2
  have hmf := run_makeFunc
  generalize idxL l r = z at *
  clear hcall hb2 hcl hb1 hw1 hr hc1 hrl hn hn1
  go_enter Tryz.func55, Tryz.ntmps55
  go_wp2_with fail
  refine Hcall.out.mono ?_
  rintro e w2 ⟨rfl, hs2⟩
  have hb := below_still Hb2.out hs2
  go_wp2_with fail
  go_ret
  exact ⟨rfl, hb⟩

set_option maxHeartbeats 2000000 in
theorem impl_own_any (gc oc n cc gR cR nR nM cM i : Nat) (aM : Option Addr) (c S : List (List Int)) (w : World) (hn : c.length = n) (hnR : S.length = nR) (hS : SmallOk c S) (hn4 : c.length ≤ 4) (hi : i < c.length) (lR : gR < w.heap.size) (hR : Rows2 w gR 0 S) :
    Calls Tryz.prog 46 #[.agg #[(Value.slice (some ⟨gc, oc, none⟩) n cc), (Value.slice (some ⟨gR, 0, none⟩) nR cR), .slice aM nM cM], .int .i64 i] w (Gives w (.int .i64 (ownI c S i))) := by
  subst hn; subst hnR
  have hlS := hS.len
  have hsl := simpL_length c.length i
  have K1 : ∀ W, Calls Tryz.prog 44 #[.int .i64 c.length, .int .i64 i] W (GotInts W (simpL c.length i)) := fun W => impl_simple_any c.length i W (by omega) hi
  have K2 : ∀ (W : World) (B g1 c1 : Nat), Below w.heap.size w W → Own W B g1 c1 (simpL c.length i) → Calls Tryz.prog 55 #[(Value.slice (some ⟨gR, 0, none⟩) S.length cR), (Value.slice (some ⟨g1, 0, none⟩) c.length c1)] W (Gives W (.int .i64 (ownI c S i))) := fun W B g1 c1 hb ho =>
    impl_IndexOf_any gR 0 S.length cR g1 0 c.length c1 S (simpL c.length i) W rfl hsl (by omega) (by omega) (fun j hj => by rw [hS.lenAt hj]; omega) (Nat.lt_of_lt_of_le lR hb.size) ho.lt (hR.below hb lR) ho.cells
  generalize simpL c.length i = r0 at *
  generalize ownI c S i = z at *
  have k1 := Lib.hid K1; have k2 := Lib.hid K2; have Hsl := Lib.hid hsl
  clear K1 K2 hsl
  go_enter Tryz.func46, Tryz.ntmps46
  go_wp2_with fail
  have hh : Hid ((w.alloc (.cells #[(Value.slice (some ⟨gc, oc, none⟩) c.length cc), (Value.slice (some ⟨gR, 0, none⟩) S.length cR), .slice aM nM cM] 48)).heap[w.heap.size]? = some (.cells #[(Value.slice (some ⟨gc, oc, none⟩) c.length cc), (Value.slice (some ⟨gR, 0, none⟩) S.length cR), .slice aM nM cM] 48 (0, 0))) := heap_alloc_new _ _
  have hb1 : Below w.heap.size w (w.alloc (.cells #[(Value.slice (some ⟨gc, oc, none⟩) c.length cc), (Value.slice (some ⟨gR, 0, none⟩) S.length cR), .slice aM nM cM] 48)) := (Below.refl _ _).alloc (Nat.le_refl _) _
  generalize w.alloc (.cells #[(Value.slice (some ⟨gc, oc, none⟩) c.length cc), (Value.slice (some ⟨gR, 0, none⟩) S.length cR), .slice aM nM cM] 48) = w1 at *
  obtain ⟨z0, z1, -⟩ := cell3 hh.out
  have hX : Below w.heap.size w w1.drew := Below.drew hb1
  have x0 : w1.drew.cell? ⟨w.heap.size, 0, none⟩ = some (Value.slice (some ⟨gc, oc, none⟩) c.length cc) := z0
  have x1 : w1.drew.cell? ⟨w.heap.size, 1, none⟩ = some (Value.slice (some ⟨gR, 0, none⟩) S.length cR) := z1
  have hlt1 : w.heap.size < w1.heap.size := box_lt hh.out
  clear hh z0 z1
  go_region_held3 (fun W => W.cell? ⟨w.heap.size, 0, none⟩ = some (Value.slice (some ⟨gc, oc, none⟩) c.length cc) ∧ W.cell? ⟨w.heap.size, 1, none⟩ = some (Value.slice (some ⟨gR, 0, none⟩) S.length cR))
    (first | with_reducible exact ⟨x0, x1⟩ | with_reducible exact ⟨keepCell hbA x0, keepCell hbA x1⟩ | with_reducible exact ⟨keepCell hbD (keepCell hbA x0), keepCell hbD (keepCell hbA x1)⟩)
    (first
      | (go_at_call 44; (with_reducible refine (k1.out _).mono ?_); rintro e wA ⟨gA, cA, rfl, hoA, hbA⟩; rw [Hsl.out])
      | (go_at_call 55; (with_reducible refine (k2.out _ _ gA cA (hX.trans (hbA.mono hX.size)) hoA).mono ?_); rintro e wD ⟨rfl, hbD⟩))
  have hBA := hX.trans (hbA.mono hX.size)
  have hBD := hBA.trans (hbD.mono hBA.size)
  go_wp2_with fail
  go_ret
  exact ⟨rfl, hBD⟩

end Go.Proofs.YtmplcohpinghbaaGreatDoor
