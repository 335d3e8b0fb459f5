/- The automaton by the program: places, own roots, is a list a state? contracts. -/
import Derived.Test.YtmplcohpinghbaaSmL
import Derived.Test.YtmplcohpinghbaaSrt2
import Derived.Test.YtmplcohpinghbaaRefl
import Derived.BigQuiet
import Derived.Deep.RegionHeld3
namespace Go.Proofs.Ytmplcohpinghbaa
open Go.RowKit Game

theorem cell3 {w : World} {B : Nat} {a b d : Value} {t : TypeId} (h : w.heap[B]? = some (.cells #[a, b, d] t (0, 0))) : w.cell? ⟨B, 0, none⟩ = some a ∧ w.cell? ⟨B, 1, none⟩ = some b ∧ w.cell? ⟨B, 2, none⟩ = some d := by
  refine ⟨?_, ?_, ?_⟩ <;> simp [World.cell?, h]
set_option maxHeartbeats 1000000 in
theorem impl_IdxClosure_any (g1 o1 n1 c1 g2 o2 n2 c2 b : Nat) (xs ys : List Int) (w : World) (hn1 : xs.length = n1) (hn2 : ys.length = n2) (hx : xs.length ≤ 1048576) (hy : ys.length ≤ 1048576)
    (hcx : Cells w g1 o1 xs) (hcy : Cells w g2 o2 ys) (hb : w.cell? ⟨b, 0, none⟩ = some (Value.slice (some ⟨g2, o2, none⟩) n2 c2)) :
    Calls Try.prog 85 #[(Value.slice (some ⟨g1, o1, none⟩) n1 c1), .pointer (some ⟨b, 0, none⟩)] w (Reads w (.bool (decide (xs = ys)))) := by
  have hcall := slices_Equal_any g1 o1 n1 c1 g2 o2 n2 c2 xs ys w hn1 hn2 (by omega) (by omega) hcx hcy
  have Hcall := Lib.hid hcall
  generalize decide (xs = ys) = r at *
  clear hcall
  go_enter Try.func85, Try.ntmps85
  go_wp2_with fail
  refine Hcall.out.mono ?_
  rintro e w1 ⟨rfl, hs1⟩
  go_wp2_with fail
  go_ret
  exact ⟨rfl, hs1⟩
set_option maxHeartbeats 2000000 in
theorem slices_IndexFunc_any (g o n cp g1 o1 n1 c1 b : Nat) (l : List (List Int)) (r : List Int) (w : World) (hn : l.length = n) (hn1 : r.length = n1) (hr1 : r.length ≤ 1048576) (hl : l.length ≤ 1048576) (hrl : ∀ j, j < l.length → (l.getD j []).length ≤ 1048576)
    (hr : Rows2 w g o l) (hc1 : Cells w g1 o1 r) (hb : w.cell? ⟨b, 0, none⟩ = some (Value.slice (some ⟨g1, o1, none⟩) n1 c1)) :
    Calls Try.prog 84 #[(Value.slice (some ⟨g, o, none⟩) n cp), .func (.func 85) #[] #[.pointer (some ⟨b, 0, none⟩)]] w (Reads w (.int .i64 (idxL l r))) := by
  subst hn; subst hn1
  go_enter Try.func84, Try.ntmps84
  go_wp2
  go_loopw [8] (fun i wr => ∃ k : Nat, k ≤ l.length ∧ i = .int .i64 k ∧ Hid (inTo l r k) ∧ ∃ m, wr = w.drewN m) (fun i _ => l.length - (intOf i).toNat)
  case atStart => exact ⟨0, Nat.zero_le _, rfl, fun j hj => absurd hj (by omega), (by first | exact ⟨_, rfl⟩ | exact ⟨0, rfl⟩ | exact still2 _ _ _ | exact still3 _ _ _ _)⟩
  case round =>
    obtain ⟨k, hk, rfl, hin, m, rfl⟩ := hrel
    by_cases hlt : k < l.length
    · obtain ⟨gj, oj, cj, q1, q2, q3, q4⟩ := hr k hlt
      have hlk := hrl k hlt
      have HY : Hid (l.getD k [] ≠ r → inTo l r (k + 1)) := fun h j hj => by
        by_cases e : j = k
        · subst e; exact h
        · exact hin.out j (by omega)
      have HX : Hid (l.getD k [] = r → (k : Int) = idxL l r) := fun h => (idx_found hlt hin.out h).symm
      generalize l.getD k [] = x at *
      have hcall := impl_IdxClosure_any gj oj x.length cj g1 o1 r.length c1 b x r (w.drewN m) rfl rfl (by omega) hr1 q4 hc1 hb
      by_cases e : x = r
      · have hd := HX.out e
        rw [decide_eq_true e] at hcall
        have Hd := Lib.hid hd; have He := Lib.hid e; have Hcall := Lib.hid hcall
        clear hd hcall e
        go_wp2_with fail
        refine Hcall.out.mono ?_
        rintro e w2 ⟨rfl, m2, rfl⟩
        go_wp2_with fail
        go_ret
        exact ⟨ret_int Hd.out, (by first | exact ⟨_, rfl⟩ | exact ⟨0, rfl⟩ | exact still2 _ _ _ | exact still3 _ _ _ _)⟩
      · have hd := HY.out e
        rw [decide_eq_false e] at hcall
        have Hd := Lib.hid hd; have He := Lib.hid e; have Hcall := Lib.hid hcall
        clear hd hcall e
        go_wp2_with fail
        refine Hcall.out.mono ?_
        rintro e w2 ⟨rfl, m2, rfl⟩
        go_wp2_with fail
        go_roundw
        case rel => exact ⟨k + 1, by omega, by go_num, Hd.out, (by first | exact ⟨_, rfl⟩ | exact ⟨0, rfl⟩ | exact still2 _ _ _ | exact still3 _ _ _ _)⟩
        case measure => simp [intOf]; omega
    · obtain rfl : k = l.length := by omega
      have hf := idx_none hin.out
      have Hf := Lib.hid hf; clear hf
      go_wp2
      go_ret
      exact ⟨ret_int Hf.out.symm, (by first | exact ⟨_, rfl⟩ | exact ⟨0, rfl⟩ | exact still2 _ _ _ | exact still3 _ _ _ _)⟩
set_option maxHeartbeats 1000000 in
theorem impl_IndexOf_any (g o n cp g1 o1 n1 c1 : Nat) (l : List (List Int)) (r : List Int) (w : World) (hn : l.length = n) (hn1 : r.length = n1) (hr1 : r.length ≤ 1048576) (hl : l.length ≤ 1048576) (hrl : ∀ j, j < l.length → (l.getD j []).length ≤ 1048576)
    (hg : g < w.heap.size) (hg1 : g1 < w.heap.size) (hr : Rows2 w g o l) (hc1 : Cells w g1 o1 r) :
    Calls Try.prog 71 #[(Value.slice (some ⟨g, o, none⟩) n cp), (Value.slice (some ⟨g1, o1, none⟩) n1 c1)] w (Gives w (.int .i64 (idxL l r))) := by
  obtain ⟨w1, hw1⟩ : ∃ w1, w1 = w.alloc (.cells #[(Value.slice (some ⟨g1, o1, none⟩) n1 c1)] 29) := ⟨_, rfl⟩
  have hb1 : Below w.heap.size w w1 := by rw [hw1]; exact (Below.refl _ _).alloc (Nat.le_refl _) _
  have hcl : w1.cell? ⟨w.heap.size, 0, none⟩ = some (Value.slice (some ⟨g1, o1, none⟩) n1 c1) := by rw [hw1]; exact (box_cell (heap_alloc_new _ _)).1
  have hcall := slices_IndexFunc_any g o n cp g1 o1 n1 c1 w.heap.size l r w1 hn hn1 hr1 hl hrl (hr.below hb1 hg) (hc1.below hb1 hg1) hcl
  rw [hw1] at hcall
  have Hcall := Lib.hid hcall
  have hb2 : Below w.heap.size w (w.alloc (.cells #[(Value.slice (some ⟨g1, o1, none⟩) n1 c1)] 29)) := (Below.refl _ _).alloc (Nat.le_refl _) _
  have Hb2 := Lib.hid hb2
  have hmf := run_makeFunc
  generalize idxL l r = z at *
  clear hcall hb2 hcl hb1 hw1 hr hc1 hrl hn hn1
  go_enter Try.func71, Try.ntmps71
  go_wp2_with fail
  refine Hcall.out.mono ?_
  rintro e w2 ⟨rfl, hs2⟩
  have hb := below_still Hb2.out hs2
  go_wp2_with fail
  go_ret
  exact ⟨rfl, hb⟩

set_option maxHeartbeats 2000000 in
theorem impl_own_any (gc oc n cc gR cR nR nM cM i : Nat) (aM : Option Addr) (c S : List (List Int)) (w : World) (hn : c.length = n) (hnR : S.length = nR) (hS : SmallOk c S) (hn4 : c.length ≤ 4) (hi : i < c.length) (lR : gR < w.heap.size) (hR : Rows2 w gR 0 S) :
    Calls Try.prog 59 #[.agg #[(Value.slice (some ⟨gc, oc, none⟩) n cc), (Value.slice (some ⟨gR, 0, none⟩) nR cR), .slice aM nM cM], .int .i64 i] w (Gives w (.int .i64 (ownI c S i))) := by
  subst hn; subst hnR
  have hlS := hS.len
  have hsl := simpL_length c.length i
  have K1 : ∀ W, Calls Try.prog 51 #[.int .i64 c.length, .int .i64 i] W (GotInts W (simpL c.length i)) := fun W => impl_simple_any c.length i W (by omega) hi
  have K2 : ∀ (W : World) (B g1 c1 : Nat), Below w.heap.size w W → Own W B g1 c1 (simpL c.length i) → Calls Try.prog 71 #[(Value.slice (some ⟨gR, 0, none⟩) S.length cR), (Value.slice (some ⟨g1, 0, none⟩) c.length c1)] W (Gives W (.int .i64 (ownI c S i))) := fun W B g1 c1 hb ho =>
    impl_IndexOf_any gR 0 S.length cR g1 0 c.length c1 S (simpL c.length i) W rfl hsl (by omega) (by omega) (fun j hj => by rw [hS.lenAt hj]; omega) (Nat.lt_of_lt_of_le lR hb.size) ho.lt (hR.below hb lR) ho.cells
  generalize simpL c.length i = r0 at *
  generalize ownI c S i = z at *
  have k1 := Lib.hid K1; have k2 := Lib.hid K2; have Hsl := Lib.hid hsl
  clear K1 K2 hsl
  go_enter Try.func59, Try.ntmps59
  go_wp2_with fail
  have hh : Hid ((w.alloc (.cells #[(Value.slice (some ⟨gc, oc, none⟩) c.length cc), (Value.slice (some ⟨gR, 0, none⟩) S.length cR), .slice aM nM cM] 50)).heap[w.heap.size]? = some (.cells #[(Value.slice (some ⟨gc, oc, none⟩) c.length cc), (Value.slice (some ⟨gR, 0, none⟩) S.length cR), .slice aM nM cM] 50 (0, 0))) := heap_alloc_new _ _
  have hb1 : Below w.heap.size w (w.alloc (.cells #[(Value.slice (some ⟨gc, oc, none⟩) c.length cc), (Value.slice (some ⟨gR, 0, none⟩) S.length cR), .slice aM nM cM] 50)) := (Below.refl _ _).alloc (Nat.le_refl _) _
  generalize w.alloc (.cells #[(Value.slice (some ⟨gc, oc, none⟩) c.length cc), (Value.slice (some ⟨gR, 0, none⟩) S.length cR), .slice aM nM cM] 50) = w1 at *
  obtain ⟨z0, z1, -⟩ := cell3 hh.out
  have hX : Below w.heap.size w w1.drew := Below.drew hb1
  have x0 : w1.drew.cell? ⟨w.heap.size, 0, none⟩ = some (Value.slice (some ⟨gc, oc, none⟩) c.length cc) := z0
  have x1 : w1.drew.cell? ⟨w.heap.size, 1, none⟩ = some (Value.slice (some ⟨gR, 0, none⟩) S.length cR) := z1
  have hlt1 : w.heap.size < w1.heap.size := box_lt hh.out
  clear hh z0 z1
  go_region_held3 (fun W => W.cell? ⟨w.heap.size, 0, none⟩ = some (Value.slice (some ⟨gc, oc, none⟩) c.length cc) ∧ W.cell? ⟨w.heap.size, 1, none⟩ = some (Value.slice (some ⟨gR, 0, none⟩) S.length cR))
    (first | with_reducible exact ⟨x0, x1⟩ | with_reducible exact ⟨keepCell hbA x0, keepCell hbA x1⟩ | with_reducible exact ⟨keepCell hbD (keepCell hbA x0), keepCell hbD (keepCell hbA x1)⟩)
    (first
      | (go_at_call 51; (with_reducible refine (k1.out _).mono ?_); rintro e wA ⟨gA, cA, rfl, hoA, hbA⟩; rw [Hsl.out])
      | (go_at_call 71; (with_reducible refine (k2.out _ _ gA cA (hX.trans (hbA.mono hX.size)) hoA).mono ?_); rintro e wD ⟨rfl, hbD⟩))
  have hBA := hX.trans (hbA.mono hX.size)
  have hBD := hBA.trans (hbD.mono hBA.size)
  go_wp2_with fail
  go_ret
  exact ⟨rfl, hBD⟩

set_option maxHeartbeats 2000000 in
theorem impl_isState_any (gR oR nR cR g o n cp nM cM : Nat) (v0 : Value) (a0 aM : Option Addr) (n0 c0 : Nat) (hv0 : v0 = .slice a0 n0 c0) (st : List Int) (w : World) (hn : st.length = n) (hl : st.length ≤ 1048576) (hg : g < w.heap.size) (hc : Cells w g o st) :
    Calls Try.prog 44 #[.agg #[v0, (Value.slice (some ⟨gR, oR, none⟩) nR cR), .slice aM nM cM], (Value.slice (some ⟨g, o, none⟩) n cp)] w (Gives w (.bool (fineB nR (-1) st))) := by
  subst hn; subst hv0
  go_enter Try.func44, Try.ntmps44
  go_wp2_with fail
  have hh : Hid ((w.alloc (.cells #[.slice a0 n0 c0, (Value.slice (some ⟨gR, oR, none⟩) nR cR), .slice aM nM cM] 50)).heap[w.heap.size]? = some (.cells #[.slice a0 n0 c0, (Value.slice (some ⟨gR, oR, none⟩) nR cR), .slice aM nM cM] 50 (0, 0))) := heap_alloc_new _ _
  have hb1 : Below w.heap.size w (w.alloc (.cells #[.slice a0 n0 c0, (Value.slice (some ⟨gR, oR, none⟩) nR cR), .slice aM nM cM] 50)) := (Below.refl _ _).alloc (Nat.le_refl _) _
  generalize w.alloc (.cells #[.slice a0 n0 c0, (Value.slice (some ⟨gR, oR, none⟩) nR cR), .slice aM nM cM] 50) = w1 at *
  obtain ⟨-, z1, -⟩ := cell3 hh.out
  have hc1 := hc.below hb1 hg
  clear hh hc
  go_loopw [5, 10] (fun lv i wr => ∃ k : Nat, k ≤ st.length ∧ i = .int .i64 k ∧ lv = .int .i64 (lastAt st k) ∧ Hid (fineB nR (-1) st = fineB nR (lastAt st k) (st.drop k)) ∧ ∃ q, wr = w1.drewN q) (fun _ i _ => st.length - (intOf i).toNat)
  case atStart => exact ⟨0, Nat.zero_le _, rfl, rfl, rfl, (by first | exact ⟨_, rfl⟩ | exact ⟨0, rfl⟩ | exact still2 _ _ _ | exact still3 _ _ _ _)⟩
  case round =>
    obtain ⟨k, hk, rfl, rfl, hf, q, rfl⟩ := hrel
    by_cases hlt : k < st.length
    · have q1 := hc1 k hlt
      have hst := fineB_step (m := nR) hlt
      have hl1 : Hid (lastAt st (k + 1) = st.getD k 0) := rfl
      have HC : Hid (¬ lastAt st k < st.getD k 0 → fineB nR (-1) st = false) := fun h => by rw [hf.out, hst, decide_eq_false h]; simp
      have HA : Hid (¬ st.getD k 0 < (nR : Int) → fineB nR (-1) st = false) := fun h => by rw [hf.out, hst, decide_eq_false h]; simp
      have HD : Hid (lastAt st k < st.getD k 0 → st.getD k 0 < (nR : Int) → fineB nR (-1) st = fineB nR (lastAt st (k + 1)) (st.drop (k + 1))) := fun h h2 => by rw [hf.out, hst, decide_eq_true h, decide_eq_true h2]; simp
      clear hst hf
      generalize st.getD k 0 = y at *
      generalize lastAt st k = x at *
      by_cases h1 : x < y
      · by_cases h2 : y < (nR : Int)
        · have hnx := HD.out h1 h2
          have Hnx := Lib.hid hnx
          clear hnx HA HC HD
          go_wp2
          go_roundw
          case rel => exact ⟨k + 1, by omega, by go_num, by rw [hl1.out], Hnx.out, (by first | exact ⟨_, rfl⟩ | exact ⟨0, rfl⟩ | exact still2 _ _ _ | exact still3 _ _ _ _)⟩
          case measure => simp [intOf]; omega
        · have hnx := HA.out h2
          have Hnx := Lib.hid hnx
          have h2' : (nR : Int) ≤ y := by omega
          clear hnx HA HC HD h2
          go_wp2
          go_ret
          exact ⟨ret_bool Hnx.out.symm, below_still hb1 (by first | exact ⟨_, rfl⟩ | exact ⟨0, rfl⟩ | exact still2 _ _ _ | exact still3 _ _ _ _)⟩
      · have hnx := HC.out h1
        have Hnx := Lib.hid hnx
        have h1' : y ≤ x := by omega
        clear hnx HA HC HD h1
        go_wp2
        go_ret
        exact ⟨ret_bool Hnx.out.symm, below_still hb1 (by first | exact ⟨_, rfl⟩ | exact ⟨0, rfl⟩ | exact still2 _ _ _ | exact still3 _ _ _ _)⟩
    · obtain rfl : k = st.length := by omega
      have he := hf.out
      rw [List.drop_length] at he
      have He := Lib.hid he
      clear he hf
      go_wp2
      go_ret
      exact ⟨ret_bool (by rw [He.out]; rfl), below_still hb1 (by first | exact ⟨_, rfl⟩ | exact ⟨0, rfl⟩ | exact still2 _ _ _ | exact still3 _ _ _ _)⟩
end Go.Proofs.Ytmplcohpinghbaa
