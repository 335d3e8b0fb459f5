/- A column of a matrix, a simple root as a weight, a multiple of a weight added, the size of a character: contracts. -/
import Derived.Test.YtihfbbpkgmkbcaaG27
import Derived.Test.YtihfbbpkgmkbcaaG22
import Derived.Deep.RegionHeld3
namespace Go.Proofs.Ytihfbbpkgmkbcaa
set_option maxRecDepth 100000
open Go.RowKit Game

def colTo (c : List (List Int)) (i k : Nat) : List Int := (List.range k).map fun k => (c.getD k []).getD i 0
theorem colTo_length (c : List (List Int)) (i k : Nat) : (colTo c i k).length = k := by simp [colTo]
theorem colTo_succ (c : List (List Int)) (i k : Nat) : colTo c i (k + 1) = colTo c i k ++ [(c.getD k []).getD i 0] := by simp [colTo, List.range_succ]
theorem colTo_all (c : List (List Int)) (i : Nat) : colTo c i c.length = colL c i := rfl

set_option maxHeartbeats 1000000 in
theorem impl_column_ok (gc oc n cc iN : Nat) (i : Int) (c : List (List Int)) (w : World) (hi : i = (iN : Int)) (hn : c.length = n) (hC : IsC c) (hlt : iN < n) (hgc : gc < w.heap.size) (hr : Rows2 w gc oc c) :
    Calls Try.prog 36 #[(Value.slice (some ⟨gc, oc, none⟩) n cc), .int .i64 i] w (GotInts w (colL c iN)) := by
  subst hi
  have hn4 := hC.2.1
  have Hr := Lib.hid hr
  have Hcl : Hid (∀ k, k < n → (c.getD k []).length = n) := fun k hk => by rw [hC.2.2.1 k (by omega)]; exact hn
  have Hn := Lib.hid hn
  have hn4' : n ≤ 4 := by omega
  clear hr hC hn hn4
  go_enter Try.func36, Try.ntmps36
  go_wp2_with fail
  go_loopw [5, 6, 10] (fun s _ iv wr => ∃ k g' c' : Nat, k ≤ n ∧ iv = .int .i64 k ∧ s = (Value.slice (some ⟨g', 0, none⟩) k c') ∧ Own wr w.heap.size g' c' (colTo c iN k) ∧ Below w.heap.size w wr) (fun _ _ iv _ => n - (intOf iv).toNat)
  case atStart => exact ⟨0, w.heap.size, 0, Nat.zero_le _, rfl, rfl, Own.empty (w := w) (Nat.le_refl _), (Below.refl _ _).alloc (Nat.le_refl _) _⟩
  case round =>
    obtain ⟨k, g', c', hk, rfl, rfl, ho, hb⟩ := hrel
    by_cases hkt : k < n
    · obtain ⟨ga, oa, ca, q1, q2, q3, q4⟩ := Hr.out.below hb hgc k (by rw [Hn.out]; exact hkt)
      have hl := Hcl.out k hkt
      rw [hl] at q1 q2
      have p1 := q4 iN (by rw [hl]; exact hlt)
      have hs := Lib.hid (colTo_succ c iN k)
      generalize (c.getD k []).getD iN 0 = y at *
      clear q4 hl
      go_wp2_with (at_builtin; refine wpList_append_int_n (w := wr) rfl _ _ rfl w.heap.size g' c' k (colTo c iN k) y (colTo_length _ _ _) ho rfl rfl (by omega) ?_)
      intro g3 c3 w3 ho3 hg3 _
      rw [← hs.out] at ho3
      go_wp2
      go_roundw
      case rel => exact ⟨k + 1, g3, c3, by omega, by go_num, rfl, ho3, hb.grown hg3 hb.size (by intro j hj; cases hj; exact ho.base)⟩
      case measure => simp [intOf]; omega
    · obtain rfl : k = n := by omega
      go_wp2_with fail
      go_ret
      rw [← Hn.out, colTo_all] at ho
      exact GotInts.mk' g' c' (by rw [colL_length]; exact Hn.out) ho hb

set_option maxHeartbeats 1000000 in
theorem spec_SimpleRootWeight_ok (gc oc n cc iN : Nat) (i : Int) (c : List (List Int)) (w : World) (hi : i = (iN : Int)) (hn : c.length = n) (hC : IsC c) (hlt : iN < n) (hgc : gc < w.heap.size) (hr : Rows2 w gc oc c) :
    Calls Try.prog 29 #[(Value.slice (some ⟨gc, oc, none⟩) n cc), .int .i64 i] w (GotInts w (colL c iN)) := by
  subst hi
  have hn4 := hC.2.1
  have Hr := Lib.hid hr
  have Hcl : Hid (∀ k, k < n → (c.getD k []).length = n) := fun k hk => by rw [hC.2.2.1 k (by omega)]; exact hn
  have hcart : Hid (∀ W, Below w.heap.size w W → Calls Try.prog 47 #[(Value.slice (some ⟨gc, oc, none⟩) n cc)] W (Reads W (.bool true))) := fun W hW => by
    have := spec_IsCartan gc oc n cc c W hn (by omega) (fun j hj => by have := hC.2.2.1 j hj; omega) (hr.below hW hgc)
    rwa [decide_eq_true hC] at this
  have hone : Hid (∀ W, Calls Try.prog 28 #[.int .i64 (iN : Int), .int .i64 0, .int .i64 ((n : Int) - 1)] W (Reads W (.bool true))) := fun W => by
    have := spec_l1In (iN : Int) 0 ((n : Int) - 1) W
    rwa [decide_eq_true (show (0 : Int) ≤ (iN : Int) by omega), decide_eq_true (show (iN : Int) ≤ (n : Int) - 1 by omega)] at this
  have Hn := Lib.hid hn
  have hn4' : n ≤ 4 := by omega
  clear hr hC hn hn4
  go_enter Try.func29, Try.ntmps29
  go_wp2_with fail
  go_loopw [5, 6] (fun s iv wr => ∃ k g' c' : Nat, k ≤ n ∧ iv = .int .i64 k ∧ s = (Value.slice (some ⟨g', 0, none⟩) k c') ∧ Own wr w.heap.size g' c' (colTo c iN k) ∧ Below w.heap.size w wr) (fun _ iv _ => n - (intOf iv).toNat)
  case atStart => exact ⟨0, w.heap.size, 0, Nat.zero_le _, rfl, rfl, Own.empty (w := w) (Nat.le_refl _), (Below.refl _ _).alloc (Nat.le_refl _) _⟩
  case round =>
    obtain ⟨k, g', c', hk, rfl, rfl, ho, hb⟩ := hrel
    by_cases hkt : k < n
    · obtain ⟨ga, oa, ca, q1, q2, q3, q4⟩ := Hr.out.below hb hgc k (by rw [Hn.out]; exact hkt)
      have hl := Hcl.out k hkt
      rw [hl] at q1 q2
      have p1 := q4 iN (by rw [hl]; exact hlt)
      have hs := Lib.hid (colTo_succ c iN k)
      generalize (c.getD k []).getD iN 0 = y at *
      clear q4 hl
      go_wp2_with fail
      refine (hcart.out _ hb).mono ?_
      rintro e w2 ⟨rfl, m2, rfl⟩
      go_wp2_with fail
      refine (hone.out _).mono ?_
      rintro e w2 ⟨rfl, m3, rfl⟩
      rw [World.drewN_drewN]
      generalize m2 + m3 = m
      go_wp2_with (at_builtin; refine wpList_append_int_n (w := wr.drewN m) rfl _ _ rfl w.heap.size g' c' k (colTo c iN k) y (colTo_length _ _ _) (ho.drewN m) rfl rfl (by omega) ?_)
      intro g3 c3 w3 ho3 hg3 _
      rw [← hs.out] at ho3
      go_wp2
      go_roundw
      case rel => exact ⟨k + 1, g3, c3, by omega, by go_num, rfl, ho3, (below_drewN hb m).grown hg3 hb.size (by intro j hj; cases hj; exact ho.base)⟩
      case measure => simp [intOf]; omega
    · obtain rfl : k = n := by omega
      go_wp2_with fail
      go_ret
      rw [← Hn.out, colTo_all] at ho
      exact GotInts.mk' g' c' (by rw [colL_length]; exact Hn.out) ho hb

def shiftTo (v r : List Int) (k : Int) (t : Nat) : List Int := (List.range t).map fun j => v.getD j 0 + k * r.getD j 0
theorem shiftTo_length (v r : List Int) (k : Int) (t : Nat) : (shiftTo v r k t).length = t := by simp [shiftTo]
theorem shiftTo_succ (v r : List Int) (k : Int) (t : Nat) : shiftTo v r k (t + 1) = shiftTo v r k t ++ [v.getD t 0 + k * r.getD t 0] := by simp [shiftTo, List.range_succ]
theorem shiftTo_all (v r : List Int) (k : Int) : shiftTo v r k v.length = shiftL v r k := rfl
theorem mul_bound {x y : Int} (hx : -1000 ≤ x ∧ x ≤ 1000) (hy : -1000 ≤ y ∧ y ≤ 1000) : -1000000 ≤ x * y ∧ x * y ≤ 1000000 := by
  have h : (x * y).natAbs ≤ 1000 * 1000 := by
    rw [Int.natAbs_mul]
    exact Nat.mul_le_mul (by omega) (by omega)
  omega

set_option maxHeartbeats 1000000 in
theorem spec_l27Add_shift (g1 o1 n c1 g2 o2 c2 : Nat) (v r : List Int) (k : Int) (w : World) (hn1 : v.length = n) (hn2 : r.length = n) (hx : n ≤ 1048576) (hbx : ∀ j, j < n → -1000000000 ≤ v.getD j 0 ∧ v.getD j 0 ≤ 1000000000) (hbr : ∀ j, j < n → -1000 ≤ r.getD j 0 ∧ r.getD j 0 ≤ 1000) (hk : -1000 ≤ k ∧ k ≤ 1000)
    (hg1 : g1 < w.heap.size) (hg2 : g2 < w.heap.size) (ha : Cells w g1 o1 v) (hr : Cells w g2 o2 r) :
    Calls Try.prog 31 #[(Value.slice (some ⟨g1, o1, none⟩) n c1), (Value.slice (some ⟨g2, o2, none⟩) n c2), .int .i64 k] w (GotInts w (shiftL v r k)) := by
  have Hn1 := Lib.hid hn1
  have H1 : Hid (∀ t, t < n → ∀ W, Below w.heap.size w W → W.cell? ⟨g1, o1 + t, none⟩ = some (.int .i64 (v.getD t 0)) ∧ W.cell? ⟨g2, o2 + t, none⟩ = some (.int .i64 (r.getD t 0))) := Lib.hid (fun t ht W hW => ⟨(hW.cell (p := ⟨g1, o1 + t, none⟩) hg1).trans (ha t (by omega)), (hW.cell (p := ⟨g2, o2 + t, none⟩) hg2).trans (hr t (by omega))⟩)
  have Hstep := Lib.hid (shiftTo_succ v r k); have Hlen := Lib.hid (shiftTo_length v r k)
  have Hb := Lib.hid (fun t ht => mul_bound hk (hbr t ht))
  have Hbx := Lib.hid hbx
  have HE := Lib.hid (shiftTo_all v r k)
  have HF0 : Hid (shiftTo v r k 0 = []) := rfl
  rw [← HE.out, hn1]
  clear ha hr hn1 hn2 hbr hbx hk HE
  generalize shiftTo v r k = F at *
  go_enter Try.func31, Try.ntmps31
  go_wp2
  go_loopw [7, 8] (fun s kv wr => ∃ t g' c' : Nat, t ≤ n ∧ kv = .int .i64 t ∧ s = (Value.slice (some ⟨g', 0, none⟩) t c') ∧ Own wr w.heap.size g' c' (F t) ∧ Below w.heap.size w wr) (fun _ kv _ => n - (intOf kv).toNat)
  case atStart => exact ⟨0, w.heap.size, 0, Nat.zero_le _, rfl, rfl, by rw [HF0.out]; exact Own.empty (Nat.le_refl _), (Below.refl _ _).alloc (Nat.le_refl _) _⟩
  case round =>
    obtain ⟨t, g', c', ht, rfl, rfl, ho, hb⟩ := hrel
    by_cases hlt : t < n
    · obtain ⟨k1, k2⟩ := H1.out t hlt wr hb
      have hsucc := Hstep.out t
      have hl := Hlen.out t
      have hBg := ho.base
      have ne1 : some g1 ≠ some g' := by intro e; cases e; omega
      have ne2 : some g2 ≠ some g' := by intro e; cases e; omega
      have b1 := Hbx.out t hlt
      have b2 := Hb.out t hlt
      generalize v.getD t 0 = xx at *
      generalize r.getD t 0 = y at *
      have hw1 : IntKind.i64.wrap (k * y) = k * y := IntWalk.i64_in _ ⟨by omega, by omega⟩
      have hw2 : IntKind.i64.wrap (xx + k * y) = xx + k * y := IntWalk.i64_in _ ⟨by omega, by omega⟩
      generalize F t = ys at *
      have Hs := Lib.hid hsucc; clear hsucc
      go_wp2_with fail
      go_region_held3 (fun W => W.cell? ⟨g1, o1 + t, none⟩ = some (.int .i64 xx) ∧ W.cell? ⟨g2, o2 + t, none⟩ = some (.int .i64 y))
        (first | go_keep | exact ⟨hg3.cell (a := ⟨g1, o1 + t, none⟩) k1 ne1, hg3.cell (a := ⟨g2, o2 + t, none⟩) k2 ne2⟩)
        ((refine step_append_int (w := wr.drew) (by rfl) _ _ (by rfl) w.heap.size g' c' t wr.heap.size ys _ _ hl (by rfl) (by rfl) ho.drew (by rfl) (by rfl) (by omega) ?_; intro g3 c3 w3 ho3 hg3 hor))
      go_wp2_with fail
      go_roundw
      case rel =>
        rw [← Hs.out] at ho3
        exact ⟨t + 1, g3, c3, by omega, by go_num, rfl, ho3, (Below.drew hb).grown hg3 hb.size (by intro j hj; cases hj; exact ho.base)⟩
      case measure => simp [intOf]; omega
    · obtain rfl : t = n := by omega
      go_wp2_with fail
      go_ret
      exact GotInts.mk' g' c' (Hlen.out _) ho hb

/-! ### sizes -/
def sumW (l : List Wt) : Int := (l.map (·.2)).sum
theorem sumW_take_succ {l : List Wt} {k : Nat} (hk : k < l.length) : sumW (l.take (k + 1)) = sumW (l.take k) + (l.getD k ([], 0)).2 := by
  have e : l.take (k + 1) = l.take k ++ [l[k]] := List.take_succ_eq_append_getElem hk
  have e2 : l.getD k ([], 0) = l[k] := by simp [List.getD, hk]
  rw [e, e2]
  unfold sumW
  rw [List.map_append, List.sum_append]
  simp only [List.map_cons, List.map_nil, List.sum_cons, List.sum_nil]
  omega
theorem sumW_bound {M : Int} : ∀ {l : List Wt}, CtW M l → -(l.length * M) ≤ sumW l ∧ sumW l ≤ l.length * M
  | [], _ => by simp [sumW]
  | x :: l, h => by
    have ih := sumW_bound (M := M) (l := l) fun y hy => h y (by simp [hy])
    have hx := h x (by simp)
    have e : sumW (x :: l) = x.2 + sumW l := by simp [sumW]
    have e2 : ((x :: l).length : Int) * M = (l.length : Int) * M + M := by
      rw [List.length_cons, Int.natCast_add, Int.add_mul]; simp
    rw [e, e2]
    omega
theorem CtW.take {M : Int} {l : List Wt} (h : CtW M l) (k : Nat) : CtW M (l.take k) := fun x hx => h x (List.mem_of_mem_take hx)
theorem sumW_small {l : List Wt} (h : CtW 1000000000 l) (hl : l.length ≤ 1048576) (k : Nat) : -9000000000000000 ≤ sumW (l.take k) ∧ sumW (l.take k) ≤ 9000000000000000 := by
  have h1 := sumW_bound (h.take k)
  have h2 : (l.take k).length ≤ 1048576 := by rw [List.length_take]; omega
  omega

set_option maxHeartbeats 1000000 in
theorem impl_SizeOfCharacter_ok (g o m cp : Nat) (l : List Wt) (w : World) (hm : l.length = m) (hf : wFew l) (hct : CtW 1000000000 l) (hg : g < w.heap.size) (hl : WRows w g o l) :
    Calls Try.prog 46 #[(Value.slice (some ⟨g, o, none⟩) m cp)] w (Gives w (.int .i64 (sumW l))) := by
  subst hm
  have hf1 := hf.1
  have Hl := Lib.hid hl
  have Hs := Lib.hid (fun k => sumW_small hct hf1 k)
  have Ha : Hid (sumW (l.take l.length) = sumW l) := by rw [List.take_length]; exact rfl
  clear hl hct
  generalize sumW l = R at *
  go_enter Try.func46, Try.ntmps46
  go_wp2
  go_loopw [3, 5, 8] (fun sv _ iv wr => ∃ k : Nat, k ≤ l.length ∧ iv = .int .i64 k ∧ sv = .int .i64 (sumW (l.take k)) ∧ Below w.heap.size w wr) (fun _ _ iv _ => l.length - (intOf iv).toNat)
  case atStart => exact ⟨0, Nat.zero_le _, rfl, rfl, Below.refl _ _⟩
  case round =>
    obtain ⟨k, hk, rfl, rfl, hb⟩ := hrel
    by_cases hlt : k < l.length
    · obtain ⟨gj, oj, cj, q1, q2, q3, q4, q5⟩ := Hl.out.below hb hg k hlt
      have hs := Lib.hid (sumW_take_succ hlt)
      have e2 : ctOf l k = (l.getD k ([], 0)).2 := rfl
      rw [e2] at q2
      have h1 := Hs.out (k + 1)
      rw [hs.out] at h1
      generalize wOf l k = V at *
      generalize (l.getD k ([], 0)).2 = C at *
      generalize sumW (l.take k) = S at *
      clear e2 q3 q5 q4
      have ew : IntKind.i64.wrap (S + C) = S + C := IntWalk.i64_in _ ⟨by omega, by omega⟩
      go_wp2_with fail
      go_roundw
      case rel => exact ⟨k + 1, by omega, by go_num, by rw [hs.out], hb.trans ((Below.refl _ _).alloc hb.size _)⟩
      case measure => simp [intOf]; omega
    · obtain rfl : k = l.length := by omega
      rw [Ha.out]
      go_wp2_with fail
      go_ret
      exact ⟨rfl, hb⟩
set_option maxHeartbeats 1000000 in
theorem spec_SizeOfCharacter_ok (g o m cp : Nat) (l : List Wt) (w : World) (hm : l.length = m) (hf : wFew l) (hct : CtW 1000000000 l) (hl : WRows w g o l) :
    Calls Try.prog 45 #[(Value.slice (some ⟨g, o, none⟩) m cp)] w (Reads w (.int .i64 (sumW l))) := by
  subst hm
  have hf1 := hf.1
  have Hl := Lib.hid hl
  have Hs := Lib.hid (fun k => sumW_small hct hf1 k)
  have Ha : Hid (sumW (l.take l.length) = sumW l) := by rw [List.take_length]; exact rfl
  clear hl hct
  generalize sumW l = R at *
  go_enter Try.func45, Try.ntmps45
  go_wp2
  go_loopw [3, 4] (fun sv iv wr => ∃ k q : Nat, k ≤ l.length ∧ iv = .int .i64 k ∧ sv = .int .i64 (sumW (l.take k)) ∧ wr = w.drewN q) (fun _ iv _ => l.length - (intOf iv).toNat)
  case atStart => exact ⟨0, 0, Nat.zero_le _, rfl, rfl, rfl⟩
  case round =>
    obtain ⟨k, q, hk, rfl, rfl, rfl⟩ := hrel
    by_cases hlt : k < l.length
    · obtain ⟨gj, oj, cj, q1, q2, q3, q4, q5⟩ := Hl.out k hlt
      have hs := Lib.hid (sumW_take_succ hlt)
      have e2 : ctOf l k = (l.getD k ([], 0)).2 := rfl
      rw [e2] at q2
      have h1 := Hs.out (k + 1)
      rw [hs.out] at h1
      generalize wOf l k = V at *
      generalize (l.getD k ([], 0)).2 = C at *
      generalize sumW (l.take k) = S at *
      clear e2 q3 q5 q4
      have ew : IntKind.i64.wrap (S + C) = S + C := IntWalk.i64_in _ ⟨by omega, by omega⟩
      go_wp2_with fail
      go_roundw
      case rel => exact ⟨k + 1, q, by omega, by go_num, by rw [hs.out], by first | rfl | trivial⟩
      case measure => simp [intOf]; omega
    · obtain rfl : k = l.length := by omega
      rw [Ha.out]
      go_wp2_with fail
      go_ret
      exact ⟨rfl, q, rfl⟩
end Go.Proofs.Ytihfbbpkgmkbcaa
