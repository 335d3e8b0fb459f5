/- Lengths of polynomials of Kazhdan and Lusztig on the way; what the kernel has found. Plain law. Sums, differences and shifts of polynomials by the reference: contracts. Slices of one-cell elements of the call's own that grow by one; tables of rows; rows of bools; arrows. -/
import Derived.Test.YtdedkfbiookofaaGreatDoorK21
import Derived.Test.YtdedkfbiookofaaGreatDoorK20
import Derived.Test.YtdedkfbiookofaaGreatDoorK04
import Derived.Test.YtdedkfbiookofaaGreatDoorK01
import Derived.Test.YtdedkfbiookofaaGreatDoorK16
namespace Go.Proofs.YtdedkfbiookofaaGreatDoor
set_option maxRecDepth 100000
open Go.RowKit Game
/-- what a table of elements must be for the polynomials -/
structure KlOk (n N : Nat) (L T : List (List Int)) : Prop where
  len : L.length = N
  tlen : T.length = N
  few : N ≤ 24
  rank : n ≤ 4
  short : ∀ x, lenA L x ≤ 24
  head : ∀ v, v < N → v ≠ 0 → 0 < lenA L v ∧ headA L v < n ∧ tabA T v (headA L v) < v ∧ ∀ z, z < v → lenA L z ≤ lenA L v
  letter : ∀ v, v < N → v ≠ 0 → (L.getD v []).getD 0 0 = (headA L v : Int)
  row : ∀ x, x < N → (T.getD x []).length = n
  tab : ∀ x s, x < N → s < n → (T.getD x []).getD s 0 = (tabA T x s : Int) ∧ tabA T x s < N
theorem kl_head {n : Nat} {L T : List (List Int)} (h : klFacts n L T = true) : ∀ v, v < L.length → v ≠ 0 → 0 < lenA L v ∧ headA L v < n ∧ tabA T v (headA L v) < v ∧ ∀ z, z < v → lenA L z ≤ lenA L v := by
  intro v hv h0
  unfold klFacts at h
  rw [List.all_eq_true] at h
  have := h v (List.mem_range.2 hv)
  rw [Bool.or_eq_true, Bool.and_eq_true, Bool.and_eq_true, Bool.and_eq_true, List.all_eq_true] at this
  rcases this with h1 | ⟨h1, h2, h3, h4⟩
  · exact absurd (of_decide_eq_true h1) h0
  · exact ⟨of_decide_eq_true h1, of_decide_eq_true h2, of_decide_eq_true h3, fun z hz => of_decide_eq_true (h4 z (List.mem_range.2 hz))⟩
variable {n N : Nat} {L T : List (List Int)}
theorem mul_len61 (a b : List Int) : (mul a b).length ≤ 61 := mul_length_le a b
theorem zStepS_le (H : KlOk n N L T) {R : List (List (List Int))} {u m k s z q : Nat} {p : List Int} (hp : p.length ≤ 100 + q) : (zStepS L T R u m k s p z).length ≤ 100 + q := by
  unfold zStepS
  split
  · have h1 := addP_le p (negP (shS (mul (pol R z u) [muS (pol R k z) ((lenA L k : Int) - lenA L z)]) ((lenA L m - lenA L z) / 2)))
    rw [negP_length] at h1
    have h2 := shS_le (mul (pol R z u) [muS (pol R k z) ((lenA L k : Int) - lenA L z)]) ((lenA L m - lenA L z) / 2)
    have h3 := mul_len61 (pol R z u) [muS (pol R k z) ((lenA L k : Int) - lenA L z)]
    have h4 := H.short m
    omega
  · exact hp
theorem nextZ_le (H : KlOk n N L T) {R : List (List (List Int))} {m u : Nat} (hR : ∀ i x, i < m → (pol R i x).length ≤ 100 + i) (hm : m < N) (h0 : m ≠ 0) : ∀ t, (nextZ L T R m u t).length ≤ 100 + m
  | 0 => by
    obtain ⟨-, -, hk, -⟩ := H.head m hm h0
    show (nextS0 L T R m u).length ≤ _
    unfold nextS0
    have h1 := hR _ (tabA T u (headA L m)) hk
    have h2 := hR _ u hk
    split
    · have h3 := addP_le (pol R (tabA T m (headA L m)) (tabA T u (headA L m))) (shS (pol R (tabA T m (headA L m)) u) 1)
      have h4 := shS_le (pol R (tabA T m (headA L m)) u) 1
      omega
    · have h3 := addP_le (shS (pol R (tabA T m (headA L m)) (tabA T u (headA L m))) 1) (pol R (tabA T m (headA L m)) u)
      have h4 := shS_le (pol R (tabA T m (headA L m)) (tabA T u (headA L m))) 1
      omega
  | t + 1 => by rw [nextZ_succ]; exact zStepS_le H (nextZ_le H hR hm h0 t)
theorem pol_app_lt {R : List (List (List Int))} {x : List (List Int)} {i u : Nat} (h : i < R.length) : pol (R ++ [x]) i u = pol R i u := by
  unfold pol; simp [List.getD, List.getElem?_append_left h]
theorem pol_app_at {R : List (List (List Int))} {x : List (List Int)} {u : Nat} : pol (R ++ [x]) R.length u = x.getD u [] := by
  unfold pol; simp [List.getD]
theorem pol_out {R : List (List (List Int))} {i u : Nat} (h : R.length ≤ i) : pol R i u = [] := by
  unfold pol; simp [List.getD, List.getElem?_eq_none h]
theorem klRows_len (H : KlOk n N L T) : ∀ t, t < N → ∀ i u, (pol (rowsTo L T t) i u).length ≤ 100 + i
  | 0, _, i, u => by
    cases i with
    | zero =>
      show ((firstTo L.length).getD u []).length ≤ _
      unfold firstTo
      by_cases hu : u < L.length
      · simp only [List.getD, List.getElem?_map, List.getElem?_range hu]
        simp only [Option.map_some, Option.getD_some]
        split <;> simp
      · simp [List.getD, Nat.not_lt.1 hu]
    | succ i => rw [pol_out (by show 1 ≤ i + 1; omega)]; simp
  | t + 1, ht, i, u => by
    rw [rowsTo_succ]
    have ih := klRows_len H t (by omega)
    have hl := rowsTo_length L T t
    rcases Nat.lt_trichotomy i (rowsTo L T t).length with h | h | h
    · rw [pol_app_lt h]; exact ih i u
    · subst h
      rw [pol_app_at, hl]
      unfold nextTo'
      by_cases hu : u < L.length
      · simp only [List.getD, List.getElem?_map, List.getElem?_range hu]
        exact nextZ_le H (fun i x _ => ih i x) (by omega) (by omega) _
      · simp [List.getD, Nat.not_lt.1 hu]
    · rw [pol_out (by rw [List.length_append]; exact h)]; simp
/-- what is known of a table that is filled column by column -/
def Known (P : List (List (List Int))) (N v u : Nat) : Prop := ∀ i j, i < N → (j < v ∨ j = v ∧ i < u) → (pol P i j).length ≤ 100 + j
theorem zStep_le {P : List (List (List Int))} {u v w s z q : Nat} {p : List Int} (hp : p.length ≤ 100 + q) : (zStep L T P u v w s p z).length ≤ 100 + q := by
  unfold zStep
  split
  · exact hp
  · have h1 := subP_le p (mul [muI L (pol P z w) z w] (shI (pol P u z) ((lenA L v - lenA L z) / 2)))
    have h3 := mul_len61 [muI L (pol P z w) z w] (shI (pol P u z) ((lenA L v - lenA L z) / 2))
    omega
theorem madeTo_le (H : KlOk n N L T) {P : List (List (List Int))} {u v : Nat} (hP : Known P N v 0) (hu : u < N) (hv : v < N) (h0 : v ≠ 0) : ∀ t, (madeTo L T P u v t).length ≤ 100 + v
  | 0 => by
    obtain ⟨-, hs, hk, -⟩ := H.head v hv h0
    show (madeS0 L T P u v).length ≤ _
    unfold madeS0
    have h1 := hP (tabA T u (headA L v)) (tabA T v (headA L v)) (H.tab u _ hu hs).2 (.inl hk)
    have h2 := hP u (tabA T v (headA L v)) hu (.inl hk)
    split
    · have h3 := addP_le (pol P (tabA T u (headA L v)) (tabA T v (headA L v))) (shI (pol P u (tabA T v (headA L v))) 1)
      have h4 := shI_le (pol P u (tabA T v (headA L v))) 1
      omega
    · have h3 := addP_le (shI (pol P (tabA T u (headA L v)) (tabA T v (headA L v))) 1) (pol P u (tabA T v (headA L v)))
      have h4 := shI_le (pol P (tabA T u (headA L v)) (tabA T v (headA L v))) 1
      omega
  | t + 1 => by rw [madeTo_succ]; exact zStep_le (madeTo_le H hP hu hv h0 t)
theorem madeI_le (H : KlOk n N L T) {P : List (List (List Int))} {u v : Nat} (hP : Known P N v 0) (hu : u < N) (hv : v < N) : (madeI L T P u v).length ≤ 100 + v := by
  unfold madeI
  split
  · simp only [List.length_cons, List.length_nil]; omega
  · split
    · simp
    · rename_i h1 h2
      by_cases h0 : v = 0
      · subst h0
        have h3 : lenA L u = 0 ∨ 0 < lenA L u := Nat.eq_zero_or_pos _
        obtain ⟨-, -, -, h4⟩ := H.head u hu h1
        exact absurd (h4 0 (by omega)) (by omega)
      · exact madeTo_le H hP hu hv h0 _
theorem setP_at {P : List (List (List Int))} {u v : Nat} {p : List Int} (hu : u < P.length) (hv : v < (P.getD u []).length) : pol (setP P u v p) u v = p := by
  unfold pol setP
  simp only [List.getD, List.getElem?_set_self hu, Option.getD_some]
  simp only [List.getD] at hv
  rw [List.getElem?_set_self hv]; rfl
theorem setP_ne {P : List (List (List Int))} {u v i j : Nat} {p : List Int} (h : i ≠ u ∨ j ≠ v) : pol (setP P u v p) i j = pol P i j := by
  unfold pol setP
  by_cases hi : i = u
  · subst hi
    have hj : j ≠ v := by rcases h with h | h; exact absurd rfl h; exact h
    by_cases hl : i < P.length
    · simp only [List.getD, List.getElem?_set_self hl, Option.getD_some]
      rw [List.getElem?_set_ne (Ne.symm hj)]
    · rw [List.set_eq_of_length_le (by omega)]
  · simp only [List.getD]
    rw [List.getElem?_set_ne (Ne.symm hi)]
theorem setP_length (P : List (List (List Int))) (u v : Nat) (p : List Int) : (setP P u v p).length = P.length := by simp [setP]
theorem setP_row (P : List (List (List Int))) (u v i : Nat) (p : List Int) : ((setP P u v p).getD i []).length = (P.getD i []).length := by
  unfold setP
  by_cases hi : i = u
  · subst hi
    by_cases hl : i < P.length
    · simp only [List.getD, List.getElem?_set_self hl, Option.getD_some, List.length_set]
    · rw [List.set_eq_of_length_le (by omega)]
  · simp only [List.getD]
    rw [List.getElem?_set_ne (Ne.symm hi)]
theorem Known.next {P : List (List (List Int))} {v u : Nat} {p : List Int} (h : Known P N v u) (hp : p.length ≤ 100 + v) (hl : P.length = N) (hr : (P.getD u []).length = N) (hu : u < N) (hv : v < N) : Known (setP P u v p) N v (u + 1) := by
  intro i j hi hj
  by_cases e : i = u ∧ j = v
  · obtain ⟨rfl, rfl⟩ := e
    rw [setP_at (by omega) (by omega)]; exact hp
  · rw [setP_ne (by omega)]
    exact h i j hi (by omega)
end Go.Proofs.YtdedkfbiookofaaGreatDoor
namespace Go.Proofs.YtdedkfbiookofaaGreatDoor
set_option maxRecDepth 100000
open Go.RowKit
def addL (a b : List Int) (t : Nat) : List Int := (List.range t).map fun i => if i < b.length then wrap64 (a.getD i 0 + b.getD i 0) else a.getD i 0
theorem addL_succ (a b : List Int) (t : Nat) : addL a b (t + 1) = addL a b t ++ [if t < b.length then wrap64 (a.getD t 0 + b.getD t 0) else a.getD t 0] := by simp [addL, List.range_succ]
theorem addL_length (a b : List Int) (t : Nat) : (addL a b t).length = t := by simp [addL]
theorem addP_eq (a b : List Int) : addP a b = trim (addL a b (max a.length b.length)) := rfl
def negTo (b : List Int) (t : Nat) : List Int := (b.take t).map fun x => wrap64 (-x)
theorem negTo_succ {b : List Int} {t : Nat} (ht : t < b.length) : negTo b (t + 1) = negTo b t ++ [wrap64 (- b.getD t 0)] := by
  unfold negTo
  rw [List.take_succ_eq_append_getElem ht, List.map_append]
  simp [List.getD, ht]
theorem negTo_length {b : List Int} {t : Nat} (ht : t ≤ b.length) : (negTo b t).length = t := by simp [negTo]; omega
set_option maxHeartbeats 2000000 in
theorem spec_AddPoly_any (g1 o1 n1 c1 g2 o2 n2 c2 : Nat) (a b : List Int) (w : World) (hn1 : a.length = n1) (hn2 : b.length = n2) (hx : a.length ≤ 100000) (hy : b.length ≤ 100000)
    (hg1 : g1 < w.heap.size) (hg2 : g2 < w.heap.size) (hc1 : Cells w g1 o1 a) (hc2 : Cells w g2 o2 b) :
    Calls Tryz.prog 16 #[(Value.slice (some ⟨g1, o1, none⟩) n1 c1), (Value.slice (some ⟨g2, o2, none⟩) n2 c2)] w (GotInts w (addP a b)) := by
  have Hn1 := Lib.hid hn1; have Hn2 := Lib.hid hn2
  rw [hn1] at hx
  rw [hn2] at hy
  rw [addP_eq]
  obtain ⟨M, hM⟩ : ∃ M, max a.length b.length = M := ⟨_, rfl⟩
  rw [hM]
  have hM1 : M ≤ 100000 := by omega
  have hM2 : ∀ i, i < M ↔ i < n1 ∨ i < n2 := by omega
  clear hn1 hn2 hM
  go_enter Tryz.func16, Tryz.ntmps16
  go_wp2
  have hE : Own (w.alloc (.cells #[] 3)) w.heap.size w.heap.size 0 [] := Own.empty (Nat.le_refl _)
  have hb0 : Below w.heap.size w (w.alloc (.cells #[] 3)) := (Below.refl _ _).alloc (Nat.le_refl _) _
  go_loopw [5, 6, 7] (fun ov iv _ wr => ∃ i g c, i ≤ M ∧ iv = .int .i64 (i : Nat) ∧ ov = (Value.slice (some ⟨g, 0, none⟩) i c) ∧ Own wr w.heap.size g c (addL a b i) ∧ Below w.heap.size w wr) (fun _ iv _ _ => M - (intOf iv).toNat)
  case atStart => exact ⟨0, w.heap.size, 0, Nat.zero_le _, rfl, rfl, hE, hb0⟩
  case round =>
    clear hE hb0
    obtain ⟨i, g, c, hi, rfl, rfl, ho, hb⟩ := hrel
    by_cases hlt : i < M
    · have hor := (hM2 i).1 hlt
      have Hs := Lib.hid (addL_succ a b i)
      have Hl := Lib.hid (addL_length a b i)
      by_cases h1 : i < n1
      · have q1 := hc1.below hb hg1 i (by rw [Hn1.out]; exact h1)
        have h1I : (i : Int) < (n1 : Int) := by omega
        by_cases h2 : i < n2
        · have q2 := hc2.below hb hg2 i (by rw [Hn2.out]; exact h2)
          have h2I : (i : Int) < (n2 : Int) := by omega
          have hv : (if i < b.length then wrap64 (a.getD i 0 + b.getD i 0) else a.getD i 0) = wrap64 (a.getD i 0 + b.getD i 0) := if_pos (by rw [Hn2.out]; exact h2)
          rw [hv] at Hs
          generalize a.getD i 0 = x at *
          generalize b.getD i 0 = y at *
          have hll := Lib.hid (show (addL a b i ++ [wrap64 (x + y)]).length = i + 1 from by rw [List.length_append, Hl.out]; rfl)
          go_wp2_with (at_builtin; refine wpList_append_int_n (w := wr) rfl _ _ rfl w.heap.size g c i (addL a b i) (wrap64 (x + y)) Hl.out ho rfl rfl (by omega) ?_)
          intro g3 c3 w3 ho3 hg3 _
          rw [← Hs.out] at ho3
          have hb3 := hb.grown hg3 hb.size (by intro t ht; cases ht; exact ho.base)
          clear ho hb hg3
          go_wp2_with fail
          go_roundw
          case rel => exact ⟨i + 1, g3, c3, by omega, by go_num, rfl, ho3, hb3⟩
          case measure => simp [intOf]; omega
        · have h2I : ¬ (i : Int) < (n2 : Int) := by omega
          have hv : (if i < b.length then wrap64 (a.getD i 0 + b.getD i 0) else a.getD i 0) = a.getD i 0 := if_neg (by rw [Hn2.out]; exact h2)
          rw [hv] at Hs
          generalize a.getD i 0 = x at *
          have hll := Lib.hid (show (addL a b i ++ [x]).length = i + 1 from by rw [List.length_append, Hl.out]; rfl)
          go_wp2_with (at_builtin; refine wpList_append_int_n (w := wr) rfl _ _ rfl w.heap.size g c i (addL a b i) (x) Hl.out ho rfl rfl (by omega) ?_)
          intro g3 c3 w3 ho3 hg3 _
          rw [← Hs.out] at ho3
          have hb3 := hb.grown hg3 hb.size (by intro t ht; cases ht; exact ho.base)
          clear ho hb hg3
          go_wp2_with fail
          go_roundw
          case rel => exact ⟨i + 1, g3, c3, by omega, by go_num, rfl, ho3, hb3⟩
          case measure => simp [intOf]; omega
      · have h2 : i < n2 := by omega
        have h1I : ¬ (i : Int) < (n1 : Int) := by omega
        have h2I : (i : Int) < (n2 : Int) := by omega
        have q2 := hc2.below hb hg2 i (by rw [Hn2.out]; exact h2)
        have ha0 : a.getD i 0 = 0 := by have : a.length ≤ i := by rw [Hn1.out]; omega
                                        simp [List.getD, this]
        have hv : (if i < b.length then wrap64 (a.getD i 0 + b.getD i 0) else a.getD i 0) = wrap64 (0 + b.getD i 0) := by rw [if_pos (by rw [Hn2.out]; exact h2), ha0]
        rw [hv] at Hs
        generalize b.getD i 0 = y at *
        have e0 : wrap64 (0 + y) = wrap64 y := by rw [Int.zero_add]
        rw [e0] at Hs
        have hll := Lib.hid (show (addL a b i ++ [wrap64 y]).length = i + 1 from by rw [List.length_append, Hl.out]; rfl)
        go_wp2_with (at_builtin; refine wpList_append_int_n (w := wr) rfl _ _ rfl w.heap.size g c i (addL a b i) (wrap64 y) Hl.out ho rfl rfl (by omega) ?_)
        intro g3 c3 w3 ho3 hg3 _
        rw [← Hs.out] at ho3
        have hb3 := hb.grown hg3 hb.size (by intro t ht; cases ht; exact ho.base)
        clear ho hb hg3
        go_wp2_with fail
        go_roundw
        case rel => exact ⟨i + 1, g3, c3, by omega, by go_num, rfl, ho3, hb3⟩
        case measure => simp [intOf]; omega
    · obtain rfl : i = M := by omega
      have h1I : ¬ (i : Int) < (n1 : Int) := by have := (hM2 i).2; omega
      have h2I : ¬ (i : Int) < (n2 : Int) := by have := (hM2 i).2; omega
      have Hl := Lib.hid (addL_length a b i)
      have T1 := Lib.hid (spec_TrimPoly_any g 0 i c (addL a b i) wr Hl.out (by rw [Hl.out]; omega) (by have := ho.capLe; rw [Hl.out] at this; exact this) ho.lt ho.cells)
      clear ho
      go_wp2_with fail
      refine T1.out.mono ?_
      rintro e w3 ⟨g3, c3, rfl, ho3, hb3⟩
      go_wp2_with fail
      go_ret
      exact ⟨g3, c3, rfl, ho3.mono hb.size, hb.trans (hb3.mono hb.size)⟩
set_option maxHeartbeats 2000000 in
theorem spec_SubPoly_any (g1 o1 n1 c1 g2 o2 n2 c2 : Nat) (a b : List Int) (w : World) (hn1 : a.length = n1) (hn2 : b.length = n2) (hx : a.length ≤ 100000) (hy : b.length ≤ 100000)
    (hg1 : g1 < w.heap.size) (hg2 : g2 < w.heap.size) (hc1 : Cells w g1 o1 a) (hc2 : Cells w g2 o2 b) :
    Calls Tryz.prog 104 #[(Value.slice (some ⟨g1, o1, none⟩) n1 c1), (Value.slice (some ⟨g2, o2, none⟩) n2 c2)] w (GotInts w (addP a (negP b))) := by
  have Hn2 := Lib.hid hn2
  rw [hn2] at hy
  have HA := Lib.hid (fun (W : World) (g c : Nat) (hb : Below w.heap.size w W) (ho : g < W.heap.size) (hc : Cells W g 0 (negP b)) => spec_AddPoly_any g1 o1 n1 c1 g 0 n2 c a (negP b) W hn1 (by rw [negP_length]; exact Hn2.out) hx (by rw [negP_length, Hn2.out]; exact hy) (Nat.lt_of_lt_of_le hg1 hb.size) ho (hc1.below hb hg1) hc)
  clear hn1 hn2 hx
  go_enter Tryz.func104, Tryz.ntmps104
  go_wp2
  have hE : Own (w.alloc (.cells #[] 3)) w.heap.size w.heap.size 0 (negTo b 0) := Own.empty (Nat.le_refl _)
  have hb0 : Below w.heap.size w (w.alloc (.cells #[] 3)) := (Below.refl _ _).alloc (Nat.le_refl _) _
  go_loopw [5, 6] (fun ov iv wr => ∃ i g c, i ≤ n2 ∧ iv = .int .i64 (i : Nat) ∧ ov = (Value.slice (some ⟨g, 0, none⟩) i c) ∧ Own wr w.heap.size g c (negTo b i) ∧ Below w.heap.size w wr) (fun _ iv _ => n2 - (intOf iv).toNat)
  case atStart => exact ⟨0, w.heap.size, 0, Nat.zero_le _, rfl, rfl, hE, hb0⟩
  case round =>
    clear hE hb0
    obtain ⟨i, g, c, hi, rfl, rfl, ho, hb⟩ := hrel
    have Hl := Lib.hid (negTo_length (b := b) (t := i) (by rw [Hn2.out]; exact hi))
    by_cases hlt : i < n2
    · have q2 := hc2.below hb hg2 i (by rw [Hn2.out]; exact hlt)
      have Hs := Lib.hid (negTo_succ (b := b) (t := i) (by rw [Hn2.out]; exact hlt))
      generalize b.getD i 0 = y at *
      go_wp2_with (at_builtin; refine wpList_append_int_n (w := wr) rfl _ _ rfl w.heap.size g c i (negTo b i) (wrap64 (-y)) Hl.out ho rfl rfl (by omega) ?_)
      intro g3 c3 w3 ho3 hg3 _
      rw [← Hs.out] at ho3
      have hb3 := hb.grown hg3 hb.size (by intro t ht; cases ht; exact ho.base)
      clear ho hb hg3
      go_wp2_with fail
      go_roundw
      case rel => exact ⟨i + 1, g3, c3, by omega, by go_num, rfl, ho3, hb3⟩
      case measure => simp [intOf]; omega
    · obtain rfl : i = n2 := by omega
      have he : negTo b i = negP b := by unfold negTo negP; rw [← Hn2.out, List.take_length]
      rw [he] at ho
      have A1 := Lib.hid (HA.out wr g c hb ho.lt ho.cells)
      clear ho
      go_wp2_with fail
      refine A1.out.mono ?_
      rintro e w3 ⟨g3, c3, rfl, ho3, hb3⟩
      go_wp2_with fail
      go_ret
      exact ⟨g3, c3, rfl, ho3.mono hb.size, hb.trans (hb3.mono hb.size)⟩
set_option maxHeartbeats 2000000 in
theorem spec_ShiftPoly_any (g o n c k : Nat) (p : List Int) (w : World) (hn : p.length = n) (hx : p.length ≤ 100000) (hcap : n ≤ c) (hk : k ≤ 60) (hg : g < w.heap.size) (hc : Cells w g o p) :
    Calls Tryz.prog 66 #[(Value.slice (some ⟨g, o, none⟩) n c), .int .i64 (k : Int)] w (GotInts w (shS p k)) := by
  have Hn := Lib.hid hn
  rw [hn] at hx
  have hk0 : ¬ (k : Int) < 0 := by omega
  have hk6 : ¬ (60 : Int) < (k : Int) := by omega
  have hsh : shS p k = if p.length = 0 then trim p else trim (List.replicate k 0 ++ p) := rfl
  rw [hsh]
  by_cases h0 : n = 0
  · rw [if_pos (by rw [hn]; exact h0)]
    have T1 := Lib.hid (spec_TrimPoly_any g o n c p w hn (by omega) hcap hg hc)
    have hlI : ((n : Int) == 0) = true := by simpa using h0
    clear hn hc hsh Hn h0
    go_enter Tryz.func66, Tryz.ntmps66
    go_wp2_with fail
    refine T1.out.mono ?_
    rintro e w1 ⟨g1, c1, rfl, ho1, hb1⟩
    go_wp2_with fail
    go_ret
    exact ⟨g1, c1, rfl, ho1, hb1⟩
  · rw [if_neg (by rw [hn]; exact h0)]
    have hlI : ((n : Int) == 0) = false := by simpa using h0
    have hl2 : (List.replicate k (0 : Int) ++ p).length = k + n := by rw [List.length_append, List.length_replicate, hn]
    have Hl2 := Lib.hid hl2
    clear hn hsh h0 hl2
    go_enter Tryz.func66, Tryz.ntmps66
    go_wp2_with (at_make; refine wpList_make_ints rfl _ _ rfl w.heap.size k _ rfl rfl rfl (by omega) (Nat.le_refl _) ?_)
    intro w2 ho2 hg2
    have hb2 := (Below.refl w.heap.size w).grown hg2 (Nat.le_refl _) (by intro t ht; cases ht)
    have hc2 := hc.below hb2 hg
    have hlk : (List.replicate k (0 : Int)).length = k := by simp
    go_wp2_with (at_builtin; refine wpList_append_ints_n rfl _ _ rfl w.heap.size w.heap.size k k (List.replicate k 0) hlk ho2 g o n c p Hn.out hc2 rfl rfl (by omega) ?_)
    intro g3 c3 w3 ho3 hg3 _
    have hb3 := hb2.grown hg3 hb2.size (by intro t ht; cases ht; exact Nat.le_refl _)
    have T1 := Lib.hid (spec_TrimPoly_any g3 0 (k + n) c3 _ w3 Hl2.out (by rw [Hl2.out]; omega) (by have := ho3.capLe; rw [Hl2.out] at this; exact this) ho3.lt ho3.cells)
    clear ho2 hg2 hc2 hg3 ho3
    go_wp2_with fail
    refine T1.out.mono ?_
    rintro e w4 ⟨g4, c4, rfl, ho4, hb4⟩
    go_wp2_with fail
    go_ret
    exact ⟨g4, c4, rfl, ho4.mono hb3.size, hb3.trans (hb4.mono hb3.size)⟩
set_option maxHeartbeats 1000000 in
theorem spec_l23Mu_any (g o n c : Nat) (d : Int) (p : List Int) (w : World) (hn : p.length = n) (hx : p.length ≤ 100000) (hd : -1000 ≤ d ∧ d ≤ 1000) (hc : Cells w g o p) :
    Calls Tryz.prog 59 #[(Value.slice (some ⟨g, o, none⟩) n c), .int .i64 d] w (Reads w (.int .i64 (muS p d))) := by
  have Hn := Lib.hid hn
  have hdef : muS p d = if d % 2 = 0 ∨ (p.length : Int) ≤ (d - 1) / 2 ∨ d < 0 then 0 else p.getD ((d - 1) / 2).toNat 0 := rfl
  rw [hdef]
  rw [hn] at hx ⊢
  clear hdef hn
  have ht : d.tmod 2 = 0 ↔ d % 2 = 0 := by rw [← Int.dvd_iff_tmod_eq_zero, ← Int.dvd_iff_emod_eq_zero]
  by_cases h0 : d % 2 = 0
  · rw [if_pos (.inl h0)]
    have e1 : (d.tmod 2 == 0) = true := by rw [beq_iff_eq]; exact ht.2 h0
    clear h0 ht
    go_enter Tryz.func59, Tryz.ntmps59
    go_wp2_with fail
    go_ret
    exact ⟨rfl, (by first | exact ⟨_, rfl⟩ | exact ⟨0, rfl⟩ | exact still2 _ _ _ | exact still3 _ _ _ _)⟩
  have e1 : (d.tmod 2 == 0) = false := by rw [beq_eq_false_iff_ne]; exact fun h => h0 (ht.1 h)
  have e1' : (d % 2 == 0) = false := by rw [beq_eq_false_iff_ne]; exact h0
  have ew : IntKind.i64.wrap (d - 1) = d - 1 := IntWalk.i64_in _ (by omega)
  by_cases h1 : d < 0
  · rw [if_pos (.inr (.inr h1))]
    have e2 : decide ((n : Int) ≤ (d - 1).tdiv 2) = false := decide_eq_false (by
      have : d - 1 = 2 * ((d - 1) / 2) := by omega
      rw [this, Int.mul_tdiv_cancel_left _ (by decide)]; omega)
    have e3 : decide (d < 0) = true := decide_eq_true h1
    clear h0 h1 ht
    go_enter Tryz.func59, Tryz.ntmps59
    go_wp2_with fail
    go_ret
    exact ⟨rfl, (by first | exact ⟨_, rfl⟩ | exact ⟨0, rfl⟩ | exact still2 _ _ _ | exact still3 _ _ _ _)⟩
  obtain ⟨q, hq⟩ : ∃ q : Nat, d = 2 * (q : Int) + 1 := ⟨(d / 2).toNat, by omega⟩
  have e4 : (d - 1) / 2 = (q : Int) := by omega
  have e5 : (d - 1).tdiv 2 = (q : Int) := by rw [hq, Int.add_sub_cancel, Int.mul_tdiv_cancel_left _ (by decide)]
  have e3 : decide (d < 0) = false := decide_eq_false h1
  rw [e4, Int.toNat_natCast]
  by_cases h2 : n ≤ q
  · rw [if_pos (.inr (.inl (by omega)))]
    have e2 : decide ((n : Int) ≤ (q : Int)) = true := decide_eq_true (by omega)
    clear h0 h1 hq ht
    go_enter Tryz.func59, Tryz.ntmps59
    go_wp2_with fail
    go_ret
    exact ⟨rfl, (by first | exact ⟨_, rfl⟩ | exact ⟨0, rfl⟩ | exact still2 _ _ _ | exact still3 _ _ _ _)⟩
  · rw [if_neg (by omega)]
    have e2 : decide ((n : Int) ≤ (q : Int)) = false := decide_eq_false (by omega)
    have c1 := hc q (by rw [Hn.out]; omega)
    generalize p.getD q 0 = y at *
    have b1 : (q : Int) < (n : Int) := by omega
    clear h0 h1 hq h2 e4 ht
    go_enter Tryz.func59, Tryz.ntmps59
    go_wp2_with fail
    go_ret
    exact ⟨rfl, (by first | exact ⟨_, rfl⟩ | exact ⟨0, rfl⟩ | exact still2 _ _ _ | exact still3 _ _ _ _)⟩
end Go.Proofs.YtdedkfbiookofaaGreatDoor
namespace Go.Proofs.YtdedkfbiookofaaGreatDoor
set_option maxRecDepth 100000
open Go.RowKit
theorem wpList_append_V {S E : TypeId} {z : Value} {by' : Nat} (hinfo : (Tryz.prog.info? E).map (fun i => (i.zero, i.size, i.bytes)) = some (some z, 1, by')) (hu : Tryz.prog.underlying S = some (.slice E)) (hzs : z.cells.size = 1) (hby : by' ≤ 1024)
    {ops : Array Oper} {rest : List Oper} {o : Oper} {a : Act} {Q : Exit → Act → World → Prop} (hgd : o.guard = none) (s x : Operand)
    (ho : o.op = .call { callee := .builtin .append, args := #[s, x], argTypes := #[S, S] })
    (B g cap n H : Nat) (vs : List Value) (v : Value) (hv : v.oneCell' = true) (w W : World) (hn : vs.length = n) (hW : W = w.alloc (.cells #[v] E)) (hH : w.heap.size = H) (hown : OwnV w B E g cap vs)
    (hs : a.eval s = (Value.slice (some ⟨g, 0, none⟩) n cap)) (hx : a.eval x = (Value.slice (some ⟨H, 0, none⟩) 1 1)) (hlen : n + 1 ≤ 1048576)
    (h : ∀ g' cap' w', OwnV w' B E g' cap' (vs ++ [v]) → w.grownBy w' (some g) → (g' = g ∨ w.heap.size < g') → wpList Tryz.prog ops Q rest (a.put o.dst (Value.slice (some ⟨g', 0, none⟩) (n + 1) cap')) w') :
    wpList Tryz.prog ops Q (o :: rest) a W := by
  subst hn; subst hW; subst hH
  have hnew : OwnV (w.alloc (.cells #[v] E)) w.heap.size E w.heap.size 1 [v] := World.ownsRow_lit w #[v] 1 (Nat.le_refl _) (by decide) rfl
  have hk : OwnK w B E 1 g cap vs.length vs := hown
  refine wpList_append_K hinfo hu hzs (by decide) hby hgd s x ho B g cap vs.length vs (OwnK.alloc hk _) w.heap.size 0 1 1 [v] rfl ?_ ?_ hs hx hlen ?_
  · intro j u hu
    have hj : j = 0 := by have := (List.getElem?_eq_some_iff.1 hu).1; simp at this; exact this
    subst hj
    have h1 := hnew.cell 0 (by simp)
    simp only [List.getElem?_cons_zero, Option.some.injEq] at hu
    subst hu
    exact h1
  · intro u hu
    rw [List.mem_singleton] at hu
    rw [hu]; exact hv
  · intro g' cap' w' h2 h3 h4
    refine h g' cap' w' ?_ ⟨h3.os, h3.tape, h3.output, Nat.le_trans (by simp) h3.size, fun k hk hne => (h3.block k (by simp; omega) hne).trans (Below.heap_alloc _ _ _ hk)⟩ (h4.imp id (by simp; omega))
    unfold OwnV
    rw [List.length_append]
    exact h2
theorem infoTab : (Tryz.prog.info? 24).map (fun i => (i.zero, i.size, i.bytes)) = some (some (.slice none 0 0), 1, 24) := by kernel_rfl
abbrev TabRef := Nat × Nat × List RowRef
def tabVal (r : TabRef) : Value := (Value.slice (some ⟨r.1, 0, none⟩) r.2.2.length r.2.1)
def cont3 (rr : List TabRef) : List (List (List Int)) := rr.map fun r => contents r.2.2
def Own3 (w : World) (B g cap : Nat) (rr : List TabRef) : Prop := OwnV w B 24 g cap (rr.map tabVal) ∧ ∀ r ∈ rr, OwnRows w B r.1 r.2.1 r.2.2
section
variable {w w' : World} {B g cap : Nat} {rr : List TabRef}
theorem OwnRows.apart {E : TypeId} {vs : List Value} {B2 g2 cap2 : Nat} {rs : List RowRef} (h : OwnRows w B g cap rs) (ho : OwnV w B2 E g2 cap2 vs) (h1 : E ≠ 25) (h2 : E ≠ 3) (hg : w.grownBy w' (some g2)) : OwnRows w' B g cap rs := by
  have e1 : some g ≠ some g2 := fun e => ho.ne h.1 h1 (Option.some.inj e).symm
  refine ⟨h.1.grown hg e1, fun s hs => (h.2.1 s hs).grown hg fun e => ?_, h.2.2⟩
  exact ho.ne (h.2.1 s hs).toV h2 (Option.some.inj e).symm
theorem Own3.lt (h : Own3 w B g cap rr) : g < w.heap.size := h.1.lt
theorem Own3.base (h : Own3 w B g cap rr) : B ≤ g := h.1.base
theorem Own3.mono {B' : Nat} (h : Own3 w B g cap rr) (hB : B' ≤ B) : Own3 w B' g cap rr := ⟨h.1.mono hB, fun r hr => (h.2 r hr).mono hB⟩
theorem Own3.below (h : Own3 w B g cap rr) (hb : Below w.heap.size w w') : Own3 w' B g cap rr := ⟨h.1.below hb h.1.lt, fun r hr => (h.2 r hr).below hb⟩
theorem Own3.push {g' cap' : Nat} {r : TabRef} (h : Own3 w B g cap rr) (hr : OwnRows w B r.1 r.2.1 r.2.2) (ho : OwnV w' B 24 g' cap' (rr.map tabVal ++ [tabVal r])) (hg : w.grownBy w' (some g)) : Own3 w' B g' cap' (rr ++ [r]) := by
  refine ⟨by rw [List.map_append]; exact ho, fun s hs => ?_⟩
  rw [List.mem_append, List.mem_singleton] at hs
  rcases hs with hs | rfl
  · exact (h.2 s hs).apart h.1 (by decide) (by decide) hg
  · exact hr.apart h.1 (by decide) (by decide) hg
/-- one row of a table is read -/
theorem Own3.at (h : Own3 w B g cap rr) {i : Nat} (hi : i < rr.length) : ∃ gi ci, w.cell? ⟨g, i, none⟩ = some (Value.slice (some ⟨gi, 0, none⟩) (((cont3 rr).getD i []).length) ci) ∧ gi < w.heap.size ∧ ((cont3 rr).getD i []).length ≤ ci ∧ Rows2 w gi 0 ((cont3 rr).getD i []) := by
  have hc := h.1.cell i (by simpa using hi)
  have hr := h.2 rr[i] (List.getElem_mem hi)
  have e : (cont3 rr).getD i [] = contents rr[i].2.2 := by simp [cont3, List.getD, hi]
  have el : (contents rr[i].2.2).length = rr[i].2.2.length := by simp [contents]
  rw [e]
  refine ⟨rr[i].1, rr[i].2.1, ?_, hr.lt, by rw [el]; exact hr.capLe, hr.rows2⟩
  rw [hc, el]; simp [tabVal]
theorem cont3_append (a b : List TabRef) : cont3 (a ++ b) = cont3 a ++ cont3 b := by simp [cont3]
theorem cont3_length (a : List TabRef) : (cont3 a).length = a.length := by simp [cont3]
end
theorem wpList_append_tab {ops : Array Oper} {rest : List Oper} {o : Oper} {a : Act} {Q : Exit → Act → World → Prop} (hgd : o.guard = none) (s x : Operand)
    (ho : o.op = .call { callee := .builtin .append, args := #[s, x], argTypes := #[60, 60] })
    (B g cap n H : Nat) (rr : List TabRef) (r : TabRef) (w W : World) (hn : rr.length = n) (hW : W = w.alloc (.cells #[tabVal r] 24)) (hH : w.heap.size = H) (hown : Own3 w B g cap rr) (hr : OwnRows w B r.1 r.2.1 r.2.2)
    (hs : a.eval s = (Value.slice (some ⟨g, 0, none⟩) n cap)) (hx : a.eval x = (Value.slice (some ⟨H, 0, none⟩) 1 1)) (hlen : n + 1 ≤ 1048576)
    (h : ∀ g' cap' w', Own3 w' B g' cap' (rr ++ [r]) → w.grownBy w' (some g) → (g' = g ∨ w.heap.size < g') → wpList Tryz.prog ops Q rest (a.put o.dst (Value.slice (some ⟨g', 0, none⟩) (n + 1) cap')) w') :
    wpList Tryz.prog ops Q (o :: rest) a W :=
  wpList_append_V infoTab Tryz.underlying60 rfl (by decide) hgd s x ho B g cap n H (rr.map tabVal) (tabVal r) rfl w W (by simpa using hn) hW hH hown.1 hs hx hlen fun g' cap' w' h1 h2 h3 => h g' cap' w' (hown.push hr h1 h2) h2 h3
abbrev BRef := Nat × Nat × List Bool
section
variable {w w' : World} {B g cap : Nat} {rr : List BRef}
end
section
variable {w w' : World} {B g cap : Nat} {vs : List Arr}
end
end Go.Proofs.YtdedkfbiookofaaGreatDoor
