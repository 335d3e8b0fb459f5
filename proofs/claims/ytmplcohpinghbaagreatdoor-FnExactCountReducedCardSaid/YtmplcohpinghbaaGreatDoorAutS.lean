/- The automaton by the reference: places, insertions, states: contracts. The automaton by the reference: is a list a state? contract. -/
import Derived.Test.YtmplcohpinghbaaGreatDoorAut
import Derived.Test.YtmplcohpinghbaaGreatDoorRootS
import Derived.Test.YtmplcohpinghbaaGreatDoorBase
import Derived.BigQuiet
namespace Go.Proofs.YtmplcohpinghbaaGreatDoor
open Go.RowKit Game

set_option maxHeartbeats 2000000 in
theorem spec_IndexOf_any (g o n cp g1 o1 n1 c1 : Nat) (l : List (List Int)) (r : List Int) (w : World) (hn : l.length = n) (hn1 : r.length = n1) (hl : l.length ≤ 1048576) (hrl : ∀ j, j < l.length → (l.getD j []).length ≤ 1048576)
    (hr : Rows2 w g o l) (hc1 : Cells w g1 o1 r) :
    Calls Tryz.prog 17 #[(Value.slice (some ⟨g, o, none⟩) n cp), (Value.slice (some ⟨g1, o1, none⟩) n1 c1)] w (Reads w (.int .i64 (idxL l r))) := by
  subst hn; subst hn1
  go_enter Tryz.func17, Tryz.ntmps17
  go_wp2
  go_loopw [5] (fun i wr => ∃ k : Nat, k ≤ l.length ∧ i = .int .i64 k ∧ Hid (inTo l r k) ∧ ∃ m, wr = w.drewN m) (fun i _ => l.length - (intOf i).toNat)
  case atStart => exact ⟨0, Nat.zero_le _, rfl, fun j hj => absurd hj (by omega), (by first | exact ⟨_, rfl⟩ | exact ⟨0, rfl⟩ | exact still2 _ _ _ | exact still3 _ _ _ _)⟩
  case round =>
    obtain ⟨k, hk, rfl, hin, m, rfl⟩ := hrel
    by_cases hlt : k < l.length
    · obtain ⟨gj, oj, cj, q1, q2, q3, q4⟩ := hr k hlt
      have hlk := hrl k hlt
      have HY : Hid (l.getD k [] ≠ r → inTo l r (k + 1)) := fun h j hj => by
        by_cases e : j = k
        · subst e; exact h
        · exact hin.out j (by omega)
      have HX : Hid (l.getD k [] = r → (k : Int) = idxL l r) := fun h => (idx_found hlt hin.out h).symm
      generalize l.getD k [] = x at *
      have hcall := spec_EqualWords_any gj oj x.length cj g1 o1 r.length c1 x r (w.drewN m) rfl rfl (by omega) q4 hc1
      by_cases e : x = r
      · have hd := HX.out e
        rw [decide_eq_true e] at hcall
        have Hd := Lib.hid hd; have He := Lib.hid e; have Hcall := Lib.hid hcall
        clear hd hcall e
        go_wp2_with fail
        refine Hcall.out.mono ?_
        rintro e w2 ⟨rfl, m2, rfl⟩
        go_wp2_with fail
        go_ret
        exact ⟨ret_int Hd.out, (by first | exact ⟨_, rfl⟩ | exact ⟨0, rfl⟩ | exact still2 _ _ _ | exact still3 _ _ _ _)⟩
      · have hd := HY.out e
        rw [decide_eq_false e] at hcall
        have Hd := Lib.hid hd; have He := Lib.hid e; have Hcall := Lib.hid hcall
        clear hd hcall e
        go_wp2_with fail
        refine Hcall.out.mono ?_
        rintro e w2 ⟨rfl, m2, rfl⟩
        go_wp2_with fail
        go_roundw
        case rel => exact ⟨k + 1, by omega, by go_num, Hd.out, (by first | exact ⟨_, rfl⟩ | exact ⟨0, rfl⟩ | exact still2 _ _ _ | exact still3 _ _ _ _)⟩
        case measure => simp [intOf]; omega
    · obtain rfl : k = l.length := by omega
      have hf := idx_none hin.out
      have Hf := Lib.hid hf; clear hf
      go_wp2
      go_ret
      exact ⟨ret_int Hf.out.symm, (by first | exact ⟨_, rfl⟩ | exact ⟨0, rfl⟩ | exact still2 _ _ _ | exact still3 _ _ _ _)⟩

set_option maxHeartbeats 400000 in
theorem aut_l3Has (g o n c : Nat) (xs : List Int) (x : Int) (w : World) (hn : xs.length = n) (hx : xs.length ≤ 1048576) (hc : Cells w g o xs) :
    Calls Tryz.prog 16 #[(Value.slice (some ⟨g, o, none⟩) n c), .int .i64 x] w (Reads w (.bool (decide (x ∈ xs)))) := by
  subst hn
  go_enter Tryz.func16, Tryz.ntmps16
  go_wp2
  go_loopw [5] (fun i wr => ∃ k : Nat, k ≤ xs.length ∧ i = .int .i64 k ∧ Hid (∀ j (hj : j < xs.length), j < k → xs[j] ≠ x) ∧ ∃ m, wr = w.drewN m) (fun i _ => xs.length - (intOf i).toNat)
  case atStart => exact ⟨0, Nat.zero_le _, rfl, fun j _ h => absurd h (by omega), 0, rfl⟩
  case round =>
    obtain ⟨k, hk, rfl, hp, m, rfl⟩ := hrel
    by_cases hlt : k < xs.length
    · have c1 := hc k hlt
      by_cases he : xs[k] = x
      · have d : (xs[k] == x) = true := by simpa using he
        have He := Lib.hid he; clear he
        go_wp2
        go_ret
        exact ⟨ret_bool (by simp; exact He.out ▸ List.getElem_mem hlt), m, rfl⟩
      · have d : (xs[k] == x) = false := by simpa using he
        have He := Lib.hid he; clear he
        go_wp2
        go_roundw
        case rel => exact ⟨k + 1, by omega, by go_num, fun j hj hjk => if e : j = k then by subst e; exact He.out else hp.out j hj (by omega), m, rfl⟩
        case measure => simp [intOf]; omega
    · obtain rfl : k = xs.length := by omega
      go_wp2
      go_ret
      refine ⟨ret_bool ?_, m, rfl⟩
      have : x ∉ xs := fun h => by obtain ⟨j, hj, e⟩ := List.getElem_of_mem h; exact hp.out j hj hj e
      simp [this]

/-- an insertion under way -/
structure P5 (l : List Int) (x : Int) (i : Nat) (acc : List Int) (p : Bool) : Prop where
  fin : acc ++ (if p then l.drop i else put5 (l.drop i) x) = put5 l x
  len : acc.length ≤ 2 * i
section
variable {l acc : List Int} {x : Int} {i : Nat} {p : Bool}
theorem P5.start : P5 l x 0 [] false := ⟨by simp, by simp⟩
theorem drop_at (hi : i < l.length) : l.drop i = l.getD i 0 :: l.drop (i + 1) := by
  rw [List.drop_eq_getElem_cons hi]; simp [List.getD, hi]
theorem P5.same (h : P5 l x i acc p) (hi : i < l.length) (e : l.getD i 0 = x) : P5 l x (i + 1) (acc ++ [l.getD i 0]) true := by
  refine ⟨?_, by have := h.len; simp; omega⟩
  rw [← h.fin, drop_at hi]
  cases p
  · simp only [put5]; rw [if_pos e]; simp
  · simp
theorem P5.old (h : P5 l x i acc true) (hi : i < l.length) : P5 l x (i + 1) (acc ++ [l.getD i 0]) true := by
  refine ⟨?_, by have := h.len; simp; omega⟩
  rw [← h.fin, drop_at hi]; simp
theorem P5.new (h : P5 l x i acc false) (hi : i < l.length) (h2 : x < l.getD i 0) : P5 l x (i + 1) (acc ++ [x] ++ [l.getD i 0]) true := by
  refine ⟨?_, by have := h.len; simp; omega⟩
  rw [← h.fin, drop_at hi]
  simp only [put5, Bool.false_eq_true, if_false, if_true]
  rw [if_neg (by omega), if_pos h2]; simp
theorem P5.less (h : P5 l x i acc false) (hi : i < l.length) (h2 : l.getD i 0 < x) : P5 l x (i + 1) (acc ++ [l.getD i 0]) false := by
  refine ⟨?_, by have := h.len; simp; omega⟩
  rw [← h.fin, drop_at hi]
  simp only [put5, Bool.false_eq_true, if_false]
  rw [if_neg (by omega), if_neg (by omega)]; simp
theorem P5.last (h : P5 l x l.length acc false) : acc ++ [x] = put5 l x := by
  have := h.fin
  simpa [put5] using this
theorem P5.done (h : P5 l x l.length acc true) : acc = put5 l x := by
  have := h.fin
  simpa using this
end

set_option maxHeartbeats 2000000 in
theorem spec_l5Put_any (g o n cp : Nat) (l : List Int) (x : Int) (w : World) (hn : l.length = n) (hl : l.length ≤ 1048576) (hg : g < w.heap.size) (hc : Cells w g o l) :
    Calls Tryz.prog 34 #[(Value.slice (some ⟨g, o, none⟩) n cp), .int .i64 x] w (GotInts w (put5 l x)) := by
  subst hn
  go_enter Tryz.func34, Tryz.ntmps34
  go_wp2
  go_loopw [5, 6, 7] (fun ov pv iv wr => ∃ (i a g2 c2 : Nat) (acc : List Int) (p : Bool), i ≤ l.length ∧ iv = .int .i64 i ∧ pv = .bool p ∧ ov = (Value.slice (some ⟨g2, 0, none⟩) a c2) ∧ Hid (acc.length = a) ∧ a ≤ 2 * i ∧ Hid (P5 l x i acc p) ∧ Own wr w.heap.size g2 c2 acc ∧ Below w.heap.size w wr) (fun _ _ iv _ => l.length - (intOf iv).toNat)
  case atStart => exact ⟨0, 0, _, 0, [], false, Nat.zero_le _, rfl, rfl, rfl, rfl, by omega, P5.start, Own.empty (Nat.le_refl _), (Below.refl _ _).alloc (Nat.le_refl _) _⟩
  case round =>
    obtain ⟨i, a, g2, c2, acc, p, hi, rfl, rfl, rfl, ha, hal, hst, ho, hb⟩ := hrel
    by_cases hlt : i < l.length
    · have q1 := (hb.cell (p := ⟨g, o + i, none⟩) hg).trans (hc i hlt)
      have k1 : Hid (l.getD i 0 = x → P5 l x (i + 1) (acc ++ [l.getD i 0]) true) := fun h => hst.out.same hlt h
      have k2 : Hid (p = true → P5 l x (i + 1) (acc ++ [l.getD i 0]) true) := fun h => by have := hst.out; rw [h] at this; exact this.old hlt
      have k3 : Hid (p = false → x < l.getD i 0 → P5 l x (i + 1) (acc ++ [x] ++ [l.getD i 0]) true) := fun h h2 => by have := hst.out; rw [h] at this; exact this.new hlt h2
      have k4 : Hid (p = false → l.getD i 0 < x → P5 l x (i + 1) (acc ++ [l.getD i 0]) false) := fun h h2 => by have := hst.out; rw [h] at this; exact this.less hlt h2
      have q2 : ∀ W, Below w.heap.size w W → W.cell? ⟨g, o + i, none⟩ = some (.int .i64 (l.getD i 0)) := fun W hW => (hW.cell (p := ⟨g, o + i, none⟩) hg).trans (hc i hlt)
      generalize l.getD i 0 = y at *
      have Q2 := Lib.hid q2
      clear q2 hst
      by_cases e : y = x
      · subst e
        have hP := k1.out rfl
        have HP := Lib.hid hP
        have d1 : (y == y) = true := by simp
        clear hP k1 k2 k3 k4
        go_wp2_with (at_builtin; refine wpList_append_int_n (w := wr) rfl _ _ rfl w.heap.size g2 c2 a acc y ha.out ho rfl rfl (by omega) ?_)
        intro g3 c3 w3 ho3 hg3 hor3
        have hb3 : Below w.heap.size w w3 := hb.grown hg3 hb.size (by intro t ht; cases ht; exact ho.base)
        clear ho hg3
        go_wp2_with fail
        go_roundw
        case rel => exact ⟨i + 1, a + 1, g3, c3, acc ++ [y], true, by omega, by go_num, rfl, rfl, by show _ = _; rw [List.length_append, ha.out]; rfl, by omega, HP.out, ho3, hb3⟩
        case measure => simp [intOf]; omega
      · have d1 : (y == x) = false := by simpa using e
        cases p
        · by_cases hlt2 : x < y
          · have hP := k3.out rfl hlt2
            have HP := Lib.hid hP
            clear hP k1 k2 k3 k4 e
            go_wp2_with (at_builtin; refine wpList_append_int_n (w := wr) rfl (.tmp 31) (.tmp 33) rfl w.heap.size g2 c2 a acc x ha.out ho rfl rfl (by omega) ?_)
            intro g3 c3 w3 ho3 hg3 hor3
            have hb3 : Below w.heap.size w w3 := hb.grown hg3 hb.size (by intro t ht; cases ht; exact ho.base)
            have q3 := Q2.out w3 hb3
            have ha3 : Hid ((acc ++ [x]).length = a + 1) := by show _ = _; rw [List.length_append, ha.out]; rfl
            clear ho hg3 q1
            go_wp2_with (at_builtin; refine wpList_append_int_n (w := w3) rfl (.tmp 35) (.tmp 40) rfl w.heap.size g3 c3 (a + 1) (acc ++ [x]) y ha3.out ho3 rfl rfl (by omega) ?_)
            intro g4 c4 w4 ho4 hg4 hor4
            have hb4 : Below w.heap.size w w4 := hb3.grown hg4 hb3.size (by intro t ht; cases ht; exact ho3.base)
            have ho5 : Own w4 w.heap.size g4 c4 (acc ++ [x] ++ [y]) := by rw [List.append_assoc]; exact ho4
            have Ho5 := Lib.hid ho5
            clear ho3 hg4 ho4 ho5
            go_wp2_with fail
            go_roundw
            case rel => exact ⟨i + 1, a + 1 + 1, g4, c4, acc ++ [x] ++ [y], true, by omega, by go_num, rfl, rfl, by show _ = _; rw [List.length_append, ha3.out]; rfl, by omega, HP.out, Ho5.out, hb4⟩
            case measure => simp [intOf]; omega
          · have hP := k4.out rfl (by omega)
            have HP := Lib.hid hP
            have hlt3 : y ≤ x := by omega
            clear hP k1 k2 k3 k4 e
            go_wp2_with (at_builtin; refine wpList_append_int_n (w := wr) rfl _ _ rfl w.heap.size g2 c2 a acc y ha.out ho rfl rfl (by omega) ?_)
            intro g3 c3 w3 ho3 hg3 hor3
            have hb3 : Below w.heap.size w w3 := hb.grown hg3 hb.size (by intro t ht; cases ht; exact ho.base)
            clear ho hg3
            go_wp2_with fail
            go_roundw
            case rel => exact ⟨i + 1, a + 1, g3, c3, acc ++ [y], false, by omega, by go_num, rfl, rfl, by show _ = _; rw [List.length_append, ha.out]; rfl, by omega, HP.out, ho3, hb3⟩
            case measure => simp [intOf]; omega
        · have hP := k2.out rfl
          have HP := Lib.hid hP
          clear hP k1 k2 k3 k4 e
          by_cases hlt2 : x < y
          all_goals
            go_wp2_with (at_builtin; refine wpList_append_int_n (w := wr) rfl _ _ rfl w.heap.size g2 c2 a acc y ha.out ho rfl rfl (by omega) ?_)
            intro g3 c3 w3 ho3 hg3 hor3
            have hb3 : Below w.heap.size w w3 := hb.grown hg3 hb.size (by intro t ht; cases ht; exact ho.base)
            clear ho hg3
            go_wp2_with fail
            go_roundw
            case rel => exact ⟨i + 1, a + 1, g3, c3, acc ++ [y], true, by omega, by go_num, rfl, rfl, by show _ = _; rw [List.length_append, ha.out]; rfl, by omega, HP.out, ho3, hb3⟩
            case measure => simp [intOf]; omega
    · obtain rfl : i = l.length := by omega
      cases p
      · have hf := hst.out.last
        have Hf := Lib.hid hf
        clear hf
        go_wp2_with (at_builtin; refine wpList_append_int_n (w := wr) rfl _ _ rfl w.heap.size g2 c2 a acc x ha.out ho rfl rfl (by omega) ?_)
        intro g3 c3 w3 ho3 hg3 hor3
        have hb3 : Below w.heap.size w w3 := hb.grown hg3 hb.size (by intro t ht; cases ht; exact ho.base)
        clear ho hg3
        go_wp2_with fail
        go_ret
        rw [Hf.out] at ho3
        exact GotInts.mk' g3 c3 (by rw [← Hf.out, List.length_append, ha.out]; rfl) ho3 hb3
      · have hf := hst.out.done
        have Hf := Lib.hid hf
        clear hf
        go_wp2_with fail
        go_ret
        rw [Hf.out] at ho
        exact GotInts.mk' g2 c2 (by rw [← Hf.out]; exact ha.out) ho hb
end Go.Proofs.YtmplcohpinghbaaGreatDoor
namespace Go.Proofs.YtmplcohpinghbaaGreatDoor
open Go.RowKit Game

theorem last_ge {l : List Int} {k : Nat} (h : 0 < k → 0 ≤ lastAt l k) : -1 ≤ lastAt l k := by
  cases k with
  | zero => simp [lastAt]
  | succ k => have := h (by omega); omega
end Go.Proofs.YtmplcohpinghbaaGreatDoor
