/- Comparisons of integers, of lists, of words: contracts. Membership in a list of rows: the reference's. Small roots: what both searches find. Plain law. Roots: pairings, mirrors, heights, the order: contracts. append of integers, of a row, inside a region that draws its order. IsWord of both: contracts. -/
import Derived.Test.YtdedkfbiookofaaGreatDoorM06
import Derived.Test.YtdedkfbiookofaaGreatDoorM02
import Derived.Test.YtdedkfbiookofaaGreatDoorM03
import Derived.BigQuiet
namespace Go.Proofs.YtdedkfbiookofaaGreatDoor
set_option maxRecDepth 100000
open Go.RowKit Game
theorem cw_isNaN (x : Int) (w : World) : Calls Tryz.prog 217 #[.int .i64 x] w (Reads w (.bool false)) := by
  go_enter Tryz.func217, Tryz.ntmps217
  go_wp2
  go_ret
  exact ⟨ret_bool (by simp), 0, rfl⟩
def cmpI (x y : Int) : Int := if x < y then -1 else if y < x then 1 else 0
set_option maxHeartbeats 1000000 in
theorem cw_Compare (x y : Int) (w : World) : Calls Tryz.prog 190 #[.int .i64 x, .int .i64 y] w (Reads w (.int .i64 (cmpI x y))) := by
  have H : Hid (cmpI x y = if x < y then -1 else if y < x then 1 else 0) := rfl
  rcases Int.lt_trichotomy x y with h | h | h
  · have hv : cmpI x y = -1 := by rw [H.out, if_pos h]
    have Hv := Lib.hid hv; clear hv
    go_enter Tryz.func190, Tryz.ntmps190
    go_wp2_with fail
    refine (cw_isNaN x _).mono ?_
    rintro e w1 ⟨rfl, m1, rfl⟩
    go_wp2_with fail
    refine (cw_isNaN y _).mono ?_
    rintro e w2 ⟨rfl, m2, rfl⟩
    go_wp2_with fail
    go_ret
    exact ⟨ret_int Hv.out.symm, (by first | exact ⟨_, rfl⟩ | exact ⟨0, rfl⟩ | exact still2 _ _ _ | exact still3 _ _ _ _)⟩
  · have hv : cmpI x y = 0 := by rw [H.out, if_neg (by omega), if_neg (by omega)]
    have Hv := Lib.hid hv; clear hv
    have h1 : ¬ x < y := by omega
    have h2 : ¬ y < x := by omega
    have Hh := Lib.hid h; clear h
    go_enter Tryz.func190, Tryz.ntmps190
    go_wp2_with fail
    refine (cw_isNaN x _).mono ?_
    rintro e w1 ⟨rfl, m1, rfl⟩
    go_wp2_with fail
    refine (cw_isNaN y _).mono ?_
    rintro e w2 ⟨rfl, m2, rfl⟩
    go_wp2_with fail
    go_ret
    exact ⟨ret_int Hv.out.symm, (by first | exact ⟨_, rfl⟩ | exact ⟨0, rfl⟩ | exact still2 _ _ _ | exact still3 _ _ _ _)⟩
  · have hv : cmpI x y = 1 := by rw [H.out, if_neg (by omega), if_pos h]
    have Hv := Lib.hid hv; clear hv
    have h1 : ¬ x < y := by omega
    go_enter Tryz.func190, Tryz.ntmps190
    go_wp2_with fail
    refine (cw_isNaN x _).mono ?_
    rintro e w1 ⟨rfl, m1, rfl⟩
    go_wp2_with fail
    refine (cw_isNaN y _).mono ?_
    rintro e w2 ⟨rfl, m2, rfl⟩
    go_wp2_with fail
    go_ret
    exact ⟨ret_int Hv.out.symm, (by first | exact ⟨_, rfl⟩ | exact ⟨0, rfl⟩ | exact still2 _ _ _ | exact still3 _ _ _ _)⟩
def sliceCmp : List Int → List Int → Int
  | [], [] => 0
  | [], _ :: _ => -1
  | _ :: _, [] => 1
  | x :: a, y :: b => if x < y then -1 else if y < x then 1 else sliceCmp a b
theorem sliceCmp_same : ∀ {a b : List Int}, a.length = b.length → sliceCmp a b = lexCmp a b
  | [], [], _ => rfl
  | [], _ :: _, h => by simp at h
  | _ :: _, [], h => by simp at h
  | x :: a, y :: b, h => by simp only [sliceCmp, lexCmp]; rw [sliceCmp_same (by simpa using h)]
theorem sliceCmp_drop {a b : List Int} {k : Nat} (h1 : k < a.length) (h2 : k < b.length) : sliceCmp (a.drop k) (b.drop k) = if a[k] < b[k] then -1 else if b[k] < a[k] then 1 else sliceCmp (a.drop (k + 1)) (b.drop (k + 1)) := by
  have e1 : a.drop k = a[k] :: a.drop (k + 1) := List.drop_eq_getElem_cons h1
  have e2 : b.drop k = b[k] :: b.drop (k + 1) := List.drop_eq_getElem_cons h2
  rw [e1, e2]; rfl
set_option maxHeartbeats 2000000 in
theorem slices_Compare_any (g1 o1 n1 c1 g2 o2 n2 c2 : Nat) (xs ys : List Int) (w : World) (hn1 : xs.length = n1) (hn2 : ys.length = n2) (hx : xs.length ≤ 1099511627776)
    (hcx : Cells w g1 o1 xs) (hcy : Cells w g2 o2 ys) :
    Calls Tryz.prog 191 #[(Value.slice (some ⟨g1, o1, none⟩) n1 c1), (Value.slice (some ⟨g2, o2, none⟩) n2 c2)] w (Reads w (.int .i64 (sliceCmp xs ys))) := by
  subst hn1; subst hn2
  go_enter Tryz.func191, Tryz.ntmps191
  go_wp2
  go_loopw [5, 6, 7, 8, 11] (fun _ _ _ _ i wr => ∃ k : Nat, k ≤ xs.length ∧ k ≤ ys.length ∧ i = .int .i64 k ∧ Hid (sliceCmp (xs.drop k) (ys.drop k) = sliceCmp xs ys) ∧ ∃ m, wr = w.drewN m) (fun _ _ _ _ i _ => xs.length - (intOf i).toNat)
  case atStart => exact ⟨0, Nat.zero_le _, Nat.zero_le _, rfl, rfl, (by first | exact ⟨_, rfl⟩ | exact ⟨0, rfl⟩ | exact still2 _ _ _ | exact still3 _ _ _ _)⟩
  case round =>
    obtain ⟨k, hk, hk2, rfl, he, m, rfl⟩ := hrel
    by_cases hlt : k < xs.length
    · by_cases hlt2 : k < ys.length
      · have q1 := hcx k hlt
        have q2 := hcy k hlt2
        have hd := sliceCmp_drop hlt hlt2
        have e1 : xs.getD k 0 = xs[k] := by simp [List.getD, hlt]
        have e2 : ys.getD k 0 = ys[k] := by simp [List.getD, hlt2]
        rw [he.out] at hd
        rw [← e1, ← e2] at hd
        clear e1 e2
        generalize xs.getD k 0 = x at *
        generalize ys.getD k 0 = y at *
        have Hd := Lib.hid hd; clear hd
        have hcall := cw_Compare x y (w.drewN m)
        rcases Int.lt_trichotomy x y with h | h | h
        · have hc : cmpI x y = -1 := by unfold cmpI; rw [if_pos h]
          have hv : sliceCmp xs ys = -1 := by rw [Hd.out, if_pos h]
          rw [hc] at hcall
          have Hcall := Lib.hid hcall; have Hv := Lib.hid hv; have Hh := Lib.hid h
          clear hcall hv hc h
          go_wp2_with fail
          refine Hcall.out.mono ?_
          rintro e w2 ⟨rfl, m2, rfl⟩
          go_wp2_with fail
          go_ret
          exact ⟨ret_int Hv.out.symm, (by first | exact ⟨_, rfl⟩ | exact ⟨0, rfl⟩ | exact still2 _ _ _ | exact still3 _ _ _ _)⟩
        · have hc : cmpI x y = 0 := by unfold cmpI; rw [if_neg (by omega), if_neg (by omega)]
          have hv : sliceCmp (xs.drop (k + 1)) (ys.drop (k + 1)) = sliceCmp xs ys := by rw [Hd.out, if_neg (by omega), if_neg (by omega)]
          rw [hc] at hcall
          have Hcall := Lib.hid hcall; have Hv := Lib.hid hv; have Hh := Lib.hid h
          clear hcall hv hc h
          go_wp2_with fail
          refine Hcall.out.mono ?_
          rintro e w2 ⟨rfl, m2, rfl⟩
          go_wp2_with fail
          go_roundw
          case rel => exact ⟨k + 1, by omega, by omega, by go_num, Hv.out, (by first | exact ⟨_, rfl⟩ | exact ⟨0, rfl⟩ | exact still2 _ _ _ | exact still3 _ _ _ _)⟩
          case measure => simp [intOf]; omega
        · have hc : cmpI x y = 1 := by unfold cmpI; rw [if_neg (by omega), if_pos h]
          have hv : sliceCmp xs ys = 1 := by rw [Hd.out, if_neg (by omega), if_pos h]
          rw [hc] at hcall
          have Hcall := Lib.hid hcall; have Hv := Lib.hid hv; have Hh := Lib.hid h
          clear hcall hv hc h
          go_wp2_with fail
          refine Hcall.out.mono ?_
          rintro e w2 ⟨rfl, m2, rfl⟩
          go_wp2_with fail
          go_ret
          exact ⟨ret_int Hv.out.symm, (by first | exact ⟨_, rfl⟩ | exact ⟨0, rfl⟩ | exact still2 _ _ _ | exact still3 _ _ _ _)⟩
      · have hv : sliceCmp xs ys = 1 := by
          rw [← he.out, List.drop_eq_getElem_cons hlt, show ys.drop k = [] from List.drop_eq_nil_iff.2 (by omega)]; rfl
        have q1 := hcx k hlt
        have Hv := Lib.hid hv; clear hv
        go_wp2_with fail
        go_ret
        exact ⟨ret_int Hv.out.symm, (by first | exact ⟨_, rfl⟩ | exact ⟨0, rfl⟩ | exact still2 _ _ _ | exact still3 _ _ _ _)⟩
    · by_cases hlt2 : xs.length < ys.length
      · have hv : sliceCmp xs ys = -1 := by
          rw [← he.out, List.drop_eq_getElem_cons (show k < ys.length by omega), show xs.drop k = [] from List.drop_eq_nil_iff.2 (by omega)]; rfl
        have Hv := Lib.hid hv; clear hv
        go_wp2_with fail
        go_ret
        exact ⟨ret_int Hv.out.symm, (by first | exact ⟨_, rfl⟩ | exact ⟨0, rfl⟩ | exact still2 _ _ _ | exact still3 _ _ _ _)⟩
      · have hv : sliceCmp xs ys = 0 := by
          rw [← he.out, show ys.drop k = [] from List.drop_eq_nil_iff.2 (by omega), show xs.drop k = [] from List.drop_eq_nil_iff.2 (by omega)]; rfl
        have Hv := Lib.hid hv; clear hv
        go_wp2_with fail
        go_ret
        exact ⟨ret_int Hv.out.symm, (by first | exact ⟨_, rfl⟩ | exact ⟨0, rfl⟩ | exact still2 _ _ _ | exact still3 _ _ _ _)⟩
def orL : List Int → Int
  | [] => 0
  | x :: l => if x = 0 then orL l else x
theorem orL_drop {l : List Int} {k : Nat} (h : k < l.length) : orL (l.drop k) = if l[k] = 0 then orL (l.drop (k + 1)) else l[k] := by
  rw [List.drop_eq_getElem_cons h]; rfl
set_option maxHeartbeats 1000000 in
theorem cw_Or (g o n cp : Nat) (xs : List Int) (w : World) (hn : xs.length = n) (hx : xs.length ≤ 1048576) (hc : Cells w g o xs) : Calls Tryz.prog 189 #[(Value.slice (some ⟨g, o, none⟩) n cp)] w (Reads w (.int .i64 (orL xs))) := by
  subst hn
  go_enter Tryz.func189, Tryz.ntmps189
  go_wp2
  go_loopw [5, 8] (fun _ i wr => ∃ k : Nat, k ≤ xs.length ∧ i = .int .i64 k ∧ Hid (orL (xs.drop k) = orL xs) ∧ ∃ m, wr = w.drewN m) (fun _ i _ => xs.length - (intOf i).toNat)
  case atStart => exact ⟨0, Nat.zero_le _, rfl, rfl, (by first | exact ⟨_, rfl⟩ | exact ⟨0, rfl⟩ | exact still2 _ _ _ | exact still3 _ _ _ _)⟩
  case round =>
    obtain ⟨k, hk, rfl, he, m, rfl⟩ := hrel
    by_cases hlt : k < xs.length
    · have q1 := hc k hlt
      have hd := orL_drop hlt
      have e1 : xs.getD k 0 = xs[k] := by simp [List.getD, hlt]
      rw [he.out, ← e1] at hd
      clear e1
      generalize xs.getD k 0 = x at *
      by_cases h0 : x = 0
      · rw [if_pos h0] at hd
        have Hd := Lib.hid hd; clear hd
        subst h0
        go_wp2
        go_roundw
        case rel => exact ⟨k + 1, by omega, by go_num, Hd.out.symm, (by first | exact ⟨_, rfl⟩ | exact ⟨0, rfl⟩ | exact still2 _ _ _ | exact still3 _ _ _ _)⟩
        case measure => simp [intOf]; omega
      · rw [if_neg h0] at hd
        have Hd := Lib.hid hd; clear hd
        have hne : (x != 0) = true := by simpa using h0
        go_wp2
        go_ret
        exact ⟨ret_int Hd.out.symm, (by first | exact ⟨_, rfl⟩ | exact ⟨0, rfl⟩ | exact still2 _ _ _ | exact still3 _ _ _ _)⟩
    · have hv : orL xs = 0 := by rw [← he.out, List.drop_eq_nil_iff.2 (by omega)]; rfl
      have Hv := Lib.hid hv; clear hv
      go_wp2
      go_ret
      exact ⟨ret_int Hv.out.symm, (by first | exact ⟨_, rfl⟩ | exact ⟨0, rfl⟩ | exact still2 _ _ _ | exact still3 _ _ _ _)⟩
theorem or_words (xs ys : List Int) : orL [cmpI xs.length ys.length, sliceCmp xs ys] = wordCmp xs ys := by
  have hc : cmpI xs.length ys.length = if xs.length < ys.length then -1 else if ys.length < xs.length then 1 else 0 := by unfold cmpI; simp
  rw [hc]
  unfold wordCmp
  by_cases h1 : xs.length < ys.length
  · rw [if_pos h1, if_pos h1]; rfl
  · rw [if_neg h1, if_neg h1]
    by_cases h2 : ys.length < xs.length
    · rw [if_pos h2, if_pos h2]; rfl
    · rw [if_neg h2, if_neg h2, sliceCmp_same (by omega)]
      simp only [orL, if_true]
      split
      · rename_i h; exact h.symm
      · rfl
/-- the call gives a value; it may draw and lay blocks -/
def Lays (w : World) (v : Value) (e : Ending) (w' : World) : Prop := e = .returned v ∧ ∃ (o : Obj) (q : Nat), w' = (w.alloc o).drewN q
set_option maxHeartbeats 1000000 in
theorem impl_CompareWords_any (g1 o1 n1 c1 g2 o2 n2 c2 : Nat) (xs ys : List Int) (w : World) (hn1 : xs.length = n1) (hn2 : ys.length = n2) (hx : xs.length ≤ 1048576)
    (hcx : Cells w g1 o1 xs) (hcy : Cells w g2 o2 ys) :
    Calls Tryz.prog 167 #[(Value.slice (some ⟨g1, o1, none⟩) n1 c1), (Value.slice (some ⟨g2, o2, none⟩) n2 c2)] w (Lays w (.int .i64 (wordCmp xs ys))) := by
  subst hn1; subst hn2
  have Ho := Lib.hid (or_words xs ys)
  go_enter Tryz.func167, Tryz.ntmps167
  go_wp2_with fail
  refine (cw_Compare _ _ _).mono ?_
  rintro e w1 ⟨rfl, hs1⟩
  go_wp2_with fail
  refine (slices_Compare_any g1 o1 xs.length c1 g2 o2 ys.length c2 xs ys w1 rfl rfl (by omega) (hcx.still hs1) (hcy.still hs1)).mono ?_
  rintro e w2 ⟨rfl, hs2⟩
  generalize sliceCmp xs ys = z at *
  generalize cmpI (xs.length : Int) (ys.length : Int) = y at *
  have Hs1 := Lib.hid hs1; have Hs2 := Lib.hid hs2
  clear hs1 hs2
  obtain ⟨w3, hw3⟩ : ∃ w3, w3 = w2.alloc (.cells #[.int .i64 y, .int .i64 z] 3) := ⟨_, rfl⟩
  have hc3 : Cells w3 w2.heap.size 0 [y, z] := by
    obtain ⟨q1, q2⟩ : w3.cell? ⟨w2.heap.size, 0, none⟩ = some (.int .i64 y) ∧ w3.cell? ⟨w2.heap.size, 1, none⟩ = some (.int .i64 z) := by
      have hh : w3.heap[w2.heap.size]? = some (.cells #[.int .i64 y, .int .i64 z] 3 (0, 0)) := by rw [hw3]; exact heap_alloc_new _ _
      constructor <;> simp [World.cell?, hh]
    intro j hj
    have : j = 0 ∨ j = 1 := by simp at hj; omega
    rcases this with rfl | rfl
    · exact q1
    · exact q2
  have hcall := cw_Or w2.heap.size 0 2 2 [y, z] w3 rfl (by simp) hc3
  rw [hw3, Ho.out] at hcall
  have Hcall := Lib.hid hcall
  clear hcall hc3 hw3
  go_wp2_with fail
  refine Hcall.out.mono ?_
  rintro e w4 ⟨rfl, hs4⟩
  go_wp2_with fail
  go_ret
  refine ⟨rfl, ?_⟩
  obtain ⟨m1, e1⟩ := Hs1.out
  obtain ⟨m2, e2⟩ := Hs2.out
  obtain ⟨m4, e4⟩ := hs4
  refine ⟨.cells #[.int .i64 y, .int .i64 z] 3, m1 + m2 + m4, ?_⟩
  rw [e4, e2, e1, World.drewN_drewN]
  show ((w.alloc _).drewN (m1 + m2)).drewN m4 = _
  rw [World.drewN_drewN]
end Go.Proofs.YtdedkfbiookofaaGreatDoor
namespace Go.Proofs.YtdedkfbiookofaaGreatDoor
set_option maxRecDepth 100000
open Go.RowKit Game
def inTo (l : List (List Int)) (r : List Int) (k : Nat) : Prop := ∀ j, j < k → l.getD j [] ≠ r
theorem inTo_all {l : List (List Int)} {r : List Int} (h : inTo l r l.length) : decide (r ∈ l) = false := by
  apply decide_eq_false
  intro hm
  obtain ⟨t, ht, e⟩ := List.mem_iff_getElem.1 hm
  exact h t ht (by simp [List.getD, ht, e])
theorem inTo_some {l : List (List Int)} {r : List Int} {k : Nat} (hk : k < l.length) (h : l.getD k [] = r) : decide (r ∈ l) = true := by
  apply decide_eq_true
  rw [← h]; simp [List.getD, hk]
set_option maxHeartbeats 2000000 in
theorem spec_l7In_any (g o n cp g1 o1 n1 c1 : Nat) (l : List (List Int)) (r : List Int) (w : World) (hn : l.length = n) (hn1 : r.length = n1) (hl : l.length ≤ 1048576) (hrl : ∀ j, j < l.length → (l.getD j []).length ≤ 1048576)
    (hr : Rows2 w g o l) (hc1 : Cells w g1 o1 r) :
    Calls Tryz.prog 100 #[(Value.slice (some ⟨g, o, none⟩) n cp), (Value.slice (some ⟨g1, o1, none⟩) n1 c1)] w (Reads w (.bool (decide (r ∈ l)))) := by
  subst hn; subst hn1
  go_enter Tryz.func100, Tryz.ntmps100
  go_wp2
  go_loopw [5] (fun i wr => ∃ k : Nat, k ≤ l.length ∧ i = .int .i64 k ∧ Hid (inTo l r k) ∧ ∃ m, wr = w.drewN m) (fun i _ => l.length - (intOf i).toNat)
  case atStart => exact ⟨0, Nat.zero_le _, rfl, fun j hj => absurd hj (by omega), (by first | exact ⟨_, rfl⟩ | exact ⟨0, rfl⟩ | exact still2 _ _ _ | exact still3 _ _ _ _)⟩
  case round =>
    obtain ⟨k, hk, rfl, hin, m, rfl⟩ := hrel
    by_cases hlt : k < l.length
    · obtain ⟨gj, oj, cj, q1, q2, q3, q4⟩ := hr k hlt
      have hlk := hrl k hlt
      have HY : Hid (l.getD k [] ≠ r → inTo l r (k + 1)) := fun h j hj => by
        by_cases e : j = k
        · subst e; exact h
        · exact hin.out j (by omega)
      have HX : Hid (l.getD k [] = r → decide (r ∈ l) = true) := inTo_some hlt
      generalize l.getD k [] = x at *
      have hcall := spec_EqualWords_any gj oj x.length cj g1 o1 r.length c1 x r (w.drewN m) rfl rfl (by omega) q4 hc1
      by_cases e : x = r
      · have hd := HX.out e
        rw [decide_eq_true e] at hcall
        have Hd := Lib.hid hd; have He := Lib.hid e; have Hcall := Lib.hid hcall
        clear hd hcall e
        go_wp2_with fail
        refine Hcall.out.mono ?_
        rintro e w2 ⟨rfl, m2, rfl⟩
        go_wp2_with fail
        go_ret
        exact ⟨ret_bool Hd.out.symm, (by first | exact ⟨_, rfl⟩ | exact ⟨0, rfl⟩ | exact still2 _ _ _ | exact still3 _ _ _ _)⟩
      · have hd := HY.out e
        rw [decide_eq_false e] at hcall
        have Hd := Lib.hid hd; have He := Lib.hid e; have Hcall := Lib.hid hcall
        clear hd hcall e
        go_wp2_with fail
        refine Hcall.out.mono ?_
        rintro e w2 ⟨rfl, m2, rfl⟩
        go_wp2_with fail
        go_roundw
        case rel => exact ⟨k + 1, by omega, by go_num, Hd.out, (by first | exact ⟨_, rfl⟩ | exact ⟨0, rfl⟩ | exact still2 _ _ _ | exact still3 _ _ _ _)⟩
        case measure => simp [intOf]; omega
    · obtain rfl : k = l.length := by omega
      have hf := inTo_all hin.out
      have Hf := Lib.hid hf; clear hf
      go_wp2
      go_ret
      exact ⟨ret_bool Hf.out.symm, (by first | exact ⟨_, rfl⟩ | exact ⟨0, rfl⟩ | exact still2 _ _ _ | exact still3 _ _ _ _)⟩
end Go.Proofs.YtdedkfbiookofaaGreatDoor
namespace Go.Proofs.YtdedkfbiookofaaGreatDoor
set_option maxRecDepth 100000
open Go.RowKit
/-- the search: roots with their coroots -/
abbrev RPair := List Int × List Int
section
variable {c t : List (List Int)} {Q : List RPair} {k i : Nat}
end
end Go.Proofs.YtdedkfbiookofaaGreatDoor
namespace Go.Proofs.YtdedkfbiookofaaGreatDoor
set_option maxRecDepth 100000
open Go.RowKit Game
end Go.Proofs.YtdedkfbiookofaaGreatDoor
namespace Go.Proofs.YtdedkfbiookofaaGreatDoor
set_option maxRecDepth 100000
open Go.RowKit
theorem step_append_ints {ops : Array Oper} {W : World} {o : Oper} {a : Act} {K : Act → World → Prop} {Q : Exit → Act → World → Prop} {E : Prop} (hgd : o.guard = none) (s x : Operand)
    (ho : o.op = .call { callee := .builtin .append, args := #[s, x], argTypes := #[25, 25] })
    (B g cap n g2 o2 n2 c2 : Nat) (xs ys : List Int) (hn : xs.length = n) (hn2 : ys.length = n2) (hown : Own W B g cap xs) (hc : Cells W g2 o2 ys) (hs : a.eval s = (Value.slice (some ⟨g, 0, none⟩) n cap)) (hx : a.eval x = (Value.slice (some ⟨g2, o2, none⟩) n2 c2)) (hlen : n + n2 ≤ 1099511627776)
    (h : ∀ g' cap' w', Own w' B g' cap' (xs ++ ys) → W.grownBy w' (some g) → (g' = g ∨ g' = W.heap.size) → K (a.put o.dst (Value.slice (some ⟨g', 0, none⟩) (n + n2) cap')) w') :
    if Region.wanted o (yielded ops a.tmps) = true then Oper.wp Tryz.prog o a W K Q else E := by
  subst hn; subst hn2
  have hw : Region.wanted o (yielded ops a.tmps) = true := by simp [Region.wanted, hgd]
  rw [if_pos hw]
  obtain ⟨g', cap', w', hr, h1, h2, h3⟩ := run_append_ints hown hc (c2 := c2) hlen o.type
  unfold Oper.wp execOp
  simp only [ho, resolve, invoke, builtin, Sem.run_bind, Sem.run_pure, Result.andThen_ok, List.map_toArray, List.map_cons, List.map_nil, hs, hx, hr]
  exact h g' cap' w' h1 h2 h3
theorem step_append_intsA {ops : Array Oper} {W : World} {o : Oper} {a : Act} {K : Act → World → Prop} {Q : Exit → Act → World → Prop} {E : Prop} (hgd : o.guard = none) (s x : Operand)
    (ho : o.op = .call { callee := .builtin .append, args := #[s, x], argTypes := #[25, 25] })
    (B g cap n n2 c2 : Nat) (A : Option Addr) (xs ys : List Int) (hn : xs.length = n) (hn2 : ys.length = n2) (hown : Own W B g cap xs) (hs : a.eval s = (Value.slice (some ⟨g, 0, none⟩) n cap)) (hx : a.eval x = .slice A n2 c2) (hc : ∃ g2 o2, A = some ⟨g2, o2, none⟩ ∧ Cells W g2 o2 ys) (hlen : n + n2 ≤ 1099511627776)
    (h : ∀ g' cap' w', Own w' B g' cap' (xs ++ ys) → W.grownBy w' (some g) → (g' = g ∨ g' = W.heap.size) → K (a.put o.dst (Value.slice (some ⟨g', 0, none⟩) (n + n2) cap')) w') :
    if Region.wanted o (yielded ops a.tmps) = true then Oper.wp Tryz.prog o a W K Q else E := by
  obtain ⟨g2, o2, rfl, hc2⟩ := hc
  exact step_append_ints hgd s x ho B g cap n g2 o2 n2 c2 xs ys hn hn2 hown hc2 hs hx hlen h
theorem step_append_row {ops : Array Oper} {w : World} {o : Oper} {a : Act} {K : Act → World → Prop} {Q : Exit → Act → World → Prop} {E : Prop} (hgd : o.guard = none) (s x : Operand)
    (ho : o.op = .call { callee := .builtin .append, args := #[s, x], argTypes := #[24, 24] })
    (B g cap n H : Nat) (rs : List RowRef) (r : RowRef) (W : World) (hn : rs.length = n) (hW : W = w.alloc (.cells #[rowVal r] 25)) (hH : w.heap.size = H) (hown : OwnRows w B g cap rs) (hr : Own w B r.1 r.2.1 r.2.2) (hne : ∀ s ∈ rs, s.1 ≠ r.1)
    (hs : a.eval s = (Value.slice (some ⟨g, 0, none⟩) n cap)) (hx : a.eval x = (Value.slice (some ⟨H, 0, none⟩) 1 1)) (hlen : n + 1 ≤ 1048576)
    (h : ∀ g' cap' w', OwnRows w' B g' cap' (rs ++ [r]) → w.grownBy w' (some g) → (g' = g ∨ w.heap.size < g') → K (a.put o.dst (Value.slice (some ⟨g', 0, none⟩) (n + 1) cap')) w') :
    if Region.wanted o (yielded ops a.tmps) = true then Oper.wp Tryz.prog o a W K Q else E := by
  subst hn; subst hW; subst hH
  have hw : Region.wanted o (yielded ops a.tmps) = true := by simp [Region.wanted, hgd]
  rw [if_pos hw]
  have hl : (rs.map rowVal).length = rs.length := by simp
  obtain ⟨g', cap', w', hrun, h2, h3, h4⟩ := run_append_row hown.1 (rowVal r) rfl (by rw [hl]; exact hlen) o.type
  rw [hl] at hrun
  unfold Oper.wp execOp
  simp only [ho, resolve, invoke, builtin, Sem.run_bind, Sem.run_pure, Result.andThen_ok, List.map_toArray, List.map_cons, List.map_nil, hs, hx, hrun]
  exact h g' cap' w' (hown.push hr hne h2 h3) h3 h4
end Go.Proofs.YtdedkfbiookofaaGreatDoor
namespace Go.Proofs.YtdedkfbiookofaaGreatDoor
set_option maxRecDepth 100000
open Go.RowKit Game
def lettersB (n : Nat) (l : List Int) : Bool := l.all fun x => decide (0 ≤ x) && decide (x < (n : Int))
def isWordB (c : List (List Int)) (l : List Int) : Bool := decide (IsC c) && (decide (l.length ≤ 15) && lettersB c.length l)
theorem letters_out {n : Nat} {l : List Int} {k : Nat} (hk : k < l.length) (h : ¬ (0 ≤ l.getD k 0 ∧ l.getD k 0 < (n : Int))) : lettersB n l = false := by
  have e : l.getD k 0 = l[k] := by simp [List.getD, hk]
  rw [e] at h
  rw [← Bool.not_eq_true]
  intro ht
  have := List.all_eq_true.1 ht l[k] (List.getElem_mem hk)
  simp only [Bool.and_eq_true, decide_eq_true_eq] at this
  exact h this
theorem letters_in {n : Nat} {l : List Int} (h : ∀ k, k < l.length → 0 ≤ l.getD k 0 ∧ l.getD k 0 < (n : Int)) : lettersB n l = true := by
  refine List.all_eq_true.2 fun x hx => ?_
  obtain ⟨k, hk, rfl⟩ := List.getElem_of_mem hx
  have := h k hk
  have e : l.getD k 0 = l[k] := by simp [List.getD, hk]
  rw [e] at this
  simpa using this
theorem isWordB_of {c : List (List Int)} {l : List Int} (h : isWordB c l = true) : IsC c ∧ l.length ≤ 15 ∧ ∀ x ∈ l, 0 ≤ x ∧ x < (c.length : Int) := by
  simp only [isWordB, Bool.and_eq_true, decide_eq_true_eq] at h
  refine ⟨h.1, h.2.1, fun x hx => ?_⟩
  have := List.all_eq_true.1 h.2.2 x hx
  simpa using this
set_option maxHeartbeats 1000000 in
theorem impl_isWordOf_any (gc oc n cc g o m cp : Nat) (l : List Int) (w : World) (hm : l.length = m) (hl : l.length ≤ 1048576) (hc : Cells w g o l) :
    Calls Tryz.prog 90 #[(Value.slice (some ⟨gc, oc, none⟩) n cc), (Value.slice (some ⟨g, o, none⟩) m cp)] w (Reads w (.bool (lettersB n l))) := by
  subst hm
  go_enter Tryz.func90, Tryz.ntmps90
  go_wp2
  go_loopw [9] (fun i wr => ∃ k : Nat, k ≤ l.length ∧ i = .int .i64 k ∧ Hid (∀ j, j < k → 0 ≤ l.getD j 0 ∧ l.getD j 0 < (n : Int)) ∧ ∃ q, wr = w.drewN q) (fun i _ => l.length - (intOf i).toNat)
  case atStart => exact ⟨0, Nat.zero_le _, rfl, fun j h => absurd h (by omega), (by first | exact ⟨_, rfl⟩ | exact ⟨0, rfl⟩ | exact still2 _ _ _ | exact still3 _ _ _ _)⟩
  case round =>
    obtain ⟨k, hk, rfl, hp, q, rfl⟩ := hrel
    by_cases hlt : k < l.length
    · have c1 := hc k hlt
      have HA : Hid (¬ (0 ≤ l.getD k 0 ∧ l.getD k 0 < (n : Int)) → lettersB n l = false) := letters_out hlt
      have HB : Hid (0 ≤ l.getD k 0 ∧ l.getD k 0 < (n : Int) → ∀ j, j < k + 1 → 0 ≤ l.getD j 0 ∧ l.getD j 0 < (n : Int)) := fun h j hj => by
        by_cases e : j = k
        · subst e; exact h
        · exact hp.out j (by omega)
      generalize l.getD k 0 = x at *
      have hcall := impl_isPoint_any gc oc n cc x (w.drewN q)
      by_cases hx : 0 ≤ x ∧ x < (n : Int)
      · have hT : (decide (0 ≤ x) && decide (x < (n : Int))) = true := by simpa using hx
        rw [hT] at hcall
        have hb := HB.out hx
        have Hb := Lib.hid hb; have Hcall := Lib.hid hcall
        clear hb hcall hT HA HB hp hx
        go_wp2_with fail
        refine Hcall.out.mono ?_
        rintro e w2 ⟨rfl, q2, rfl⟩
        go_wp2_with fail
        go_roundw
        case rel => exact ⟨k + 1, by omega, by go_num, Hb.out, (by first | exact ⟨_, rfl⟩ | exact ⟨0, rfl⟩ | exact still2 _ _ _ | exact still3 _ _ _ _)⟩
        case measure => simp [intOf]; omega
      · have hT : (decide (0 ≤ x) && decide (x < (n : Int))) = false := by
          rw [← Bool.not_eq_true, Bool.and_eq_true, decide_eq_true_eq, decide_eq_true_eq]; exact hx
        rw [hT] at hcall
        have ha := HA.out hx
        have Ha := Lib.hid ha; have Hcall := Lib.hid hcall
        clear ha hcall hT HA HB hp hx
        go_wp2_with fail
        refine Hcall.out.mono ?_
        rintro e w2 ⟨rfl, q2, rfl⟩
        go_wp2_with fail
        go_ret
        exact ⟨ret_bool Ha.out.symm, (by first | exact ⟨_, rfl⟩ | exact ⟨0, rfl⟩ | exact still2 _ _ _ | exact still3 _ _ _ _)⟩
    · obtain rfl : k = l.length := by omega
      have Hf : Hid (lettersB n l = true) := letters_in hp.out
      clear hp
      go_wp2
      go_ret
      exact ⟨ret_bool Hf.out.symm, (by first | exact ⟨_, rfl⟩ | exact ⟨0, rfl⟩ | exact still2 _ _ _ | exact still3 _ _ _ _)⟩
set_option maxHeartbeats 1000000 in
theorem impl_IsWord_any (gc oc n cc g o m cp : Nat) (c : List (List Int)) (l : List Int) (w : World) (hn : c.length = n) (hm : l.length = m) (hx : c.length ≤ 1048576) (hrl : ∀ j, j < c.length → (c.getD j []).length ≤ 1048576) (hl : l.length ≤ 1048576) (hr : Rows2 w gc oc c) (hc : Cells w g o l) :
    Calls Tryz.prog 44 #[(Value.slice (some ⟨gc, oc, none⟩) n cc), (Value.slice (some ⟨g, o, none⟩) m cp)] w (Reads w (.bool (isWordB c l))) := by
  subst hn; subst hm
  have hcall := impl_IsCartan gc oc _ cc c w rfl (by omega) (fun j hj => by have := hrl j hj; omega) hr
  have hcall2 := fun W (hW : ∃ q, W = w.drewN q) => impl_isWordOf_any gc oc c.length cc g o _ cp l W rfl hl (hc.still hW)
  have Hcall2 := Lib.hid hcall2
  clear hr hc hcall2 hrl
  by_cases hC : IsC c
  · rw [decide_eq_true hC] at hcall
    have Hcall := Lib.hid hcall
    by_cases h15 : l.length ≤ 15
    · have hv : isWordB c l = lettersB c.length l := by unfold isWordB; rw [decide_eq_true hC, decide_eq_true h15]; simp
      rw [hv]
      have h15I : (l.length : Int) ≤ 15 := by omega
      clear hcall hv
      generalize lettersB c.length l = b at *
      go_enter Tryz.func44, Tryz.ntmps44
      go_wp2_with fail
      refine Hcall.out.mono ?_
      rintro e w2 ⟨rfl, hs2⟩
      have Hc3 := Lib.hid (Hcall2.out w2 hs2)
      go_wp2_with fail
      refine Hc3.out.mono ?_
      rintro e w3 ⟨rfl, hs3⟩
      have hs := still_trans hs2 hs3
      cases b
      all_goals
        go_wp2_with fail
        go_ret
        exact ⟨rfl, hs⟩
    · have hv : isWordB c l = false := by unfold isWordB; rw [decide_eq_false h15]; simp
      have Hv := Lib.hid hv
      have h15I : (15 : Int) < (l.length : Int) := by omega
      clear hcall hv h15
      go_enter Tryz.func44, Tryz.ntmps44
      go_wp2_with fail
      refine Hcall.out.mono ?_
      rintro e w2 ⟨rfl, hs2⟩
      go_wp2_with fail
      go_ret
      exact ⟨ret_bool Hv.out.symm, hs2⟩
  · rw [decide_eq_false hC] at hcall
    have Hcall := Lib.hid hcall
    have hv : isWordB c l = false := by unfold isWordB; rw [decide_eq_false hC]; simp
    have Hv := Lib.hid hv
    clear hcall hv
    go_enter Tryz.func44, Tryz.ntmps44
    go_wp2_with fail
    refine Hcall.out.mono ?_
    rintro e w2 ⟨rfl, hs2⟩
    go_wp2_with fail
    go_ret
    exact ⟨ret_bool Hv.out.symm, hs2⟩
set_option maxHeartbeats 1000000 in
theorem spec_IsWord_any (gc oc n cc g o m cp : Nat) (c : List (List Int)) (l : List Int) (w : World) (hn : c.length = n) (hm : l.length = m) (hx : c.length ≤ 1048576) (hrl : ∀ j, j < c.length → (c.getD j []).length ≤ 1048576) (hl : l.length ≤ 1048576) (hr : Rows2 w gc oc c) (hc : Cells w g o l) :
    Calls Tryz.prog 47 #[(Value.slice (some ⟨gc, oc, none⟩) n cc), (Value.slice (some ⟨g, o, none⟩) m cp)] w (Reads w (.bool (isWordB c l))) := by
  subst hn; subst hm
  have hcall2 := fun W (hW : ∃ q, W = w.drewN q) => spec_IsCartan gc oc _ cc c W rfl (by omega) (fun j hj => by have := hrl j hj; omega) (hr.still hW)
  have Hcall2 := Lib.hid hcall2
  clear hr hcall2 hrl
  go_enter Tryz.func47, Tryz.ntmps47
  go_wp2
  go_loopw [5] (fun i wr => ∃ k : Nat, k ≤ l.length ∧ i = .int .i64 k ∧ Hid (∀ j, j < k → 0 ≤ l.getD j 0 ∧ l.getD j 0 < (c.length : Int)) ∧ ∃ q, wr = w.drewN q) (fun i _ => l.length - (intOf i).toNat)
  case atStart => exact ⟨0, Nat.zero_le _, rfl, fun j h => absurd h (by omega), (by first | exact ⟨_, rfl⟩ | exact ⟨0, rfl⟩ | exact still2 _ _ _ | exact still3 _ _ _ _)⟩
  case round =>
    obtain ⟨k, hk, rfl, hp, q, rfl⟩ := hrel
    by_cases hlt : k < l.length
    · have c1 := hc k hlt
      have HA : Hid (¬ (0 ≤ l.getD k 0 ∧ l.getD k 0 < (c.length : Int)) → isWordB c l = false) := fun h => by unfold isWordB; rw [letters_out hlt h]; simp
      have HB : Hid (0 ≤ l.getD k 0 ∧ l.getD k 0 < (c.length : Int) → ∀ j, j < k + 1 → 0 ≤ l.getD j 0 ∧ l.getD j 0 < (c.length : Int)) := fun h j hj => by
        by_cases e : j = k
        · subst e; exact h
        · exact hp.out j (by omega)
      generalize l.getD k 0 = x at *
      have hcall := spec_l1In x 0 ((c.length : Int) - 1) (w.drewN q)
      by_cases hx : 0 ≤ x ∧ x < (c.length : Int)
      · have hT : (decide (0 ≤ x) && decide (x ≤ (c.length : Int) - 1)) = true := by simp only [Bool.and_eq_true, decide_eq_true_eq]; omega
        rw [hT] at hcall
        have hb := HB.out hx
        have Hb := Lib.hid hb; have Hcall := Lib.hid hcall
        clear hb hcall hT HA HB hp hx
        go_wp2_with fail
        refine Hcall.out.mono ?_
        rintro e w2 ⟨rfl, q2, rfl⟩
        go_wp2_with fail
        go_roundw
        case rel => exact ⟨k + 1, by omega, by go_num, Hb.out, (by first | exact ⟨_, rfl⟩ | exact ⟨0, rfl⟩ | exact still2 _ _ _ | exact still3 _ _ _ _)⟩
        case measure => simp [intOf]; omega
      · have hT : (decide (0 ≤ x) && decide (x ≤ (c.length : Int) - 1)) = false := by
          rw [← Bool.not_eq_true, Bool.and_eq_true, decide_eq_true_eq, decide_eq_true_eq]; omega
        rw [hT] at hcall
        have ha := HA.out hx
        have Ha := Lib.hid ha; have Hcall := Lib.hid hcall
        clear ha hcall hT HA HB hp hx
        go_wp2_with fail
        refine Hcall.out.mono ?_
        rintro e w2 ⟨rfl, q2, rfl⟩
        go_wp2_with fail
        go_ret
        exact ⟨ret_bool Ha.out.symm, (by first | exact ⟨_, rfl⟩ | exact ⟨0, rfl⟩ | exact still2 _ _ _ | exact still3 _ _ _ _)⟩
    · obtain rfl : k = l.length := by omega
      have hf : lettersB c.length l = true := letters_in hp.out
      have hcall := Hcall2.out (w.drewN q) (by first | exact ⟨_, rfl⟩ | exact ⟨0, rfl⟩ | exact still2 _ _ _ | exact still3 _ _ _ _)
      clear hp
      by_cases hC : IsC c
      · have hv : isWordB c l = decide (l.length ≤ 15) := by unfold isWordB; rw [decide_eq_true hC, hf]; simp
        rw [decide_eq_true hC] at hcall
        have Hcall := Lib.hid hcall; have Hv := Lib.hid hv
        clear hcall hv hf
        by_cases h15 : l.length ≤ 15
        · have h15I : (l.length : Int) ≤ 15 := by omega
          go_wp2_with fail
          refine Hcall.out.mono ?_
          rintro e w2 ⟨rfl, q2, rfl⟩
          go_wp2_with fail
          go_ret
          exact ⟨ret_bool (by rw [Hv.out, decide_eq_true h15]), (by first | exact ⟨_, rfl⟩ | exact ⟨0, rfl⟩ | exact still2 _ _ _ | exact still3 _ _ _ _)⟩
        · have h15I : (15 : Int) < (l.length : Int) := by omega
          go_wp2_with fail
          refine Hcall.out.mono ?_
          rintro e w2 ⟨rfl, q2, rfl⟩
          go_wp2_with fail
          go_ret
          exact ⟨ret_bool (by rw [Hv.out]; simp; omega), (by first | exact ⟨_, rfl⟩ | exact ⟨0, rfl⟩ | exact still2 _ _ _ | exact still3 _ _ _ _)⟩
      · have hv : isWordB c l = false := by unfold isWordB; rw [decide_eq_false hC]; simp
        rw [decide_eq_false hC] at hcall
        have Hcall := Lib.hid hcall; have Hv := Lib.hid hv
        clear hcall hv hf
        go_wp2_with fail
        refine Hcall.out.mono ?_
        rintro e w2 ⟨rfl, q2, rfl⟩
        go_wp2_with fail
        go_ret
        exact ⟨ret_bool Hv.out.symm, (by first | exact ⟨_, rfl⟩ | exact ⟨0, rfl⟩ | exact still2 _ _ _ | exact still3 _ _ _ _)⟩
end Go.Proofs.YtdedkfbiookofaaGreatDoor
