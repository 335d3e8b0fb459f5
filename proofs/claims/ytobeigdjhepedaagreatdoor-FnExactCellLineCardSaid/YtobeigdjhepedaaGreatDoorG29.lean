/- Comparisons of integers, of lists, of words: contracts. At every finite type there is a row of numbers that every column of the matrix makes positive: by enumeration. Plain law. Orbits of weights: dominant weights by raising, what both searches find. Plain law. -/
import Derived.Test.YtobeigdjhepedaaGreatDoorG05
import Derived.Test.YtobeigdjhepedaaGreatDoorG20
import Derived.Test.YtobeigdjhepedaaGreatDoorG28
namespace Go.Proofs.YtobeigdjhepedaaGreatDoor
set_option maxRecDepth 100000
open Go.RowKit Game

theorem cw_isNaN (x : Int) (w : World) : Calls Tryz.prog 221 #[.int .i64 x] w (Reads w (.bool false)) := by
  go_enter Tryz.func221, Tryz.ntmps221
  go_wp2
  go_ret
  exact ⟨ret_bool (by simp), 0, rfl⟩
def cmpI (x y : Int) : Int := if x < y then -1 else if y < x then 1 else 0
set_option maxHeartbeats 1000000 in
theorem cw_Compare (x y : Int) (w : World) : Calls Tryz.prog 193 #[.int .i64 x, .int .i64 y] w (Reads w (.int .i64 (cmpI x y))) := by
  have H : Hid (cmpI x y = if x < y then -1 else if y < x then 1 else 0) := rfl
  rcases Int.lt_trichotomy x y with h | h | h
  · have hv : cmpI x y = -1 := by rw [H.out, if_pos h]
    have Hv := Lib.hid hv; clear hv
    go_enter Tryz.func193, Tryz.ntmps193
    go_wp2_with fail
    refine (cw_isNaN x _).mono ?_
    rintro e w1 ⟨rfl, m1, rfl⟩
    go_wp2_with fail
    refine (cw_isNaN y _).mono ?_
    rintro e w2 ⟨rfl, m2, rfl⟩
    go_wp2_with fail
    go_ret
    exact ⟨ret_int Hv.out.symm, (by first | exact ⟨_, rfl⟩ | exact ⟨0, rfl⟩ | exact still2 _ _ _ | exact still3 _ _ _ _)⟩
  · have hv : cmpI x y = 0 := by rw [H.out, if_neg (by omega), if_neg (by omega)]
    have Hv := Lib.hid hv; clear hv
    have h1 : ¬ x < y := by omega
    have h2 : ¬ y < x := by omega
    have Hh := Lib.hid h; clear h
    go_enter Tryz.func193, Tryz.ntmps193
    go_wp2_with fail
    refine (cw_isNaN x _).mono ?_
    rintro e w1 ⟨rfl, m1, rfl⟩
    go_wp2_with fail
    refine (cw_isNaN y _).mono ?_
    rintro e w2 ⟨rfl, m2, rfl⟩
    go_wp2_with fail
    go_ret
    exact ⟨ret_int Hv.out.symm, (by first | exact ⟨_, rfl⟩ | exact ⟨0, rfl⟩ | exact still2 _ _ _ | exact still3 _ _ _ _)⟩
  · have hv : cmpI x y = 1 := by rw [H.out, if_neg (by omega), if_pos h]
    have Hv := Lib.hid hv; clear hv
    have h1 : ¬ x < y := by omega
    go_enter Tryz.func193, Tryz.ntmps193
    go_wp2_with fail
    refine (cw_isNaN x _).mono ?_
    rintro e w1 ⟨rfl, m1, rfl⟩
    go_wp2_with fail
    refine (cw_isNaN y _).mono ?_
    rintro e w2 ⟨rfl, m2, rfl⟩
    go_wp2_with fail
    go_ret
    exact ⟨ret_int Hv.out.symm, (by first | exact ⟨_, rfl⟩ | exact ⟨0, rfl⟩ | exact still2 _ _ _ | exact still3 _ _ _ _)⟩

def sliceCmp : List Int → List Int → Int
  | [], [] => 0
  | [], _ :: _ => -1
  | _ :: _, [] => 1
  | x :: a, y :: b => if x < y then -1 else if y < x then 1 else sliceCmp a b
theorem sliceCmp_same : ∀ {a b : List Int}, a.length = b.length → sliceCmp a b = lexCmp a b
  | [], [], _ => rfl
  | [], _ :: _, h => by simp at h
  | _ :: _, [], h => by simp at h
  | x :: a, y :: b, h => by simp only [sliceCmp, lexCmp]; rw [sliceCmp_same (by simpa using h)]
theorem sliceCmp_drop {a b : List Int} {k : Nat} (h1 : k < a.length) (h2 : k < b.length) : sliceCmp (a.drop k) (b.drop k) = if a[k] < b[k] then -1 else if b[k] < a[k] then 1 else sliceCmp (a.drop (k + 1)) (b.drop (k + 1)) := by
  have e1 : a.drop k = a[k] :: a.drop (k + 1) := List.drop_eq_getElem_cons h1
  have e2 : b.drop k = b[k] :: b.drop (k + 1) := List.drop_eq_getElem_cons h2
  rw [e1, e2]; rfl
set_option maxHeartbeats 2000000 in
theorem slices_Compare_any (g1 o1 n1 c1 g2 o2 n2 c2 : Nat) (xs ys : List Int) (w : World) (hn1 : xs.length = n1) (hn2 : ys.length = n2) (hx : xs.length ≤ 1099511627776)
    (hcx : Cells w g1 o1 xs) (hcy : Cells w g2 o2 ys) :
    Calls Tryz.prog 194 #[(Value.slice (some ⟨g1, o1, none⟩) n1 c1), (Value.slice (some ⟨g2, o2, none⟩) n2 c2)] w (Reads w (.int .i64 (sliceCmp xs ys))) := by
  subst hn1; subst hn2
  go_enter Tryz.func194, Tryz.ntmps194
  go_wp2
  go_loopw [5, 6, 7, 8, 11] (fun _ _ _ _ i wr => ∃ k : Nat, k ≤ xs.length ∧ k ≤ ys.length ∧ i = .int .i64 k ∧ Hid (sliceCmp (xs.drop k) (ys.drop k) = sliceCmp xs ys) ∧ ∃ m, wr = w.drewN m) (fun _ _ _ _ i _ => xs.length - (intOf i).toNat)
  case atStart => exact ⟨0, Nat.zero_le _, Nat.zero_le _, rfl, rfl, (by first | exact ⟨_, rfl⟩ | exact ⟨0, rfl⟩ | exact still2 _ _ _ | exact still3 _ _ _ _)⟩
  case round =>
    obtain ⟨k, hk, hk2, rfl, he, m, rfl⟩ := hrel
    by_cases hlt : k < xs.length
    · by_cases hlt2 : k < ys.length
      · have q1 := hcx k hlt
        have q2 := hcy k hlt2
        have hd := sliceCmp_drop hlt hlt2
        have e1 : xs.getD k 0 = xs[k] := by simp [List.getD, hlt]
        have e2 : ys.getD k 0 = ys[k] := by simp [List.getD, hlt2]
        rw [he.out] at hd
        rw [← e1, ← e2] at hd
        clear e1 e2
        generalize xs.getD k 0 = x at *
        generalize ys.getD k 0 = y at *
        have Hd := Lib.hid hd; clear hd
        have hcall := cw_Compare x y (w.drewN m)
        rcases Int.lt_trichotomy x y with h | h | h
        · have hc : cmpI x y = -1 := by unfold cmpI; rw [if_pos h]
          have hv : sliceCmp xs ys = -1 := by rw [Hd.out, if_pos h]
          rw [hc] at hcall
          have Hcall := Lib.hid hcall; have Hv := Lib.hid hv; have Hh := Lib.hid h
          clear hcall hv hc h
          go_wp2_with fail
          refine Hcall.out.mono ?_
          rintro e w2 ⟨rfl, m2, rfl⟩
          go_wp2_with fail
          go_ret
          exact ⟨ret_int Hv.out.symm, (by first | exact ⟨_, rfl⟩ | exact ⟨0, rfl⟩ | exact still2 _ _ _ | exact still3 _ _ _ _)⟩
        · have hc : cmpI x y = 0 := by unfold cmpI; rw [if_neg (by omega), if_neg (by omega)]
          have hv : sliceCmp (xs.drop (k + 1)) (ys.drop (k + 1)) = sliceCmp xs ys := by rw [Hd.out, if_neg (by omega), if_neg (by omega)]
          rw [hc] at hcall
          have Hcall := Lib.hid hcall; have Hv := Lib.hid hv; have Hh := Lib.hid h
          clear hcall hv hc h
          go_wp2_with fail
          refine Hcall.out.mono ?_
          rintro e w2 ⟨rfl, m2, rfl⟩
          go_wp2_with fail
          go_roundw
          case rel => exact ⟨k + 1, by omega, by omega, by go_num, Hv.out, (by first | exact ⟨_, rfl⟩ | exact ⟨0, rfl⟩ | exact still2 _ _ _ | exact still3 _ _ _ _)⟩
          case measure => simp [intOf]; omega
        · have hc : cmpI x y = 1 := by unfold cmpI; rw [if_neg (by omega), if_pos h]
          have hv : sliceCmp xs ys = 1 := by rw [Hd.out, if_neg (by omega), if_pos h]
          rw [hc] at hcall
          have Hcall := Lib.hid hcall; have Hv := Lib.hid hv; have Hh := Lib.hid h
          clear hcall hv hc h
          go_wp2_with fail
          refine Hcall.out.mono ?_
          rintro e w2 ⟨rfl, m2, rfl⟩
          go_wp2_with fail
          go_ret
          exact ⟨ret_int Hv.out.symm, (by first | exact ⟨_, rfl⟩ | exact ⟨0, rfl⟩ | exact still2 _ _ _ | exact still3 _ _ _ _)⟩
      · have hv : sliceCmp xs ys = 1 := by
          rw [← he.out, List.drop_eq_getElem_cons hlt, show ys.drop k = [] from List.drop_eq_nil_iff.2 (by omega)]; rfl
        have q1 := hcx k hlt
        have Hv := Lib.hid hv; clear hv
        go_wp2_with fail
        go_ret
        exact ⟨ret_int Hv.out.symm, (by first | exact ⟨_, rfl⟩ | exact ⟨0, rfl⟩ | exact still2 _ _ _ | exact still3 _ _ _ _)⟩
    · by_cases hlt2 : xs.length < ys.length
      · have hv : sliceCmp xs ys = -1 := by
          rw [← he.out, List.drop_eq_getElem_cons (show k < ys.length by omega), show xs.drop k = [] from List.drop_eq_nil_iff.2 (by omega)]; rfl
        have Hv := Lib.hid hv; clear hv
        go_wp2_with fail
        go_ret
        exact ⟨ret_int Hv.out.symm, (by first | exact ⟨_, rfl⟩ | exact ⟨0, rfl⟩ | exact still2 _ _ _ | exact still3 _ _ _ _)⟩
      · have hv : sliceCmp xs ys = 0 := by
          rw [← he.out, show ys.drop k = [] from List.drop_eq_nil_iff.2 (by omega), show xs.drop k = [] from List.drop_eq_nil_iff.2 (by omega)]; rfl
        have Hv := Lib.hid hv; clear hv
        go_wp2_with fail
        go_ret
        exact ⟨ret_int Hv.out.symm, (by first | exact ⟨_, rfl⟩ | exact ⟨0, rfl⟩ | exact still2 _ _ _ | exact still3 _ _ _ _)⟩

def orL : List Int → Int
  | [] => 0
  | x :: l => if x = 0 then orL l else x
theorem orL_drop {l : List Int} {k : Nat} (h : k < l.length) : orL (l.drop k) = if l[k] = 0 then orL (l.drop (k + 1)) else l[k] := by
  rw [List.drop_eq_getElem_cons h]; rfl
set_option maxHeartbeats 1000000 in
theorem cw_Or (g o n cp : Nat) (xs : List Int) (w : World) (hn : xs.length = n) (hx : xs.length ≤ 1048576) (hc : Cells w g o xs) : Calls Tryz.prog 192 #[(Value.slice (some ⟨g, o, none⟩) n cp)] w (Reads w (.int .i64 (orL xs))) := by
  subst hn
  go_enter Tryz.func192, Tryz.ntmps192
  go_wp2
  go_loopw [5, 8] (fun _ i wr => ∃ k : Nat, k ≤ xs.length ∧ i = .int .i64 k ∧ Hid (orL (xs.drop k) = orL xs) ∧ ∃ m, wr = w.drewN m) (fun _ i _ => xs.length - (intOf i).toNat)
  case atStart => exact ⟨0, Nat.zero_le _, rfl, rfl, (by first | exact ⟨_, rfl⟩ | exact ⟨0, rfl⟩ | exact still2 _ _ _ | exact still3 _ _ _ _)⟩
  case round =>
    obtain ⟨k, hk, rfl, he, m, rfl⟩ := hrel
    by_cases hlt : k < xs.length
    · have q1 := hc k hlt
      have hd := orL_drop hlt
      have e1 : xs.getD k 0 = xs[k] := by simp [List.getD, hlt]
      rw [he.out, ← e1] at hd
      clear e1
      generalize xs.getD k 0 = x at *
      by_cases h0 : x = 0
      · rw [if_pos h0] at hd
        have Hd := Lib.hid hd; clear hd
        subst h0
        go_wp2
        go_roundw
        case rel => exact ⟨k + 1, by omega, by go_num, Hd.out.symm, (by first | exact ⟨_, rfl⟩ | exact ⟨0, rfl⟩ | exact still2 _ _ _ | exact still3 _ _ _ _)⟩
        case measure => simp [intOf]; omega
      · rw [if_neg h0] at hd
        have Hd := Lib.hid hd; clear hd
        have hne : (x != 0) = true := by simpa using h0
        go_wp2
        go_ret
        exact ⟨ret_int Hd.out.symm, (by first | exact ⟨_, rfl⟩ | exact ⟨0, rfl⟩ | exact still2 _ _ _ | exact still3 _ _ _ _)⟩
    · have hv : orL xs = 0 := by rw [← he.out, List.drop_eq_nil_iff.2 (by omega)]; rfl
      have Hv := Lib.hid hv; clear hv
      go_wp2
      go_ret
      exact ⟨ret_int Hv.out.symm, (by first | exact ⟨_, rfl⟩ | exact ⟨0, rfl⟩ | exact still2 _ _ _ | exact still3 _ _ _ _)⟩

theorem or_words (xs ys : List Int) : orL [cmpI xs.length ys.length, sliceCmp xs ys] = wordCmp xs ys := by
  have hc : cmpI xs.length ys.length = if xs.length < ys.length then -1 else if ys.length < xs.length then 1 else 0 := by unfold cmpI; simp
  rw [hc]
  unfold wordCmp
  by_cases h1 : xs.length < ys.length
  · rw [if_pos h1, if_pos h1]; rfl
  · rw [if_neg h1, if_neg h1]
    by_cases h2 : ys.length < xs.length
    · rw [if_pos h2, if_pos h2]; rfl
    · rw [if_neg h2, if_neg h2, sliceCmp_same (by omega)]
      simp only [orL, if_true]
      split
      · rename_i h; exact h.symm
      · rfl
/-- the call gives a value; it may draw and lay blocks -/
def Lays (w : World) (v : Value) (e : Ending) (w' : World) : Prop := e = .returned v ∧ ∃ (o : Obj) (q : Nat), w' = (w.alloc o).drewN q
set_option maxHeartbeats 1000000 in
theorem impl_CompareWords_any (g1 o1 n1 c1 g2 o2 n2 c2 : Nat) (xs ys : List Int) (w : World) (hn1 : xs.length = n1) (hn2 : ys.length = n2) (hx : xs.length ≤ 1048576)
    (hcx : Cells w g1 o1 xs) (hcy : Cells w g2 o2 ys) :
    Calls Tryz.prog 168 #[(Value.slice (some ⟨g1, o1, none⟩) n1 c1), (Value.slice (some ⟨g2, o2, none⟩) n2 c2)] w (Lays w (.int .i64 (wordCmp xs ys))) := by
  subst hn1; subst hn2
  have Ho := Lib.hid (or_words xs ys)
  go_enter Tryz.func168, Tryz.ntmps168
  go_wp2_with fail
  refine (cw_Compare _ _ _).mono ?_
  rintro e w1 ⟨rfl, hs1⟩
  go_wp2_with fail
  refine (slices_Compare_any g1 o1 xs.length c1 g2 o2 ys.length c2 xs ys w1 rfl rfl (by omega) (hcx.still hs1) (hcy.still hs1)).mono ?_
  rintro e w2 ⟨rfl, hs2⟩
  generalize sliceCmp xs ys = z at *
  generalize cmpI (xs.length : Int) (ys.length : Int) = y at *
  have Hs1 := Lib.hid hs1; have Hs2 := Lib.hid hs2
  clear hs1 hs2
  obtain ⟨w3, hw3⟩ : ∃ w3, w3 = w2.alloc (.cells #[.int .i64 y, .int .i64 z] 3) := ⟨_, rfl⟩
  have hc3 : Cells w3 w2.heap.size 0 [y, z] := by
    obtain ⟨q1, q2⟩ : w3.cell? ⟨w2.heap.size, 0, none⟩ = some (.int .i64 y) ∧ w3.cell? ⟨w2.heap.size, 1, none⟩ = some (.int .i64 z) := by
      have hh : w3.heap[w2.heap.size]? = some (.cells #[.int .i64 y, .int .i64 z] 3 (0, 0)) := by rw [hw3]; exact heap_alloc_new _ _
      constructor <;> simp [World.cell?, hh]
    intro j hj
    have : j = 0 ∨ j = 1 := by simp at hj; omega
    rcases this with rfl | rfl
    · exact q1
    · exact q2
  have hcall := cw_Or w2.heap.size 0 2 2 [y, z] w3 rfl (by simp) hc3
  rw [hw3, Ho.out] at hcall
  have Hcall := Lib.hid hcall
  clear hcall hc3 hw3
  go_wp2_with fail
  refine Hcall.out.mono ?_
  rintro e w4 ⟨rfl, hs4⟩
  go_wp2_with fail
  go_ret
  refine ⟨rfl, ?_⟩
  obtain ⟨m1, e1⟩ := Hs1.out
  obtain ⟨m2, e2⟩ := Hs2.out
  obtain ⟨m4, e4⟩ := hs4
  refine ⟨.cells #[.int .i64 y, .int .i64 z] 3, m1 + m2 + m4, ?_⟩
  rw [e4, e2, e1, World.drewN_drewN]
  show ((w.alloc _).drewN (m1 + m2)).drewN m4 = _
  rw [World.drewN_drewN]
/-- the comparison of lists, either way round -/
theorem sliceCmp_anti : ∀ (a b : List Int), sliceCmp b a = - sliceCmp a b
  | [], [] => rfl
  | [], _ :: _ => rfl
  | _ :: _, [] => rfl
  | x :: a, y :: b => by
    simp only [sliceCmp]
    by_cases h1 : x < y
    · rw [if_pos h1, if_neg (by omega), if_pos h1]; rfl
    · by_cases h2 : y < x
      · rw [if_pos h2, if_neg h1, if_pos h2]
      · rw [if_neg h2, if_neg h1, if_neg h1, if_neg h2]; exact sliceCmp_anti a b
theorem sliceCmp_trans : ∀ (a b d : List Int), sliceCmp a b < 0 → sliceCmp b d < 0 → sliceCmp a d < 0
  | [], [], _, h, _ => by simp [sliceCmp] at h
  | [], _ :: _, [], _, h => by simp [sliceCmp] at h
  | [], _ :: _, _ :: _, _, _ => by simp [sliceCmp]
  | _ :: _, [], _, h, _ => by simp [sliceCmp] at h
  | _ :: _, _ :: _, [], _, h => by simp [sliceCmp] at h
  | x :: a, y :: b, z :: d, h1, h2 => by
    have ih := sliceCmp_trans a b d
    simp only [sliceCmp] at *
    split at h1 <;> split at h2 <;> (try split at h1) <;> (try split at h2) <;> (try split) <;> (try split) <;> first | omega | (exact ih h1 h2)
theorem sliceCmp_zero : ∀ {a b : List Int}, sliceCmp a b = 0 → a = b
  | [], [], _ => rfl
  | [], _ :: _, h => by simp [sliceCmp] at h
  | _ :: _, [], h => by simp [sliceCmp] at h
  | x :: a, y :: b, h => by
    simp only [sliceCmp] at h
    split at h
    · omega
    · split at h
      · omega
      · have : x = y := by omega
        rw [this, sliceCmp_zero h]
theorem sliceCmp_self (a : List Int) : sliceCmp a a = 0 := by have := sliceCmp_anti a a; omega
theorem wordCmp_same {a b : List Int} (h : a.length = b.length) : wordCmp a b = sliceCmp a b := by
  unfold wordCmp
  rw [if_neg (by omega), if_neg (by omega), sliceCmp_same h]

/-- lists in strict order are told by their members -/
theorem strict_uniq {cf : List Int → List Int → Int} (anti : ∀ a b, cf b a = - cf a b) : ∀ {L M : List (List Int)}, L.Pairwise (fun a b => cf a b < 0) → M.Pairwise (fun a b => cf a b < 0) → (∀ x, x ∈ L ↔ x ∈ M) → L = M
  | [], [], _, _, _ => rfl
  | [], y :: M, _, _, h => by have := (h y).2 (by simp); simp at this
  | x :: L, [], _, _, h => by have := (h x).1 (by simp); simp at this
  | x :: L, y :: M, hL, hM, h => by
    have hL' := List.pairwise_cons.1 hL
    have hM' := List.pairwise_cons.1 hM
    have e : x = y := by
      rcases List.mem_cons.1 ((h x).1 (by simp)) with e | e
      · exact e
      · rcases List.mem_cons.1 ((h y).2 (by simp)) with e2 | e2
        · exact e2.symm
        · have h1 := hM'.1 x e
          have h2 := hL'.1 y e2
          have := anti x y
          omega
    subst e
    refine congrArg (x :: ·) (strict_uniq anti hL'.2 hM'.2 fun z => ?_)
    have hs := anti x x
    have hx : x ∉ L := fun hm => by have := hL'.1 x hm; omega
    have hy : x ∉ M := fun hm => by have := hM'.1 x hm; omega
    have hz := h z
    simp only [List.mem_cons] at hz
    constructor
    · intro hm
      rcases hz.1 (.inr hm) with e | e
      · subst e; exact absurd hm hx
      · exact e
    · intro hm
      rcases hz.2 (.inr hm) with e | e
      · subst e; exact absurd hm hy
      · exact e
theorem strict_of {cf : List Int → List Int → Int} (anti : ∀ a b, cf b a = - cf a b) (zero : ∀ {a b}, cf a b = 0 → a = b) {L : List (List Int)} (h : L.Pairwise fun a b => ¬ cf b a < 0) (hn : L.Nodup) : L.Pairwise fun a b => cf a b < 0 := by
  refine List.Pairwise.imp ?_ (List.Pairwise.and h hn)
  intro a b ⟨h1, h2⟩
  have h3 := anti a b
  rcases Int.lt_trichotomy (cf a b) 0 with h | h | h
  · exact h
  · exact absurd (zero h) h2
  · omega
end Go.Proofs.YtobeigdjhepedaaGreatDoor
namespace Go.Proofs.YtobeigdjhepedaaGreatDoor
set_option maxRecDepth 100000
def topY (c : List (List Int)) (k : Nat) : Int := det c.length (c.set k (List.replicate c.length 1))
def topB (c : List (List Int)) : Bool := (List.range c.length).all fun i => decide (0 < sumTo c.length fun k => topY c k * ent c k i)
theorem top_1 : topB [[2]] = true := by kernel_rfl
theorem top_2 : chk2 topB = true := by kernel_rfl
theorem top_3 : chk3 topB = true := by kernel_rfl
theorem top_4_00 : chk4At topB (0, 0) (0, 0) = true := by kernel_rfl
theorem top_4_01 : chk4At topB (0, 0) (-1, -1) = true := by kernel_rfl
theorem top_4_02 : chk4At topB (0, 0) (-1, -2) = true := by kernel_rfl
theorem top_4_03 : chk4At topB (0, 0) (-2, -1) = true := by kernel_rfl
theorem top_4_04 : chk4At topB (0, 0) (-1, -3) = true := by kernel_rfl
theorem top_4_05 : chk4At topB (0, 0) (-3, -1) = true := by kernel_rfl
theorem top_4_10 : chk4At topB (-1, -1) (0, 0) = true := by kernel_rfl
theorem top_4_11 : chk4At topB (-1, -1) (-1, -1) = true := by kernel_rfl
theorem top_4_12 : chk4At topB (-1, -1) (-1, -2) = true := by kernel_rfl
theorem top_4_13 : chk4At topB (-1, -1) (-2, -1) = true := by kernel_rfl
theorem top_4_14 : chk4At topB (-1, -1) (-1, -3) = true := by kernel_rfl
theorem top_4_15 : chk4At topB (-1, -1) (-3, -1) = true := by kernel_rfl
theorem top_4_20 : chk4At topB (-1, -2) (0, 0) = true := by kernel_rfl
theorem top_4_21 : chk4At topB (-1, -2) (-1, -1) = true := by kernel_rfl
theorem top_4_22 : chk4At topB (-1, -2) (-1, -2) = true := by kernel_rfl
theorem top_4_23 : chk4At topB (-1, -2) (-2, -1) = true := by kernel_rfl
theorem top_4_24 : chk4At topB (-1, -2) (-1, -3) = true := by kernel_rfl
theorem top_4_25 : chk4At topB (-1, -2) (-3, -1) = true := by kernel_rfl
theorem top_4_30 : chk4At topB (-2, -1) (0, 0) = true := by kernel_rfl
theorem top_4_31 : chk4At topB (-2, -1) (-1, -1) = true := by kernel_rfl
theorem top_4_32 : chk4At topB (-2, -1) (-1, -2) = true := by kernel_rfl
theorem top_4_33 : chk4At topB (-2, -1) (-2, -1) = true := by kernel_rfl
theorem top_4_34 : chk4At topB (-2, -1) (-1, -3) = true := by kernel_rfl
theorem top_4_35 : chk4At topB (-2, -1) (-3, -1) = true := by kernel_rfl
theorem top_4_40 : chk4At topB (-1, -3) (0, 0) = true := by kernel_rfl
theorem top_4_41 : chk4At topB (-1, -3) (-1, -1) = true := by kernel_rfl
theorem top_4_42 : chk4At topB (-1, -3) (-1, -2) = true := by kernel_rfl
theorem top_4_43 : chk4At topB (-1, -3) (-2, -1) = true := by kernel_rfl
theorem top_4_44 : chk4At topB (-1, -3) (-1, -3) = true := by kernel_rfl
theorem top_4_45 : chk4At topB (-1, -3) (-3, -1) = true := by kernel_rfl
theorem top_4_50 : chk4At topB (-3, -1) (0, 0) = true := by kernel_rfl
theorem top_4_51 : chk4At topB (-3, -1) (-1, -1) = true := by kernel_rfl
theorem top_4_52 : chk4At topB (-3, -1) (-1, -2) = true := by kernel_rfl
theorem top_4_53 : chk4At topB (-3, -1) (-2, -1) = true := by kernel_rfl
theorem top_4_54 : chk4At topB (-3, -1) (-1, -3) = true := by kernel_rfl
theorem top_4_55 : chk4At topB (-3, -1) (-3, -1) = true := by kernel_rfl
theorem top_4 : chk4 topB = true := by
  rw [chk4_eq]
  simp only [L6, List.all_cons, List.all_nil, Bool.and_true, top_4_00, top_4_01, top_4_02, top_4_03, top_4_04, top_4_05, top_4_10, top_4_11, top_4_12, top_4_13, top_4_14, top_4_15, top_4_20, top_4_21, top_4_22, top_4_23, top_4_24, top_4_25, top_4_30, top_4_31, top_4_32, top_4_33, top_4_34, top_4_35, top_4_40, top_4_41, top_4_42, top_4_43, top_4_44, top_4_45, top_4_50, top_4_51, top_4_52, top_4_53, top_4_54, top_4_55]
theorem top_fin {c : List (List Int)} (hC : IsC c) (hf : finB c = true) : ∀ i, i < c.length → 0 < sumTo c.length fun k => topY c k * ent c k i := fun i hi => by
  have h := fin_all topB top_1 top_2 top_3 top_4 hC hf
  unfold topB at h
  have := List.all_eq_true.1 h i (List.mem_range.2 hi)
  simpa using this
end Go.Proofs.YtobeigdjhepedaaGreatDoor
namespace Go.Proofs.YtobeigdjhepedaaGreatDoor
set_option maxRecDepth 100000
open Go.RowKit
namespace Game
set_option linter.unusedSimpArgs false
variable {c : List (List Int)}

/-- a weight of small numbers, in a finite type -/
structure DomW (c : List (List Int)) (v : List Int) : Prop where
  hC : IsC c
  fin : finB c = true
  len : v.length = c.length
  small : ∀ j, j < v.length → -1000 ≤ v.getD j 0 ∧ v.getD j 0 ≤ 1000

theorem elt24 (hC : IsC c) (hf : finB c = true) {n : Nat} {W : List Nat} (hW : Elt c n W) : n ≤ 24 := by
  obtain ⟨long, opp, hL, h24⟩ := longOf_fin24 hC hf
  exact Nat.le_trans (elt_le hC hL.norm hL.act hW) h24
theorem word_short (hC : IsC c) (hf : finB c = true) : ∀ (w : List Nat), (∀ i ∈ w, i < c.length) → ∃ W, Elt c W.length W ∧ W.length ≤ 24 ∧ ∀ u, act (ent c) w u = act (ent c) W u
  | [], _ => ⟨[], Elt.zero hC, by simp, fun _ => rfl⟩
  | i :: w, hw => by
    obtain ⟨W, hE, hl, ha⟩ := word_short hC hf w (fun k hk => hw k (List.mem_cons_of_mem _ hk))
    have hlt : ∀ k ∈ i :: W, k < c.length := by
      intro k hk
      rcases List.mem_cons.1 hk with rfl | h
      · exact hw k (by simp)
      · exact hE.nf.lt k h
    obtain ⟨X, hX⟩ := nf_of hC hlt (by simp; omega)
    have hEX : Elt c X.length X := ⟨hX.self, rfl⟩
    exact ⟨X, hEX, elt24 hC hf hEX, fun u => by rw [← hX.act u]; simp only [Game.act]; rw [ha u]⟩

/-- what words make of a vector -/
def OrbP (c : List (List Int)) (v x : List Int) : Prop := x.length = c.length ∧ ∃ w : List Nat, (∀ i ∈ w, i < c.length) ∧ toV x = act (ent c) w (toV v)
theorem OrbP.self {v : List Int} (hv : v.length = c.length) : OrbP c v v := ⟨hv, [], by simp, rfl⟩
def bigM : Int := 281474976710656000
theorem OrbP.bd {v x : List Int} (hD : DomW c v) (h : OrbP c v x) : Bd c.length bigM (toV x) := by
  obtain ⟨_, w, hw, e⟩ := h
  obtain ⟨W, hE, hl, ha⟩ := word_short hD.hC hD.fin w hw
  rw [e, ha]
  have h0 : Bd c.length 1000 (toV v) := fun k hk => hD.small k (by rw [hD.len]; exact hk)
  have h1 := Bd.word (car_of hD.hC) h0 W hE.nf.lt
  have h2 : (4 : Nat) ^ W.length ≤ 4 ^ 24 := Nat.pow_le_pow_right (by decide) hl
  have h3 : ((4 ^ W.length : Nat) : Int) = (4 : Int) ^ W.length := by simp
  have h4 : (4 : Nat) ^ 24 = 281474976710656 := by decide
  rw [← h3] at h1
  rw [h4] at h2
  generalize 4 ^ W.length = q at *
  intro k hk
  have := h1 k hk
  unfold bigM
  omega
theorem OrbP.toV_refl {v x : List Int} (hD : DomW c v) (h : OrbP c v x) {i : Nat} (hi : i < c.length) : toV (refl c i x) = s (ent c) i (toV x) :=
  Game.toV_refl hD.hC h.1 hi (M := bigM) (by decide) (h.bd hD)
theorem OrbP.refl {v x : List Int} (hD : DomW c v) (h : OrbP c v x) {i : Nat} (hi : i < c.length) : OrbP c v (refl c i x) := by
  obtain ⟨hl, w, hw, e⟩ := id h
  refine ⟨by rw [refl_length]; exact hl, i :: w, ?_, ?_⟩
  · intro k hk
    rcases List.mem_cons.1 hk with rfl | h
    · exact hi
    · exact hw k h
  · rw [h.toV_refl hD hi, e]; rfl
theorem OrbP.back {v x : List Int} (hD : DomW c v) (h : OrbP c v x) {i : Nat} (hi : i < c.length) : Proofs.YtobeigdjhepedaaGreatDoor.refl c i (Proofs.YtobeigdjhepedaaGreatDoor.refl c i x) = x := by
  refine toV_inj (by simp [refl_length]) ?_
  rw [(h.refl hD hi).toV_refl hD hi, h.toV_refl hD hi, s_s (car_of hD.hC) hi]
/-- words backwards -/
theorem act_back (hC : IsC c) : ∀ {y : List Nat}, (∀ i ∈ y, i < c.length) → ∀ u, act (ent c) y.reverse (act (ent c) y u) = u
  | [], _, _ => rfl
  | i :: y, h, u => by
    rw [List.reverse_cons, act_append]
    simp only [act]
    rw [s_s (car_of hC) (h i (by simp))]
    exact act_back hC (fun j hj => h j (List.mem_cons_of_mem _ hj)) u
/-- from anywhere in the orbit to anywhere -/
theorem OrbP.from {v t x : List Int} (hD : DomW c v) (ht : OrbP c v t) (hx : OrbP c v x) : ∃ w : List Nat, (∀ i ∈ w, i < c.length) ∧ toV x = act (ent c) w (toV t) := by
  obtain ⟨-, u, hu, e1⟩ := ht
  obtain ⟨-, w, hw, e2⟩ := hx
  refine ⟨w ++ u.reverse, fun i hi => ?_, ?_⟩
  · rcases List.mem_append.1 hi with h | h
    · exact hw i h
    · exact hu i (List.mem_reverse.1 h)
  · rw [act_append, e1, act_back hD.hC hu, e2]
/-- what is closed under all reflections holds the orbit -/
theorem closed_all {v t : List Int} (hD : DomW c v) {Q : List (List Int)} (ht : OrbP c v t) (h0 : t ∈ Q) (hQ : ∀ x ∈ Q, ∀ i, i < c.length → Proofs.YtobeigdjhepedaaGreatDoor.refl c i x ∈ Q) {x : List Int} (hx : OrbP c v x) : x ∈ Q := by
  obtain ⟨w, hw, e⟩ := ht.from hD hx
  induction w generalizing x with
  | nil => rw [toV_inj (by rw [hx.1, ht.1]) e]; exact h0
  | cons i w ih =>
    have hi := hw i (by simp)
    have hy := ih (x := Proofs.YtobeigdjhepedaaGreatDoor.refl c i x) (hx.refl hD hi) (fun k hk => hw k (List.mem_cons_of_mem _ hk)) (by rw [hx.toV_refl hD hi, e]; simp only [Game.act]; rw [s_s (car_of hD.hC) hi])
    have := hQ _ hy i hi
    rwa [hx.back hD hi] at this
/-- .. as does what is closed under lowering ones, from a dominant one on -/
theorem closed_down {v t : List Int} (hD : DomW c v) {Q : List (List Int)} (ht : OrbP c v t) (hdom : Dom c.length (toV t)) (h0 : t ∈ Q) (hQ : ∀ x ∈ Q, ∀ i, i < c.length → 0 < x.getD i 0 → Proofs.YtobeigdjhepedaaGreatDoor.refl c i x ∈ Q) {x : List Int} (hx : OrbP c v x) : x ∈ Q := by
  have key : ∀ (l : List Nat) (x : List Int), OrbP c v x → Plays (ent c) c.length l (Game.toV x) (Game.toV t) → x ∈ Q := by
    intro l
    induction l with
    | nil =>
      intro x hx hp
      rw [toV_inj (by rw [hx.1, ht.1]) hp.2]; exact h0
    | cons i l ih =>
      intro x hx hp
      obtain ⟨hi, hneg, hp'⟩ := Plays.cons.1 hp
      have hy := hx.refl hD hi
      have ey := hx.toV_refl hD hi
      have hm := ih _ hy (by rw [ey]; exact hp')
      have hpos : 0 < (Proofs.YtobeigdjhepedaaGreatDoor.refl c i x).getD i 0 := by
        have e1 : (Proofs.YtobeigdjhepedaaGreatDoor.refl c i x).getD i 0 = Game.toV (Proofs.YtobeigdjhepedaaGreatDoor.refl c i x) i := rfl
        rw [e1, ey]
        simp only [s, (car_of hD.hC).two i hi]
        omega
      have := hQ _ hm i hi hpos
      rwa [hx.back hD hi] at this
  obtain ⟨w, hw, e⟩ := ht.from hD hx
  obtain ⟨l, hp, -⟩ := word_play (car_of hD.hC) hdom w hw
  rw [← e] at hp
  exact key l x hx hp

/-! ### raising -/
theorem sumTo_le {f g : Nat → Int} : ∀ n, (∀ k, k < n → f k ≤ g k) → sumTo n f ≤ sumTo n g
  | 0, _ => Int.le_refl _
  | n + 1, h => by
    simp only [sumTo]
    have := sumTo_le n (fun k hk => h k (by omega))
    have := h n (by omega)
    omega
/-- every weight has a dominant one above it -/
theorem top_ex {v : List Int} (hD : DomW c v) : ∃ l d, Plays (ent c) c.length l (Game.toV v) d ∧ Dom c.length d := by
  have hpos := top_fin hD.hC hD.fin
  have hup : ∀ x, OrbP c v x → phi c (topY c) (Game.toV x) ≤ sumTo c.length (fun k => ((topY c k).natAbs : Int) * bigM) := fun x hx => by
    have hb := hx.bd hD
    refine sumTo_le _ fun k hk => ?_
    have h1 := hb k hk
    have h2 : topY c k * Game.toV x k ≤ ((topY c k * Game.toV x k).natAbs : Int) := Int.le_natAbs
    have h3 : ((topY c k * Game.toV x k).natAbs : Int) = ((topY c k).natAbs : Int) * ((Game.toV x k).natAbs : Int) := by rw [Int.natAbs_mul]; simp
    have h4 : ((Game.toV x k).natAbs : Int) ≤ bigM := by omega
    have h5 : ((topY c k).natAbs : Int) * ((Game.toV x k).natAbs : Int) ≤ ((topY c k).natAbs : Int) * bigM := Int.mul_le_mul_of_nonneg_left h4 (by omega)
    omega
  generalize hB : sumTo c.length (fun k => ((topY c k).natAbs : Int) * bigM) = B at *
  have key : ∀ (m : Nat) (x : List Int), OrbP c v x → (B - phi c (topY c) (Game.toV x)).toNat ≤ m → ∃ l d, Plays (ent c) c.length l (Game.toV x) d ∧ Dom c.length d := by
    intro m
    induction m with
    | zero =>
      intro x hx hm
      have h1 := hup x hx
      by_cases hdom : Dom c.length (Game.toV x)
      · exact ⟨[], _, ⟨trivial, rfl⟩, hdom⟩
      · have : ∃ i, i < c.length ∧ Game.toV x i < 0 := by
          apply Classical.byContradiction
          intro hno
          exact hdom fun i hi => by
            apply Classical.byContradiction
            intro h; exact hno ⟨i, hi, by omega⟩
        obtain ⟨i, hi, hneg⟩ := this
        have h2 := hup _ (hx.refl hD hi)
        rw [hx.toV_refl hD hi, phi_s] at h2
        have h3 : 1 * sumTo c.length (fun k => topY c k * ent c k i) ≤ (- Game.toV x i) * sumTo c.length (fun k => topY c k * ent c k i) := Int.mul_le_mul_of_nonneg_right (by omega) (by have := hpos i hi; omega)
        have := hpos i hi
        omega
    | succ m ih =>
      intro x hx hm
      by_cases hdom : Dom c.length (Game.toV x)
      · exact ⟨[], _, ⟨trivial, rfl⟩, hdom⟩
      · have : ∃ i, i < c.length ∧ Game.toV x i < 0 := by
          apply Classical.byContradiction
          intro hno
          exact hdom fun i hi => by
            apply Classical.byContradiction
            intro h; exact hno ⟨i, hi, by omega⟩
        obtain ⟨i, hi, hneg⟩ := this
        have h2 := hup _ hx
        have h3 : 1 * sumTo c.length (fun k => topY c k * ent c k i) ≤ (- Game.toV x i) * sumTo c.length (fun k => topY c k * ent c k i) := Int.mul_le_mul_of_nonneg_right (by omega) (by have := hpos i hi; omega)
        have hp := hpos i hi
        obtain ⟨l, d, g1, g2⟩ := ih _ (hx.refl hD hi) (by rw [hx.toV_refl hD hi, phi_s]; omega)
        rw [hx.toV_refl hD hi] at g1
        exact ⟨i :: l, d, Plays.cons.2 ⟨hi, hneg, g1⟩, g2⟩
  exact key _ v (OrbP.self hD.len) (Nat.le_refl _)
/-- .. in at most 24 steps -/
theorem top_short {v : List Int} (hD : DomW c v) : ∃ l d, Plays (ent c) c.length l (Game.toV v) d ∧ Dom c.length d ∧ l.length ≤ 24 := by
  obtain ⟨l, d, h1, h2⟩ := top_ex hD
  obtain ⟨W, hE, hl, ha⟩ := word_short hD.hC hD.fin l h1.1.lt
  have e := h1.eq_act (car_of hD.hC)
  rw [ha] at e
  obtain ⟨l2, g1, g2⟩ := word_play (car_of hD.hC) h2 W hE.nf.lt
  rw [← e] at g1
  exact ⟨l2, d, g1, h2, by omega⟩
/-- raising, letter by letter -/
def topG (c : List (List Int)) : Nat → List Int → List Int × List Nat
  | 0, v => (v, [])
  | f + 1, v => match firstNeg v with
    | none => (v, [])
    | some i => ((topG c f (Proofs.YtobeigdjhepedaaGreatDoor.refl c i v)).1, i :: (topG c f (Proofs.YtobeigdjhepedaaGreatDoor.refl c i v)).2)
/-- the dominant weight, and the letters on the way -/
def topX (c : List (List Int)) (v : List Int) : List Int := (topG c 30 v).1
def topW (c : List (List Int)) (v : List Int) : List Nat := (topG c 30 v).2
theorem topG_none {f : Nat} {v : List Int} (h : firstNeg v = none) : topG c f v = (v, []) := by
  cases f with
  | zero => rfl
  | succ f => unfold topG; rw [h]
theorem topG_some {f i : Nat} {v : List Int} (h : firstNeg v = some i) : topG c (f + 1) v = ((topG c f (Proofs.YtobeigdjhepedaaGreatDoor.refl c i v)).1, i :: (topG c f (Proofs.YtobeigdjhepedaaGreatDoor.refl c i v)).2) := by
  conv => lhs; unfold topG
  rw [h]
/-- what raising with f letters at most comes to -/
structure TopOk (c : List (List Int)) (v x : List Int) (f : Nat) : Prop where
  orb : OrbP c v x
  few : (topG c f x).2.length ≤ f
  lt : ∀ i ∈ (topG c f x).2, i < c.length
  dom : ∀ j, j < c.length → 0 ≤ (topG c f x).1.getD j 0
  end_ : OrbP c v (topG c f x).1
  plays : Plays (ent c) c.length (topG c f x).2 (Game.toV x) (Game.toV (topG c f x).1)
theorem topOk_of {v : List Int} (hD : DomW c v) {d : Vec} (hd : Dom c.length d) : ∀ (f : Nat) (x : List Int) (l : List Nat), OrbP c v x → Plays (ent c) c.length l (Game.toV x) d → l.length ≤ f → TopOk c v x f
  | 0, x, l, hx, hp, hl => by
    obtain rfl : l = [] := List.eq_nil_of_length_eq_zero (by omega)
    have e : Game.toV x = d := hp.2
    exact ⟨hx, by simp [topG], by simp [topG], fun j hj => by have := hd j hj; rw [← e] at this; exact this, hx, ⟨trivial, rfl⟩⟩
  | f + 1, x, l, hx, hp, hl => by
    cases hn : firstNeg x with
    | none =>
      have hge := firstNeg_none hn
      have e : topG c (f + 1) x = (x, []) := topG_none hn
      exact ⟨hx, by rw [e]; simp, by rw [e]; simp, fun j hj => by rw [e]; exact hge j (by rw [hx.1]; exact hj), by rw [e]; exact hx, by rw [e]; exact ⟨trivial, rfl⟩⟩
    | some i =>
      obtain ⟨hi, hneg, -⟩ := firstNeg_lt hn
      have hi' : i < c.length := by rw [← hx.1]; exact hi
      obtain ⟨l', g1, g2, -⟩ := hp.first (car_of hD.hC) hd hi' hneg
      have hr := hx.toV_refl hD hi'
      obtain ⟨q1, q2, q3, q4, q5, q6⟩ := topOk_of hD hd f (Proofs.YtobeigdjhepedaaGreatDoor.refl c i x) l' (hx.refl hD hi') (by rw [hr]; exact (Plays.cons.1 g1).2.2) (by omega)
      have e : topG c (f + 1) x = ((topG c f (Proofs.YtobeigdjhepedaaGreatDoor.refl c i x)).1, i :: (topG c f (Proofs.YtobeigdjhepedaaGreatDoor.refl c i x)).2) := topG_some hn
      refine ⟨hx, by rw [e]; simpa using q2, fun j hj => ?_, fun j hj => by rw [e]; exact q4 j hj, by rw [e]; exact q5, ?_⟩
      · rw [e] at hj
        rcases List.mem_cons.1 hj with rfl | h
        · exact hi'
        · exact q3 j h
      · rw [e]
        exact Plays.cons.2 ⟨hi', hneg, by rw [← hr]; exact q6⟩
theorem topOk {v : List Int} (hD : DomW c v) : TopOk c v v 30 ∧ (topW c v).length ≤ 24 := by
  obtain ⟨l, d, h1, h2, h3⟩ := top_short hD
  have h := topOk_of hD h2 30 v l (OrbP.self hD.len) h1 (by omega)
  refine ⟨h, ?_⟩
  obtain ⟨l2, -, h5, -⟩ := Plays.any (car_of hD.hC) h2 h1 h.plays.1
  unfold topW
  omega
theorem topG_stop {v : List Int} (hD : DomW c v) {d : Vec} (hd : Dom c.length d) {f : Nat} {x : List Int} {l : List Nat} (hx : OrbP c v x) (hp : Plays (ent c) c.length l (Game.toV x) d) (hl : l.length ≤ f) : firstNeg (topG c f x).1 = none := by
  have h := topOk_of hD hd f x l hx hp hl
  exact firstNeg_nil fun j hj => h.dom j (by rw [← h.end_.1]; exact hj)

/-- strictly descending -/
def Desc (L : List (List Int)) : Prop := L.Pairwise fun a b => wordCmp b a < 0
theorem Desc.nodup {L : List (List Int)} (h : Desc L) : L.Nodup := by
  refine List.Pairwise.imp ?_ h
  intro a b hab e
  subst e
  rw [wordCmp_self] at hab; omega
theorem Desc.uniq {L M : List (List Int)} (h : Desc L) (h' : Desc M) (e : ∀ x, x ∈ L ↔ x ∈ M) : L = M := by
  have h1 : Asc L.reverse := List.pairwise_reverse.2 h
  have h2 : Asc M.reverse := List.pairwise_reverse.2 h'
  have := Asc.uniq h1 h2 (by simpa using e)
  simpa using congrArg List.reverse this
/-- the orbit, greater ones first -/
def IsOrb (c : List (List Int)) (v : List Int) (L : List (List Int)) : Prop := Desc L ∧ ∀ x, x ∈ L ↔ OrbP c v x
theorem IsOrb.uniq {v : List Int} {L M : List (List Int)} (h : IsOrb c v L) (h' : IsOrb c v M) : L = M := h.1.uniq h'.1 fun x => (h.2 x).trans (h'.2 x).symm
theorem nodup_le {Q L : List (List Int)} (hQ : Q.Nodup) (hL : L.Nodup) (h : ∀ x ∈ Q, x ∈ L) : Q.length ≤ L.length := by
  have hp : Q.Perm (L.filter fun x => decide (x ∈ Q)) := by
    refine (List.perm_ext_iff_of_nodup hQ (hL.filter _)).2 fun x => ?_
    simp only [List.mem_filter, decide_eq_true_eq]
    exact ⟨fun hx => ⟨h x hx, hx⟩, fun hx => hx.2⟩
  rw [hp.length_eq]
  exact List.length_filter_le _ _
/-- too many -/
def NoOrb (c : List (List Int)) (v : List Int) : Prop := ¬ ∃ L, IsOrb c v L ∧ L.length ≤ 200
theorem noOrb {v : List Int} {Q : List (List Int)} (hQ : Q.Nodup) (hP : ∀ x ∈ Q, OrbP c v x) (hl : 200 < Q.length) : NoOrb c v := by
  rintro ⟨L, hL, h2⟩
  have := nodup_le hQ hL.1.nodup (fun x hx => (hL.2 x).2 (hP x hx))
  omega
/-- what the functions of the orbit answer -/
def OrbM (c : List (List Int)) (v : List Int) (M : List (List Int)) (b : Bool) : Prop := (IsOrb c v M ∧ M.length ≤ 200 ∧ b = true) ∨ (NoOrb c v ∧ M = [] ∧ b = false)
theorem orbM_ex (c : List (List Int)) (v : List Int) : ∃ M b, OrbM c v M b := by
  by_cases h : ∃ L, IsOrb c v L ∧ L.length ≤ 200
  · obtain ⟨L, h1, h2⟩ := h
    exact ⟨L, true, .inl ⟨h1, h2, rfl⟩⟩
  · exact ⟨[], false, .inr ⟨h, rfl, rfl⟩⟩
theorem OrbM.uniq {v : List Int} {M M' : List (List Int)} {b b' : Bool} (h : OrbM c v M b) (h' : OrbM c v M' b') : M = M' ∧ b = b' := by
  rcases h with ⟨h1, h2, h3⟩ | ⟨h1, h2, h3⟩ <;> rcases h' with ⟨g1, g2, g3⟩ | ⟨g1, g2, g3⟩
  · exact ⟨h1.uniq g1, by rw [h3, g3]⟩
  · exact absurd ⟨M, h1, h2⟩ g1
  · exact absurd ⟨M', g1, g2⟩ h1
  · exact ⟨by rw [h2, g2], by rw [h3, g3]⟩

/-- a search under way: all is looked at up to entry k, of entry k the letters below i; 'down': only lowering letters -/
structure QSt (c : List (List Int)) (v : List Int) (down : Bool) (Q : List (List Int)) (k i : Nat) : Prop where
  nodup : Q.Nodup
  orb : ∀ x ∈ Q, OrbP c v x
  has : ∃ t, t ∈ Q ∧ OrbP c v t ∧ (down = true → Dom c.length (Game.toV t))
  closed : ∀ t j, t < Q.length → j < c.length → (t < k ∨ t = k ∧ j < i) → (down = true → 0 < (Q.getD t []).getD j 0) → Proofs.YtobeigdjhepedaaGreatDoor.refl c j (Q.getD t []) ∈ Q
  le : k ≤ Q.length
section
variable {v : List Int} {down : Bool} {Q : List (List Int)} {k i : Nat}
theorem QSt.start {t : List Int} (ht : OrbP c v t) (down : Bool) (hd : down = true → Dom c.length (Game.toV t)) : QSt c v down [t] 0 0 :=
  ⟨by simp, by intro x hx; rw [List.mem_singleton] at hx; subst hx; exact ht, ⟨t, by simp, ht, hd⟩, fun t j _ _ h => by omega, by simp⟩
theorem QSt.skip (h : QSt c v down Q k i) (hs : (down = true → 0 < (Q.getD k []).getD i 0) → Proofs.YtobeigdjhepedaaGreatDoor.refl c i (Q.getD k []) ∈ Q) : QSt c v down Q k (i + 1) := by
  refine ⟨h.nodup, h.orb, h.has, fun t j ht hj hc hd => ?_, h.le⟩
  by_cases e : t = k ∧ j = i
  · obtain ⟨rfl, rfl⟩ := e; exact hs hd
  · exact h.closed t j ht hj (by omega) hd
theorem getD_app {Q : List (List Int)} {y : List Int} {t : Nat} (ht : t < Q.length) : (Q ++ [y]).getD t [] = Q.getD t [] := by simp [List.getD, List.getElem?_append_left ht]
theorem QSt.row (h : QSt c v down Q k i) (hk : k < Q.length) : OrbP c v (Q.getD k []) := h.orb _ (by simp [List.getD, hk])
theorem QSt.add (h : QSt c v down Q k i) (hD : DomW c v) (hk : k < Q.length) (hi : i < c.length) (hn : Proofs.YtobeigdjhepedaaGreatDoor.refl c i (Q.getD k []) ∉ Q) : QSt c v down (Q ++ [Proofs.YtobeigdjhepedaaGreatDoor.refl c i (Q.getD k [])]) k (i + 1) := by
  refine ⟨?_, ?_, by obtain ⟨t, h1, h2⟩ := h.has; exact ⟨t, List.mem_append_left _ h1, h2⟩, fun t j ht hj hc hd => ?_, by rw [List.length_append]; omega⟩
  · rw [List.nodup_append]
    exact ⟨h.nodup, by simp, by intro a ha b hb e; rw [List.mem_singleton] at hb; subst hb; subst e; exact hn ha⟩
  · intro x hx
    rcases List.mem_append.1 hx with h1 | h1
    · exact h.orb x h1
    · rw [List.mem_singleton] at h1; subst h1; exact (h.row hk).refl hD hi
  · have ht' : t < Q.length := by omega
    rw [getD_app ht'] at hd ⊢
    by_cases e : t = k ∧ j = i
    · obtain ⟨rfl, rfl⟩ := e; exact List.mem_append_right _ (by simp)
    · exact List.mem_append_left _ (h.closed t j ht' hj (by omega) hd)
theorem QSt.next (h : QSt c v down Q k c.length) (hk : k < Q.length) : QSt c v down Q (k + 1) 0 :=
  ⟨h.nodup, h.orb, h.has, fun t j ht hj hc hd => h.closed t j ht hj (by omega) hd, hk⟩
theorem QSt.all (h : QSt c v down Q Q.length 0) (hD : DomW c v) : ∀ x, x ∈ Q ↔ OrbP c v x := by
  have hg : ∀ x ∈ Q, ∀ i, i < c.length → (down = true → 0 < x.getD i 0) → Proofs.YtobeigdjhepedaaGreatDoor.refl c i x ∈ Q := by
    intro x hx i hi hd
    obtain ⟨t, ht, rfl⟩ := List.mem_iff_getElem.1 hx
    have e : Q.getD t [] = Q[t] := by simp [List.getD, ht]
    have := h.closed t i ht hi (.inl ht)
    rw [e] at this
    exact this hd
  intro x
  refine ⟨h.orb x, fun hx => ?_⟩
  obtain ⟨t, t1, t2, t3⟩ := h.has
  cases down with
  | false => exact closed_all hD t2 t1 (fun x hx i hi => hg x hx i hi (by simp)) hx
  | true => exact closed_down hD t2 (t3 rfl) t1 (fun x hx i hi hp => hg x hx i hi (fun _ => hp)) hx
theorem QSt.big (h : QSt c v down Q k i) (hl : 200 < Q.length) : NoOrb c v := noOrb h.nodup h.orb hl
theorem QSt.big' (h : QSt c v down Q k i) (hD : DomW c v) (hk : k < Q.length) (hi : i < c.length) (hn : Proofs.YtobeigdjhepedaaGreatDoor.refl c i (Q.getD k []) ∉ Q) (hl : 200 ≤ Q.length) : NoOrb c v :=
  (h.add hD hk hi hn).big (by rw [List.length_append]; simp; omega)
end

/-- the reference's insertion, the other way round -/
def putG : List (List Int) → List Int → List (List Int)
  | [], v => [v]
  | x :: l, v => if x = v then x :: l else if 0 < wordCmp v x then v :: x :: l else x :: putG l v
theorem mem_putG {x : List Int} : ∀ {l : List (List Int)} {v : List Int}, x ∈ putG l v ↔ x = v ∨ x ∈ l
  | [], v => by simp [putG]
  | y :: l, v => by
    unfold putG
    by_cases h1 : y = v
    · rw [if_pos h1]; subst h1; simp
    · rw [if_neg h1]
      by_cases h2 : 0 < wordCmp v y
      · rw [if_pos h2]; simp
      · rw [if_neg h2, List.mem_cons, mem_putG (l := l), List.mem_cons]
        constructor
        · rintro (h | h | h)
          · exact .inr (.inl h)
          · exact .inl h
          · exact .inr (.inr h)
        · rintro (h | h | h)
          · exact .inr (.inl h)
          · exact .inl h
          · exact .inr (.inr h)
theorem putG_desc : ∀ {l : List (List Int)} {v : List Int}, Desc l → Desc (putG l v)
  | [], v, _ => List.pairwise_singleton _ _
  | y :: l, v, h => by
    have h0 := List.pairwise_cons.1 h
    unfold putG
    by_cases h1 : y = v
    · rw [if_pos h1]; exact h
    · rw [if_neg h1]
      have ha := wordCmp_anti v y
      by_cases h2 : 0 < wordCmp v y
      · rw [if_pos h2]
        refine List.pairwise_cons.2 ⟨fun z hz => ?_, h⟩
        rcases List.mem_cons.1 hz with rfl | hz
        · omega
        · exact wordCmp_trans (h0.1 z hz) (by omega)
      · rw [if_neg h2]
        refine List.pairwise_cons.2 ⟨fun z hz => ?_, putG_desc h0.2⟩
        rcases mem_putG.1 hz with rfl | hz
        · rcases Int.lt_trichotomy (wordCmp z y) 0 with g | g | g
          · exact g
          · exact absurd (wordCmp_zero g).symm h1
          · omega
        · exact h0.1 z hz
def putsG (L : List (List Int)) : List (List Int) := L.foldl putG []
theorem putsG_aux : ∀ (L a : List (List Int)), Desc a → Desc (L.foldl putG a) ∧ ∀ x, x ∈ L.foldl putG a ↔ x ∈ L ∨ x ∈ a
  | [], a, h => ⟨h, by simp⟩
  | y :: L, a, h => by
    obtain ⟨h1, h2⟩ := putsG_aux L (putG a y) (putG_desc h)
    refine ⟨h1, fun x => ?_⟩
    rw [List.foldl_cons, h2 x, mem_putG, List.mem_cons]
    constructor
    · rintro (h | h | h)
      · exact .inl (.inr h)
      · exact .inl (.inl h)
      · exact .inr h
    · rintro ((h | h) | h)
      · exact .inr (.inl h)
      · exact .inl h
      · exact .inr (.inr h)
theorem putsG_take {L : List (List Int)} {k : Nat} (hk : k < L.length) : putsG (L.take (k + 1)) = putG (putsG (L.take k)) (L.getD k []) := by
  have e : L.getD k [] = L[k] := by simp [List.getD, hk]
  unfold putsG
  rw [e, List.take_succ_eq_append_getElem hk, List.foldl_append]; rfl
theorem putsG_orb {v : List Int} {L : List (List Int)} (h : ∀ x, x ∈ L ↔ OrbP c v x) : IsOrb c v (putsG L) :=
  ⟨(putsG_aux L [] List.Pairwise.nil).1, fun x => by rw [← h x]; have := (putsG_aux L [] List.Pairwise.nil).2 x; simpa [putsG] using this⟩
theorem putG_length (l : List (List Int)) (v : List Int) : (putG l v).length ≤ l.length + 1 := by
  induction l with
  | nil => simp [putG]
  | cons y l ih =>
    unfold putG
    split
    · simp
    · split
      · simp
      · simp; exact ih

end Game
end Go.Proofs.YtobeigdjhepedaaGreatDoor
