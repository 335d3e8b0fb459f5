/- Comparisons of integers, of lists, of words: contracts. Membership in a list of rows: the reference's. Small roots: what both searches find. Plain law. Roots: pairings, mirrors, heights, the order: contracts. -/
import Derived.Test.YtldcmhgpppeooaaGreatDoorG04
import Derived.Test.YtldcmhgpppeooaaGreatDoorG01
namespace Go.Proofs.YtldcmhgpppeooaaGreatDoor
set_option maxRecDepth 100000
open Go.RowKit Game

theorem cw_isNaN (x : Int) (w : World) : Calls Tryz.prog 183 #[.int .i64 x] w (Reads w (.bool false)) := by
  go_enter Tryz.func183, Tryz.ntmps183
  go_wp2
  go_ret
  exact ⟨ret_bool (by simp), 0, rfl⟩
def cmpI (x y : Int) : Int := if x < y then -1 else if y < x then 1 else 0
set_option maxHeartbeats 1000000 in
theorem cw_Compare (x y : Int) (w : World) : Calls Tryz.prog 155 #[.int .i64 x, .int .i64 y] w (Reads w (.int .i64 (cmpI x y))) := by
  have H : Hid (cmpI x y = if x < y then -1 else if y < x then 1 else 0) := rfl
  rcases Int.lt_trichotomy x y with h | h | h
  · have hv : cmpI x y = -1 := by rw [H.out, if_pos h]
    have Hv := Lib.hid hv; clear hv
    go_enter Tryz.func155, Tryz.ntmps155
    go_wp2_with fail
    refine (cw_isNaN x _).mono ?_
    rintro e w1 ⟨rfl, m1, rfl⟩
    go_wp2_with fail
    refine (cw_isNaN y _).mono ?_
    rintro e w2 ⟨rfl, m2, rfl⟩
    go_wp2_with fail
    go_ret
    exact ⟨ret_int Hv.out.symm, (by first | exact ⟨_, rfl⟩ | exact ⟨0, rfl⟩ | exact still2 _ _ _ | exact still3 _ _ _ _)⟩
  · have hv : cmpI x y = 0 := by rw [H.out, if_neg (by omega), if_neg (by omega)]
    have Hv := Lib.hid hv; clear hv
    have h1 : ¬ x < y := by omega
    have h2 : ¬ y < x := by omega
    have Hh := Lib.hid h; clear h
    go_enter Tryz.func155, Tryz.ntmps155
    go_wp2_with fail
    refine (cw_isNaN x _).mono ?_
    rintro e w1 ⟨rfl, m1, rfl⟩
    go_wp2_with fail
    refine (cw_isNaN y _).mono ?_
    rintro e w2 ⟨rfl, m2, rfl⟩
    go_wp2_with fail
    go_ret
    exact ⟨ret_int Hv.out.symm, (by first | exact ⟨_, rfl⟩ | exact ⟨0, rfl⟩ | exact still2 _ _ _ | exact still3 _ _ _ _)⟩
  · have hv : cmpI x y = 1 := by rw [H.out, if_neg (by omega), if_pos h]
    have Hv := Lib.hid hv; clear hv
    have h1 : ¬ x < y := by omega
    go_enter Tryz.func155, Tryz.ntmps155
    go_wp2_with fail
    refine (cw_isNaN x _).mono ?_
    rintro e w1 ⟨rfl, m1, rfl⟩
    go_wp2_with fail
    refine (cw_isNaN y _).mono ?_
    rintro e w2 ⟨rfl, m2, rfl⟩
    go_wp2_with fail
    go_ret
    exact ⟨ret_int Hv.out.symm, (by first | exact ⟨_, rfl⟩ | exact ⟨0, rfl⟩ | exact still2 _ _ _ | exact still3 _ _ _ _)⟩

def sliceCmp : List Int → List Int → Int
  | [], [] => 0
  | [], _ :: _ => -1
  | _ :: _, [] => 1
  | x :: a, y :: b => if x < y then -1 else if y < x then 1 else sliceCmp a b
theorem sliceCmp_same : ∀ {a b : List Int}, a.length = b.length → sliceCmp a b = lexCmp a b
  | [], [], _ => rfl
  | [], _ :: _, h => by simp at h
  | _ :: _, [], h => by simp at h
  | x :: a, y :: b, h => by simp only [sliceCmp, lexCmp]; rw [sliceCmp_same (by simpa using h)]
theorem sliceCmp_drop {a b : List Int} {k : Nat} (h1 : k < a.length) (h2 : k < b.length) : sliceCmp (a.drop k) (b.drop k) = if a[k] < b[k] then -1 else if b[k] < a[k] then 1 else sliceCmp (a.drop (k + 1)) (b.drop (k + 1)) := by
  have e1 : a.drop k = a[k] :: a.drop (k + 1) := List.drop_eq_getElem_cons h1
  have e2 : b.drop k = b[k] :: b.drop (k + 1) := List.drop_eq_getElem_cons h2
  rw [e1, e2]; rfl
set_option maxHeartbeats 2000000 in
theorem slices_Compare_any (g1 o1 n1 c1 g2 o2 n2 c2 : Nat) (xs ys : List Int) (w : World) (hn1 : xs.length = n1) (hn2 : ys.length = n2) (hx : xs.length ≤ 1099511627776)
    (hcx : Cells w g1 o1 xs) (hcy : Cells w g2 o2 ys) :
    Calls Tryz.prog 156 #[(Value.slice (some ⟨g1, o1, none⟩) n1 c1), (Value.slice (some ⟨g2, o2, none⟩) n2 c2)] w (Reads w (.int .i64 (sliceCmp xs ys))) := by
  subst hn1; subst hn2
  go_enter Tryz.func156, Tryz.ntmps156
  go_wp2
  go_loopw [5, 6, 7, 8, 11] (fun _ _ _ _ i wr => ∃ k : Nat, k ≤ xs.length ∧ k ≤ ys.length ∧ i = .int .i64 k ∧ Hid (sliceCmp (xs.drop k) (ys.drop k) = sliceCmp xs ys) ∧ ∃ m, wr = w.drewN m) (fun _ _ _ _ i _ => xs.length - (intOf i).toNat)
  case atStart => exact ⟨0, Nat.zero_le _, Nat.zero_le _, rfl, rfl, (by first | exact ⟨_, rfl⟩ | exact ⟨0, rfl⟩ | exact still2 _ _ _ | exact still3 _ _ _ _)⟩
  case round =>
    obtain ⟨k, hk, hk2, rfl, he, m, rfl⟩ := hrel
    by_cases hlt : k < xs.length
    · by_cases hlt2 : k < ys.length
      · have q1 := hcx k hlt
        have q2 := hcy k hlt2
        have hd := sliceCmp_drop hlt hlt2
        have e1 : xs.getD k 0 = xs[k] := by simp [List.getD, hlt]
        have e2 : ys.getD k 0 = ys[k] := by simp [List.getD, hlt2]
        rw [he.out] at hd
        rw [← e1, ← e2] at hd
        clear e1 e2
        generalize xs.getD k 0 = x at *
        generalize ys.getD k 0 = y at *
        have Hd := Lib.hid hd; clear hd
        have hcall := cw_Compare x y (w.drewN m)
        rcases Int.lt_trichotomy x y with h | h | h
        · have hc : cmpI x y = -1 := by unfold cmpI; rw [if_pos h]
          have hv : sliceCmp xs ys = -1 := by rw [Hd.out, if_pos h]
          rw [hc] at hcall
          have Hcall := Lib.hid hcall; have Hv := Lib.hid hv; have Hh := Lib.hid h
          clear hcall hv hc h
          go_wp2_with fail
          refine Hcall.out.mono ?_
          rintro e w2 ⟨rfl, m2, rfl⟩
          go_wp2_with fail
          go_ret
          exact ⟨ret_int Hv.out.symm, (by first | exact ⟨_, rfl⟩ | exact ⟨0, rfl⟩ | exact still2 _ _ _ | exact still3 _ _ _ _)⟩
        · have hc : cmpI x y = 0 := by unfold cmpI; rw [if_neg (by omega), if_neg (by omega)]
          have hv : sliceCmp (xs.drop (k + 1)) (ys.drop (k + 1)) = sliceCmp xs ys := by rw [Hd.out, if_neg (by omega), if_neg (by omega)]
          rw [hc] at hcall
          have Hcall := Lib.hid hcall; have Hv := Lib.hid hv; have Hh := Lib.hid h
          clear hcall hv hc h
          go_wp2_with fail
          refine Hcall.out.mono ?_
          rintro e w2 ⟨rfl, m2, rfl⟩
          go_wp2_with fail
          go_roundw
          case rel => exact ⟨k + 1, by omega, by omega, by go_num, Hv.out, (by first | exact ⟨_, rfl⟩ | exact ⟨0, rfl⟩ | exact still2 _ _ _ | exact still3 _ _ _ _)⟩
          case measure => simp [intOf]; omega
        · have hc : cmpI x y = 1 := by unfold cmpI; rw [if_neg (by omega), if_pos h]
          have hv : sliceCmp xs ys = 1 := by rw [Hd.out, if_neg (by omega), if_pos h]
          rw [hc] at hcall
          have Hcall := Lib.hid hcall; have Hv := Lib.hid hv; have Hh := Lib.hid h
          clear hcall hv hc h
          go_wp2_with fail
          refine Hcall.out.mono ?_
          rintro e w2 ⟨rfl, m2, rfl⟩
          go_wp2_with fail
          go_ret
          exact ⟨ret_int Hv.out.symm, (by first | exact ⟨_, rfl⟩ | exact ⟨0, rfl⟩ | exact still2 _ _ _ | exact still3 _ _ _ _)⟩
      · have hv : sliceCmp xs ys = 1 := by
          rw [← he.out, List.drop_eq_getElem_cons hlt, show ys.drop k = [] from List.drop_eq_nil_iff.2 (by omega)]; rfl
        have q1 := hcx k hlt
        have Hv := Lib.hid hv; clear hv
        go_wp2_with fail
        go_ret
        exact ⟨ret_int Hv.out.symm, (by first | exact ⟨_, rfl⟩ | exact ⟨0, rfl⟩ | exact still2 _ _ _ | exact still3 _ _ _ _)⟩
    · by_cases hlt2 : xs.length < ys.length
      · have hv : sliceCmp xs ys = -1 := by
          rw [← he.out, List.drop_eq_getElem_cons (show k < ys.length by omega), show xs.drop k = [] from List.drop_eq_nil_iff.2 (by omega)]; rfl
        have Hv := Lib.hid hv; clear hv
        go_wp2_with fail
        go_ret
        exact ⟨ret_int Hv.out.symm, (by first | exact ⟨_, rfl⟩ | exact ⟨0, rfl⟩ | exact still2 _ _ _ | exact still3 _ _ _ _)⟩
      · have hv : sliceCmp xs ys = 0 := by
          rw [← he.out, show ys.drop k = [] from List.drop_eq_nil_iff.2 (by omega), show xs.drop k = [] from List.drop_eq_nil_iff.2 (by omega)]; rfl
        have Hv := Lib.hid hv; clear hv
        go_wp2_with fail
        go_ret
        exact ⟨ret_int Hv.out.symm, (by first | exact ⟨_, rfl⟩ | exact ⟨0, rfl⟩ | exact still2 _ _ _ | exact still3 _ _ _ _)⟩

def orL : List Int → Int
  | [] => 0
  | x :: l => if x = 0 then orL l else x
theorem orL_drop {l : List Int} {k : Nat} (h : k < l.length) : orL (l.drop k) = if l[k] = 0 then orL (l.drop (k + 1)) else l[k] := by
  rw [List.drop_eq_getElem_cons h]; rfl
set_option maxHeartbeats 1000000 in
theorem cw_Or (g o n cp : Nat) (xs : List Int) (w : World) (hn : xs.length = n) (hx : xs.length ≤ 1048576) (hc : Cells w g o xs) : Calls Tryz.prog 154 #[(Value.slice (some ⟨g, o, none⟩) n cp)] w (Reads w (.int .i64 (orL xs))) := by
  subst hn
  go_enter Tryz.func154, Tryz.ntmps154
  go_wp2
  go_loopw [5, 8] (fun _ i wr => ∃ k : Nat, k ≤ xs.length ∧ i = .int .i64 k ∧ Hid (orL (xs.drop k) = orL xs) ∧ ∃ m, wr = w.drewN m) (fun _ i _ => xs.length - (intOf i).toNat)
  case atStart => exact ⟨0, Nat.zero_le _, rfl, rfl, (by first | exact ⟨_, rfl⟩ | exact ⟨0, rfl⟩ | exact still2 _ _ _ | exact still3 _ _ _ _)⟩
  case round =>
    obtain ⟨k, hk, rfl, he, m, rfl⟩ := hrel
    by_cases hlt : k < xs.length
    · have q1 := hc k hlt
      have hd := orL_drop hlt
      have e1 : xs.getD k 0 = xs[k] := by simp [List.getD, hlt]
      rw [he.out, ← e1] at hd
      clear e1
      generalize xs.getD k 0 = x at *
      by_cases h0 : x = 0
      · rw [if_pos h0] at hd
        have Hd := Lib.hid hd; clear hd
        subst h0
        go_wp2
        go_roundw
        case rel => exact ⟨k + 1, by omega, by go_num, Hd.out.symm, (by first | exact ⟨_, rfl⟩ | exact ⟨0, rfl⟩ | exact still2 _ _ _ | exact still3 _ _ _ _)⟩
        case measure => simp [intOf]; omega
      · rw [if_neg h0] at hd
        have Hd := Lib.hid hd; clear hd
        have hne : (x != 0) = true := by simpa using h0
        go_wp2
        go_ret
        exact ⟨ret_int Hd.out.symm, (by first | exact ⟨_, rfl⟩ | exact ⟨0, rfl⟩ | exact still2 _ _ _ | exact still3 _ _ _ _)⟩
    · have hv : orL xs = 0 := by rw [← he.out, List.drop_eq_nil_iff.2 (by omega)]; rfl
      have Hv := Lib.hid hv; clear hv
      go_wp2
      go_ret
      exact ⟨ret_int Hv.out.symm, (by first | exact ⟨_, rfl⟩ | exact ⟨0, rfl⟩ | exact still2 _ _ _ | exact still3 _ _ _ _)⟩

theorem or_words (xs ys : List Int) : orL [cmpI xs.length ys.length, sliceCmp xs ys] = wordCmp xs ys := by
  have hc : cmpI xs.length ys.length = if xs.length < ys.length then -1 else if ys.length < xs.length then 1 else 0 := by unfold cmpI; simp
  rw [hc]
  unfold wordCmp
  by_cases h1 : xs.length < ys.length
  · rw [if_pos h1, if_pos h1]; rfl
  · rw [if_neg h1, if_neg h1]
    by_cases h2 : ys.length < xs.length
    · rw [if_pos h2, if_pos h2]; rfl
    · rw [if_neg h2, if_neg h2, sliceCmp_same (by omega)]
      simp only [orL, if_true]
      split
      · rename_i h; exact h.symm
      · rfl
/-- the call gives a value; it may draw and lay blocks -/
def Lays (w : World) (v : Value) (e : Ending) (w' : World) : Prop := e = .returned v ∧ ∃ (o : Obj) (q : Nat), w' = (w.alloc o).drewN q
set_option maxHeartbeats 1000000 in
theorem impl_CompareWords_any (g1 o1 n1 c1 g2 o2 n2 c2 : Nat) (xs ys : List Int) (w : World) (hn1 : xs.length = n1) (hn2 : ys.length = n2) (hx : xs.length ≤ 1048576)
    (hcx : Cells w g1 o1 xs) (hcy : Cells w g2 o2 ys) :
    Calls Tryz.prog 120 #[(Value.slice (some ⟨g1, o1, none⟩) n1 c1), (Value.slice (some ⟨g2, o2, none⟩) n2 c2)] w (Lays w (.int .i64 (wordCmp xs ys))) := by
  subst hn1; subst hn2
  have Ho := Lib.hid (or_words xs ys)
  go_enter Tryz.func120, Tryz.ntmps120
  go_wp2_with fail
  refine (cw_Compare _ _ _).mono ?_
  rintro e w1 ⟨rfl, hs1⟩
  go_wp2_with fail
  refine (slices_Compare_any g1 o1 xs.length c1 g2 o2 ys.length c2 xs ys w1 rfl rfl (by omega) (hcx.still hs1) (hcy.still hs1)).mono ?_
  rintro e w2 ⟨rfl, hs2⟩
  generalize sliceCmp xs ys = z at *
  generalize cmpI (xs.length : Int) (ys.length : Int) = y at *
  have Hs1 := Lib.hid hs1; have Hs2 := Lib.hid hs2
  clear hs1 hs2
  obtain ⟨w3, hw3⟩ : ∃ w3, w3 = w2.alloc (.cells #[.int .i64 y, .int .i64 z] 3) := ⟨_, rfl⟩
  have hc3 : Cells w3 w2.heap.size 0 [y, z] := by
    obtain ⟨q1, q2⟩ : w3.cell? ⟨w2.heap.size, 0, none⟩ = some (.int .i64 y) ∧ w3.cell? ⟨w2.heap.size, 1, none⟩ = some (.int .i64 z) := by
      have hh : w3.heap[w2.heap.size]? = some (.cells #[.int .i64 y, .int .i64 z] 3 (0, 0)) := by rw [hw3]; exact heap_alloc_new _ _
      constructor <;> simp [World.cell?, hh]
    intro j hj
    have : j = 0 ∨ j = 1 := by simp at hj; omega
    rcases this with rfl | rfl
    · exact q1
    · exact q2
  have hcall := cw_Or w2.heap.size 0 2 2 [y, z] w3 rfl (by simp) hc3
  rw [hw3, Ho.out] at hcall
  have Hcall := Lib.hid hcall
  clear hcall hc3 hw3
  go_wp2_with fail
  refine Hcall.out.mono ?_
  rintro e w4 ⟨rfl, hs4⟩
  go_wp2_with fail
  go_ret
  refine ⟨rfl, ?_⟩
  obtain ⟨m1, e1⟩ := Hs1.out
  obtain ⟨m2, e2⟩ := Hs2.out
  obtain ⟨m4, e4⟩ := hs4
  refine ⟨.cells #[.int .i64 y, .int .i64 z] 3, m1 + m2 + m4, ?_⟩
  rw [e4, e2, e1, World.drewN_drewN]
  show ((w.alloc _).drewN (m1 + m2)).drewN m4 = _
  rw [World.drewN_drewN]
/-- the comparison of lists, either way round -/
theorem sliceCmp_anti : ∀ (a b : List Int), sliceCmp b a = - sliceCmp a b
  | [], [] => rfl
  | [], _ :: _ => rfl
  | _ :: _, [] => rfl
  | x :: a, y :: b => by
    simp only [sliceCmp]
    by_cases h1 : x < y
    · rw [if_pos h1, if_neg (by omega), if_pos h1]; rfl
    · by_cases h2 : y < x
      · rw [if_pos h2, if_neg h1, if_pos h2]
      · rw [if_neg h2, if_neg h1, if_neg h1, if_neg h2]; exact sliceCmp_anti a b
theorem sliceCmp_trans : ∀ (a b d : List Int), sliceCmp a b < 0 → sliceCmp b d < 0 → sliceCmp a d < 0
  | [], [], _, h, _ => by simp [sliceCmp] at h
  | [], _ :: _, [], _, h => by simp [sliceCmp] at h
  | [], _ :: _, _ :: _, _, _ => by simp [sliceCmp]
  | _ :: _, [], _, h, _ => by simp [sliceCmp] at h
  | _ :: _, _ :: _, [], _, h => by simp [sliceCmp] at h
  | x :: a, y :: b, z :: d, h1, h2 => by
    have ih := sliceCmp_trans a b d
    simp only [sliceCmp] at *
    split at h1 <;> split at h2 <;> (try split at h1) <;> (try split at h2) <;> (try split) <;> (try split) <;> first | omega | (exact ih h1 h2)
theorem sliceCmp_zero : ∀ {a b : List Int}, sliceCmp a b = 0 → a = b
  | [], [], _ => rfl
  | [], _ :: _, h => by simp [sliceCmp] at h
  | _ :: _, [], h => by simp [sliceCmp] at h
  | x :: a, y :: b, h => by
    simp only [sliceCmp] at h
    split at h
    · omega
    · split at h
      · omega
      · have : x = y := by omega
        rw [this, sliceCmp_zero h]
theorem sliceCmp_self (a : List Int) : sliceCmp a a = 0 := by have := sliceCmp_anti a a; omega
theorem wordCmp_same {a b : List Int} (h : a.length = b.length) : wordCmp a b = sliceCmp a b := by
  unfold wordCmp
  rw [if_neg (by omega), if_neg (by omega), sliceCmp_same h]

/-- lists in strict order are told by their members -/
theorem strict_uniq {cf : List Int → List Int → Int} (anti : ∀ a b, cf b a = - cf a b) : ∀ {L M : List (List Int)}, L.Pairwise (fun a b => cf a b < 0) → M.Pairwise (fun a b => cf a b < 0) → (∀ x, x ∈ L ↔ x ∈ M) → L = M
  | [], [], _, _, _ => rfl
  | [], y :: M, _, _, h => by have := (h y).2 (by simp); simp at this
  | x :: L, [], _, _, h => by have := (h x).1 (by simp); simp at this
  | x :: L, y :: M, hL, hM, h => by
    have hL' := List.pairwise_cons.1 hL
    have hM' := List.pairwise_cons.1 hM
    have e : x = y := by
      rcases List.mem_cons.1 ((h x).1 (by simp)) with e | e
      · exact e
      · rcases List.mem_cons.1 ((h y).2 (by simp)) with e2 | e2
        · exact e2.symm
        · have h1 := hM'.1 x e
          have h2 := hL'.1 y e2
          have := anti x y
          omega
    subst e
    refine congrArg (x :: ·) (strict_uniq anti hL'.2 hM'.2 fun z => ?_)
    have hs := anti x x
    have hx : x ∉ L := fun hm => by have := hL'.1 x hm; omega
    have hy : x ∉ M := fun hm => by have := hM'.1 x hm; omega
    have hz := h z
    simp only [List.mem_cons] at hz
    constructor
    · intro hm
      rcases hz.1 (.inr hm) with e | e
      · subst e; exact absurd hm hx
      · exact e
    · intro hm
      rcases hz.2 (.inr hm) with e | e
      · subst e; exact absurd hm hy
      · exact e
theorem strict_of {cf : List Int → List Int → Int} (anti : ∀ a b, cf b a = - cf a b) (zero : ∀ {a b}, cf a b = 0 → a = b) {L : List (List Int)} (h : L.Pairwise fun a b => ¬ cf b a < 0) (hn : L.Nodup) : L.Pairwise fun a b => cf a b < 0 := by
  refine List.Pairwise.imp ?_ (List.Pairwise.and h hn)
  intro a b ⟨h1, h2⟩
  have h3 := anti a b
  rcases Int.lt_trichotomy (cf a b) 0 with h | h | h
  · exact h
  · exact absurd (zero h) h2
  · omega
end Go.Proofs.YtldcmhgpppeooaaGreatDoor
namespace Go.Proofs.YtldcmhgpppeooaaGreatDoor
set_option maxRecDepth 100000
open Go.RowKit Game

def inTo (l : List (List Int)) (r : List Int) (k : Nat) : Prop := ∀ j, j < k → l.getD j [] ≠ r
theorem inTo_all {l : List (List Int)} {r : List Int} (h : inTo l r l.length) : decide (r ∈ l) = false := by
  apply decide_eq_false
  intro hm
  obtain ⟨t, ht, e⟩ := List.mem_iff_getElem.1 hm
  exact h t ht (by simp [List.getD, ht, e])
theorem inTo_some {l : List (List Int)} {r : List Int} {k : Nat} (hk : k < l.length) (h : l.getD k [] = r) : decide (r ∈ l) = true := by
  apply decide_eq_true
  rw [← h]; simp [List.getD, hk]
set_option maxHeartbeats 2000000 in
theorem spec_l7In_any (g o n cp g1 o1 n1 c1 : Nat) (l : List (List Int)) (r : List Int) (w : World) (hn : l.length = n) (hn1 : r.length = n1) (hl : l.length ≤ 1048576) (hrl : ∀ j, j < l.length → (l.getD j []).length ≤ 1048576)
    (hr : Rows2 w g o l) (hc1 : Cells w g1 o1 r) :
    Calls Tryz.prog 121 #[(Value.slice (some ⟨g, o, none⟩) n cp), (Value.slice (some ⟨g1, o1, none⟩) n1 c1)] w (Reads w (.bool (decide (r ∈ l)))) := by
  subst hn; subst hn1
  go_enter Tryz.func121, Tryz.ntmps121
  go_wp2
  go_loopw [5] (fun i wr => ∃ k : Nat, k ≤ l.length ∧ i = .int .i64 k ∧ Hid (inTo l r k) ∧ ∃ m, wr = w.drewN m) (fun i _ => l.length - (intOf i).toNat)
  case atStart => exact ⟨0, Nat.zero_le _, rfl, fun j hj => absurd hj (by omega), (by first | exact ⟨_, rfl⟩ | exact ⟨0, rfl⟩ | exact still2 _ _ _ | exact still3 _ _ _ _)⟩
  case round =>
    obtain ⟨k, hk, rfl, hin, m, rfl⟩ := hrel
    by_cases hlt : k < l.length
    · obtain ⟨gj, oj, cj, q1, q2, q3, q4⟩ := hr k hlt
      have hlk := hrl k hlt
      have HY : Hid (l.getD k [] ≠ r → inTo l r (k + 1)) := fun h j hj => by
        by_cases e : j = k
        · subst e; exact h
        · exact hin.out j (by omega)
      have HX : Hid (l.getD k [] = r → decide (r ∈ l) = true) := inTo_some hlt
      generalize l.getD k [] = x at *
      have hcall := spec_EqualWords_any gj oj x.length cj g1 o1 r.length c1 x r (w.drewN m) rfl rfl (by omega) q4 hc1
      by_cases e : x = r
      · have hd := HX.out e
        rw [decide_eq_true e] at hcall
        have Hd := Lib.hid hd; have He := Lib.hid e; have Hcall := Lib.hid hcall
        clear hd hcall e
        go_wp2_with fail
        refine Hcall.out.mono ?_
        rintro e w2 ⟨rfl, m2, rfl⟩
        go_wp2_with fail
        go_ret
        exact ⟨ret_bool Hd.out.symm, (by first | exact ⟨_, rfl⟩ | exact ⟨0, rfl⟩ | exact still2 _ _ _ | exact still3 _ _ _ _)⟩
      · have hd := HY.out e
        rw [decide_eq_false e] at hcall
        have Hd := Lib.hid hd; have He := Lib.hid e; have Hcall := Lib.hid hcall
        clear hd hcall e
        go_wp2_with fail
        refine Hcall.out.mono ?_
        rintro e w2 ⟨rfl, m2, rfl⟩
        go_wp2_with fail
        go_roundw
        case rel => exact ⟨k + 1, by omega, by go_num, Hd.out, (by first | exact ⟨_, rfl⟩ | exact ⟨0, rfl⟩ | exact still2 _ _ _ | exact still3 _ _ _ _)⟩
        case measure => simp [intOf]; omega
    · obtain rfl : k = l.length := by omega
      have hf := inTo_all hin.out
      have Hf := Lib.hid hf; clear hf
      go_wp2
      go_ret
      exact ⟨ret_bool Hf.out.symm, (by first | exact ⟨_, rfl⟩ | exact ⟨0, rfl⟩ | exact still2 _ _ _ | exact still3 _ _ _ _)⟩
end Go.Proofs.YtldcmhgpppeooaaGreatDoor
namespace Go.Proofs.YtldcmhgpppeooaaGreatDoor
set_option maxRecDepth 100000
open Go.RowKit

/-- sums of products, as the machine makes them -/
def dotTo (a r : List Int) : Nat → Int
  | 0 => 0
  | k + 1 => wrap64 (dotTo a r k + wrap64 (a.getD k 0 * r.getD k 0))
def pairL (a r : List Int) : Int := dotTo a r r.length
def mirL (c : List (List Int)) (i : Nat) (r : List Int) : List Int := r.set i (wrap64 (r.getD i 0 - pairL (c.getD i []) r))
def simpL (n i : Nat) : List Int := (List.replicate n 0).set i 1
def transL (c : List (List Int)) : List (List Int) := (List.range c.length).map fun i => (List.range c.length).map fun j => ent c j i
def sumUp (r : List Int) : Nat → Int
  | 0 => 0
  | k + 1 => wrap64 (sumUp r k + r.getD k 0)
def heightL (r : List Int) : Int := sumUp r r.length
theorem mirL_length (c : List (List Int)) (i : Nat) (r : List Int) : (mirL c i r).length = r.length := by simp [mirL]
theorem simpL_length (n i : Nat) : (simpL n i).length = n := by simp [simpL]
theorem transL_length (c : List (List Int)) : (transL c).length = c.length := by simp [transL]
theorem transL_row {c : List (List Int)} {i : Nat} (hi : i < c.length) : (transL c).getD i [] = (List.range c.length).map fun j => ent c j i := by simp [transL, List.getD, hi]
theorem transL_rowLen {c : List (List Int)} {i : Nat} (hi : i < c.length) : ((transL c).getD i []).length = c.length := by rw [transL_row hi]; simp

/-- by height, then greater ones first -/
def rootCmp (a b : List Int) : Int := orL [cmpI (heightL a) (heightL b), sliceCmp b a]
theorem cmpI_anti (x y : Int) : cmpI y x = - cmpI x y := by
  unfold cmpI
  by_cases h1 : x < y
  · rw [if_pos h1, if_neg (by omega), if_pos h1]; rfl
  · by_cases h2 : y < x
    · rw [if_pos h2, if_neg h1, if_pos h2]
    · rw [if_neg h2, if_neg h1, if_neg h1, if_neg h2]; rfl
theorem cmpI_zero {x y : Int} (h : cmpI x y = 0) : x = y := by
  unfold cmpI at h
  split at h
  · omega
  · split at h
    · omega
    · omega
theorem cmpI_neg {x y : Int} : cmpI x y < 0 ↔ x < y := by
  unfold cmpI
  split
  · rename_i h; exact ⟨fun _ => h, fun _ => by omega⟩
  · split
    · exact ⟨fun h => by omega, fun h => by omega⟩
    · exact ⟨fun h => by omega, fun h => by omega⟩
theorem rootCmp_def (a b : List Int) : rootCmp a b = if cmpI (heightL a) (heightL b) = 0 then sliceCmp b a else cmpI (heightL a) (heightL b) := by
  unfold rootCmp
  simp only [orL]
  split
  · split
    · rename_i h; exact h.symm
    · rfl
  · rfl
theorem rootCmp_anti (a b : List Int) : rootCmp b a = - rootCmp a b := by
  rw [rootCmp_def, rootCmp_def]
  have h1 := cmpI_anti (heightL a) (heightL b)
  have h2 := sliceCmp_anti a b
  by_cases h : cmpI (heightL a) (heightL b) = 0
  · rw [if_pos (by omega), if_pos h]; omega
  · rw [if_neg (by omega), if_neg h]; omega
theorem rootCmp_zero {a b : List Int} (h : rootCmp a b = 0) : a = b := by
  rw [rootCmp_def] at h
  split at h
  · exact (sliceCmp_zero h).symm
  · rename_i g; exact absurd h g
theorem rootCmp_trans {a b d : List Int} (h1 : rootCmp a b < 0) (h2 : rootCmp b d < 0) : rootCmp a d < 0 := by
  rw [rootCmp_def] at *
  have k1 := @cmpI_neg (heightL a) (heightL b)
  have k2 := @cmpI_neg (heightL b) (heightL d)
  have k3 := @cmpI_neg (heightL a) (heightL d)
  split at h1
  · rename_i g1
    have e1 := cmpI_zero g1
    split at h2
    · rename_i g2
      have e2 := cmpI_zero g2
      rw [if_pos (by rw [e1, e2]; unfold cmpI; simp)]
      exact sliceCmp_trans _ _ _ h2 h1
    · have := k2.1 h2
      rw [if_neg (by intro h; have := cmpI_zero h; omega)]
      exact k3.2 (by omega)
  · have := k1.1 h1
    split at h2
    · rename_i g2
      have e2 := cmpI_zero g2
      rw [if_neg (by intro h; have := cmpI_zero h; omega)]
      exact k3.2 (by omega)
    · have := k2.1 h2
      rw [if_neg (by intro h; have := cmpI_zero h; omega)]
      exact k3.2 (by omega)
theorem rootCmp_self (a : List Int) : rootCmp a a = 0 := by have := rootCmp_anti a a; omega
/-- the reference's insertion -/
def putR : List (List Int) → List Int → List (List Int)
  | [], v => [v]
  | x :: l, v => if rootCmp v x < 0 then v :: x :: l else x :: putR l v
theorem mem_putR {x : List Int} : ∀ {l : List (List Int)} {v : List Int}, x ∈ putR l v ↔ x = v ∨ x ∈ l
  | [], v => by simp [putR]
  | y :: l, v => by
    unfold putR
    by_cases h2 : rootCmp v y < 0
    · rw [if_pos h2]; simp
    · rw [if_neg h2, List.mem_cons, mem_putR (l := l), List.mem_cons]
      constructor
      · rintro (h | h | h)
        · exact .inr (.inl h)
        · exact .inl h
        · exact .inr (.inr h)
      · rintro (h | h | h)
        · exact .inr (.inl h)
        · exact .inl h
        · exact .inr (.inr h)
theorem putR_length (l : List (List Int)) (v : List Int) : (putR l v).length = l.length + 1 := by
  induction l with
  | nil => simp [putR]
  | cons y l ih =>
    unfold putR
    split
    · simp
    · simp [ih]
def Up (L : List (List Int)) : Prop := L.Pairwise fun a b => rootCmp a b < 0
theorem putR_up : ∀ {l : List (List Int)} {v : List Int}, v ∉ l → Up l → Up (putR l v)
  | [], v, _, _ => List.pairwise_singleton _ _
  | y :: l, v, hv, h => by
    have h0 := List.pairwise_cons.1 h
    unfold putR
    have ha := rootCmp_anti v y
    by_cases h2 : rootCmp v y < 0
    · rw [if_pos h2]
      refine List.pairwise_cons.2 ⟨fun z hz => ?_, h⟩
      rcases List.mem_cons.1 hz with rfl | hz
      · exact h2
      · exact rootCmp_trans h2 (h0.1 z hz)
    · rw [if_neg h2]
      refine List.pairwise_cons.2 ⟨fun z hz => ?_, putR_up (fun hm => hv (List.mem_cons_of_mem _ hm)) h0.2⟩
      rcases mem_putR.1 hz with rfl | hz
      · rcases Int.lt_trichotomy (rootCmp y z) 0 with g | g | g
        · exact g
        · exact absurd (by rw [rootCmp_zero g]; simp) hv
        · omega
      · exact h0.1 z hz
def putsR (L : List (List Int)) : List (List Int) := L.foldl putR []
theorem putsR_aux : ∀ (L a : List (List Int)), L.Nodup → (∀ x ∈ L, x ∉ a) → Up a → Up (L.foldl putR a) ∧ ∀ x, x ∈ L.foldl putR a ↔ x ∈ L ∨ x ∈ a
  | [], a, _, _, h => ⟨h, by simp⟩
  | y :: L, a, hn, hd, h => by
    have hn' := List.nodup_cons.1 hn
    obtain ⟨h1, h2⟩ := putsR_aux L (putR a y) hn'.2 (fun x hx hm => by
      rcases mem_putR.1 hm with e | e
      · subst e; exact hn'.1 hx
      · exact hd x (List.mem_cons_of_mem _ hx) e) (putR_up (hd y (by simp)) h)
    refine ⟨h1, fun x => ?_⟩
    rw [List.foldl_cons, h2 x, mem_putR, List.mem_cons]
    constructor
    · rintro (h | h | h)
      · exact .inl (.inr h)
      · exact .inl (.inl h)
      · exact .inr h
    · rintro ((h | h) | h)
      · exact .inr (.inl h)
      · exact .inl h
      · exact .inr (.inr h)
theorem putsR_take {L : List (List Int)} {k : Nat} (hk : k < L.length) : putsR (L.take (k + 1)) = putR (putsR (L.take k)) (L.getD k []) := by
  have e : L.getD k [] = L[k] := by simp [List.getD, hk]
  unfold putsR
  rw [e, List.take_succ_eq_append_getElem hk, List.foldl_append]; rfl
theorem putsR_len (L : List (List Int)) : (putsR L).length = L.length := by
  have : ∀ (L a : List (List Int)), (L.foldl putR a).length = L.length + a.length := by
    intro L
    induction L with
    | nil => intro a; simp
    | cons y L ih => intro a; rw [List.foldl_cons, ih, putR_length]; simp; omega
  have h := this L []
  simpa [putsR] using h
/-- what is sorted is what is inserted one by one -/
theorem putsR_eq {L S : List (List Int)} (hn : L.Nodup) (hp : S.Perm L) (hs : S.Pairwise fun a b => ¬ rootCmp b a < 0) : S = putsR L := by
  obtain ⟨h1, h2⟩ := putsR_aux L [] hn (by simp) List.Pairwise.nil
  refine strict_uniq rootCmp_anti (strict_of rootCmp_anti rootCmp_zero hs (hp.nodup_iff.2 hn)) h1 fun x => ?_
  rw [hp.mem_iff]
  show x ∈ L ↔ x ∈ L.foldl putR []
  rw [h2 x]; simp

/-- the search: roots with their coroots -/
abbrev RPair := List Int × List Int
def smStep (c t : List (List Int)) (Q : List RPair) (k i : Nat) : List RPair :=
  let p := Q.getD k ([], [])
  if pairL (c.getD i []) p.1 < 0 ∧ wrap64 (pairL (c.getD i []) p.1 * pairL (t.getD i []) p.2) < 4 ∧ mirL c i p.1 ∉ Q.map (·.1) then Q ++ [(mirL c i p.1, mirL t i p.2)] else Q
def smRow (c t : List (List Int)) (Q : List RPair) (k : Nat) : Nat → List RPair
  | 0 => Q
  | i + 1 => smStep c t (smRow c t Q k i) k i
def smGo (c t : List (List Int)) : Nat → Nat → List RPair → Option (List RPair)
  | 0, k, Q => if Q.length ≤ k then some Q else none
  | f + 1, k, Q => if Q.length ≤ k then some Q else if 40 < (smRow c t Q k c.length).length then none else smGo c t f (k + 1) (smRow c t Q k c.length)
def smStart (c : List (List Int)) : List RPair := (List.range c.length).map fun i => (simpL c.length i, simpL c.length i)
def smR (c : List (List Int)) : Option (List RPair) := smGo c (transL c) 41 0 (smStart c)
def smallL (c : List (List Int)) : List (List Int) := match smR c with | some Q => putsR (Q.map (·.1)) | none => []
/-- all roots and coroots have a number for each point, no root stands twice -/
structure SmOk (c : List (List Int)) (Q : List RPair) : Prop where
  len1 : ∀ p ∈ Q, p.1.length = c.length ∧ p.2.length = c.length
  nodup : (Q.map (·.1)).Nodup
section
variable {c t : List (List Int)} {Q : List RPair} {k i : Nat}
theorem smStep_le : Q.length ≤ (smStep c t Q k i).length ∧ (smStep c t Q k i).length ≤ Q.length + 1 := by
  unfold smStep
  dsimp only
  split
  · simp
  · simp
theorem smRow_le : ∀ i, Q.length ≤ (smRow c t Q k i).length ∧ (smRow c t Q k i).length ≤ Q.length + i
  | 0 => by simp [smRow]
  | i + 1 => by
    have h1 := smRow_le i
    have h2 := smStep_le (c := c) (t := t) (Q := smRow c t Q k i) (k := k) (i := i)
    simp only [smRow]
    omega
theorem smRow_mono {i j : Nat} (h : i ≤ j) : (smRow c t Q k i).length ≤ (smRow c t Q k j).length := by
  induction h with
  | refl => exact Nat.le_refl _
  | step _ ih => exact Nat.le_trans ih smStep_le.1
theorem SmOk.step (h : SmOk c Q) (hk : k < Q.length) : SmOk c (smStep c t Q k i) := by
  unfold smStep
  dsimp only
  split
  · rename_i hc
    have hm : Q.getD k ([], []) ∈ Q := by simp [List.getD, hk]
    have hl := h.len1 _ hm
    refine ⟨?_, ?_⟩
    · intro p hp
      rcases List.mem_append.1 hp with h1 | h1
      · exact h.len1 p h1
      · rw [List.mem_singleton] at h1
        subst h1
        exact ⟨by rw [mirL_length]; exact hl.1, by rw [mirL_length]; exact hl.2⟩
    · rw [List.map_append, List.nodup_append]
      refine ⟨h.nodup, by simp, ?_⟩
      intro a ha b hb e
      rw [List.map_cons, List.map_nil, List.mem_singleton] at hb
      subst hb; subst e
      exact hc.2.2 ha
  · exact h
theorem SmOk.row (h : SmOk c Q) (hk : k < Q.length) : ∀ i, SmOk c (smRow c t Q k i)
  | 0 => h
  | i + 1 => (SmOk.row h hk i).step (Nat.lt_of_lt_of_le hk (smRow_le i).1)
theorem simpL_inj {n i j : Nat} (hi : i < n) (h : simpL n i = simpL n j) : i = j := by
  have h1 : (simpL n i).getD i 0 = 1 := by simp [simpL, List.getD, hi]
  rw [h] at h1
  by_cases e : i = j
  · exact e
  · have : (simpL n j).getD i 0 = 0 := by simp [simpL, List.getD, hi, Ne.symm e]
    omega
theorem smStart_ok (c : List (List Int)) : SmOk c (smStart c) := by
  refine ⟨?_, ?_⟩
  · intro p hp
    obtain ⟨i, -, rfl⟩ := List.mem_map.1 hp
    exact ⟨simpL_length _ _, simpL_length _ _⟩
  · unfold smStart
    rw [List.map_map]
    rw [List.Nodup, List.pairwise_map]
    have hp := List.nodup_range (n := c.length)
    refine List.Pairwise.imp_of_mem (fun {a b} ha hb hab e => hab ?_) hp
    exact simpL_inj (List.mem_range.1 ha) e
theorem smStart_length (c : List (List Int)) : (smStart c).length = c.length := by simp [smStart]
theorem smGo_next {f : Nat} (hk : k < Q.length) (hl : (smRow c t Q k c.length).length ≤ 40) : smGo c t (f + 1) k Q = smGo c t f (k + 1) (smRow c t Q k c.length) := by
  simp only [smGo]
  rw [if_neg (by omega), if_neg (by omega)]
theorem smGo_over {f : Nat} (hk : k < Q.length) (hl : 40 < (smRow c t Q k c.length).length) : smGo c t (f + 1) k Q = none := by
  simp only [smGo]
  rw [if_neg (by omega), if_pos hl]
theorem smGo_done {f : Nat} (hk : Q.length ≤ k) : smGo c t f k Q = some Q := by
  cases f <;> simp only [smGo] <;> rw [if_pos hk]
theorem SmOk.go : ∀ (f k : Nat) (Q R : List RPair), SmOk c Q → Q.length ≤ 40 → smGo c t f k Q = some R → SmOk c R ∧ R.length ≤ 40
  | 0, k, Q, R, h, hl, e => by
    simp only [smGo] at e
    split at e
    · cases e; exact ⟨h, hl⟩
    · cases e
  | f + 1, k, Q, R, h, hl, e => by
    simp only [smGo] at e
    split at e
    · cases e; exact ⟨h, hl⟩
    · rename_i hk
      split at e
      · cases e
      · rename_i h40
        exact SmOk.go f (k + 1) _ R (h.row (by omega) _) (by omega) e
theorem smR_ok {R : List RPair} (hn : c.length ≤ 40) (h : smR c = some R) : SmOk c R ∧ R.length ≤ 40 :=
  SmOk.go 41 0 _ R (smStart_ok c) (by rw [smStart_length]; exact hn) h
theorem smallL_few (hn : c.length ≤ 4) : (smallL c).length ≤ 40 ∧ ∀ x ∈ smallL c, x.length = c.length := by
  unfold smallL
  split
  · rename_i Q h
    obtain ⟨h1, h2⟩ := smR_ok (by omega) h
    refine ⟨by rw [putsR_len]; simpa using h2, ?_⟩
    intro x hx
    have := ((putsR_aux _ [] h1.nodup (by simp) List.Pairwise.nil).2 x).1 hx
    rcases this with h3 | h3
    · obtain ⟨p, hp, rfl⟩ := List.mem_map.1 h3
      exact (h1.len1 p hp).1
    · simp at h3
  · exact ⟨by simp, by simp⟩
end
end Go.Proofs.YtldcmhgpppeooaaGreatDoor
namespace Go.Proofs.YtldcmhgpppeooaaGreatDoor
set_option maxRecDepth 100000
open Go.RowKit Game

set_option maxHeartbeats 1000000 in
theorem impl_pairing_any (g1 o1 n1 c1 g2 o2 n2 c2 : Nat) (a r : List Int) (w : World) (hn1 : a.length = n1) (hn2 : r.length = n2) (hl : r.length ≤ a.length) (hx : a.length ≤ 1048576) (ha : Cells w g1 o1 a) (hr : Cells w g2 o2 r) :
    Calls Tryz.prog 172 #[(Value.slice (some ⟨g1, o1, none⟩) n1 c1), (Value.slice (some ⟨g2, o2, none⟩) n2 c2)] w (Reads w (.int .i64 (pairL a r))) := by
  subst hn1; subst hn2
  go_enter Tryz.func172, Tryz.ntmps172
  go_wp2
  go_loopw [5, 10] (fun s kv wr => ∃ t q : Nat, t ≤ r.length ∧ kv = .int .i64 t ∧ s = .int .i64 (dotTo a r t) ∧ wr = w.drewN q) (fun _ kv _ => r.length - (intOf kv).toNat)
  case atStart => exact ⟨0, 0, Nat.zero_le _, rfl, rfl, rfl⟩
  case round =>
    obtain ⟨t, q, ht, rfl, rfl, rfl⟩ := hrel
    by_cases hlt : t < r.length
    · have q1 := ha t (by omega)
      have q2 := hr t hlt
      have hta : t < a.length := by omega
      have hd : dotTo a r (t + 1) = wrap64 (dotTo a r t + wrap64 (a.getD t 0 * r.getD t 0)) := rfl
      generalize a.getD t 0 = x at *
      generalize r.getD t 0 = y at *
      have Hd := Lib.hid hd; clear hd
      generalize dotTo a r t = z at *
      go_wp2
      go_roundw
      case rel => exact ⟨t + 1, _, by omega, by go_num, by rw [Hd.out], rfl⟩
      case measure => simp [intOf]; omega
    · obtain rfl : t = r.length := by omega
      go_wp2
      go_ret
      exact ⟨rfl, (by first | exact ⟨_, rfl⟩ | exact ⟨0, rfl⟩ | exact still2 _ _ _ | exact still3 _ _ _ _)⟩

set_option maxHeartbeats 1000000 in
theorem spec_HeightOf_any (g o n cp : Nat) (r : List Int) (w : World) (hn : r.length = n) (hx : r.length ≤ 1048576) (hr : Cells w g o r) :
    Calls Tryz.prog 146 #[(Value.slice (some ⟨g, o, none⟩) n cp)] w (Reads w (.int .i64 (heightL r))) := by
  subst hn
  go_enter Tryz.func146, Tryz.ntmps146
  go_wp2
  go_loopw [3, 4] (fun s kv wr => ∃ t q : Nat, t ≤ r.length ∧ kv = .int .i64 t ∧ s = .int .i64 (sumUp r t) ∧ wr = w.drewN q) (fun _ kv _ => r.length - (intOf kv).toNat)
  case atStart => exact ⟨0, 0, Nat.zero_le _, rfl, rfl, rfl⟩
  case round =>
    obtain ⟨t, q, ht, rfl, rfl, rfl⟩ := hrel
    by_cases hlt : t < r.length
    · have q2 := hr t hlt
      have hd : sumUp r (t + 1) = wrap64 (sumUp r t + r.getD t 0) := rfl
      generalize r.getD t 0 = y at *
      have Hd := Lib.hid hd; clear hd
      generalize sumUp r t = z at *
      go_wp2
      go_roundw
      case rel => exact ⟨t + 1, _, by omega, by go_num, by rw [Hd.out], rfl⟩
      case measure => simp [intOf]; omega
    · obtain rfl : t = r.length := by omega
      go_wp2
      go_ret
      exact ⟨rfl, (by first | exact ⟨_, rfl⟩ | exact ⟨0, rfl⟩ | exact still2 _ _ _ | exact still3 _ _ _ _)⟩

theorem own_simple {w : World} {B g n cap : Nat} (h : Own w B g cap (List.replicate n 0)) {i : Nat} : Own (w.setCell ⟨g, i, none⟩ (.int .i64 1)) B g cap (simpL n i) ∧ w.grownBy (w.setCell ⟨g, i, none⟩ (.int .i64 1)) (some g) := by
  have := h.set i 1
  exact this
set_option maxHeartbeats 1000000 in
theorem spec_SimpleRoot_any (gc oc n cc i : Nat) (c : List (List Int)) (w : World) (hn : c.length = n) (hC : IsC c) (hi : i < c.length) (hc : Rows2 w gc oc c) :
    Calls Tryz.prog 143 #[(Value.slice (some ⟨gc, oc, none⟩) n cc), .int .i64 i] w (GotInts w (simpL c.length i)) := by
  subst hn
  have hn4 := hC.2.1
  have hcall := spec_IsCartan gc oc _ cc c w rfl (by omega) (fun j hj => by rw [hC.2.2.1 j hj]; omega) hc
  rw [decide_eq_true hC] at hcall
  have Hcall := Lib.hid hcall
  clear hcall
  go_enter Tryz.func143, Tryz.ntmps143
  go_wp2_with fail
  refine Hcall.out.mono ?_
  rintro e w1 ⟨rfl, hs1⟩
  have hb1 := below_still (Below.refl w.heap.size w) hs1
  clear hs1 Hcall
  have hcall := spec_l1In i 0 ((c.length : Int) - 1) w1
  have hT : (decide ((0 : Int) ≤ (i : Int)) && decide ((i : Int) ≤ (c.length : Int) - 1)) = true := by simp; omega
  rw [hT] at hcall
  have Hcall := Lib.hid hcall
  clear hcall hT
  go_wp2_with fail
  refine Hcall.out.mono ?_
  rintro e w2 ⟨rfl, hs2⟩
  have hb2 := below_still hb1 hs2
  clear hs2 Hcall hb1
  go_wp2_with (at_make; refine wpList_make_ints rfl _ _ rfl w.heap.size c.length _ rfl rfl rfl (by omega) hb2.size ?_)
  intro w3 ho3 hg3
  have hb3 : Below w.heap.size w w3 := hb2.grown hg3 hb2.size (by simp)
  have hcl := ho3.cell i (by simpa using hi)
  have hf := ho3.frozen i
  go_wp2
  have hs := own_simple ho3 (i := i)
  go_ret
  exact GotInts.mk' _ c.length (simpL_length _ _) hs.1 (hb3.grown hs.2 hb3.size (by intro k hk; cases hk; exact ho3.base))
end Go.Proofs.YtldcmhgpppeooaaGreatDoor
