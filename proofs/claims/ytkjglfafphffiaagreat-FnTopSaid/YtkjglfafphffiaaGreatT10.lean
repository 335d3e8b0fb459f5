/- Elements by length: the reference's levels are the elements of each length; lists in strict order are told by their members. Plain law. Comparisons of integers, of lists, of words: contracts. -/
import Derived.Test.YtkjglfafphffiaaGreatT09
import Derived.Test.YtkjglfafphffiaaGreatT02
import Derived.Test.YtkjglfafphffiaaGreatT03
namespace Go.Proofs.YtkjglfafphffiaaGreat
set_option maxRecDepth 100000
open Go.RowKit
namespace Game
set_option linter.unusedSimpArgs false
variable {c : List (List Int)}
abbrev imgL (c : List (List Int)) (w : List Nat) : List Int := actW c (intsOf w) (onesL c.length)
theorem intsOf_append (a b : List Nat) : intsOf (a ++ b) = intsOf a ++ intsOf b := by simp [intsOf]
theorem imgL_of_act (hC : IsC c) {w w' : List Nat} (hw : ∀ i ∈ w, i < c.length) (hw' : ∀ i ∈ w', i < c.length) (hl : w.length ≤ 30) (hl' : w'.length ≤ 30) (h : ∀ u, act (ent c) w u = act (ent c) w' u) : imgL c w = imgL c w' := by
  apply toV_inj
  · unfold imgL; rw [actW_length, actW_length]
  · unfold imgL; rw [toV_image hC hw hl, toV_image hC hw' hl', h]
theorem lexCmp_anti : ∀ (a b : List Int), lexCmp b a = - lexCmp a b
  | [], [] => rfl
  | [], _ :: _ => rfl
  | _ :: _, [] => rfl
  | x :: a, y :: b => by
    simp only [lexCmp]
    by_cases h1 : x < y
    · rw [if_pos h1, if_neg (by omega), if_pos h1]; rfl
    · by_cases h2 : y < x
      · rw [if_pos h2, if_neg h1, if_pos h2]
      · rw [if_neg h2, if_neg h1, if_neg h1, if_neg h2]; exact lexCmp_anti a b
theorem lexCmp_trans : ∀ (a b d : List Int), a.length = b.length → b.length = d.length → lexCmp a b < 0 → lexCmp b d < 0 → lexCmp a d < 0
  | [], [], _, _, _, h, _ => by simp [lexCmp] at h
  | x :: a, y :: b, [], _, h, _, _ => by simp at h
  | x :: a, y :: b, z :: d, hl, hl', h1, h2 => by
    have ih := lexCmp_trans a b d (by simpa using hl) (by simpa using hl')
    simp only [lexCmp] at *
    split at h1 <;> split at h2 <;> (try split at h1) <;> (try split at h2) <;> (try split) <;> (try split) <;> first | omega | (exact ih h1 h2)
theorem wordCmp_self (a : List Int) : wordCmp a a = 0 := by have := wordCmp_eq a a; simpa using this
theorem wordCmp_zero {a b : List Int} (h : wordCmp a b = 0) : a = b := by
  have h2 := wordCmp_eq a b
  rw [h] at h2
  simpa using h2
theorem wordCmp_anti (a b : List Int) : wordCmp b a = - wordCmp a b := by
  unfold wordCmp
  by_cases h1 : a.length < b.length
  · rw [if_pos h1, if_neg (by omega), if_pos h1]; rfl
  · by_cases h2 : b.length < a.length
    · rw [if_pos h2, if_neg h1, if_pos h2]
    · rw [if_neg h2, if_neg h1, if_neg h1, if_neg h2]; exact lexCmp_anti a b
theorem wordCmp_trans {a b d : List Int} (h1 : wordCmp a b < 0) (h2 : wordCmp b d < 0) : wordCmp a d < 0 := by
  have h3 := lexCmp_trans a b d
  unfold wordCmp at *
  split at h1
  · split at h2
    · rw [if_pos (by omega)]; omega
    · split at h2
      · omega
      · rw [if_pos (by omega)]; omega
  · split at h1
    · omega
    · split at h2
      · rw [if_pos (by omega)]; omega
      · split at h2
        · omega
        · rw [if_neg (by omega), if_neg (by omega)]; exact h3 (by omega) (by omega) h1 h2
/-- strictly ascending -/
def Asc (L : List (List Int)) : Prop := L.Pairwise fun a b => wordCmp a b < 0
theorem Asc.nodup {L : List (List Int)} (h : Asc L) : L.Nodup := by
  refine List.Pairwise.imp ?_ h
  intro a b hab e
  subst e
  rw [wordCmp_self] at hab
  omega
theorem Asc.uniq : ∀ {L M : List (List Int)}, Asc L → Asc M → (∀ x, x ∈ L ↔ x ∈ M) → L = M
  | [], [], _, _, _ => rfl
  | [], y :: M, _, _, h => by have := (h y).2 (by simp); simp at this
  | x :: L, [], _, _, h => by have := (h x).1 (by simp); simp at this
  | x :: L, y :: M, hL, hM, h => by
    have hL' := List.pairwise_cons.1 hL
    have hM' := List.pairwise_cons.1 hM
    have e : x = y := by
      rcases List.mem_cons.1 ((h x).1 (by simp)) with e | e
      · exact e
      · rcases List.mem_cons.1 ((h y).2 (by simp)) with e2 | e2
        · exact e2.symm
        · have h1 := hM'.1 x e
          have h2 := hL'.1 y e2
          have := wordCmp_anti x y
          omega
    subst e
    refine congrArg (x :: ·) (Asc.uniq hL'.2 hM'.2 fun z => ?_)
    have hx : x ∉ L := fun hm => by have := hL'.1 x hm; rw [wordCmp_self] at this; omega
    have hy : x ∉ M := fun hm => by have := hM'.1 x hm; rw [wordCmp_self] at this; omega
    have hz := h z
    simp only [List.mem_cons] at hz
    constructor
    · intro hm
      rcases hz.1 (.inr hm) with e | e
      · subst e; exact absurd hm hx
      · exact e
    · intro hm
      rcases hz.2 (.inr hm) with e | e
      · subst e; exact absurd hm hy
      · exact e
/-- the reference's insertion -/
def putL : List (List Int) → List Int → List (List Int)
  | [], w => [w]
  | x :: l, w => if w = x then x :: l else if wordCmp w x < 0 then w :: x :: l else x :: putL l w
theorem mem_putL {x : List Int} : ∀ {l : List (List Int)} {w : List Int}, x ∈ putL l w ↔ x = w ∨ x ∈ l
  | [], w => by simp [putL]
  | y :: l, w => by
    simp only [putL]
    split
    · rename_i h; subst h
      constructor
      · intro h; exact .inr h
      · rintro (rfl | h); · simp
        exact h
    · split
      · simp
      · rw [List.mem_cons, mem_putL, List.mem_cons]
        constructor
        · rintro (h | h | h)
          · exact .inr (.inl h)
          · exact .inl h
          · exact .inr (.inr h)
        · rintro (h | h | h)
          · exact .inr (.inl h)
          · exact .inl h
          · exact .inr (.inr h)
theorem putL_asc : ∀ {l : List (List Int)} {w : List Int}, Asc l → Asc (putL l w)
  | [], w, _ => by simp [putL, Asc]
  | y :: l, w, h => by
    have h' := List.pairwise_cons.1 h
    simp only [putL]
    split
    · exact h
    · rename_i hne
      split
      · rename_i hlt
        refine List.pairwise_cons.2 ⟨fun z hz => ?_, h⟩
        rcases List.mem_cons.1 hz with e | e
        · subst e; exact hlt
        · exact wordCmp_trans hlt (h'.1 z e)
      · rename_i hge
        refine List.pairwise_cons.2 ⟨fun z hz => ?_, putL_asc h'.2⟩
        rcases mem_putL.1 hz with e | e
        · subst e
          have := wordCmp_anti z y
          have h0 : wordCmp z y ≠ 0 := fun e0 => hne (wordCmp_zero e0)
          omega
        · exact h'.1 z e
/-- the normal form, as a list of integers -/
def nfI (c : List (List Int)) (w : List Int) : List Int := (normG c 30 (actW c w (onesL c.length))).getD []
theorem nfI_of {w W : List Nat} (h : NfOf c w W) : nfI c (intsOf w) = intsOf W := by unfold nfI; rw [h.norm]; rfl
end Game
end Go.Proofs.YtkjglfafphffiaaGreat
namespace Go.Proofs.YtkjglfafphffiaaGreat
set_option maxRecDepth 100000
open Go.RowKit Game
theorem cw_isNaN (x : Int) (w : World) : Calls Tryz.prog 124 #[.int .i64 x] w (Reads w (.bool false)) := by
  go_enter Tryz.func124, Tryz.ntmps124
  go_wp2
  go_ret
  exact ⟨ret_bool (by simp), 0, rfl⟩
def cmpI (x y : Int) : Int := if x < y then -1 else if y < x then 1 else 0
set_option maxHeartbeats 1000000 in
theorem cw_Compare (x y : Int) (w : World) : Calls Tryz.prog 85 #[.int .i64 x, .int .i64 y] w (Reads w (.int .i64 (cmpI x y))) := by
  have H : Hid (cmpI x y = if x < y then -1 else if y < x then 1 else 0) := rfl
  rcases Int.lt_trichotomy x y with h | h | h
  · have hv : cmpI x y = -1 := by rw [H.out, if_pos h]
    have Hv := Lib.hid hv; clear hv
    go_enter Tryz.func85, Tryz.ntmps85
    go_wp2_with fail
    refine (cw_isNaN x _).mono ?_
    rintro e w1 ⟨rfl, m1, rfl⟩
    go_wp2_with fail
    refine (cw_isNaN y _).mono ?_
    rintro e w2 ⟨rfl, m2, rfl⟩
    go_wp2_with fail
    go_ret
    exact ⟨ret_int Hv.out.symm, (by first | exact ⟨_, rfl⟩ | exact ⟨0, rfl⟩ | exact still2 _ _ _ | exact still3 _ _ _ _)⟩
  · have hv : cmpI x y = 0 := by rw [H.out, if_neg (by omega), if_neg (by omega)]
    have Hv := Lib.hid hv; clear hv
    have h1 : ¬ x < y := by omega
    have h2 : ¬ y < x := by omega
    have Hh := Lib.hid h; clear h
    go_enter Tryz.func85, Tryz.ntmps85
    go_wp2_with fail
    refine (cw_isNaN x _).mono ?_
    rintro e w1 ⟨rfl, m1, rfl⟩
    go_wp2_with fail
    refine (cw_isNaN y _).mono ?_
    rintro e w2 ⟨rfl, m2, rfl⟩
    go_wp2_with fail
    go_ret
    exact ⟨ret_int Hv.out.symm, (by first | exact ⟨_, rfl⟩ | exact ⟨0, rfl⟩ | exact still2 _ _ _ | exact still3 _ _ _ _)⟩
  · have hv : cmpI x y = 1 := by rw [H.out, if_neg (by omega), if_pos h]
    have Hv := Lib.hid hv; clear hv
    have h1 : ¬ x < y := by omega
    go_enter Tryz.func85, Tryz.ntmps85
    go_wp2_with fail
    refine (cw_isNaN x _).mono ?_
    rintro e w1 ⟨rfl, m1, rfl⟩
    go_wp2_with fail
    refine (cw_isNaN y _).mono ?_
    rintro e w2 ⟨rfl, m2, rfl⟩
    go_wp2_with fail
    go_ret
    exact ⟨ret_int Hv.out.symm, (by first | exact ⟨_, rfl⟩ | exact ⟨0, rfl⟩ | exact still2 _ _ _ | exact still3 _ _ _ _)⟩
def sliceCmp : List Int → List Int → Int
  | [], [] => 0
  | [], _ :: _ => -1
  | _ :: _, [] => 1
  | x :: a, y :: b => if x < y then -1 else if y < x then 1 else sliceCmp a b
theorem sliceCmp_drop {a b : List Int} {k : Nat} (h1 : k < a.length) (h2 : k < b.length) : sliceCmp (a.drop k) (b.drop k) = if a[k] < b[k] then -1 else if b[k] < a[k] then 1 else sliceCmp (a.drop (k + 1)) (b.drop (k + 1)) := by
  have e1 : a.drop k = a[k] :: a.drop (k + 1) := List.drop_eq_getElem_cons h1
  have e2 : b.drop k = b[k] :: b.drop (k + 1) := List.drop_eq_getElem_cons h2
  rw [e1, e2]; rfl
set_option maxHeartbeats 2000000 in
theorem slices_Compare_any (g1 o1 n1 c1 g2 o2 n2 c2 : Nat) (xs ys : List Int) (w : World) (hn1 : xs.length = n1) (hn2 : ys.length = n2) (hx : xs.length ≤ 1099511627776)
    (hcx : Cells w g1 o1 xs) (hcy : Cells w g2 o2 ys) :
    Calls Tryz.prog 87 #[(Value.slice (some ⟨g1, o1, none⟩) n1 c1), (Value.slice (some ⟨g2, o2, none⟩) n2 c2)] w (Reads w (.int .i64 (sliceCmp xs ys))) := by
  subst hn1; subst hn2
  go_enter Tryz.func87, Tryz.ntmps87
  go_wp2
  go_loopw [5, 6, 7, 8, 11] (fun _ _ _ _ i wr => ∃ k : Nat, k ≤ xs.length ∧ k ≤ ys.length ∧ i = .int .i64 k ∧ Hid (sliceCmp (xs.drop k) (ys.drop k) = sliceCmp xs ys) ∧ ∃ m, wr = w.drewN m) (fun _ _ _ _ i _ => xs.length - (intOf i).toNat)
  case atStart => exact ⟨0, Nat.zero_le _, Nat.zero_le _, rfl, rfl, (by first | exact ⟨_, rfl⟩ | exact ⟨0, rfl⟩ | exact still2 _ _ _ | exact still3 _ _ _ _)⟩
  case round =>
    obtain ⟨k, hk, hk2, rfl, he, m, rfl⟩ := hrel
    by_cases hlt : k < xs.length
    · by_cases hlt2 : k < ys.length
      · have q1 := hcx k hlt
        have q2 := hcy k hlt2
        have hd := sliceCmp_drop hlt hlt2
        have e1 : xs.getD k 0 = xs[k] := by simp [List.getD, hlt]
        have e2 : ys.getD k 0 = ys[k] := by simp [List.getD, hlt2]
        rw [he.out] at hd
        rw [← e1, ← e2] at hd
        clear e1 e2
        generalize xs.getD k 0 = x at *
        generalize ys.getD k 0 = y at *
        have Hd := Lib.hid hd; clear hd
        have hcall := cw_Compare x y (w.drewN m)
        rcases Int.lt_trichotomy x y with h | h | h
        · have hc : cmpI x y = -1 := by unfold cmpI; rw [if_pos h]
          have hv : sliceCmp xs ys = -1 := by rw [Hd.out, if_pos h]
          rw [hc] at hcall
          have Hcall := Lib.hid hcall; have Hv := Lib.hid hv; have Hh := Lib.hid h
          clear hcall hv hc h
          go_wp2_with fail
          refine Hcall.out.mono ?_
          rintro e w2 ⟨rfl, m2, rfl⟩
          go_wp2_with fail
          go_ret
          exact ⟨ret_int Hv.out.symm, (by first | exact ⟨_, rfl⟩ | exact ⟨0, rfl⟩ | exact still2 _ _ _ | exact still3 _ _ _ _)⟩
        · have hc : cmpI x y = 0 := by unfold cmpI; rw [if_neg (by omega), if_neg (by omega)]
          have hv : sliceCmp (xs.drop (k + 1)) (ys.drop (k + 1)) = sliceCmp xs ys := by rw [Hd.out, if_neg (by omega), if_neg (by omega)]
          rw [hc] at hcall
          have Hcall := Lib.hid hcall; have Hv := Lib.hid hv; have Hh := Lib.hid h
          clear hcall hv hc h
          go_wp2_with fail
          refine Hcall.out.mono ?_
          rintro e w2 ⟨rfl, m2, rfl⟩
          go_wp2_with fail
          go_roundw
          case rel => exact ⟨k + 1, by omega, by omega, by go_num, Hv.out, (by first | exact ⟨_, rfl⟩ | exact ⟨0, rfl⟩ | exact still2 _ _ _ | exact still3 _ _ _ _)⟩
          case measure => simp [intOf]; omega
        · have hc : cmpI x y = 1 := by unfold cmpI; rw [if_neg (by omega), if_pos h]
          have hv : sliceCmp xs ys = 1 := by rw [Hd.out, if_neg (by omega), if_pos h]
          rw [hc] at hcall
          have Hcall := Lib.hid hcall; have Hv := Lib.hid hv; have Hh := Lib.hid h
          clear hcall hv hc h
          go_wp2_with fail
          refine Hcall.out.mono ?_
          rintro e w2 ⟨rfl, m2, rfl⟩
          go_wp2_with fail
          go_ret
          exact ⟨ret_int Hv.out.symm, (by first | exact ⟨_, rfl⟩ | exact ⟨0, rfl⟩ | exact still2 _ _ _ | exact still3 _ _ _ _)⟩
      · have hv : sliceCmp xs ys = 1 := by
          rw [← he.out, List.drop_eq_getElem_cons hlt, show ys.drop k = [] from List.drop_eq_nil_iff.2 (by omega)]; rfl
        have q1 := hcx k hlt
        have Hv := Lib.hid hv; clear hv
        go_wp2_with fail
        go_ret
        exact ⟨ret_int Hv.out.symm, (by first | exact ⟨_, rfl⟩ | exact ⟨0, rfl⟩ | exact still2 _ _ _ | exact still3 _ _ _ _)⟩
    · by_cases hlt2 : xs.length < ys.length
      · have hv : sliceCmp xs ys = -1 := by
          rw [← he.out, List.drop_eq_getElem_cons (show k < ys.length by omega), show xs.drop k = [] from List.drop_eq_nil_iff.2 (by omega)]; rfl
        have Hv := Lib.hid hv; clear hv
        go_wp2_with fail
        go_ret
        exact ⟨ret_int Hv.out.symm, (by first | exact ⟨_, rfl⟩ | exact ⟨0, rfl⟩ | exact still2 _ _ _ | exact still3 _ _ _ _)⟩
      · have hv : sliceCmp xs ys = 0 := by
          rw [← he.out, show ys.drop k = [] from List.drop_eq_nil_iff.2 (by omega), show xs.drop k = [] from List.drop_eq_nil_iff.2 (by omega)]; rfl
        have Hv := Lib.hid hv; clear hv
        go_wp2_with fail
        go_ret
        exact ⟨ret_int Hv.out.symm, (by first | exact ⟨_, rfl⟩ | exact ⟨0, rfl⟩ | exact still2 _ _ _ | exact still3 _ _ _ _)⟩
def orL : List Int → Int
  | [] => 0
  | x :: l => if x = 0 then orL l else x
theorem orL_drop {l : List Int} {k : Nat} (h : k < l.length) : orL (l.drop k) = if l[k] = 0 then orL (l.drop (k + 1)) else l[k] := by
  rw [List.drop_eq_getElem_cons h]; rfl
set_option maxHeartbeats 1000000 in
theorem cw_Or (g o n cp : Nat) (xs : List Int) (w : World) (hn : xs.length = n) (hx : xs.length ≤ 1048576) (hc : Cells w g o xs) : Calls Tryz.prog 84 #[(Value.slice (some ⟨g, o, none⟩) n cp)] w (Reads w (.int .i64 (orL xs))) := by
  subst hn
  go_enter Tryz.func84, Tryz.ntmps84
  go_wp2
  go_loopw [5, 8] (fun _ i wr => ∃ k : Nat, k ≤ xs.length ∧ i = .int .i64 k ∧ Hid (orL (xs.drop k) = orL xs) ∧ ∃ m, wr = w.drewN m) (fun _ i _ => xs.length - (intOf i).toNat)
  case atStart => exact ⟨0, Nat.zero_le _, rfl, rfl, (by first | exact ⟨_, rfl⟩ | exact ⟨0, rfl⟩ | exact still2 _ _ _ | exact still3 _ _ _ _)⟩
  case round =>
    obtain ⟨k, hk, rfl, he, m, rfl⟩ := hrel
    by_cases hlt : k < xs.length
    · have q1 := hc k hlt
      have hd := orL_drop hlt
      have e1 : xs.getD k 0 = xs[k] := by simp [List.getD, hlt]
      rw [he.out, ← e1] at hd
      clear e1
      generalize xs.getD k 0 = x at *
      by_cases h0 : x = 0
      · rw [if_pos h0] at hd
        have Hd := Lib.hid hd; clear hd
        subst h0
        go_wp2
        go_roundw
        case rel => exact ⟨k + 1, by omega, by go_num, Hd.out.symm, (by first | exact ⟨_, rfl⟩ | exact ⟨0, rfl⟩ | exact still2 _ _ _ | exact still3 _ _ _ _)⟩
        case measure => simp [intOf]; omega
      · rw [if_neg h0] at hd
        have Hd := Lib.hid hd; clear hd
        have hne : (x != 0) = true := by simpa using h0
        go_wp2
        go_ret
        exact ⟨ret_int Hd.out.symm, (by first | exact ⟨_, rfl⟩ | exact ⟨0, rfl⟩ | exact still2 _ _ _ | exact still3 _ _ _ _)⟩
    · have hv : orL xs = 0 := by rw [← he.out, List.drop_eq_nil_iff.2 (by omega)]; rfl
      have Hv := Lib.hid hv; clear hv
      go_wp2
      go_ret
      exact ⟨ret_int Hv.out.symm, (by first | exact ⟨_, rfl⟩ | exact ⟨0, rfl⟩ | exact still2 _ _ _ | exact still3 _ _ _ _)⟩
/-- the call gives a value; it may draw and lay blocks -/
def Lays (w : World) (v : Value) (e : Ending) (w' : World) : Prop := e = .returned v ∧ ∃ (o : Obj) (q : Nat), w' = (w.alloc o).drewN q
/-- the comparison of lists, either way round -/
theorem sliceCmp_anti : ∀ (a b : List Int), sliceCmp b a = - sliceCmp a b
  | [], [] => rfl
  | [], _ :: _ => rfl
  | _ :: _, [] => rfl
  | x :: a, y :: b => by
    simp only [sliceCmp]
    by_cases h1 : x < y
    · rw [if_pos h1, if_neg (by omega), if_pos h1]; rfl
    · by_cases h2 : y < x
      · rw [if_pos h2, if_neg h1, if_pos h2]
      · rw [if_neg h2, if_neg h1, if_neg h1, if_neg h2]; exact sliceCmp_anti a b
theorem sliceCmp_trans : ∀ (a b d : List Int), sliceCmp a b < 0 → sliceCmp b d < 0 → sliceCmp a d < 0
  | [], [], _, h, _ => by simp [sliceCmp] at h
  | [], _ :: _, [], _, h => by simp [sliceCmp] at h
  | [], _ :: _, _ :: _, _, _ => by simp [sliceCmp]
  | _ :: _, [], _, h, _ => by simp [sliceCmp] at h
  | _ :: _, _ :: _, [], _, h => by simp [sliceCmp] at h
  | x :: a, y :: b, z :: d, h1, h2 => by
    have ih := sliceCmp_trans a b d
    simp only [sliceCmp] at *
    split at h1 <;> split at h2 <;> (try split at h1) <;> (try split at h2) <;> (try split) <;> (try split) <;> first | omega | (exact ih h1 h2)
theorem sliceCmp_zero : ∀ {a b : List Int}, sliceCmp a b = 0 → a = b
  | [], [], _ => rfl
  | [], _ :: _, h => by simp [sliceCmp] at h
  | _ :: _, [], h => by simp [sliceCmp] at h
  | x :: a, y :: b, h => by
    simp only [sliceCmp] at h
    split at h
    · omega
    · split at h
      · omega
      · have : x = y := by omega
        rw [this, sliceCmp_zero h]
end Go.Proofs.YtkjglfafphffiaaGreat
